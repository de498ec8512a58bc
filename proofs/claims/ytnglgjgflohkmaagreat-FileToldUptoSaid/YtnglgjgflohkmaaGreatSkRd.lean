/- How the parameters' types are read. No condition. -/
import Derived.Test.YtnglgjgflohkmaaGreatSkRow
import Derived.Test.YtnglgjgflohkmaaGreatSkTy
namespace Go.Proofs.YtnglgjgflohkmaaGreat.Sk
open Go
set_option linter.unusedVariables false
set_option linter.unusedSimpArgs false
set_option maxRecDepth 100000
def Q82 (x : XSymbol) : Prop := x.Name.size ≤ 1048576 ∧ InK .i64 x.Sort_ ∧ InK .i64 x.Kind ∧ InK .i64 x.Def
theorem rd82 : Rd Tryz.prog 82 TSymbol Q82 := fun H enc w cs d h hb => by
  obtain ⟨V, hcs, hf⟩ := rd_fields Tryz.underlying82 (by kernel_rfl) (by kernel_rfl) h hb
  obtain ⟨y0, g0, b0⟩ := hf 0 _ rfl
  obtain ⟨z0, e0, q0⟩ := rd_string Tryz.underlying9 g0 b0
  obtain ⟨y1, g1, b1⟩ := hf 1 _ rfl
  obtain ⟨z1, e1⟩ := rd_bool Tryz.underlying4 g1
  obtain ⟨y2, g2, b2⟩ := hf 2 _ rfl
  obtain ⟨z2, e2, q2⟩ := rd_int Tryz.underlying3 g2
  obtain ⟨y3, g3, b3⟩ := hf 3 _ rfl
  obtain ⟨z3, e3, q3⟩ := rd_int Tryz.underlying3 g3
  obtain ⟨y4, g4, b4⟩ := hf 4 _ rfl
  obtain ⟨z4, e4, q4⟩ := rd_int Tryz.underlying3 g4
  refine ⟨⟨z0, z1, z2, z3, z4⟩, ⟨?_, (Nat.le_trans q0 (by unfold SB; omega)), q2, q3, q4⟩, ⟨q0, q2, q3, q4⟩⟩
  rw [hcs]
  change [V 0, V 1, V 2, V 3, V 4] = _
  rw [(List.cons.inj e0).1, (List.cons.inj e1).1, (List.cons.inj e2).1, (List.cons.inj e3).1, (List.cons.inj e4).1]
theorem rd3 : Rd Tryz.prog 3 (tInt .i64) (InK .i64) := fun H enc w cs d h hb => by
  obtain ⟨n, e, i⟩ := rd_int Tryz.underlying3 h
  exact ⟨n, ⟨e, i⟩, i⟩
def Q157 (x : XLine) : Prop := InK .i64 x.At ∧ InK .i64 x.Line
theorem rd157 : Rd Tryz.prog 157 TLine Q157 := fun H enc w cs d h hb => by
  obtain ⟨V, hcs, hf⟩ := rd_fields Tryz.underlying157 (by kernel_rfl) (by kernel_rfl) h hb
  obtain ⟨y0, g0, b0⟩ := hf 0 _ rfl
  obtain ⟨z0, e0, q0⟩ := rd_int Tryz.underlying3 g0
  obtain ⟨y1, g1, b1⟩ := hf 1 _ rfl
  obtain ⟨z1, e1, q1⟩ := rd_int Tryz.underlying3 g1
  refine ⟨⟨z0, z1⟩, ⟨?_, q0, q1⟩, ⟨q0, q1⟩⟩
  rw [hcs]
  change [V 0, V 1] = _
  rw [(List.cons.inj e0).1, (List.cons.inj e1).1]
def Q54 (x : XInstr) : Prop := InK .i64 x.Op ∧ InK .i64 x.A ∧ InK .i64 x.B ∧ InK .i64 x.C ∧ InK .i64 x.N
theorem rd54 : Rd Tryz.prog 54 TInstr Q54 := fun H enc w cs d h hb => by
  obtain ⟨V, hcs, hf⟩ := rd_fields Tryz.underlying54 (by kernel_rfl) (by kernel_rfl) h hb
  obtain ⟨y0, g0, b0⟩ := hf 0 _ rfl
  obtain ⟨z0, e0, q0⟩ := rd_int Tryz.underlying3 g0
  obtain ⟨y1, g1, b1⟩ := hf 1 _ rfl
  obtain ⟨z1, e1, q1⟩ := rd_int Tryz.underlying3 g1
  obtain ⟨y2, g2, b2⟩ := hf 2 _ rfl
  obtain ⟨z2, e2, q2⟩ := rd_int Tryz.underlying3 g2
  obtain ⟨y3, g3, b3⟩ := hf 3 _ rfl
  obtain ⟨z3, e3, q3⟩ := rd_int Tryz.underlying3 g3
  obtain ⟨y4, g4, b4⟩ := hf 4 _ rfl
  obtain ⟨z4, e4, q4⟩ := rd_int Tryz.underlying2 g4
  refine ⟨⟨z0, z1, z2, z3, z4⟩, ⟨?_, q0, q1, q2, q3, q4⟩, ⟨q0, q1, q2, q3, q4⟩⟩
  rw [hcs]
  change [V 0, V 1, V 2, V 3, V 4] = _
  rw [(List.cons.inj e0).1, (List.cons.inj e1).1, (List.cons.inj e2).1, (List.cons.inj e3).1, (List.cons.inj e4).1]
def Q133 (x : XReloc) : Prop := InK .i64 x.At ∧ InK .i64 x.Sym
theorem rd133 : Rd Tryz.prog 133 TReloc Q133 := fun H enc w cs d h hb => by
  obtain ⟨V, hcs, hf⟩ := rd_fields Tryz.underlying133 (by kernel_rfl) (by kernel_rfl) h hb
  obtain ⟨y0, g0, b0⟩ := hf 0 _ rfl
  obtain ⟨z0, e0, q0⟩ := rd_int Tryz.underlying3 g0
  obtain ⟨y1, g1, b1⟩ := hf 1 _ rfl
  obtain ⟨z1, e1, q1⟩ := rd_int Tryz.underlying3 g1
  obtain ⟨y2, g2, b2⟩ := hf 2 _ rfl
  obtain ⟨z2, e2⟩ := rd_bool Tryz.underlying4 g2
  refine ⟨⟨z0, z1, z2⟩, ⟨?_, q0, q1⟩, ⟨q0, q1⟩⟩
  rw [hcs]
  change [V 0, V 1, V 2] = _
  rw [(List.cons.inj e0).1, (List.cons.inj e1).1, (List.cons.inj e2).1]
def Q44 (x : XFunc) : Prop := InK .i64 x.Class ∧ x.Kinds.length ≤ 1048576 ∧ (∀ y ∈ x.Kinds, InK .i64 y) ∧ InK .i64 x.Pad ∧ InK .i64 x.From ∧ InK .i64 x.To ∧ x.Lines.length ≤ 1048576 ∧ (∀ y ∈ x.Lines, Q157 y) ∧ x.Code.length ≤ 1048576 ∧ (∀ y ∈ x.Code, Q54 y) ∧ x.Relocs.length ≤ 1048576 ∧ (∀ y ∈ x.Relocs, Q133 y)
theorem rd44 : Rd Tryz.prog 44 TFunc Q44 := fun H enc w cs d h hb => by
  obtain ⟨V, hcs, hf⟩ := rd_fields Tryz.underlying44 (by kernel_rfl) (by kernel_rfl) h hb
  obtain ⟨y0, g0, b0⟩ := hf 0 _ rfl
  obtain ⟨z0, e0, q0⟩ := rd_int Tryz.underlying3 g0
  obtain ⟨y1, g1, b1⟩ := hf 1 _ rfl
  obtain ⟨v1, z1, e1, s1, l1, q1⟩ := rd_slice (T := (tInt .i64)) Tryz.underlying39 (by kernel_rfl) (Nat.le_of_ble_eq_true rfl) rd3 g1 b1
  obtain ⟨y2, g2, b2⟩ := hf 2 _ rfl
  obtain ⟨z2, e2, q2⟩ := rd_int Tryz.underlying3 g2
  obtain ⟨y3, g3, b3⟩ := hf 3 _ rfl
  obtain ⟨z3, e3⟩ := rd_bool Tryz.underlying4 g3
  obtain ⟨y4, g4, b4⟩ := hf 4 _ rfl
  obtain ⟨z4, e4, q4⟩ := rd_int Tryz.underlying3 g4
  obtain ⟨y5, g5, b5⟩ := hf 5 _ rfl
  obtain ⟨z5, e5, q5⟩ := rd_int Tryz.underlying3 g5
  obtain ⟨y6, g6, b6⟩ := hf 6 _ rfl
  obtain ⟨v6, z6, e6, s6, l6, q6⟩ := rd_slice (T := TLine) Tryz.underlying40 (by kernel_rfl) (Nat.le_of_ble_eq_true rfl) rd157 g6 b6
  obtain ⟨y7, g7, b7⟩ := hf 7 _ rfl
  obtain ⟨v7, z7, e7, s7, l7, q7⟩ := rd_slice (T := TInstr) Tryz.underlying41 (by kernel_rfl) (Nat.le_of_ble_eq_true rfl) rd54 g7 b7
  obtain ⟨y8, g8, b8⟩ := hf 8 _ rfl
  obtain ⟨v8, z8, e8, s8, l8, q8⟩ := rd_slice (T := TReloc) Tryz.underlying42 (by kernel_rfl) (Nat.le_of_ble_eq_true rfl) rd133 g8 b8
  refine ⟨⟨z0, z1, z2, z3, z4, z5, z6, z7, z8⟩, ⟨v1, v6, v7, v8, ?_, q0, s1, q2, q4, q5, s6, s7, s8⟩, ⟨q0, l1, q1, q2, q4, q5, l6, q6, l7, q7, l8, q8⟩⟩
  rw [hcs]
  change [V 0, V 1, V 2, V 3, V 4, V 5, V 6, V 7, V 8] = _
  rw [(List.cons.inj e0).1, (List.cons.inj e1).1, (List.cons.inj e2).1, (List.cons.inj e3).1, (List.cons.inj e4).1, (List.cons.inj e5).1, (List.cons.inj e6).1, (List.cons.inj e7).1, (List.cons.inj e8).1]
theorem rd2 : Rd Tryz.prog 2 (tInt .i64) (InK .i64) := fun H enc w cs d h hb => by
  obtain ⟨n, e, i⟩ := rd_int Tryz.underlying2 h
  exact ⟨n, ⟨e, i⟩, i⟩
def Q49 (x : XData) : Prop := InK .i64 x.Kind ∧ x.Words.length ≤ 1048576 ∧ (∀ y ∈ x.Words, InK .i64 y) ∧ x.Relocs.length ≤ 1048576 ∧ (∀ y ∈ x.Relocs, Q133 y)
theorem rd49 : Rd Tryz.prog 49 TData Q49 := fun H enc w cs d h hb => by
  obtain ⟨V, hcs, hf⟩ := rd_fields Tryz.underlying49 (by kernel_rfl) (by kernel_rfl) h hb
  obtain ⟨y0, g0, b0⟩ := hf 0 _ rfl
  obtain ⟨z0, e0, q0⟩ := rd_int Tryz.underlying3 g0
  obtain ⟨y1, g1, b1⟩ := hf 1 _ rfl
  obtain ⟨v1, z1, e1, s1, l1, q1⟩ := rd_slice (T := (tInt .i64)) Tryz.underlying47 (by kernel_rfl) (Nat.le_of_ble_eq_true rfl) rd2 g1 b1
  obtain ⟨y2, g2, b2⟩ := hf 2 _ rfl
  obtain ⟨v2, z2, e2, s2, l2, q2⟩ := rd_slice (T := TReloc) Tryz.underlying42 (by kernel_rfl) (Nat.le_of_ble_eq_true rfl) rd133 g2 b2
  refine ⟨⟨z0, z1, z2⟩, ⟨v1, v2, ?_, q0, s1, s2⟩, ⟨q0, l1, q1, l2, q2⟩⟩
  rw [hcs]
  change [V 0, V 1, V 2] = _
  rw [(List.cons.inj e0).1, (List.cons.inj e1).1, (List.cons.inj e2).1]
def Q61 (x : XObject) : Prop := x.Symbols.length ≤ 1048576 ∧ (∀ y ∈ x.Symbols, Q82 y) ∧ x.Funcs.length ≤ 1048576 ∧ (∀ y ∈ x.Funcs, Q44 y) ∧ x.Datas.length ≤ 1048576 ∧ (∀ y ∈ x.Datas, Q49 y)
theorem rd61 : Rd Tryz.prog 61 TObject Q61 := fun H enc w cs d h hb => by
  obtain ⟨V, hcs, hf⟩ := rd_fields Tryz.underlying61 (by kernel_rfl) (by kernel_rfl) h hb
  obtain ⟨y0, g0, b0⟩ := hf 0 _ rfl
  obtain ⟨v0, z0, e0, s0, l0, q0⟩ := rd_slice (T := TSymbol) Tryz.underlying57 (by kernel_rfl) (Nat.le_of_ble_eq_true rfl) rd82 g0 b0
  obtain ⟨y1, g1, b1⟩ := hf 1 _ rfl
  obtain ⟨v1, z1, e1, s1, l1, q1⟩ := rd_slice (T := TFunc) Tryz.underlying58 (by kernel_rfl) (Nat.le_of_ble_eq_true rfl) rd44 g1 b1
  obtain ⟨y2, g2, b2⟩ := hf 2 _ rfl
  obtain ⟨v2, z2, e2, s2, l2, q2⟩ := rd_slice (T := TData) Tryz.underlying59 (by kernel_rfl) (Nat.le_of_ble_eq_true rfl) rd49 g2 b2
  refine ⟨⟨z0, z1, z2⟩, ⟨v0, v1, v2, ?_, s0, s1, s2⟩, ⟨l0, q0, l1, q1, l2, q2⟩⟩
  rw [hcs]
  change [V 0, V 1, V 2] = _
  rw [(List.cons.inj e0).1, (List.cons.inj e1).1, (List.cons.inj e2).1]
end Go.Proofs.YtnglgjgflohkmaaGreat.Sk
