/- The row of the law FileTold, out of its plain law. No condition. -/
import Derived.Test.YtnglgjgflohkmaaGreatSkRd
import Derived.Test.YtnglgjgflohkmaaGreatSkW14
import Derived.Test.YtnglgjgflohkmaaGreatSkPure
namespace Go.Proofs.YtnglgjgflohkmaaGreat.fileTold
open Go Sk Go.ChangeShapes Go.WideShapes Go.ChangeAt Go.RowKit
set_option linter.unusedVariables false
set_option linter.unusedSimpArgs false
open Go.ChangeMaps (open_string shut_string)
set_option linter.unusedVariables false
set_option maxRecDepth 100000
theorem own : ownKnob Tryz.prog.godebug = none := by kernel_rfl
theorem laidOut : laidOutB Tryz.prog = true := by kernel_rfl
theorem contract (pure : ∀ (a0 : XObject) (a1 : Int) (a2 : Int), Q61 a0 → InK .i64 a1 → InK .u8 a2 → sheerleglaw20_FileTold.f a0 a1 a2 = some true) (H : Type) (enc : TypeId × Value → H) (W : World) (base : Nat) (args : Array Value) (ds gs : List (DataW H)) (before : List MemPlace)
    (hval : ∀ (j : Nat) t v, Tryz.f8.params[j]? = some t → args[j]? = some v → Value.okWide Tryz.prog W .any base t v)
    (hW : DataW.Whole enc Tryz.prog Tryz.f8.params.toList Rows.fileToldSpec.vars false W args.toList ds gs before) (hk : Rows.uptoSmall H (ds ++ gs) = true) :
    Calls Tryz.prog 8 args W fun e W' => ∃ v, e = .returned v ∧ Rows.fileToldSpec.post enc Tryz.prog Tryz.f8 false true false false W args v W' := by
  have hW' := hW
  obtain ⟨p, q, hA0, hV, rfl, hfz, hnd⟩ := hW
  have hA : DataW.TrodAll enc Tryz.prog W 0 (fun _ => true) true Tryz.f8.params.toList args.toList ds p := hA0
  rw [Tryz.params8] at hA hval
  obtain ⟨v0, vs0, d0, ds0, p0, q0, hargs, rfl, rfl, h0, r0⟩ := trodAll_cons hA
  obtain ⟨v1, vs1, d1, ds1, p1, q1, rfl, rfl, rfl, h1, r1⟩ := trodAll_cons r0
  obtain ⟨v2, vs2, d2, ds2, p2, q2, rfl, rfl, rfl, h2, r2⟩ := trodAll_cons r1
  obtain ⟨rfl, rfl, rfl⟩ := trodAll_nil r2
  obtain rfl : args = #[v0, v1, v2] := by cases args; simp_all
  obtain ⟨rfl, rfl⟩ := trodVars_none hV
  have hb : Rows.uptoBulkAll ([d0, d1, d2] ++ []) ≤ 1048576 := of_decide_eq_true hk
  simp only [List.append_nil, Rows.uptoBulkAll] at hb
  obtain ⟨x0, rfl, _⟩ := okWide_struct Tryz.underlying61 (hval 0 61 v0 rfl rfl)
  have k0 := h0
  have lt0 : ∀ x ∈ p0, x.block < W.heap.size := by obtain ⟨m, hm⟩ := k0; exact DataW.trod_lt m _ _ _ hm
  obtain ⟨a0, ro0, qo0⟩ := rd61 H enc W x0.toList d0 (by obtain ⟨m, hm⟩ := k0; exact ⟨m, _, hm⟩) (by omega)
  have j1 := h1
  obtain ⟨a1, rfl, rfl, rfl, w1⟩ := open_int Tryz.underlying3 (hval 1 3 v1 rfl rfl) h1
  have i1 : InK .i64 a1 := by obtain ⟨z, ez, iz⟩ := rd_int (H := H) (enc := enc) (w := W) Tryz.underlying3 (by obtain ⟨m, hm⟩ := j1; exact ⟨m, _, hm⟩); cases ez; exact iz
  have j2 := h2
  obtain ⟨a2, rfl, rfl, rfl, w2⟩ := open_int Tryz.underlying5 (hval 2 5 v2 rfl rfl) h2
  have i2 : InK .u8 a2 := by obtain ⟨z, ez, iz⟩ := rd_int (H := H) (enc := enc) (w := W) Tryz.underlying5 (by obtain ⟨m, hm⟩ := j2; exact ⟨m, _, hm⟩); cases ez; exact iz
  refine (Sk.sheerleglaw20_FileTold.ok (St.whole W) ro0 i1 i2 (pure _ _ _ qo0 i1 i2)).mono ?_
  rintro e W' ⟨v, G', N', rfl, hext, st, rfl, rfl⟩
  have bel := st.below hext
  exact ⟨_, rfl, _, _, _, [], _, [], hW', trodAll_mk1 (shut_bool Tryz.underlying4 _), (trodAll_cons_mk (Below.trod laidOut (by kernel_rfl) (of_decide_eq_true (by kernel_rfl)) k0 bel lt0) (trodAll_cons_mk (shut_int Tryz.underlying3 w1) (trodAll_cons_mk (shut_int Tryz.underlying5 w2) trodAll_mk0))), rfl, bel.frame _, fun h => by cases h⟩
theorem lifted (pure : ∀ (a0 : XObject) (a1 : Int) (a2 : Int), Q61 a0 → InK .i64 a1 → InK .u8 a2 → sheerleglaw20_FileTold.f a0 a1 a2 = some true) (os : Os) (started : os.Started) (H : Type) (enc : TypeId × Value → H) (F : Stop.Interp) :
    ReturnsInHanded {} Tryz.checked os 8 .any ((Rows.OpenSpec.upto Rows.fileToldSpec).pre6 enc Tryz.prog Tryz.f8 Rows.fileToldUptoRow.domain false) (((Rows.OpenSpec.upto Rows.fileToldSpec).at F).post enc Tryz.prog Tryz.f8 false true false false) := by
  refine returnsInHanded_of_cond (C := Tryz.checked) (s := Rows.OpenSpec.upto Rows.fileToldSpec) (k := Rows.uptoSmall) rfl own started (by kernel_rfl) Tryz.func8
    (OpenSpec.witness (enc := enc) (C := Tryz.checked) (s := Rows.OpenSpec.upto Rows.fileToldSpec) (k := Rows.uptoSmall) rfl false ⟨#[], #[.agg #[.slice none 0 0, .slice none 0 0, .slice none 0 0], .int .i64 0, .int .u8 0], []⟩ 8 (by kernel_rfl) (by kernel_rfl) (by kernel_rfl)
      (x := ([.agg [.nil, .nil, .nil], .lit (.int .i64 0), .lit (.int .u8 0)], [], [])) (by kernel_rfl) rfl (by kernel_rfl)) ?_
  intro W base args ds gs before hval hW _ hk _
  exact contract pure H enc W base args ds gs before hval hW hk
theorem over (pure : ∀ (a0 : XObject) (a1 : Int) (a2 : Int), Q61 a0 → InK .i64 a1 → InK .u8 a2 → sheerleglaw20_FileTold.f a0 a1 a2 = some true) : Rows.fileToldUptoRow.holds Tryz.pinned (Rows.OpenSpec.upto Rows.fileToldSpec) :=
  OpenClaim.holds_of_cond 8 Tryz.f8 rfl rfl rfl rfl rfl rfl rfl ⟨rfl, rfl, rfl, rfl, rfl⟩ rfl rfl rfl rfl rfl (by kernel_rfl) Tryz.func8 (by kernel_rfl)
    (of_decide_eq_true (by kernel_rfl)) (by unfold Func.isWrapper; first | (rw [if_pos (by decide +kernel)]; kernel_rfl) | (rw [if_neg (by decide +kernel)]; exact ⟨rfl, rfl⟩))
    (fun os started H enc _ F => lifted pure os started H enc F)
theorem proved : Rows.FileToldUptoSaid := over Sk.FileTold_pure
end Go.Proofs.YtnglgjgflohkmaaGreat.fileTold
namespace Go.Proofs.YtnglgjgflohkmaaGreat
/-- The row, under a short name, for the claim. -/
theorem fileTold_holds : Rows.FileToldUptoSaid := fileTold.proved
end Go.Proofs.YtnglgjgflohkmaaGreat
