/- The plain law of FileTold. No condition. -/
import Derived.Test.YtnglgjgflohkmaaGreatSkRd
import Derived.Test.YtnglgjgflohkmaaGreatSkW14
import Derived.KernelRfl
namespace Go.Proofs.YtnglgjgflohkmaaGreat.Sk
open Go
set_option linter.unusedVariables false
set_option linter.unusedSimpArgs false
set_option linter.unusedVariables false
set_option linter.unusedSimpArgs false
set_option maxRecDepth 100000

/-! ### Loops that end -/
theorem loop_run {S R : Type} {f : S → Option (Step S R)} (Inv : S → Prop) (m : S → Nat) (Q : R → Prop)
    (h : ∀ s, Inv s → (∃ s', f s = some (.next s') ∧ Inv s' ∧ m s' < m s) ∨ ∃ r, f s = some (.done r) ∧ Q r) {s : S} (hs : Inv s) (hm : m s < 281474976710656) : ∃ r, loop f s = some r ∧ Q r := by
  have key : ∀ k s, Inv s → m s < k → ∃ r, iter f k s = some r ∧ Q r := by
    intro k
    induction k with
    | zero => intro s _ h; omega
    | succ k ih =>
      intro s hs hk
      rcases h s hs with ⟨s', h1, h2, h3⟩ | ⟨r, h1, h2⟩
      · obtain ⟨r, h4, h5⟩ := ih s' h2 (by omega)
        exact ⟨r, by unfold iter; rw [h1]; exact h4, h5⟩
      · exact ⟨r, by unfold iter; rw [h1], h2⟩
  obtain ⟨r, h1, h2⟩ := key _ s hs hm
  exact ⟨r, loop_of (Nat.le_refl _) h1, h2⟩
theorem ix {α : Type} {xs : List α} {i : Nat} (h : i < xs.length) : idx xs ((i : Nat) : Int) = some xs[i] := by
  simp [idx, h]

/-! ### Bytes -/
def Byt (b : List Int) : Prop := ∀ y ∈ b, 0 ≤ y ∧ y ≤ 255
def Ok (n : Nat) (b : List Int) : Prop := b.length ≤ n ∧ Byt b
theorem Ok.le {n m : Nat} {b : List Int} (h : Ok n b) (k : n ≤ m) : Ok m b := ⟨Nat.le_trans h.1 k, h.2⟩
theorem Byt.append {a b : List Int} (h : Byt a) (k : Byt b) : Byt (a ++ b) := fun y hy => (List.mem_append.1 hy).elim (h y) (k y)
theorem wrap_u8 (n : Int) : IntKind.wrap .u8 n = n % 256 := by simp [IntKind.wrap, IntKind.bits, IntKind.signed]
theorem wrap_i64 {n : Int} (h : -9223372036854775808 ≤ n) (h' : n < 9223372036854775808) : IntKind.wrap .i64 n = n := by
  have : InK .i64 n := inK_iff.2 (by simp [kmin, kmax]; omega)
  exact this
def B (n s : Int) : Int := IntKind.wrap .u8 (shr .i64 n s)
theorem B_byt (n s : Int) : 0 ≤ B n s ∧ B n s ≤ 255 := by
  unfold B
  rw [wrap_u8]
  omega
theorem put_loop (n : Int) : loop (octet_Put.l0 n) ([0, 0, 0, 0, 0, 0, 0, 0], 0) = some [B n 56, B n 48, B n 40, B n 32, B n 24, B n 16, B n 8, B n 0] :=
  loop_of (k := 9) (by decide) (by rfl)
theorem put1 {b : List Int} (n : Int) (hb : b.length + 16 ≤ SB) : octet_Put.f b n 1 = some (b ++ [B n 0]) := by
  unfold octet_Put.f
  rw [put_loop]
  simp only [Option.bind_some]
  rw [show decide ((([] : List Int).length + b.length) * 1 ≤ SB) = true from decide_eq_true (by simp; omega)]
  show (bif decide (((([] : List Int) ++ b).length + [B n 0].length) * 1 ≤ SB) then some ((([] : List Int) ++ b) ++ [B n 0]) else none) = _
  rw [show decide (((([] : List Int) ++ b).length + [B n 0].length) * 1 ≤ SB) = true from decide_eq_true (by simp; omega)]
  rfl
theorem put2 {b : List Int} (n : Int) (hb : b.length + 16 ≤ SB) : octet_Put.f b n 2 = some (b ++ [B n 8, B n 0]) := by
  unfold octet_Put.f
  rw [put_loop]
  simp only [Option.bind_some]
  rw [show decide ((([] : List Int).length + b.length) * 1 ≤ SB) = true from decide_eq_true (by simp; omega)]
  show (bif decide (((([] : List Int) ++ b).length + [B n 8, B n 0].length) * 1 ≤ SB) then some ((([] : List Int) ++ b) ++ [B n 8, B n 0]) else none) = _
  rw [show decide (((([] : List Int) ++ b).length + [B n 8, B n 0].length) * 1 ≤ SB) = true from decide_eq_true (by simp; omega)]
  rfl
theorem put4 {b : List Int} (n : Int) (hb : b.length + 16 ≤ SB) : octet_Put.f b n 4 = some (b ++ [B n 24, B n 16, B n 8, B n 0]) := by
  unfold octet_Put.f
  rw [put_loop]
  simp only [Option.bind_some]
  rw [show decide ((([] : List Int).length + b.length) * 1 ≤ SB) = true from decide_eq_true (by simp; omega)]
  show (bif decide (((([] : List Int) ++ b).length + [B n 24, B n 16, B n 8, B n 0].length) * 1 ≤ SB) then some ((([] : List Int) ++ b) ++ [B n 24, B n 16, B n 8, B n 0]) else none) = _
  rw [show decide (((([] : List Int) ++ b).length + [B n 24, B n 16, B n 8, B n 0].length) * 1 ≤ SB) = true from decide_eq_true (by simp; omega)]
  rfl
theorem put8 {b : List Int} (n : Int) (hb : b.length + 16 ≤ SB) : octet_Put.f b n 8 = some (b ++ [B n 56, B n 48, B n 40, B n 32, B n 24, B n 16, B n 8, B n 0]) := by
  unfold octet_Put.f
  rw [put_loop]
  simp only [Option.bind_some]
  rw [show decide ((([] : List Int).length + b.length) * 1 ≤ SB) = true from decide_eq_true (by simp; omega)]
  show (bif decide (((([] : List Int) ++ b).length + [B n 56, B n 48, B n 40, B n 32, B n 24, B n 16, B n 8, B n 0].length) * 1 ≤ SB) then some ((([] : List Int) ++ b) ++ [B n 56, B n 48, B n 40, B n 32, B n 24, B n 16, B n 8, B n 0]) else none) = _
  rw [show decide (((([] : List Int) ++ b).length + [B n 56, B n 48, B n 40, B n 32, B n 24, B n 16, B n 8, B n 0].length) * 1 ≤ SB) = true from decide_eq_true (by simp; omega)]
  rfl
theorem Byt.cons {x : Int} {l : List Int} (h : 0 ≤ x ∧ x ≤ 255) (k : Byt l) : Byt (x :: l) := fun y hy => by
  rcases List.mem_cons.1 hy with rfl | hy
  · exact h
  · exact k y hy
theorem Byt.nil : Byt [] := fun y hy => nomatch hy
theorem byt1 (n a : Int) : Byt [B n a] := .cons (B_byt _ _) .nil
theorem byt2 (n a b : Int) : Byt [B n a, B n b] := .cons (B_byt _ _) (.cons (B_byt _ _) .nil)
theorem byt4 (n a b c d : Int) : Byt [B n a, B n b, B n c, B n d] := .cons (B_byt _ _) (.cons (B_byt _ _) (byt2 _ _ _))
theorem byt8 (n a b c d e f g i : Int) : Byt [B n a, B n b, B n c, B n d, B n e, B n f, B n g, B n i] := .cons (B_byt _ _) (.cons (B_byt _ _) (.cons (B_byt _ _) (.cons (B_byt _ _) (byt4 _ _ _ _ _))))
theorem put_ok {n : Nat} {b : List Int} (h : Ok n b) (x : Int) {w : Int} (hw : w = 1 ∨ w = 2 ∨ w = 4 ∨ w = 8) (hn : n + 16 ≤ SB) : ∃ b', octet_Put.f b x w = some b' ∧ Ok (n + 8) b' := by
  have hb : b.length + 16 ≤ SB := by have := h.1; omega
  rcases hw with rfl | rfl | rfl | rfl
  · exact ⟨_, put1 x hb, by have := h.1; simp; omega, h.2.append (byt1 _ _)⟩
  · exact ⟨_, put2 x hb, by have := h.1; simp; omega, h.2.append (byt2 _ _ _)⟩
  · exact ⟨_, put4 x hb, by have := h.1; simp; omega, h.2.append (byt4 _ _ _ _ _)⟩
  · exact ⟨_, put8 x hb, by have := h.1; simp; omega, h.2.append (byt8 _ _ _ _ _ _ _ _ _)⟩
theorem bytesTo_byt (s : ByteArray) : Byt (bytesTo s) := fun y hy => by
  obtain ⟨u, _, rfl⟩ := List.mem_map.1 hy
  have := u.toNat_lt
  omega
theorem bytesTo_ln (s : ByteArray) : (bytesTo s).length = s.size := by
  simp [bytesTo]
theorem text_ok {n : Nat} {b : List Int} (h : Ok n b) (s : ByteArray) (hs : s.size ≤ 1048576) (hn : n + 300 ≤ SB) : ∃ b', octet_Text.f b s = some b' ∧ Ok (n + 264) b' := by
  obtain ⟨k, hk, hk2, hk3⟩ : ∃ k : Nat, (if 255 < (s.size : Int) then 255 else (s.size : Int)) = (k : Int) ∧ k ≤ 255 ∧ k ≤ s.size := by
    split
    · exact ⟨255, rfl, Nat.le_refl _, by omega⟩
    · exact ⟨s.size, rfl, by omega, Nat.le_refl _⟩
  have hb := h.1
  unfold octet_Text.f
  rw [hk, put1 _ (by omega)]
  simp only [Option.bind_some, Int.toNat_natCast]
  have hx : (s.extract 0 k).size = k := by simp [ByteArray.size_extract]; omega
  rw [show (decide (0 ≤ (k : Int)) && decide ((k : Int) ≤ (s.size : Int))) = true from by simp; omega]
  rw [show decide ((b ++ [B (k : Int) 0]).length + (s.extract 0 k).size ≤ SB) = true from decide_eq_true (by rw [hx]; simp; omega)]
  refine ⟨_, rfl, ?_, (h.2.append (byt1 _ _)).append (bytesTo_byt _)⟩
  rw [List.length_append, bytesTo_ln, hx]
  simp
  omega
theorem count_loop {N c n : Nat} {f : (List Int × Nat) → Option (Step (List Int × Nat) (List Int))}
    (hstep : ∀ b i, i < N → Ok (n + i * c) b → ∃ b', f (b, i) = some (.next (b', i + 1)) ∧ Ok (n + (i + 1) * c) b') (hend : ∀ b, f (b, N) = some (.done b)) {b : List Int} (hb : Ok n b) (hN : N < 281474976710656) :
    ∃ r, loop f (b, 0) = some r ∧ Ok (n + N * c) r := by
  refine loop_run (fun s => s.2 ≤ N ∧ Ok (n + s.2 * c) s.1) (fun s => N - s.2) _ ?_ ⟨Nat.zero_le _, by simpa using hb⟩ (by simpa using hN)
  rintro ⟨b, i⟩ ⟨h1, h2⟩
  by_cases hi : i < N
  · left
    obtain ⟨b', h3, h4⟩ := hstep b i hi h2
    exact ⟨(b', i + 1), h3, ⟨hi, h4⟩, by show N - (i + 1) < N - i; omega⟩
  · right
    have : i = N := Nat.le_antisymm h1 (Nat.le_of_not_lt hi)
    subst this
    exact ⟨b, hend b, h2⟩
theorem wput_ok {n : Nat} {b : List Int} (h : Ok n b) {w : Int} (hw : w = 1 ∨ w = 2 ∨ w = 4 ∨ w = 8) (l : List Int) (hl : l.length ≤ 1048576) (hn : n + l.length * 8 + 16 ≤ SB) : ∃ b', fun_writer_put.f b w l = some b' ∧ Ok (n + l.length * 8) b' := by
  obtain ⟨r, h1, h2⟩ := count_loop (c := 8) (N := l.length) (f := fun_writer_put.l0 l w) (fun b i hi hb => by
    obtain ⟨b', h3, h4⟩ := put_ok hb l[i] hw (by omega)
    exact ⟨b', by simp [fun_writer_put.l0, hi, ix hi, h3], h4.le (by omega)⟩) (fun b => by simp [fun_writer_put.l0]) h (by omega)
  exact ⟨r, by unfold fun_writer_put.f; rw [h1]; rfl, h2⟩
theorem wput2_ok {n : Nat} {b : List Int} (h : Ok n b) {w : Int} (hw : w = 1 ∨ w = 2 ∨ w = 4 ∨ w = 8) (l : List Int) (hl : l.length ≤ 1048576) (hn : n + l.length * 8 + 16 ≤ SB) : ∃ b', fun_writer_put_s2.f { b := b } w l = some b' ∧ Ok (n + l.length * 8) b' := by
  obtain ⟨r, h1, h2⟩ := count_loop (c := 8) (N := l.length) (f := fun_writer_put_s2.l0 l w) (fun b i hi hb => by
    obtain ⟨b', h3, h4⟩ := put_ok hb l[i] hw (by omega)
    exact ⟨b', by simp [fun_writer_put_s2.l0, hi, ix hi, h3], h4.le (by omega)⟩) (fun b => by simp [fun_writer_put_s2.l0]) h (by omega)
  exact ⟨r, by unfold fun_writer_put_s2.f; show (loop (fun_writer_put_s2.l0 l w) (b, 0)).bind _ = _; rw [h1]; rfl, h2⟩
theorem instr_ok {n : Nat} {b : List Int} (h : Ok n b) (x : XInstr) (hn : n + 100 ≤ SB) : ∃ b', instr_Put.f b x = some b' ∧ Ok (n + 40) b' := by
  obtain ⟨b1, e1, o1⟩ := put_ok h x.Op (w := 1) (by simp) (by omega)
  obtain ⟨b2, e2, o2⟩ := put_ok o1 x.A (w := 1) (by simp) (by omega)
  obtain ⟨b3, e3, o3⟩ := put_ok o2 x.B (w := 1) (by simp) (by omega)
  obtain ⟨b4, e4, o4⟩ := put_ok o3 x.C (w := 1) (by simp) (by omega)
  obtain ⟨b5, e5, o5⟩ := put_ok o4 x.N (w := 4) (by simp) (by omega)
  have hl : loop (instr_Put.l0 [x.Op, x.A, x.B, x.C, x.N]) (b, 0) = some (.inr b5) := by
    refine loop_of (k := 6) (by decide) ?_
    have s0 : instr_Put.l0 [x.Op, x.A, x.B, x.C, x.N] (b, 0) = some (.next (b1, 1)) := by simp [instr_Put.l0, idx, e1]
    have s1 : instr_Put.l0 [x.Op, x.A, x.B, x.C, x.N] (b1, 1) = some (.next (b2, 2)) := by simp [instr_Put.l0, idx, e2]
    have s2 : instr_Put.l0 [x.Op, x.A, x.B, x.C, x.N] (b2, 2) = some (.next (b3, 3)) := by simp [instr_Put.l0, idx, e3]
    have s3 : instr_Put.l0 [x.Op, x.A, x.B, x.C, x.N] (b3, 3) = some (.next (b4, 4)) := by simp [instr_Put.l0, idx, e4]
    have s4 : instr_Put.l0 [x.Op, x.A, x.B, x.C, x.N] (b4, 4) = some (.done (.inr b5)) := by simp [instr_Put.l0, idx, e5]
    simp only [iter, s0, s1, s2, s3, s4]
  refine ⟨b5, ?_, o5.le (by omega)⟩
  unfold instr_Put.f
  show (loop (instr_Put.l0 [x.Op, x.A, x.B, x.C, x.N]) (b, 0)).bind _ = _
  rw [hl]
  rfl
theorem flag_ok (b : Bool) : ∃ n, fun_flag.f b = some n := by cases b <;> exact ⟨_, rfl⟩
theorem flag2_ok (b : Bool) : ∃ n, data_flag.f b = some n := by cases b <;> exact ⟨_, rfl⟩
theorem flag3_ok (b : Bool) : ∃ n, file_flag.f b = some n := by cases b <;> exact ⟨_, rfl⟩
theorem fun_ok {n : Nat} {b : List Int} (h : Ok n b) (x : XFunc) (q : Q44 x) (hn : n + 93323264 + 1000 ≤ SB) : ∃ b', fun_Put.f b x = some b' ∧ Ok (n + 93323264) b' := by
  obtain ⟨q1, q2, q3, _, q4, q5, q6, q7, q8, q9, q10, q11⟩ := q
  have hk : x.Kinds.length ≤ 1048576 := by assumption
  have hL : x.Lines.length ≤ 1048576 := by assumption
  have hC : x.Code.length ≤ 1048576 := by assumption
  have hR : x.Relocs.length ≤ 1048576 := by assumption
  have hb := h.1
  obtain ⟨b5, e5, o5⟩ := wput_ok h (w := 1) (by simp) [x.Class, (x.Kinds.length : Int)] (by simp) (by simp; omega)
  obtain ⟨b6, e6, o6⟩ := wput_ok o5 (w := 1) (by simp) x.Kinds hk (by simp; omega)
  obtain ⟨b7, e7, o7⟩ := wput_ok o6 (w := 2) (by simp) [x.Pad] (by simp) (by simp; omega)
  obtain ⟨t8, f8⟩ := flag_ok x.Nosplit
  obtain ⟨b9, e9, o9⟩ := wput_ok o7 (w := 1) (by simp) [t8, x.From, x.To, (x.Lines.length : Int)] (by simp) (by simp; omega)
  simp only [List.length_cons, List.length_nil] at o5 o6 o7 o9
  obtain ⟨ba, ea, oa⟩ := count_loop (c := 16) (N := x.Lines.length) (f := fun_Put.l0 x) (fun b i hi hb => by
    obtain ⟨b1, h1, p1⟩ := wput_ok hb (w := 1) (by simp) [x.Lines[i].At] (by simp) (by simp; omega)
    obtain ⟨b2, h2, p2⟩ := wput_ok p1 (w := 2) (by simp) [x.Lines[i].Line] (by simp) (by simp; omega)
    exact ⟨b2, by simp [fun_Put.l0, hi, ix hi, h1, h2], p2.le (by simp; omega)⟩) (fun b => by simp [fun_Put.l0]) o9 (by omega)
  obtain ⟨bb, eb, ob⟩ := wput_ok oa (w := 1) (by simp) [(x.Code.length : Int)] (by simp) (by simp; omega)
  simp only [List.length_cons, List.length_nil] at ob
  obtain ⟨bc, ec, oc⟩ := count_loop (c := 40) (N := x.Code.length) (f := fun_Put.l1 x) (fun b i hi hb => by
    obtain ⟨b1, h1, p1⟩ := instr_ok hb x.Code[i] (by omega)
    exact ⟨b1, by simp [fun_Put.l1, hi, ix hi, h1], p1.le (by omega)⟩) (fun b => by simp [fun_Put.l1]) ob (by omega)
  obtain ⟨bd, ed, od⟩ := wput2_ok oc (w := 1) (by simp) [(x.Relocs.length : Int)] (by simp) (by simp; omega)
  simp only [List.length_cons, List.length_nil] at od
  obtain ⟨be, ee, oe⟩ := count_loop (c := 24) (N := x.Relocs.length) (f := fun_Put.l2 x) (fun b i hi hb => by
    obtain ⟨t3, f3⟩ := flag_ok x.Relocs[i].Wide
    obtain ⟨b1, h1, p1⟩ := wput2_ok hb (w := 1) (by simp) [x.Relocs[i].At, x.Relocs[i].Sym, t3] (by simp) (by simp; omega)
    exact ⟨b1, by simp [fun_Put.l2, hi, ix hi, f3, h1], p1.le (by simp; omega)⟩) (fun b => by simp [fun_Put.l2]) od (by omega)
  refine ⟨be, ?_, oe.le (by omega)⟩
  unfold fun_Put.f
  rw [show decide ((([] : List Int).length + b.length) * 1 ≤ SB) = true from decide_eq_true (by simp; omega)]
  show (fun_writer_put.f b 1 [x.Class, (x.Kinds.length : Int)]).bind _ = _
  simp only [e5, e6, e7, f8, e9, ea, eb, ec, ed, ee, Option.bind_some]
theorem data_ok {n : Nat} {b : List Int} (h : Ok n b) (x : XData) (q : Q49 x) (hn : n + 34603008 + 1000 ≤ SB) : ∃ b', data_Put.f b x = some b' ∧ Ok (n + 34603008) b' := by
  obtain ⟨q1, q2, q3, q4, q5⟩ := q
  have hW : x.Words.length ≤ 1048576 := by assumption
  have hR : x.Relocs.length ≤ 1048576 := by assumption
  obtain ⟨b5, e5, o5⟩ := put_ok h x.Kind (w := 1) (by simp) (by omega)
  obtain ⟨b6, e6, o6⟩ := put_ok o5 (x.Words.length : Int) (w := 1) (by simp) (by omega)
  obtain ⟨b7, e7, o7⟩ := count_loop (c := 8) (N := x.Words.length) (f := data_Put.l0 x) (fun b i hi hb => by
    obtain ⟨b1, h1, p1⟩ := put_ok hb x.Words[i] (w := 8) (by simp) (by omega)
    exact ⟨b1, by simp [data_Put.l0, hi, ix hi, h1], p1.le (by omega)⟩) (fun b => by simp [data_Put.l0]) o6 (by omega)
  obtain ⟨b8, e8, o8⟩ := put_ok o7 (x.Relocs.length : Int) (w := 1) (by simp) (by omega)
  obtain ⟨b9, e9, o9⟩ := count_loop (c := 24) (N := x.Relocs.length) (f := data_Put.l1 x) (fun b i hi hb => by
    obtain ⟨b1, h1, p1⟩ := put_ok hb x.Relocs[i].At (w := 1) (by simp) (by omega)
    obtain ⟨b2, h2, p2⟩ := put_ok p1 x.Relocs[i].Sym (w := 1) (by simp) (by omega)
    obtain ⟨t3, f3⟩ := flag2_ok x.Relocs[i].Wide
    obtain ⟨b3, h3, p3⟩ := put_ok p2 t3 (w := 1) (by simp) (by omega)
    exact ⟨b3, by simp [data_Put.l1, hi, ix hi, h1, h2, f3, h3], p3.le (by omega)⟩) (fun b => by simp [data_Put.l1]) o8 (by omega)
  refine ⟨b9, ?_, o9.le (by omega)⟩
  unfold data_Put.f
  simp only [e5, e6, e7, e8, e9, Option.bind_some]

/-! ### Sums -/
def adl : List Int → Int → Int → Int × Int
  | [], a, b => (a, b)
  | x :: xs, a, b => adl xs ((a + x) % 65521) ((b + (a + x) % 65521) % 65521)
def sm : List Int → Int
  | [] => 0
  | x :: xs => x + sm xs
theorem adl_fst : ∀ (xs : List Int) (a b : Int), 0 ≤ a → a < 65521 → (adl xs a b).1 = (a + sm xs) % 65521
  | [], a, b, h, k => by simp only [adl, sm]; omega
  | x :: xs, a, b, h, k => by
    simp only [adl, sm]
    rw [adl_fst xs _ _ (by omega) (by omega)]
    omega
theorem adl_bound : ∀ (xs : List Int) (a b : Int), 0 ≤ a → a < 65521 → 0 ≤ b → b < 65521 → (0 ≤ (adl xs a b).1 ∧ (adl xs a b).1 < 65521) ∧ 0 ≤ (adl xs a b).2 ∧ (adl xs a b).2 < 65521
  | [], a, b, h1, h2, h3, h4 => ⟨⟨h1, h2⟩, h3, h4⟩
  | x :: xs, a, b, h1, h2, h3, h4 => adl_bound xs _ _ (by omega) (by omega) (by omega) (by omega)
theorem sm_set : ∀ (xs : List Int) (i : Nat) (y : Int) (h : i < xs.length), sm (xs.set i y) = sm xs - xs[i] + y
  | x :: xs, 0, y, h => by simp only [List.set_cons_zero, sm, List.getElem_cons_zero]; omega
  | x :: xs, i + 1, y, h => by
    simp only [List.set_cons_succ, sm, List.getElem_cons_succ]
    rw [sm_set xs i y (by simpa using h)]
    omega
theorem or_add {h l k : Nat} (hl : l < 2 ^ k) (hb : h * 2 ^ k + l < 9223372036854775808) : bits .or .i64 ((h * 2 ^ k : Nat) : Int) (l : Int) = ((h * 2 ^ k + l : Nat) : Int) := by
  show IntKind.wrap .i64 ((BitVec.ofInt 64 ((h * 2 ^ k : Nat) : Int) ||| BitVec.ofInt 64 (l : Int)).toNat : Int) = _
  rw [BitVec.toNat_or]
  have e1 : (BitVec.ofInt 64 ((h * 2 ^ k : Nat) : Int)).toNat = h * 2 ^ k := by
    rw [BitVec.ofInt_natCast, BitVec.toNat_ofNat]
    exact Nat.mod_eq_of_lt (by omega)
  have e2 : (BitVec.ofInt 64 (l : Int)).toNat = l := by
    rw [BitVec.ofInt_natCast, BitVec.toNat_ofNat]
    exact Nat.mod_eq_of_lt (by omega)
  rw [e1, e2, ← Nat.shiftLeft_eq, ← Nat.shiftLeft_add_eq_or_of_lt hl, Nat.shiftLeft_eq]
  exact wrap_i64 (by omega) (by omega)
theorem or_shl {h l : Int} (k : Nat) (hk : k ≤ 64) (h0 : 0 ≤ h) (l0 : 0 ≤ l) (hl : l < 2 ^ k) (hb : h * 2 ^ k + l < 9223372036854775808) : bits .or .i64 (shl .i64 h (k : Int)) l = h * 2 ^ k + l := by
  obtain ⟨h, rfl⟩ := Int.eq_ofNat_of_zero_le h0
  obtain ⟨l, rfl⟩ := Int.eq_ofNat_of_zero_le l0
  have hl' : l < 2 ^ k := by exact_mod_cast hl
  have hb' : h * 2 ^ k + l < 9223372036854775808 := by
    have e : ((h * 2 ^ k + l : Nat) : Int) = (h : Int) * 2 ^ k + l := by push_cast; rfl
    rw [← e] at hb
    omega
  have e : shl .i64 (h : Int) (k : Int) = ((h * 2 ^ k : Nat) : Int) := by
    unfold shl
    rw [Int.toNat_natCast, Nat.min_eq_left (show k ≤ IntKind.bits .i64 from hk)]
    have : ((h : Int) * 2 ^ k) = ((h * 2 ^ k : Nat) : Int) := by push_cast; rfl
    rw [this]
    exact wrap_i64 (by omega) (by omega)
  rw [e, or_add hl' hb']
  push_cast
  rfl
def val (xs : List Int) : Int := (adl xs 1 0).2 * 65536 + (adl xs 1 0).1
theorem add_loop (xs : List Int) (hx : Byt xs) (hl : xs.length < 281474976710656) : ∃ r, loop (sum_Adder_Add.l0 xs) (1, 0, 0) = some r ∧ r = adl xs 1 0 := by
  refine loop_run (fun s => s.2.2 ≤ xs.length ∧ (0 ≤ s.1 ∧ s.1 < 65521) ∧ (0 ≤ s.2.1 ∧ s.2.1 < 65521) ∧ adl (xs.drop s.2.2) s.1 s.2.1 = adl xs 1 0) (fun s => xs.length - s.2.2) _ ?_ ⟨Nat.zero_le _, by decide, by decide, rfl⟩ (by show xs.length - 0 < _; omega)
  rintro ⟨a, b, i⟩ ⟨h1, h2, h3, h4⟩
  simp only at h1 h2 h3 h4
  by_cases hi : i < xs.length
  · left
    have hb := hx xs[i] (List.getElem_mem hi)
    have w0 : IntKind.wrap .i64 xs[i] = xs[i] := wrap_i64 (by omega) (by omega)
    have w1 : IntKind.wrap .i64 (a + xs[i]) = a + xs[i] := wrap_i64 (by omega) (by omega)
    have m1 : Int.tmod (a + xs[i]) 65521 = (a + xs[i]) % 65521 := Int.tmod_eq_emod_of_nonneg (by omega)
    have w2 : IntKind.wrap .i64 (b + (a + xs[i]) % 65521) = b + (a + xs[i]) % 65521 := wrap_i64 (by omega) (by omega)
    have m2 : Int.tmod (b + (a + xs[i]) % 65521) 65521 = (b + (a + xs[i]) % 65521) % 65521 := Int.tmod_eq_emod_of_nonneg (by omega)
    refine ⟨((a + xs[i]) % 65521, (b + (a + xs[i]) % 65521) % 65521, i + 1), ?_, ⟨hi, ⟨by simp only; omega, by simp only; omega⟩, ⟨by simp only; omega, by simp only; omega⟩, ?_⟩, by simp only; omega⟩
    · simp [sum_Adder_Add.l0, hi, ix hi, w0, w1, m1, w2, m2]
    · rw [← h4, List.drop_eq_getElem_cons hi]
      rfl
  · right
    have : i = xs.length := Nat.le_antisymm h1 (Nat.le_of_not_lt hi)
    subst this
    refine ⟨(a, b), by simp [sum_Adder_Add.l0], ?_⟩
    rw [← h4]
    simp [adl]
theorem of_eq (xs : List Int) (hx : Byt xs) (hl : xs.length < 281474976710656) : sum_Of.f xs = some (val xs) := by
  obtain ⟨r, h1, h2⟩ := add_loop xs hx hl
  have hb := adl_bound xs 1 0 (by decide) (by decide) (by decide) (by decide)
  have e1 : sum_Adder_Add.f { a := 1, b := 0, live := true } xs = some (adl xs 1 0) := by
    unfold sum_Adder_Add.f
    show (loop (sum_Adder_Add.l0 xs) (1, 0, 0)).bind _ = _
    rw [h1, h2]
    rfl
  unfold sum_Of.f sum_New.f sum_feed.f
  simp only [Option.bind_some, e1]
  show some (bits .or .i64 (shl .i64 (adl xs 1 0).2 16) (adl xs 1 0).1) = _
  rw [show (16 : Int) = ((16 : Nat) : Int) from rfl, or_shl 16 (by decide) hb.2.1 hb.1.1 (by omega) (by omega)]
  rfl
theorem val_bound (xs : List Int) : 0 ≤ val xs ∧ val xs < 4294967296 := by
  have hb := adl_bound xs 1 0 (by decide) (by decide) (by decide) (by decide)
  unfold val
  omega
theorem val_set {xs : List Int} {i : Nat} {y : Int} (hi : i < xs.length) (h : y ≠ xs[i]) (h1 : 0 ≤ xs[i] ∧ xs[i] ≤ 255) (h2 : 0 ≤ y ∧ y ≤ 255) : val (xs.set i y) ≠ val xs := by
  intro e
  have b1 := adl_bound xs 1 0 (by decide) (by decide) (by decide) (by decide)
  have b2 := adl_bound (xs.set i y) 1 0 (by decide) (by decide) (by decide) (by decide)
  have f1 := adl_fst xs 1 0 (by decide) (by decide)
  have f2 := adl_fst (xs.set i y) 1 0 (by decide) (by decide)
  rw [sm_set xs i y hi] at f2
  unfold val at e
  omega
theorem B_val {v : Int} (h : 0 ≤ v) (k : Nat) (hk : k ≤ 64) : B v (k : Int) = v / 2 ^ k % 256 := by
  unfold B
  rw [wrap_u8]
  unfold shr
  rw [Int.toNat_natCast, Nat.min_eq_left (show k ≤ IntKind.bits .i64 from hk), Int.fdiv_eq_ediv_of_nonneg _ (by exact Int.le_of_lt (Int.pow_pos (by decide)))]

/-! ### What is read again -/
theorem num4 {c0 c1 c2 c3 : Int} (h0 : 0 ≤ c0 ∧ c0 ≤ 255) (h1 : 0 ≤ c1 ∧ c1 ≤ 255) (h2 : 0 ≤ c2 ∧ c2 ≤ 255) (h3 : 0 ≤ c3 ∧ c3 ≤ 255) :
    octet_Reader_Num.f [c0, c1, c2, c3] 0 true false 4 = some (((c0 * 256 + c1) * 256 + c2) * 256 + c3, [c0, c1, c2, c3], 4, false) := by
  have ht : octet_Reader_take.f [c0, c1, c2, c3] 0 true false 4 = some ([c0, c1, c2, c3], [c0, c1, c2, c3], 4, false) := rfl
  have w : ∀ c : Int, 0 ≤ c ∧ c ≤ 255 → IntKind.wrap .i64 c = c := fun c h => wrap_i64 (by omega) (by omega)
  have o : ∀ s c : Int, 0 ≤ s → s < 16777216 → 0 ≤ c ∧ c ≤ 255 → bits .or .i64 (shl .i64 s 8) c = s * 256 + c := fun s c g1 g2 g3 => by
    rw [show (8 : Int) = ((8 : Nat) : Int) from rfl, or_shl 8 (by decide) g1 g3.1 (by omega) (by omega), show (2 : Int) ^ 8 = 256 from by decide]
  have hl : loop (octet_number.l0 ([c0, c1, c2, c3], [c0, c1, c2, c3], 4, false)) (0, 0) = some (((c0 * 256 + c1) * 256 + c2) * 256 + c3) := by
    refine loop_of (k := 5) (by decide) ?_
    have s0 : octet_number.l0 ([c0, c1, c2, c3], [c0, c1, c2, c3], 4, false) (0, 0) = some (.next (c0, 1)) := by simp [octet_number.l0, idx, w c0 h0, o 0 c0 (by decide) (by decide) h0]
    have s1 : octet_number.l0 ([c0, c1, c2, c3], [c0, c1, c2, c3], 4, false) (c0, 1) = some (.next (c0 * 256 + c1, 2)) := by simp [octet_number.l0, idx, w c1 h1, o c0 c1 h0.1 (by omega) h1]
    have s2 : octet_number.l0 ([c0, c1, c2, c3], [c0, c1, c2, c3], 4, false) (c0 * 256 + c1, 2) = some (.next ((c0 * 256 + c1) * 256 + c2, 3)) := by simp [octet_number.l0, idx, w c2 h2, o (c0 * 256 + c1) c2 (by omega) (by omega) h2]
    have s3 : octet_number.l0 ([c0, c1, c2, c3], [c0, c1, c2, c3], 4, false) ((c0 * 256 + c1) * 256 + c2, 3) = some (.next (((c0 * 256 + c1) * 256 + c2) * 256 + c3, 4)) := by simp [octet_number.l0, idx, w c3 h3, o ((c0 * 256 + c1) * 256 + c2) c3 (by omega) (by omega) h3]
    have s4 : octet_number.l0 ([c0, c1, c2, c3], [c0, c1, c2, c3], 4, false) (((c0 * 256 + c1) * 256 + c2) * 256 + c3, 4) = some (.done (((c0 * 256 + c1) * 256 + c2) * 256 + c3)) := by simp [octet_number.l0]
    simp only [iter, s0, s1, s2, s3, s4]
  unfold octet_Reader_Num.f octet_number.f
  simp only [show decide ((4 : Int) < 1) = false from rfl, show decide ((4 : Int) > 8) = false from rfl, cond_false, Option.bind_some, ht, hl]
theorem open_sum {xs : List Int} {c0 c1 c2 c3 : Int} (hx : Byt xs) (hl : xs.length + 100 ≤ SB) (h0 : 0 ≤ c0 ∧ c0 ≤ 255) (h1 : 0 ≤ c1 ∧ c1 ≤ 255) (h2 : 0 ≤ c2 ∧ c2 ≤ 255) (h3 : 0 ≤ c3 ∧ c3 ≤ 255)
    (hne : ((c0 * 256 + c1) * 256 + c2) * 256 + c3 ≠ val xs) : sum_Open.f (xs ++ [c0, c1, c2, c3]) = some ([], 4) := by
  have hSB : SB = 140737488355328 := rfl
  have hw : IntKind.wrap .i64 (((xs ++ [c0, c1, c2, c3]).length : Int) - 4) = (xs.length : Int) := by
    rw [wrap_i64 (by simp <;> omega) (by simp <;> omega)]
    simp <;> omega
  unfold sum_Open.f
  rw [hw]
  have hd : List.drop (Int.toNat (xs.length : Int)) (xs ++ [c0, c1, c2, c3]) = [c0, c1, c2, c3] := by simp
  have ht : List.take (Int.toNat (xs.length : Int)) (xs ++ [c0, c1, c2, c3]) = xs := by simp
  rw [hd, ht]
  have c1' : decide ((xs.length : Int) < 0) = false := by simp <;> omega
  have c2' : (decide (0 ≤ (xs.length : Int)) && decide ((xs.length : Int) ≤ ((xs ++ [c0, c1, c2, c3]).length : Int))) = true := by simp <;> omega
  have hN : octet_New.f [c0, c1, c2, c3] = some [c0, c1, c2, c3] := rfl
  rw [c1', c2']
  simp only [cond_false, cond_true, hN, num4 h0 h1 h2 h3, of_eq xs hx (by omega), Option.bind_some]
  rw [decide_eq_true hne]
  rfl
theorem get_sum {xs : List Int} (h : sum_Open.f xs = some ([], 4)) : file_Get.f xs = some ([], [], [], 4) := by
  unfold file_Get.f
  rw [h]
  rfl
theorem few_ok (o : XObject) (q : Q61 o) : ∃ b, sheerlegref19_Few.f o = some b := by
  obtain ⟨q1, q2, q3, q4, q5, q6⟩ := q
  have hS : o.Symbols.length ≤ 1048576 := by assumption
  have hF : o.Funcs.length ≤ 1048576 := by assumption
  have hD : o.Datas.length ≤ 1048576 := by assumption
  have f16 : ∀ x : XFunc, ∃ b, sheerlegref16_Few.f x = some b := fun x => by
    unfold sheerlegref16_Few.f
    cases decide ((x.Kinds.length : Int) ≤ 100) <;> cases decide ((x.Lines.length : Int) ≤ 100) <;> cases decide ((x.Code.length : Int) ≤ 100) <;> exact ⟨_, rfl⟩
  have f15 : ∀ x : XData, ∃ b, sheerlegref15_Few.f x = some b := fun x => by
    unfold sheerlegref15_Few.f
    cases decide ((x.Words.length : Int) ≤ 100) <;> exact ⟨_, rfl⟩
  obtain ⟨r0, e0, _⟩ := loop_run (f := sheerlegref19_Few.l0 o) (fun i => i ≤ o.Symbols.length) (fun i => o.Symbols.length - i) (fun _ => True) (fun i hi => by
    by_cases h : i < o.Symbols.length
    · by_cases g : ((o.Symbols[i].Name.size : Int) > 300)
      · exact .inr ⟨.inr false, by simp only [sheerlegref19_Few.l0, ix h, Option.bind_some, decide_eq_true (Int.ofNat_lt.2 h), cond_true]; rw [decide_eq_true g]; rfl, trivial⟩
      · exact .inl ⟨i + 1, by simp only [sheerlegref19_Few.l0, ix h, Option.bind_some, decide_eq_true (Int.ofNat_lt.2 h), cond_true]; rw [decide_eq_false g]; rfl, h, by omega⟩
    · exact .inr ⟨.inl (), by simp only [sheerlegref19_Few.l0]; rw [decide_eq_false (fun g => h (Int.ofNat_lt.1 g))]; rfl, trivial⟩) (Nat.zero_le _) (by simp only [Nat.sub_zero]; omega)
  obtain ⟨r1, e1, _⟩ := loop_run (f := sheerlegref19_Few.l1 o) (fun i => i ≤ o.Funcs.length) (fun i => o.Funcs.length - i) (fun _ => True) (fun i hi => by
    by_cases h : i < o.Funcs.length
    · obtain ⟨b, hb⟩ := f16 o.Funcs[i]
      by_cases g : ((i : Int) ≥ 20)
      · exact .inr ⟨.inr false, by simp only [sheerlegref19_Few.l1, Option.bind_some, decide_eq_true (Int.ofNat_lt.2 h), cond_true]; rw [decide_eq_true g]; rfl, trivial⟩
      · cases b
        · exact .inr ⟨.inr false, by simp only [sheerlegref19_Few.l1, ix h, hb, Option.bind_some, decide_eq_true (Int.ofNat_lt.2 h), cond_true]; rw [decide_eq_false g]; rfl, trivial⟩
        · exact .inl ⟨i + 1, by simp only [sheerlegref19_Few.l1, ix h, hb, Option.bind_some, decide_eq_true (Int.ofNat_lt.2 h), cond_true]; rw [decide_eq_false g]; rfl, h, by omega⟩
    · exact .inr ⟨.inl (), by simp only [sheerlegref19_Few.l1]; rw [decide_eq_false (fun g => h (Int.ofNat_lt.1 g))]; rfl, trivial⟩) (Nat.zero_le _) (by simp only [Nat.sub_zero]; omega)
  obtain ⟨r2, e2, _⟩ := loop_run (f := sheerlegref19_Few.l2 o) (fun i => i ≤ o.Datas.length) (fun i => o.Datas.length - i) (fun _ => True) (fun i hi => by
    by_cases h : i < o.Datas.length
    · obtain ⟨b, hb⟩ := f15 o.Datas[i]
      by_cases g : ((i : Int) ≥ 20)
      · exact .inr ⟨.inr false, by simp only [sheerlegref19_Few.l2, Option.bind_some, decide_eq_true (Int.ofNat_lt.2 h), cond_true]; rw [decide_eq_true g]; rfl, trivial⟩
      · cases b
        · exact .inr ⟨.inr false, by simp only [sheerlegref19_Few.l2, ix h, hb, Option.bind_some, decide_eq_true (Int.ofNat_lt.2 h), cond_true]; rw [decide_eq_false g]; rfl, trivial⟩
        · exact .inl ⟨i + 1, by simp only [sheerlegref19_Few.l2, ix h, hb, Option.bind_some, decide_eq_true (Int.ofNat_lt.2 h), cond_true]; rw [decide_eq_false g]; rfl, h, by omega⟩
    · exact .inr ⟨.inl (), by simp only [sheerlegref19_Few.l2]; rw [decide_eq_false (fun g => h (Int.ofNat_lt.1 g))]; rfl, trivial⟩) (Nat.zero_le _) (by simp only [Nat.sub_zero]; omega)
  unfold sheerlegref19_Few.f
  rw [e0]
  simp only [Option.bind_some]
  cases r0 with
  | inr b => exact ⟨b, rfl⟩
  | inl u =>
    simp only [cont, e1, Option.bind_some]
    cases r1 with
    | inr b => exact ⟨b, rfl⟩
    | inl u =>
      simp only [e2, Option.bind_some]
      cases r2 <;> exact ⟨_, rfl⟩
theorem put_file (o : XObject) (q : Q61 o) : ∃ bs, Ok 135000000000000 bs ∧ file_Put.f o = some (bs ++ [B (val bs) 24, B (val bs) 16, B (val bs) 8, B (val bs) 0]) := by
  obtain ⟨q1, q2, q3, q4, q5, q6⟩ := q
  have hS : o.Symbols.length ≤ 1048576 := by assumption
  have hF : o.Funcs.length ≤ 1048576 := by assumption
  have hD : o.Datas.length ≤ 1048576 := by assumption
  have hSB : SB = 140737488355328 := rfl
  have h0 : Ok 4 [83, 72, 76, 49] := ⟨by simp, fun y hy => by simp at hy; omega⟩
  obtain ⟨b6, e6, o6⟩ := put_ok h0 (o.Symbols.length : Int) (w := 1) (by simp) (by omega)
  obtain ⟨b7, e7, o7⟩ := count_loop (c := 300) (N := o.Symbols.length) (f := file_Put.l3 o) (fun b i hi hb => by
    have qs : Q82 o.Symbols[i] := q2 _ (List.getElem_mem hi)
    obtain ⟨b1, h1, p1⟩ := text_ok hb o.Symbols[i].Name qs.1 (by omega)
    obtain ⟨t0, f0⟩ := flag3_ok o.Symbols[i].Local
    obtain ⟨b2, h2, p2⟩ := count_loop (c := 8) (N := 4) (f := file_Put.l4 t0 o.Symbols[i]) (fun b k hk hb => by
      have hk' : k < [t0, o.Symbols[i].Sort_, o.Symbols[i].Kind, o.Symbols[i].Def].length := hk
      obtain ⟨b', h3, h4⟩ := put_ok hb ([t0, o.Symbols[i].Sort_, o.Symbols[i].Kind, o.Symbols[i].Def][k]) (w := 1) (by simp) (by omega)
      refine ⟨b', ?_, h4.le (by omega)⟩
      unfold file_Put.l4
      show (bif decide (((k : Nat) : Int) < 4) then _ else _) = _
      rw [decide_eq_true (show ((k : Nat) : Int) < 4 by omega)]
      show (idx [t0, o.Symbols[i].Sort_, o.Symbols[i].Kind, o.Symbols[i].Def] ((k : Nat) : Int)).bind _ = _
      rw [ix hk']
      show (octet_Put.f b _ 1).bind _ = _
      rw [h3]
      rfl) (fun b => rfl) p1 (by decide)
    exact ⟨b2, by simp [file_Put.l3, hi, ix hi, h1, f0, h2], p2.le (by omega)⟩) (fun b => by simp [file_Put.l3]) o6 (by omega)
  obtain ⟨b8, e8, o8⟩ := put_ok o7 (o.Funcs.length : Int) (w := 1) (by simp) (by omega)
  obtain ⟨b9, e9, o9⟩ := count_loop (c := 93323264) (N := o.Funcs.length) (f := file_Put.l5 o) (fun b i hi hb => by
    obtain ⟨b1, h1, p1⟩ := fun_ok hb o.Funcs[i] (q4 _ (List.getElem_mem hi)) (by omega)
    exact ⟨b1, by simp [file_Put.l5, hi, ix hi, h1], p1.le (by omega)⟩) (fun b => by simp [file_Put.l5]) o8 (by omega)
  obtain ⟨ba, ea, oa⟩ := put_ok o9 (o.Datas.length : Int) (w := 1) (by simp) (by omega)
  obtain ⟨bb, eb, ob⟩ := count_loop (c := 34603008) (N := o.Datas.length) (f := file_Put.l6 o) (fun b i hi hb => by
    obtain ⟨b1, h1, p1⟩ := data_ok hb o.Datas[i] (q6 _ (List.getElem_mem hi)) (by omega)
    exact ⟨b1, by simp [file_Put.l6, hi, ix hi, h1], p1.le (by omega)⟩) (fun b => by simp [file_Put.l6]) oa (by omega)
  have hlen := ob.1
  refine ⟨bb, ob.le (by omega), ?_⟩
  unfold file_Put.f
  simp only [e6, e7, e8, e9, ea, eb, Option.bind_some]
  unfold sum_Seal.f
  rw [of_eq bb ob.2 (by omega)]
  simp only [Option.bind_some]
  rw [put4 _ (by omega)]
  rfl
theorem known_ok : sheerleglaw20_known.f = some true := by kernel_rfl
theorem same_ok : sheerlegref19_Same.f { Symbols := [], Funcs := [], Datas := [] } { Symbols := [], Funcs := [], Datas := [] } = some () := by kernel_rfl
theorem told {bs : List Int} {y : Int} {i : Nat} (hb : Ok 135000000000000 bs) (hi : i < (bs ++ [B (val bs) 24, B (val bs) 16, B (val bs) 8, B (val bs) 0]).length) (hy : 0 ≤ y ∧ y ≤ 255)
    (hne : y ≠ (bs ++ [B (val bs) 24, B (val bs) 16, B (val bs) 8, B (val bs) 0])[i]) : sum_Open.f ((bs ++ [B (val bs) 24, B (val bs) 16, B (val bs) 8, B (val bs) 0]).set i y) = some ([], 4) := by
  have hl := hb.1
  have hv := val_bound bs
  have hSB : SB = 140737488355328 := rfl
  have d0 : B (val bs) 24 = val bs / 16777216 % 256 := B_val hv.1 24 (by decide)
  have d1 : B (val bs) 16 = val bs / 65536 % 256 := B_val hv.1 16 (by decide)
  have d2 : B (val bs) 8 = val bs / 256 % 256 := B_val hv.1 8 (by decide)
  have d3 : B (val bs) 0 = val bs / 1 % 256 := B_val hv.1 0 (by decide)
  have g0 := B_byt (val bs) 24
  have g1 := B_byt (val bs) 16
  have g2 := B_byt (val bs) 8
  have g3 := B_byt (val bs) 0
  by_cases h : i < bs.length
  · rw [List.set_append_left _ _ h]
    rw [List.getElem_append_left h] at hne
    have hbi := hb.2 bs[i] (List.getElem_mem h)
    refine open_sum (fun z hz => ?_) (by simp; omega) g0 g1 g2 g3 ?_
    · rcases List.mem_or_eq_of_mem_set hz with hz | rfl
      · exact hb.2 z hz
      · exact hy
    · have := val_set h hne hbi hy
      omega
  · rw [List.set_append_right _ _ (Nat.le_of_not_lt h)]
    rw [List.getElem_append_right (Nat.le_of_not_lt h)] at hne
    obtain ⟨j, hj⟩ : ∃ j, i - bs.length = j := ⟨_, rfl⟩
    have hj4 : j < 4 := by simp at hi; omega
    simp only [hj] at hne ⊢
    match j, hj4 with
    | 0, _ => exact open_sum hb.2 (by omega) hy g1 g2 g3 (by simp only [List.getElem_cons_zero] at hne; omega)
    | 1, _ => exact open_sum hb.2 (by omega) g0 hy g2 g3 (by simp only [List.getElem_cons_succ, List.getElem_cons_zero] at hne; omega)
    | 2, _ => exact open_sum hb.2 (by omega) g0 g1 hy g3 (by simp only [List.getElem_cons_succ, List.getElem_cons_zero] at hne; omega)
    | 3, _ => exact open_sum hb.2 (by omega) g0 g1 g2 hy (by simp only [List.getElem_cons_succ, List.getElem_cons_zero] at hne; omega)
theorem FileTold_pure (a0 : XObject) (a1 : Int) (a2 : Int) (q : Q61 a0) (i1 : InK .i64 a1) (i2 : InK .u8 a2) : sheerleglaw20_FileTold.f a0 a1 a2 = some true := by
  obtain ⟨fb, hf⟩ := few_ok a0 q
  obtain ⟨bs, hb, hp⟩ := put_file a0 q
  have hl := hb.1
  have hSB : SB = 140737488355328 := rfl
  unfold sheerleglaw20_FileTold.f
  rw [hf]
  cases fb with
  | false => show (sheerleglaw20_known.f).bind _ = _; rw [known_ok]; rfl
  | true =>
  show (file_Put.f a0).bind _ = _
  rw [hp]
  generalize ht : bs ++ [B (val bs) 24, B (val bs) 16, B (val bs) 8, B (val bs) 0] = t
  have htl : t.length = bs.length + 4 := by rw [← ht]; simp
  show (bif decide ((([] : List Int).length + t.length) * 1 ≤ SB) then _ else none) = _
  rw [show decide ((([] : List Int).length + t.length) * 1 ≤ SB) = true from decide_eq_true (by simp; omega)]
  have i2' := inK_iff.1 i2
  simp only [kmin, kmax] at i2'
  by_cases h1 : a1 < 0
  · rw [decide_eq_true h1]
    show (sheerleglaw20_known.f).bind _ = _
    rw [known_ok]; rfl
  rw [decide_eq_false h1]
  simp only [cond_true, cond_false, List.nil_append, Option.bind_some]
  by_cases h2 : a1 ≥ (t.length : Int)
  · rw [decide_eq_true h2]
    simp only [cond_true, Option.bind_some, known_ok]
  rw [decide_eq_false h2]
  simp only [cond_false, Option.bind_some]
  by_cases h3 : a2 = 0
  · rw [decide_eq_true h3]
    simp only [cond_true, Option.bind_some, known_ok]
  rw [decide_eq_false h3]
  simp only [cond_false, Option.bind_some]
  obtain ⟨i, rfl⟩ := Int.eq_ofNat_of_zero_le (Int.not_lt.1 h1)
  have hi : i < t.length := by omega
  rw [ix hi]
  simp only [Option.bind_some, Int.toNat_natCast]
  have hti : 0 ≤ t[i] ∧ t[i] ≤ 255 := by
    have hB : Byt t := by rw [← ht]; exact hb.2.append (byt4 _ _ _ _ _)
    exact hB _ (List.getElem_mem hi)
  have hget : file_Get.f (t.set i (IntKind.wrap .u8 (t[i] + a2))) = some ([], [], [], 4) := by
    refine get_sum ?_
    subst ht
    refine told hb hi ?_ ?_
    · rw [wrap_u8]; omega
    · rw [wrap_u8]; omega
  rw [hget]
  simp only [Option.bind_some, decide_true, cond_true, same_ok, known_ok]
end Go.Proofs.YtnglgjgflohkmaaGreat.Sk
