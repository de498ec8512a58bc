/- Small facts that the printed walks use. No condition. -/
import Derived.Test.YtnglgjgflohkmaaGreatSkCall
namespace Go.Proofs.YtnglgjgflohkmaaGreat.Sk
open Go
set_option linter.unusedVariables false
set_option linter.unusedSimpArgs false
set_option linter.unusedVariables false


def kmin : IntKind → Int
  | .i8 => -128 | .i16 => -32768 | .i32 => -2147483648 | .i64 => -9223372036854775808 | _ => 0
def kmax : IntKind → Int
  | .i8 => 127 | .i16 => 32767 | .i32 => 2147483647 | .i64 => 9223372036854775807
  | .u8 => 255 | .u16 => 65535 | .u32 => 4294967295 | .u64 => 18446744073709551615
theorem inK_iff {k : IntKind} {n : Int} : InK k n ↔ kmin k ≤ n ∧ n ≤ kmax k := by
  unfold InK IntKind.wrap kmin kmax
  cases k <;> simp [IntKind.bits, IntKind.signed] <;> (try split) <;> omega
theorem inK_wrap (k : IntKind) (n : Int) : InK k (k.wrap n) := by
  rw [inK_iff]
  unfold IntKind.wrap kmin kmax
  cases k <;> simp [IntKind.bits, IntKind.signed] <;> (try split) <;> omega
theorem inK_inc {k : IntKind} {i : Nat} {m : Int} (h : (i : Int) < m) (hm : InK k m) : InK k ((i + 1 : Nat) : Int) := by
  rw [inK_iff] at hm ⊢
  have : kmin k ≤ 0 := by cases k <;> simp [kmin]
  omega
theorem inK_tmod {k : IntKind} {a b : Int} (h : InK k a) : InK k (Int.tmod a b) := by
  rw [inK_iff] at h ⊢
  have hk : kmin k ≤ 0 := by cases k <;> simp [kmin]
  have hk2 : 0 ≤ kmax k := by cases k <;> simp [kmax]
  rcases Int.le_total 0 a with h0 | h0
  · have h1 : 0 ≤ Int.tmod a b := Int.tmod_nonneg b h0
    have h2 : Int.tmod a b ≤ a := by
      have := Int.natAbs_tmod a b
      have h3 : (a.tmod b).natAbs ≤ a.natAbs := by rw [this]; exact Nat.mod_le _ _
      omega
    omega
  · have h3 : (a.tmod b).natAbs ≤ a.natAbs := by rw [Int.natAbs_tmod]; exact Nat.mod_le _ _
    have h1 : Int.tmod a b ≤ 0 := by
      have := Int.tmod_nonneg b (show 0 ≤ -a by omega)
      rw [Int.neg_tmod] at this; omega
    omega
theorem inK_shr {k : IntKind} {a b : Int} (h : InK k a) : InK k (shr k a b) := by
  rw [inK_iff] at h ⊢
  have hk : kmin k ≤ 0 := by cases k <;> simp [kmin]
  have hk2 : 0 ≤ kmax k := by cases k <;> simp [kmax]
  unfold shr
  generalize min b.toNat k.bits = m
  have hp : (1 : Int) ≤ 2 ^ m := by
    have := Nat.one_le_two_pow (n := m)
    exact_mod_cast this
  rw [Int.fdiv_eq_ediv_of_nonneg _ (by omega)]
  constructor
  · rw [Int.le_ediv_iff_mul_le (by omega)]
    have : kmin k * 2 ^ m ≤ kmin k * 1 := Int.mul_le_mul_of_nonpos_left hk hp
    omega
  · refine Int.ediv_le_of_le_mul (by omega) ?_
    have : kmax k * 1 ≤ kmax k * 2 ^ m := Int.mul_le_mul_of_nonneg_left hp hk2
    omega
theorem inK_len {n : Nat} (h : n ≤ SB) : InK .i64 (n : Int) := by rw [inK_iff]; unfold SB at h; simp [kmin, kmax]; omega
theorem inK_size {s : ByteArray} (h : s.size ≤ SB) : InK .i64 (s.size : Int) := inK_len h
theorem inK_row {α : Type} {xs : List α} {m : Nat} (h : xs.length = m) (hm : m ≤ SB) : InK .i64 (xs.length : Int) := inK_len (h ▸ hm)
theorem inK_ite {k : IntKind} {c : Prop} [Decidable c] {a b : Int} (h : InK k a) (g : InK k b) : InK k (if c then a else b) := by split <;> assumption

theorem SRep.shape {α : Type} {e : TypeId} {T : Ty α} {G : GH} {v : Value} {xs : List α} (h : SRep e T G v xs) : ∃ a n c, v = .slice a n c := by obtain ⟨a, n, c, h, _⟩ := h; exact ⟨a, n, c, h⟩
theorem row_shape {w : World} {v : Value} {e : TypeId} {sz n : Nat} {cs : List Value} (h : Res.ok w (.row v e sz n cs)) : ∃ a n c, v = .slice a n c := by
  have h' : w.ownsRow 0 e sz v n cs := h
  rcases h'.2 with ⟨rfl, _⟩ | ⟨g, cap, cur, rfl, _⟩
  · exact ⟨_, _, _, rfl⟩
  · exact ⟨_, _, _, rfl⟩
theorem one_int {k : IntKind} {G : GH} {c : Value} {x : Int} (h : (tInt k).rep G [c] x) : c = .int k x ∧ InK k x := by obtain ⟨h1, h2⟩ := h; cases h1; exact ⟨rfl, h2⟩
theorem one_bool {G : GH} {c : Value} {x : Bool} (h : tBool.rep G [c] x) : c = .bool x := by cases h; rfl
theorem one_str {G : GH} {c : Value} {x : ByteArray} (h : tStr.rep G [c] x) : c = .string x ∧ x.size ≤ SB := by obtain ⟨h1, h2⟩ := h; cases h1; exact ⟨rfl, h2⟩
theorem one_sl {α : Type} {T : Ty α} {e : TypeId} {G : GH} {c : Value} {x : List α} (h : (tSlice e T).rep G [c] x) : SRep e T G c x := by obtain ⟨v, h1, h2⟩ := h; cases h1; exact h2
theorem row_one {w : World} {v : Value} {e : TypeId} {sz n : Nat} {cs : List Value} (h : Res.ok w (.row v e sz n cs)) : v.oneCell' = true := by
  have h' : w.ownsRow 0 e sz v n cs := h
  rcases h'.2 with ⟨rfl, _⟩ | ⟨g, cap, cur, rfl, _⟩ <;> rfl
theorem J5 {v : Value} {l : List Value} (h : v.oneCell' = true) (k : ∀ u ∈ l, u.oneCell' = true) : ∀ u ∈ v :: l, u.oneCell' = true := by
  intro u hu
  rcases List.mem_cons.1 hu with rfl | hu
  · exact h
  · exact k u hu
theorem idx_lt {α : Type} {xs : List α} {i : Int} {x : α} (h : idx xs i = some x) : i.toNat < xs.length := by obtain ⟨h0, h1, _⟩ := idx_some h; omega
theorem idx_m {α : Type} {xs : List α} {i : Int} {x : α} {m : Nat} (h : idx xs i = some x) (hm : xs.length = m) : i < m := by obtain ⟨h0, h1, _⟩ := idx_some h; omega
theorem EAll.fits {α : Type} {T : Ty α} {G : GH} {cs : List Value} {xs : List α} {i : Int} {x : α} (h : EAll T G cs xs) (hi : idx xs i = some x) : i.toNat * T.sz + T.sz ≤ cs.length := by
  rw [h.len]
  have := idx_lt hi
  have : (i.toNat + 1) * T.sz ≤ xs.length * T.sz := Nat.mul_le_mul_right _ (by omega)
  rw [Nat.succ_mul] at this; exact this
theorem len_app {α : Type} {xs ys : List α} {m : Nat} (h : xs.length = m) : (xs ++ ys).length = m + ys.length := by rw [List.length_append, h]
theorem le_eq {n m : Nat} (h : n = m) (k : m ≤ SB) : n ≤ SB := h ▸ k
theorem app_lim {α : Type} {xs : List α} {m by' : Nat} (h : xs.length = m) (k : decide ((xs.length + 1) * by' ≤ SB) = true) : (m + 1) * by' ≤ SB := by subst h; exact of_decide_eq_true k
theorem app_le {α : Type} {xs : List α} {m by' : Nat} (h : xs.length = m) (k : decide ((xs.length + 1) * (by' + 1) ≤ SB) = true) : m + 1 ≤ SB := by
  subst h; have := of_decide_eq_true k
  exact Nat.le_trans (Nat.le_mul_of_pos_right _ (Nat.succ_pos _)) this
theorem app_limN {α : Type} {xs ys : List α} {m by' : Nat} (h : xs.length = m) (k : decide ((xs.length + ys.length) * by' ≤ SB) = true) : (m + ys.length) * by' ≤ SB := by subst h; exact of_decide_eq_true k
theorem app_leN {α : Type} {xs ys : List α} {m by' : Nat} (h : xs.length = m) (k : decide ((xs.length + ys.length) * (by' + 1) ≤ SB) = true) : m + ys.length ≤ SB := by
  subst h; have := of_decide_eq_true k
  exact Nat.le_trans (Nat.le_mul_of_pos_right _ (Nat.succ_pos _)) this
theorem EAll.rep {α : Type} {T : Ty α} {G : GH} {c : Value} {x : α} (h : T.rep G [c] x) : ∀ {n : Nat}, EAll T G (List.replicate n c) (List.replicate n x)
  | 0 => rfl
  | n + 1 => ⟨[c], _, rfl, h, EAll.rep h⟩

section
variable {μ : Mode} {P : Program} {n : Nat} {Q : Post} {ρ : Env} {w B : World} {G : GH} {M l1 l2 : List Res} {ops : Array Oper} {rest : List Oper} {d : Nat} {ty : TypeId} {pos : String} {af : Array Edge}
theorem St.cast {M' : List Res} (e : M' = M) (h : St B w G M) : St B w G M' := e ▸ h
theorem St.row_len {v : Value} {e : TypeId} {sz m k : Nat} {cs : List Value} (hm : k = m) (st : St B w G (l1 ++ .row v e sz m cs :: l2)) : St B w G (l1 ++ .row v e sz k cs :: l2) := hm ▸ st
theorem cells_one {v : Value} (h : v.oneCell' = true) : v.cells = [v].toArray := by cases v <;> first | rfl | cases h
/-- A whole array is stored. -/
theorem WL_storeA {t e : TypeId} {x y : Operand} {b by' sz : Nat} {cs : List Value} {vs : List Value} {z : Value} (hi : TI P t true sz by' z) (st : St B w G (l1 ++ .blk b cs e :: l2)) (hx : ev ρ x = .pointer (some ⟨b, 0, none⟩)) (hy : ev ρ y = .agg vs.toArray) (hl : vs.length = sz) (hc : cs.length = sz) (h1 : ∀ v ∈ vs, v.oneCell' = true)
    (h : ∀ w', St B w' G (l1 ++ .blk b vs e :: l2) → WL μ P n ops Q rest ρ w') : WL μ P n ops Q (⟨none, .store t x y, ty, pos, af, none⟩ :: rest) ρ w := by
  refine Jp hi st hx hy hl h1 (by rw [hc, Nat.zero_add]; exact Nat.ble_eq_true_of_le (Nat.le_refl _)) (fun w' hs => h w' ?_)
  have e1 : cs.take 0 ++ vs ++ cs.drop (0 + sz) = vs := by rw [Nat.zero_add, ← hc, List.drop_length]; simp
  rw [e1] at hs; exact hs
theorem St.takeN (k : Nat) (h : St B w G M) : St B w G (M.take k) := h.sub (List.take_sublist _ _)
theorem lies_of {v : Value} {e : TypeId} {sz m : Nat} {cs : List Value} {b c : Nat} (st : St B w G (l1 ++ .row v e sz m cs :: l2)) (hv : v = .slice (some ⟨b, 0, none⟩) m c) : Lies w b 0 cs := by
  have hok : w.ownsRow 0 e sz v m cs := St.mid st
  intro j u hu
  have := hok.cells (g := b) (by rw [hv]; rfl) j u hu
  rwa [addn] at this
theorem Y2 {t yt : TypeId} {x y : Operand} {k : IntKind} {i : Nat} {m : Int} (hd : Nat.blt d n = true) (hx : ev ρ x = .int k (i : Int)) (hy : ev ρ y = .int k 1) (hlt : (i : Int) < m) (hm : InK k m) (h : WL μ P n ops Q rest (upd ρ d (.int k ((i + 1 : Nat) : Int))) w) :
    WL μ P n ops Q (⟨some d, .binOp .add t x y yt, ty, pos, af, none⟩ :: rest) ρ w := by
  refine Yj hd hx hy ?_
  have e : k.wrap ((i : Int) + 1) = ((i + 1 : Nat) : Int) := inK_inc hlt hm
  rw [e]; exact h
theorem WL_strH {t : TypeId} {x y : Operand} {s : ByteArray} {k : IntKind} {l : Int} (ht : P.underlying t = some .string) (hd : Nat.blt d n = true) (hx : ev ρ x = .string s) (hy : ev ρ y = .int k l) (h0 : 0 ≤ l) (h1 : l ≤ (s.size : Int)) (h : WL μ P n ops Q rest (upd ρ d (.string (s.extract 0 l.toNat))) w) :
    WL μ P n ops Q (⟨some d, .slice t x none (some y) none, ty, pos, af, none⟩ :: rest) ρ w :=
  Jz hd (by simp only [execOp, hx, hy, Option.map_some, Option.map_none, Sem.run_bind, run_sliceAt_string (P := P) w t _ _ _ _ ht, run_slice_string_h (P := P) w t s ht k l h0 h1, Result.andThen_ok, Sem.run_pure]) h
theorem run_append_zero {t ty' e : TypeId} {sz m c by' : Nat} {agg : Bool} {z v : Value} {cs : List Value} {a : Option Addr} (ht : P.underlying t = some (.slice e)) (hi : TI P e agg sz by' z) (hok : w.ownsRow 0 e sz v m cs) : (Builtin.append_ #[t, t] ty' #[v, .slice a 0 c]).run P w = .ok v w := by
  obtain ⟨i, hinfo, hisz, hby, hzz⟩ := hi.info
  rcases hok.2 with ⟨rfl, rfl⟩ | ⟨g, cap, cur, rfl, hb, hg, hnc, hcm, hcs, htake⟩
  · cases a <;> simp [Builtin.append_, run_underlying ht, sizeOf, typeInfo, hinfo, Builtin.lenOf, Builtin.firstCells, loadCells, loadCellsFrom]
  · cases a <;> simp [Builtin.append_, run_underlying ht, sizeOf, typeInfo, hinfo, Builtin.lenOf, Builtin.firstCells, loadCells, loadCellsFrom, hnc, storeCells]
/-- 'append' of what lies in a slice that is read. -/
theorem Yf {α : Type} {T : Ty α} {t e : TypeId} {x y : Operand} {by' m : Nat} {agg : Bool} {z v u : Value} {cs : List Value} {xs : List α} (ht : P.underlying t = some (.slice e)) (hi : TI P e agg T.sz by' z) (st : St B w G (l1 ++ .row v e T.sz m cs :: l2)) (hd : Nat.blt d n = true)
    (hx : ev ρ x = v) (hs : SRep e T G u xs) (hy : ev ρ y = u) (hz : z.cells.size = T.sz) (hsz : Nat.blt 0 T.sz = true) (hlim : (m + xs.length) * by' ≤ SB) (hm : m + xs.length ≤ SB)
    (h : ∀ v' w' news, EAll T G news xs → St B w' G (l1 ++ .row v' e T.sz (m + xs.length) (cs ++ news) :: l2) → WL μ P n ops Q rest (upd ρ d v') w') :
    WL μ P n ops Q (⟨some d, .call { callee := .builtin .append, args := #[x, y], argTypes := #[t, t] }, ty, pos, af, none⟩ :: rest) ρ w := by
  obtain ⟨a, k, c, rfl, h2, h3, h4, h5⟩ := hs
  subst h2
  by_cases h0 : 0 < xs.length
  · obtain ⟨b, off, cells, fr, rfl, hG, hfit, hE⟩ := h5 h0
    refine WL_append ht hi hz hsz st hd hx hy hE.len ?_ hE.one hlim hm (fun v' w' hst => h v' w' _ hE hst)
    intro j u hu
    rw [List.getElem?_take] at hu
    split at hu
    · rw [List.getElem?_drop] at hu
      rw [cell_of_row w b (off + j) cells fr.1 fr.2 (st.g _ _ hG)]
      simpa using hu
    · cases hu
  · have hx0 : xs = [] := List.eq_nil_of_length_eq_zero (by omega)
    subst hx0
    refine Jz hd ?_ (h v w [] rfl (by simpa using st))
    have hok : w.ownsRow 0 e T.sz v m cs := St.mid st
    have hr := run_append_zero (ty' := ty) (a := a) (c := c) ht hi hok
    simp only [execOp, resolve, invoke, builtin, Sem.run_bind, Sem.run_pure, Result.andThen_ok, List.map_toArray, List.map_cons, List.map_nil, hx, hy, List.length_nil, hr]
/-- An element of an array in memory. -/
theorem WL_loadArr {α : Type} {T : Ty α} {t e : TypeId} {x : Operand} {b by' i : Nat} {cs : List Value} {xs : List α} {x0 : α} {z : Value} (hi : TI P t false 1 by' z) (hT : T.sz = 1) (st : St B w G (l1 ++ .blk b cs e :: l2)) (hE : EAll T G cs xs) (hd : Nat.blt d n = true) (hx : ev ρ x = .pointer (some ⟨b, i, none⟩)) (hv : idx xs (i : Int) = some x0)
    (h : ∀ c, T.rep G [c] x0 → WL μ P n ops Q rest (upd ρ d c) w) : WL μ P n ops Q (⟨some d, .load t x, ty, pos, af, none⟩ :: rest) ρ w := by
  obtain ⟨h0, h1, h2⟩ := idx_some hv
  have hr := hE.get h2
  simp only [Int.toNat_natCast, hT, Nat.mul_one] at hr
  have hlen := T.len hr
  rw [hT] at hlen
  cases hc : (cs.drop i).take 1 with
  | nil => rw [hc] at hlen; cases hlen
  | cons c l =>
    cases l with
    | cons _ _ => rw [hc] at hlen; simp at hlen
    | nil =>
      rw [hc] at hr
      have hg : cs[i]? = some c := by
        have := congrArg (fun l => l[0]?) hc
        simpa using this
      exact WL_loadB hi st hd hx hg (h c hr)
/-- An element of a row of one's own. -/
theorem WL_loadOwn1 {α : Type} {T : Ty α} {t e : TypeId} {x : Operand} {g m by' : Nat} {i : Int} {v : Value} {cs : List Value} {xs : List α} {x0 : α} {z : Value} (hi : TI P t false 1 by' z) (hT : T.sz = 1) (st : St B w G (l1 ++ .row v e T.sz m cs :: l2)) (hg : v.ownBlock = some g) (hE : EAll T G cs xs) (hd : Nat.blt d n = true) (hx : ev ρ x = .pointer (some ⟨g, i.toNat * T.sz, none⟩)) (hv : idx xs i = some x0)
    (h : ∀ c, T.rep G [c] x0 → WL μ P n ops Q rest (upd ρ d c) w) : WL μ P n ops Q (⟨some d, .load t x, ty, pos, af, none⟩ :: rest) ρ w := by
  obtain ⟨h0, h1, h2⟩ := idx_some hv
  have hr := hE.get h2
  rw [hT, Nat.mul_one] at hr hx
  have hlen := T.len hr
  rw [hT] at hlen
  cases hc : (cs.drop i.toNat).take 1 with
  | nil => rw [hc] at hlen; cases hlen
  | cons c l =>
    cases l with
    | cons _ _ => rw [hc] at hlen; simp at hlen
    | nil =>
      rw [hc] at hr
      have hcell : cs[i.toNat]? = some c := by
        have := congrArg (fun l => l[0]?) hc
        simpa using this
      have hok : w.ownsRow 0 e T.sz v m cs := St.mid st
      have hl := hok.cells hg i.toNat c hcell
      rw [addn, Nat.zero_add] at hl
      refine Y4 (cs := [c]) hi hd hx (fun j u hu => ?_) rfl (h c hr)
      cases j with
      | zero => simp at hu; subst hu; exact hl
      | succ j => simp at hu
theorem WL_indexAE {α : Type} {T : Ty α} {t e : TypeId} {m by' : Nat} {x y : Operand} {cs : List Value} {xs : List α} {k : IntKind} {i : Int} {x0 : α} {z : Value} (ht : P.underlying t = some (.array m e)) (hi : TI P e false 1 by' z) (hT : T.sz = 1) (hd : Nat.blt d n = true) (hx : ev ρ x = .agg cs.toArray) (hy : ev ρ y = .int k i) (hm : cs.length = m) (hE : EAll T G cs xs) (hv : idx xs i = some x0)
    (h : ∀ c, T.rep G [c] x0 → WL μ P n ops Q rest (upd ρ d c) w) : WL μ P n ops Q (⟨some d, .index t x y, ty, pos, af, none⟩ :: rest) ρ w := by
  obtain ⟨h0, h1, h2⟩ := idx_some hv
  have hr := hE.get h2
  rw [hT, Nat.mul_one] at hr
  have hlen := T.len hr
  rw [hT] at hlen
  cases hc : (cs.drop i.toNat).take 1 with
  | nil => rw [hc] at hlen; cases hlen
  | cons c l =>
    cases l with
    | cons _ _ => rw [hc] at hlen; simp at hlen
    | nil =>
      rw [hc] at hr
      have hcell : cs[i.toNat]? = some c := by
        have := congrArg (fun l => l[0]?) hc
        simpa using this
      have hlt := (List.getElem?_eq_some_iff.1 hcell).1
      exact WL_indexA ht hi hd hx hy (by simpa using hm) (v := c) (by unfold idx; rw [if_pos h0]; simpa using hcell) (h c hr)
end
end Go.Proofs.YtnglgjgflohkmaaGreat.Sk
