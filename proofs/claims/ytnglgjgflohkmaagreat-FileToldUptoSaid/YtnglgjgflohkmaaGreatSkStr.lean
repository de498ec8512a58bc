/- Ranges over strings, code points, slices of arrays in memory. No condition. -/
import Derived.Test.YtnglgjgflohkmaaGreatSkRange
import Derived.Test.YtnglgjgflohkmaaGreatSkMap
import Derived.Laws.RangeAny
import Derived.Laws.IdiomStrings
namespace Go.Proofs.YtnglgjgflohkmaaGreat.Sk
open Go
set_option linter.unusedVariables false
set_option linter.unusedSimpArgs false
set_option linter.unusedVariables false

def dec (s : ByteArray) (i : Nat) : Nat × Nat := Utf8.decode s i
theorem inK_dec (s : ByteArray) (i : Nat) : InK .i32 (((dec s i).1 : Nat) : Int) := by
  rw [inK_iff]; have := decode_le s i; simp only [kmin, kmax]; unfold dec; omega
theorem inK_pos {s : ByteArray} {i : Nat} (hs : s.size ≤ SB) (h : decide (i < s.size) = true) : InK .i64 (i : Int) := inK_len (by have := of_decide_eq_true h; omega)
/-- A string's code points. -/
def runesF (s : ByteArray) : Nat → Nat → List Int
  | 0, _ => []
  | b + 1, i => bif decide (i < s.size) then (((dec s i).1 : Nat) : Int) :: runesF s b (i + (dec s i).2) else []
def runes (s : ByteArray) : List Int := runesF s s.size 0
theorem runesF_len (s : ByteArray) : ∀ b i, (runesF s b i).length ≤ b
  | 0, _ => Nat.le_refl _
  | b + 1, i => by
    unfold runesF
    cases decide (i < s.size) with
    | true => simp only [cond_true, List.length_cons]; have := runesF_len s b (i + (dec s i).2); omega
    | false => simp
theorem runesF_eq (s : ByteArray) : ∀ b i acc, (Conv.runesFrom s b i acc).toList = acc.toList ++ (runesF s b i).map (Value.int .i32)
  | 0, i, acc => by simp [Conv.runesFrom, runesF]
  | b + 1, i, acc => by
    unfold Conv.runesFrom runesF
    by_cases h : i < s.size
    · simp only [h, if_true, decide_true, cond_true, List.map_cons]
      rw [runesF_eq s b]
      simp [dec]
    · simp only [h, if_false, decide_false, cond_false, List.map_nil, List.append_nil]
theorem EAll.of_ints {k : IntKind} {G : GH} : ∀ {xs : List Int}, (∀ x ∈ xs, InK k x) → EAll (tInt k) G (xs.map (Value.int k)) xs
  | [], _ => rfl
  | x :: xs, h => ⟨[.int k x], _, rfl, ⟨rfl, h x (List.mem_cons_self ..)⟩, EAll.of_ints fun y hy => h y (List.mem_cons_of_mem _ hy)⟩
theorem runesF_in (s : ByteArray) : ∀ b i, ∀ x ∈ runesF s b i, InK .i32 x
  | 0, _, _, h => by cases h
  | b + 1, i, x, h => by
    unfold runesF at h
    cases hc : decide (i < s.size) with
    | true =>
      rw [hc] at h
      simp only [cond_true, List.mem_cons] at h
      rcases h with rfl | h
      · exact inK_dec s i
      · exact runesF_in s b _ x h
    | false => rw [hc] at h; cases h

section
variable {μ : Mode} {P : Program} {n : Nat} {Q : Post} {ρ : Env} {w B : World} {G : GH} {M l1 l2 : List Res} {ops : Array Oper} {rest : List Oper} {d : Nat} {ty : TypeId} {pos : String} {af : Array Edge}
theorem WL_rangeS {t : TypeId} {x : Operand} {s : ByteArray} (ht : P.underlying t = some .string) (st : St B w G M) (hd : Nat.blt d n = true) (hx : ev ρ x = .string s)
    (h : ∀ b w', St B w' G (.obj b (.stringIter s 0) :: M) → WL μ P n ops Q rest (upd ρ d (.pointer (some ⟨b, 0, none⟩))) w') : WL μ P n ops Q (⟨some d, .range t x, ty, pos, af, none⟩ :: rest) ρ w := by
  refine Jz (w' := w.iter s 0) hd ?_ (h w.heap.size _ (st.push (World.grownBy_alloc w _ none) (heap_alloc_new w _) (fun b hb => by cases hb; exact Nat.le_refl _)))
  simp only [execOp, Sem.run_bind, hx, run_range_string w t s ht, Result.andThen_ok, Sem.run_pure]
theorem WL_nextT {x : Operand} {s : ByteArray} {b i : Nat} (st : St B w G (l1 ++ .obj b (.stringIter s i) :: l2)) (hd : Nat.blt d n = true) (hx : ev ρ x = .pointer (some ⟨b, 0, none⟩)) (hi : decide (i < s.size) = true)
    (h : ∀ w', St B w' G (l1 ++ .obj b (.stringIter s (i + (dec s i).2)) :: l2) → WL μ P n ops Q rest (upd ρ d (.tuple #[.bool true, .int .i64 (i : Int), .int .i32 (((dec s i).1 : Nat) : Int)])) w') : WL μ P n ops Q (⟨some d, .next x true, ty, pos, af, none⟩ :: rest) ρ w := by
  have hb : w.heap[b]? = some (.stringIter s i) := St.mid st
  have hlt := of_decide_eq_true hi
  refine Jz (w' := w.putObj b (.stringIter s (i + (dec s i).2))) hd ?_ (h _ (st.putObj _))
  have hg : (getObj b).run P w = .ok (.stringIter s i) w := by simp [getObj, Sem.run, hb]
  have hs : ∀ o, (setObj b o).run P w = .ok () (w.putObj b o) := fun o => by simp [setObj, Sem.run, hb, World.putObj]
  simp only [execOp, Sem.run_bind, hx, Instr.next, hg, Result.andThen_ok, hlt, if_true, hs, Sem.run_pure]
  rfl
theorem WL_nextF {x : Operand} {s : ByteArray} {b i : Nat} (st : St B w G (l1 ++ .obj b (.stringIter s i) :: l2)) (hd : Nat.blt d n = true) (hx : ev ρ x = .pointer (some ⟨b, 0, none⟩)) (hi : decide (i < s.size) = false)
    (h : WL μ P n ops Q rest (upd ρ d (.tuple #[.bool false])) w) : WL μ P n ops Q (⟨some d, .next x true, ty, pos, af, none⟩ :: rest) ρ w := by
  have hb : w.heap[b]? = some (.stringIter s i) := St.mid st
  have hlt := of_decide_eq_false hi
  refine Jz hd ?_ h
  have hg : (getObj b).run P w = .ok (.stringIter s i) w := by simp [getObj, Sem.run, hb]
  simp only [execOp, Sem.run_bind, hx, Instr.next, hg, Result.andThen_ok, hlt, if_false, Sem.run_pure]
/-- '[]rune(s)'. -/
theorem WL_convSR {s t e : TypeId} {x : Operand} {a : ByteArray} (hs : P.underlying s = some .string) (ht : P.underlying t = some (.slice e)) (he : P.underlying e = some (.int .i32)) (st : St B w G M)
    (hd : Nat.blt d n = true) (hx : ev ρ x = .string a) (hl : decide (a.size ≤ 70368744177664) = true) (h : ∀ v w' G', Ext G G' → SRep e (tInt .i32) G' v (runes a) → St B w' G' M → WL μ P n ops Q rest (upd ρ d v) w') : WL μ P n ops Q (⟨some d, .convert s t x, ty, pos, af, none⟩ :: rest) ρ w := by
  have hl' := of_decide_eq_true hl
  have hle : (Conv.runesFrom a a.size 0 #[]).size ≤ 70368744177664 := by have := size_runesFrom a a.size 0 #[]; simp at this; omega
  have hrl : (Conv.runesFrom a a.size 0 #[]).toList = (runes a).map (Value.int .i32) := by rw [runesF_eq]; rfl
  have hsz : (Conv.runesFrom a a.size 0 #[]).size = (runes a).length := by rw [← Array.length_toList, hrl, List.length_map]
  have hrun := run_runes_of_string (P := P) w s t e a hs ht he hle
  generalize hcs : (Conv.runesFrom a a.size 0 #[] ++ Array.replicate (grownCap w (Conv.runesFrom a a.size 0 #[]).size 0 e - (Conv.runesFrom a a.size 0 #[]).size) (Value.int .i32 0)) = cs at hrun
  have hnew := heap_alloc_new w.drew (.cells cs e)
  have hz : w.drew.heap.size = w.heap.size := rfl
  rw [hz] at hnew
  have st1 : St B w.drew G M := st.drew
  have st2 := st1.push (r' := .obj w.heap.size (.cells cs e)) (World.grownBy_alloc w.drew _ none) hnew (fun b hb => by cases hb; exact Nat.le_refl _)
  obtain ⟨G', s1, s2, s3⟩ := st2.freeze
  have hcl : cs.toList.take (runes a).length = (runes a).map (Value.int .i32) := by
    rw [← hcs, Array.toList_append, ← hsz, List.take_left' (by rw [Array.length_toList]), hrl]
  refine Jz hd ?_ (h _ _ G' s2 ⟨_, (runes a).length, grownCap w (Conv.runesFrom a a.size 0 #[]).size 0 e, rfl, rfl, by rw [← hsz]; exact grownCap_ge .., ?_, fun h0 => ⟨w.heap.size, 0, _, (e, _), rfl, s3 _ _ rfl hnew, ?_, ?_⟩⟩ s1)
  · simp only [execOp, Sem.run_bind, hx, hrun, Result.andThen_ok, Sem.run_pure, hsz]
  · have := runesF_len a a.size 0
    unfold runes SB; omega
  · have h1 : (tInt .i32).sz = 1 := rfl
    rw [h1, Nat.mul_one, Nat.zero_add, ← hcs, Array.size_append, hsz]; exact Nat.le_add_right _ _
  · have : (tInt .i32).sz = 1 := rfl
    rw [this, Nat.mul_one, List.drop_zero, hcl]
    exact EAll.of_ints (runesF_in a a.size 0)
/-- An array in memory that is only read. -/
def EArr {α : Type} (T : Ty α) (G : GH) (b : Nat) (xs : List α) : Prop := ∃ cs e fr, G b = some (true, .cells cs e fr) ∧ EAll T G cs.toList xs
theorem EArr.mono {α : Type} {T : Ty α} {G G' : GH} {b : Nat} {xs : List α} (hr : RoLe G G') (h : EArr T G b xs) : EArr T G' b xs := by
  obtain ⟨cs, e, fr, h1, h2⟩ := h
  exact ⟨cs, e, fr, hr _ _ rfl h1, h2.mono hr⟩
theorem WL_loadG {α : Type} {T : Ty α} {t : TypeId} {x : Operand} {b by' i : Nat} {xs : List α} {x0 : α} {z : Value} (hi : TI P t false 1 by' z) (hT : T.sz = 1) (st : St B w G M) (hA : EArr T G b xs) (hd : Nat.blt d n = true) (hx : ev ρ x = .pointer (some ⟨b, i, none⟩)) (hv : idx xs (i : Int) = some x0)
    (h : ∀ c, T.rep G [c] x0 → WL μ P n ops Q rest (upd ρ d c) w) : WL μ P n ops Q (⟨some d, .load t x, ty, pos, af, none⟩ :: rest) ρ w := by
  obtain ⟨cs, e, fr, hG, hE⟩ := hA
  obtain ⟨h0, h1, h2⟩ := idx_some hv
  have hr := hE.get h2
  simp only [Int.toNat_natCast, hT, Nat.mul_one] at hr
  have hlen := T.len hr
  rw [hT] at hlen
  cases hc : (cs.toList.drop i).take 1 with
  | nil => rw [hc] at hlen; cases hlen
  | cons c l =>
    cases l with
    | cons _ _ => rw [hc] at hlen; simp at hlen
    | nil =>
      rw [hc] at hr
      have hg : cs[i]? = some c := by
        have := congrArg (fun l => l[0]?) hc
        simpa using this
      refine Y4 (cs := [c]) hi hd hx (fun j u hu => ?_) rfl (h c hr)
      cases j with
      | zero => simp at hu; subst hu; rw [cell_of_row w b (i + 0) cs e fr (st.g _ _ hG)]; exact hg
      | succ j => simp at hu
/-- A slice of an array in memory, which is from now on only read. -/
theorem WL_sliceArr {α : Type} {T : Ty α} {t e : TypeId} {m b by' l h : Nat} {agg : Bool} {z : Value} {x : Operand} {lo hi : Option Operand} {cs : List Value} {xs : List α} {t0 : TypeId}
    (ht : P.underlying t = some (.array m e)) (hti : TI P e agg T.sz by' z) (st : St B w G (l1 ++ .blk b cs t0 :: l2)) (hE : EAll T G cs xs) (hm : xs.length = m) (hd : Nat.blt d n = true) (hx : ev ρ x = .pointer (some ⟨b, 0, none⟩))
    (hb : (Instr.sliceBounds false m m (lo.map (ev ρ)) (hi.map (ev ρ)) none).run P w = .ok (l, h, m) w) (h0 : l ≤ h) (h1 : h ≤ m) (hSB : Nat.ble m SB = true)
    (hk : ∀ v G', Ext G G' → SRep e T G' v ((xs.drop l).take (h - l)) → EArr T G' b xs → St B w G' (l1 ++ l2) → WL μ P n ops Q rest (upd ρ d v) w) : WL μ P n ops Q (⟨some d, .slice t x lo hi none, ty, pos, af, none⟩ :: rest) ρ w := by
  have hSB' := Nat.le_of_ble_eq_true hSB
  have hok : w.heap[b]? = some (.cells cs.toArray t0 (0, 0)) := St.mid st
  obtain ⟨G', s1, s2, s3⟩ := st.freezeAt
  have hG := s3 b _ rfl hok
  have hlen := hE.len
  have hadd : (⟨b, 0, none⟩ : Addr).add (l * T.sz) = ⟨b, l * T.sz, none⟩ := by rw [addn, Nat.zero_add]
  refine Jz hd ?_ (hk (.slice (some (if m = l then ⟨b, 0, none⟩ else ⟨b, l * T.sz, none⟩)) (h - l) (m - l)) G' s2 ⟨_, h - l, m - l, rfl, by simp; omega, by omega, by omega, fun hn => ⟨b, l * T.sz, cs.toArray, (t0, (0, 0)), ?_, hG, ?_, ?_⟩⟩ ⟨cs.toArray, t0, (0, 0), hG, by simpa using hE.mono s2.ro⟩ s1)
  · simp only [execOp, Sem.run_bind, hx, Instr.sliceAt, run_underlying ht, Result.andThen_ok, Instr.sureAddr, hb, Option.map_none, sizeOf_run hti, Sem.run_pure, hadd]
  · have hne : ¬ m = l := by omega
    simp [hne]
  · have : (h - l) * T.sz + l * T.sz ≤ xs.length * T.sz := by rw [← Nat.add_mul]; exact Nat.mul_le_mul_right _ (by omega)
    simp only [List.size_toArray]
    omega
  · have h6 := (hE.drop l).take (h - l)
    have e1 : (cs.drop (l * T.sz)).take ((h - l) * T.sz) = ((cs.toArray).toList.drop (l * T.sz)).take ((h - l) * T.sz) := by simp
    rw [e1] at h6
    exact h6.mono s2.ro
theorem sbL {m l : Nat} {k : IntKind} {i : Int} (hi : (decide (0 ≤ i) && decide (i ≤ (m : Int))) = true) (hl : l = i.toNat) (w : World) : (Instr.sliceBounds false m m (some (.int k i)) none none).run P w = .ok (l, m, m) w := by
  rw [Bool.and_eq_true] at hi
  have h1 := of_decide_eq_true hi.1
  have h2 := of_decide_eq_true hi.2
  subst hl
  simp [Instr.sliceBounds, Instr.sliceBound, asIntOf, h1, h2]
theorem sbLH {m l h : Nat} {k j : IntKind} {i u : Int} (hi : (decide (0 ≤ i) && (decide (i ≤ u) && decide (u ≤ (m : Int)))) = true) (hl : l = i.toNat) (hh : h = u.toNat) (w : World) : (Instr.sliceBounds false m m (some (.int k i)) (some (.int j u)) none).run P w = .ok (l, h, m) w := by
  rw [Bool.and_eq_true, Bool.and_eq_true] at hi
  have h1 := of_decide_eq_true hi.1
  have h2 := of_decide_eq_true hi.2.1
  have h3 := of_decide_eq_true hi.2.2
  subst hl hh
  have h5 : 0 ≤ u := by omega
  have h4 : i ≤ max u 0 := by omega
  simp [Instr.sliceBounds, Instr.sliceBound, asIntOf, h1, h3, h4, h5]
theorem arr_len {α : Type} {T : Ty α} {cs : List Value} {xs : List α} {N : Nat} (hl : cs.length = N) (hE : EAll T G cs xs) (hT : T.sz = 1 := by rfl) : xs.length = N := by
  have h1 := hE.len
  rw [hT, Nat.mul_one, hl] at h1
  omega
end
end Go.Proofs.YtnglgjgflohkmaaGreat.Sk
