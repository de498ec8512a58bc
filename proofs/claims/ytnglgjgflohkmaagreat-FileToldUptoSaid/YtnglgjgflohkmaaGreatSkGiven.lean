/- The library's sort and compact, at rows of one's own. No condition. -/
import Derived.Test.YtnglgjgflohkmaaGreatSkStr
import Derived.Test.YtnglgjgflohkmaaGreatSkShelf
import Derived.Sort.OwnSortedInts
import Derived.Lib.RowBridge
namespace Go.Proofs.YtnglgjgflohkmaaGreat.Sk
open Go Go.Sort Go.Proofs
set_option linter.unusedVariables false
set_option linter.unusedSimpArgs false
set_option linter.unusedVariables false
def insI (x : Int) : List Int → List Int
  | [] => [x]
  | y :: l => if x ≤ y then x :: y :: l else y :: insI x l
def isort : List Int → List Int
  | [] => []
  | x :: l => insI x (isort l)
theorem insI_perm (x : Int) : ∀ l : List Int, (insI x l).Perm (x :: l)
  | [] => List.Perm.refl _
  | y :: l => by
    unfold insI
    split
    · exact List.Perm.refl _
    · exact ((insI_perm x l).cons y).trans (List.Perm.swap x y l)
theorem isort_perm : ∀ l : List Int, (isort l).Perm l
  | [] => List.Perm.refl _
  | x :: l => (insI_perm x (isort l)).trans ((isort_perm l).cons x)
theorem insI_sorted (x : Int) : ∀ l : List Int, l.Pairwise (· ≤ ·) → (insI x l).Pairwise (· ≤ ·)
  | [], _ => by simp [insI]
  | y :: l, h => by
    have h1 := List.pairwise_cons.1 h
    unfold insI
    split
    · rename_i hxy
      exact List.pairwise_cons.2 ⟨fun z hz => by
        rcases List.mem_cons.1 hz with rfl | hz
        · exact hxy
        · exact Int.le_trans hxy (h1.1 z hz), h⟩
    · refine List.pairwise_cons.2 ⟨fun z hz => ?_, insI_sorted x l h1.2⟩
      rcases List.mem_cons.1 ((insI_perm x l).mem_iff.1 hz) with rfl | hz
      · omega
      · exact h1.1 z hz
theorem isort_sorted : ∀ l : List Int, (isort l).Pairwise (· ≤ ·)
  | [] => List.Pairwise.nil
  | x :: l => insI_sorted x _ (isort_sorted l)
theorem sorted_unique : ∀ {a b : List Int}, a.Perm b → a.Pairwise (· ≤ ·) → b.Pairwise (· ≤ ·) → a = b
  | [], b, p, _, _ => by simpa using p.nil_eq
  | x :: a, [], p, _, _ => by simpa using p.length_eq
  | x :: a, y :: b, p, ha, hb => by
    have ha1 := List.pairwise_cons.1 ha
    have hb1 := List.pairwise_cons.1 hb
    have hxy : x = y := by
      have hx : x ∈ y :: b := p.mem_iff.1 (List.mem_cons_self ..)
      have hy : y ∈ x :: a := p.mem_iff.2 (List.mem_cons_self ..)
      rcases List.mem_cons.1 hx with h | h
      · exact h
      · rcases List.mem_cons.1 hy with h' | h'
        · exact h'.symm
        · have := hb1.1 x h
          have := ha1.1 y h'
          omega
    subst hxy
    rw [sorted_unique (p.cons_inv) ha1.2 hb1.2]
theorem isort_eq (xs : List Int) : (xs.mergeSort fun x y => decide (x ≤ y)) = isort xs := by
  refine sorted_unique ((List.mergeSort_perm xs _).trans (isort_perm xs).symm) ?_ (isort_sorted xs)
  have := List.pairwise_mergeSort (le := fun x y : Int => decide (x ≤ y)) (fun a b c h1 h2 => by simp at *; omega) (fun a b => by simp; omega) xs
  exact this.imp (fun h => by simpa using h)
theorem isort_len (xs : List Int) : (isort xs).length = xs.length := (isort_perm xs).length_eq
theorem isort_inK {k : IntKind} {xs : List Int} (h : ∀ x ∈ xs, InK k x) : ∀ x ∈ isort xs, InK k x := fun x hx => h x ((isort_perm xs).mem_iff.1 hx)
theorem compact_mem {xs : List Int} {x : Int} (h : x ∈ Lib.compact xs) : x ∈ xs := by
  simp only [Lib.compact, Lib.compactUpTo, List.mem_map, List.mem_filter, List.mem_range] at h
  obtain ⟨i, ⟨hi, _⟩, rfl⟩ := h
  simp [hi]
theorem putRow_st {B w : World} {G : GH} {g cap n : Nat} {e : TypeId} {cs : List Value} {ys : List Int} {cu : Array Value} {os : Array Obj} (st : St B w G [.row (.slice (some ⟨g, 0, none⟩) ys.length cap) e 1 ys.length cs])
    (hb : w.heap[g]? = some (.cells cu e (0, 0))) (h1 : ys.length ≤ cap) (h2 : cap ≤ maxLen) (h3 : cu.size = cap * 1) :
    St B (grow (putRow (Value.int .i64) (Sort.ahead w n) g 0 ys.toArray) os) G [.row (.slice (some ⟨g, 0, none⟩) ys.length cap) e 1 ys.length (ys.map (Value.int .i64))] := by
  refine st.step (w' := grow (putRow (Value.int .i64) (Sort.ahead w n) g 0 ys.toArray) os) (grownBy_sortedI (os := os) ys.toArray) (ownsRow_sortedI (ss := ys) rfl (Nat.zero_le _) hb h1 h2 h3) (fun b hb' => .inl ?_)
  simpa [Res.key, Value.ownBlock] using hb'
theorem sort_ok {B w : World} {G : GH} {v : Value} {cs : List Value} {xs : List Int} (st : St B w G [.row v 3 1 xs.length cs]) (hE : EAll (tInt .i64) G cs xs) (hle : xs.length ≤ SB) :
    Calls Tryz.prog 274 #[v] w (Ret B G fun G' v' N' => ∃ cs', v' = .tuple #[] ∧ N' = [.row v 3 1 (isort xs).length cs'] ∧ EAll (tInt .i64) G' cs' (isort xs) ∧ (isort xs).length ≤ SB) := by
  have hok : w.ownsRow 0 3 1 v xs.length cs := St.mid (l1 := []) st
  have hin := hE.inK
  rw [isort_len]
  rcases hok.2 with ⟨rfl, h0⟩ | ⟨g, cap, cur, rfl, hb, hg, hnc, hcm, hcs, htake⟩
  · have : xs = [] := List.eq_nil_of_length_eq_zero h0
    subst this
    refine (Tryz.slices_Sort_int_none none 0 w).mono ?_
    rintro e w' ⟨rfl, rfl⟩
    have hc0 : cs = [] := hE
    subst hc0
    exact ⟨_, G, _, rfl, Ext.refl G, st, [], rfl, rfl, rfl, hle⟩
  · have hcs' := hE.ints
    have ht : cur.toList.take xs.length = xs.map (Value.int .i64) := by rw [← hcs', ← htake, Nat.mul_one]
    refine (Tryz.slices_Sort_int g 0 cap xs w (holds_of_blockI hg ht) (Array.getElem?_eq_some_iff.1 hg).1 (by unfold SB at hle; omega)).mono ?_
    rintro e w' ⟨rfl, q, os, rfl⟩
    rw [isort_eq]
    have hl : (isort xs).length = xs.length := isort_len xs
    have st' : St B w G [.row (.slice (some ⟨g, 0, none⟩) (isort xs).length cap) 3 1 (isort xs).length cs] := by rw [hl]; exact st
    have st2 := putRow_st (n := q) (os := os) st' hg (by omega) hcm hcs
    rw [hl] at st2
    exact ⟨_, G, _, rfl, Ext.refl G, st2, _, rfl, rfl, EAll.of_ints (isort_inK hin), hle⟩
theorem compact_ok {B w : World} {G : GH} {v : Value} {cs : List Value} {xs : List Int} (st : St B w G [.row v 3 1 xs.length cs]) (hE : EAll (tInt .i64) G cs xs) (hle : xs.length ≤ SB) :
    Calls Tryz.prog 275 #[v] w (Ret B G fun G' v' N' => ∃ cs', N' = [.row v' 3 1 (Lib.compact xs).length cs'] ∧ EAll (tInt .i64) G' cs' (Lib.compact xs) ∧ (Lib.compact xs).length ≤ SB) := by
  have hok : w.ownsRow 0 3 1 v xs.length cs := St.mid (l1 := []) st
  have hin := hE.inK
  have hlc : (Lib.compact xs).length ≤ xs.length := Lib.compact_length_le xs
  rcases hok.2 with ⟨rfl, h0⟩ | ⟨g, cap, cur, rfl, hb, hg, hnc, hcm, hcs, htake⟩
  · have : xs = [] := List.eq_nil_of_length_eq_zero h0
    subst this
    refine (Tryz.slices_Compact_int_empty none 0 w).mono ?_
    rintro e w' ⟨rfl, rfl⟩
    have hc0 : cs = [] := hE
    subst hc0
    exact ⟨_, G, _, rfl, Ext.refl G, st, [], rfl, rfl, hle⟩
  · have hcs' := hE.ints
    have ht : cur.toList.take xs.length = xs.map (Value.int .i64) := by rw [← hcs', ← htake, Nat.mul_one]
    refine (Tryz.slices_Compact_int g 0 cap xs w (holds_of_blockI hg ht) (by unfold SB at hle; omega) hnc).mono ?_
    rintro e w' ⟨rfl, q, rfl⟩
    have hl : (Lib.compact xs ++ List.replicate (xs.length - (Lib.compact xs).length) 0).length = xs.length := by simp; omega
    have st' : St B w G [.row (.slice (some ⟨g, 0, none⟩) (Lib.compact xs ++ List.replicate (xs.length - (Lib.compact xs).length) 0).length cap) 3 1 (Lib.compact xs ++ List.replicate (xs.length - (Lib.compact xs).length) 0).length cs] := by rw [hl]; exact st
    have st2 := putRow_st (n := q) (os := #[]) st' hg (by omega) hcm hcs
    rw [grow_empty] at st2
    have hok2 : World.ownsRow _ 0 3 1 _ _ _ := St.mid (l1 := []) st2
    refine ⟨_, G, [.row (.slice (some ⟨g, 0, none⟩) (Lib.compact xs).length cap) 3 1 (Lib.compact xs).length ((Lib.compact xs).map (Value.int .i64))], rfl, Ext.refl G, st2.stepAt (l1 := []) ⟨rfl, rfl, rfl, Nat.le_refl _, fun _ _ _ => rfl⟩ ?_ (fun b hb => .inl hb), _, rfl, EAll.of_ints (fun x hx => hin x (compact_mem hx)), by omega⟩
    rcases hok2.2 with ⟨h0, _⟩ | ⟨g', cap', cur', e1, hb', hg', hnc', hcm', hcs2, htake'⟩
    · cases h0
    · cases e1
      refine ⟨by simp, .inr ⟨g, cap, cur', rfl, Nat.zero_le _, hg', by omega, hcm', hcs2, ?_⟩⟩
      rw [Nat.mul_one] at htake'
      rw [Nat.mul_one]
      have h7 := congrArg (List.take (Lib.compact xs).length) htake'
      rw [List.take_take, Nat.min_eq_left (by omega), List.map_append] at h7
      rw [h7]
      simp
end Go.Proofs.YtnglgjgflohkmaaGreat.Sk
