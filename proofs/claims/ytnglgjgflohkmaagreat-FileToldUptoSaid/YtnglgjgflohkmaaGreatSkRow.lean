/- What a row's reading says of data, as the walks have it. No condition. -/
import Derived.Test.YtnglgjgflohkmaaGreatSkStr
import Derived.Test.YtnglgjgflohkmaaGreatRows
import Derived.WalkKit
import Derived.ProofKit
import Derived.OpenShut
import Derived.JoinedCond
import Derived.ChangeOld
import Derived.Below
import Derived.Carry
import Derived.ShutString
import Derived.Deep.Slices
import Derived.Deep.Fields
namespace Go.Proofs.YtnglgjgflohkmaaGreat.Sk
open Go Go.RowKit
set_option linter.unusedVariables false
set_option linter.unusedSimpArgs false
set_option linter.unusedVariables false

/-- The whole heap, that may be relied on for ever. -/
def Gw (w : World) : GH := fun b => (w.heap[b]?).map fun o => (true, o)
theorem St.whole (w : World) : St w w (Gw w) [] where
  os := rfl
  tape := rfl
  output := rfl
  g := fun b x h => by
    obtain ⟨o, ho, rfl⟩ := Option.map_eq_some_iff.1 h
    exact ho
  m := fun r h => nomatch h
  d := fun r h => nomatch h
  n := List.Pairwise.nil
theorem St.below {w w' : World} {G : GH} {N : List Res} (h : Ext (Gw w) G) (st : St w w' G N) : Below w.heap.size w w' := by
  have hb : ∀ k, k < w.heap.size → w'.heap[k]? = w.heap[k]? := fun k hk => by
    have h1 : w.heap[k]? = some w.heap[k] := Array.getElem?_eq_getElem hk
    rw [h1]
    exact st.g k (true, w.heap[k]) (h k _ (by unfold Gw; rw [h1]; rfl))
  refine ⟨st.os, st.tape, st.output, ?_, hb⟩
  rcases Nat.eq_zero_or_pos w.heap.size with h0 | h0
  · omega
  · have := hb (w.heap.size - 1) (by omega)
    rw [Array.getElem?_eq_getElem (show w.heap.size - 1 < w.heap.size by omega)] at this
    have := (Array.getElem?_eq_some_iff.1 this).1
    omega

section
def Read {H : Type} (enc : TypeId × Value → H) (P : Program) (w : World) (t : TypeId) (cs : List Value) (d : DataW H) : Prop := ∃ n ps, DataW.trod enc P w 0 (fun _ => true) true n t cs = some (d, ps)
/-- What is read at a type is data of a codec, and small. -/
def Rd {α : Type} (P : Program) (t : TypeId) (T : Ty α) (Q : α → Prop) : Prop :=
  ∀ (H : Type) (enc : TypeId × Value → H) (w : World) (cs : List Value) (d : DataW H), Read enc P w t cs d → Rows.uptoBulk d ≤ 1048576 → ∃ a, T.rep (Gw w) cs a ∧ Q a
variable {P : Program} {t e : TypeId}
theorem rd_int {k : IntKind} (ht : P.underlying t = some (.int k)) {H : Type} {enc : TypeId × Value → H} {w : World} {cs : List Value} {d : DataW H} (h : Read enc P w t cs d) : ∃ n, cs = [.int k n] ∧ InK k n := by
  obtain ⟨n, ps, h⟩ := h
  obtain ⟨z, rfl, _, hw⟩ := DataW.trod_int ht h
  refine ⟨z, rfl, ?_⟩
  rw [inK_iff]
  simp only [Lit.wf, Bool.and_eq_true, decide_eq_true_eq] at hw
  cases k <;> simpa [IntKind.min, IntKind.max, IntKind.signed, IntKind.bits, kmin, kmax] using hw
theorem rd_bool (ht : P.underlying t = some .bool) {H : Type} {enc : TypeId × Value → H} {w : World} {cs : List Value} {d : DataW H} (h : Read enc P w t cs d) : ∃ b, cs = [.bool b] := by
  obtain ⟨n, ps, h⟩ := h
  obtain ⟨b, rfl, _⟩ := DataW.trod_bool ht h
  exact ⟨b, rfl⟩
theorem rd_string (ht : P.underlying t = some .string) {H : Type} {enc : TypeId × Value → H} {w : World} {cs : List Value} {d : DataW H} (h : Read enc P w t cs d) (hb : Rows.uptoBulk d ≤ 1048576) : ∃ s : ByteArray, cs = [.string s] ∧ s.size ≤ 1048576 := by
  obtain ⟨n, ps, h⟩ := h
  obtain ⟨s, rfl, e, _⟩ := DataW.trod_string ht h
  cases e
  refine ⟨s, rfl, ?_⟩
  have h1 : Rows.uptoBulk (DataW.lit (H := H) (.string s.data.toList)) = s.data.toList.length + 1 := by simp [Rows.uptoBulk]
  have h2 : s.size = s.data.toList.length := by rw [Array.length_toList]; rfl
  rw [h1] at hb
  omega
theorem bulk_pos {H : Type} (d : DataW H) : 1 ≤ Rows.uptoBulk d := by
  cases d with
  | lit l => cases l <;> simp [Rows.uptoBulk]
  | _ => simp [Rows.uptoBulk]
theorem bulk_part {H : Type} {d : DataW H} {l : List (DataW H)} (h : d ∈ l) : Rows.uptoBulk d ≤ Rows.uptoBulkAll l := by
  induction l with
  | nil => cases h
  | cons x r ih =>
    simp only [Rows.uptoBulkAll]
    rcases List.mem_cons.1 h with rfl | e
    · omega
    · have := ih e; omega
theorem bulk_length {H : Type} (l : List (DataW H)) : l.length ≤ Rows.uptoBulkAll l := by
  induction l with
  | nil => simp [Rows.uptoBulkAll]
  | cons x r ih => have := bulk_pos x; simp only [Rows.uptoBulkAll, List.length_cons]; omega
theorem heap_of_cell {w : World} {a : Addr} {v : Value} (h : w.cell? a = some v) : ∃ c e' fr, w.heap[a.block]? = some (.cells c e' fr) ∧ c[a.off]? = some v ∧ a.spot = none := by
  have hs := World.cell?_spot h
  unfold World.cell? at h
  split at h
  · rename_i c e' fr hb
    rw [hs] at h
    exact ⟨c, e', fr, hb, by simpa using h, hs⟩
  · cases h
theorem rd_slice {α : Type} {T : Ty α} {Q : α → Prop} (ht : P.underlying t = some (.slice e)) (hz : P.cellsOf e = T.sz) (hp : 0 < T.sz) (he : Rd P e T Q)
    {H : Type} {enc : TypeId × Value → H} {w : World} {cs : List Value} {d : DataW H} (h : Read enc P w t cs d) (hb : Rows.uptoBulk d ≤ 1048576) : ∃ v xs, cs = [v] ∧ SRep e T (Gw w) v xs ∧ xs.length ≤ 1048576 ∧ ∀ x ∈ xs, Q x := by
  obtain ⟨n0, ps, h⟩ := h
  rcases Go.Deep.open_slice ht h with ⟨rfl, _⟩ | ⟨a, len, cap, m, n, D, Pl, rfl, _, hl, hm, hmm, hx, hel⟩
  · exact ⟨_, [], rfl, SRep.nil, Nat.zero_le _, fun x hx => nomatch hx⟩
  have hmc : m = cap := by simpa using hmm
  subst hmc
  have hd : d = .slice ((List.range len).map D) ((List.range (m - len)).map fun j => D (len + j)) := congrArg Prod.fst hx
  have hbd : Rows.uptoBulkAll ((List.range len).map D) ≤ 1048576 := by
    rw [hd] at hb
    simp only [Rows.uptoBulk] at hb
    omega
  have hlen : len ≤ 1048576 := by
    have := bulk_length ((List.range len).map D)
    simp at this
    omega
  have hi : ∀ i, i < len → ∃ cs' x, w.cells? 0 (a.add (i * T.sz)) T.sz = some cs' ∧ T.rep (Gw w) cs' x ∧ Q x := fun i hi => by
    obtain ⟨cs', h1, h2⟩ := hel i (by omega)
    rw [hz] at h1
    obtain ⟨x, h3, h4⟩ := he H enc w cs' (D i) ⟨n, Pl i, h2⟩ (Nat.le_trans (bulk_part (List.mem_map.2 ⟨i, List.mem_range.2 hi, rfl⟩)) hbd)
    exact ⟨cs', x, h1, h3, h4⟩
  -- the elements, as a list
  have hk : ∀ k, k ≤ len → ∃ (ccs : List Value) (xs : List α), xs.length = k ∧ ccs.length = k * T.sz ∧ EAll T (Gw w) ccs xs ∧ (∀ x ∈ xs, Q x) ∧ ∀ j, j < k * T.sz → w.cell? (a.add j) = ccs[j]? := by
    intro k
    induction k with
    | zero => exact fun _ => ⟨[], [], rfl, by simp, rfl, (fun x hx => nomatch hx), fun j hj => by omega⟩
    | succ k ih =>
      intro hk
      obtain ⟨ccs, xs, h1, h2, h3, h4, h5⟩ := ih (by omega)
      obtain ⟨cs', x, h6, h7, h8⟩ := hi k (by omega)
      obtain ⟨_, h9, h10⟩ := World.cells?_some h6
      refine ⟨ccs ++ cs', xs ++ [x], by simp [h1], by rw [List.length_append, h2, h9, Nat.succ_mul], EAll.append h3 (EAll.single h7), ?_, fun j hj => ?_⟩
      · intro y hy
        rcases List.mem_append.1 hy with hy | hy
        · exact h4 y hy
        · rw [List.mem_singleton.1 hy]; exact h8
      · rw [Nat.succ_mul] at hj
        by_cases hlt : j < k * T.sz
        · rw [List.getElem?_append_left (by omega)]; exact h5 j hlt
        · rw [List.getElem?_append_right (by omega), h2, ← h10 (j - k * T.sz) (by omega), Go.Deep.add_add]
          congr 2
          omega
  obtain ⟨ccs, xs, h1, h2, h3, h4, h5⟩ := hk len (Nat.le_refl _)
  refine ⟨_, xs, rfl, ⟨some a, len, m, rfl, h1, hl, by unfold SB; omega, fun hn => ?_⟩, by omega, h4⟩
  have hpos : 0 < len * T.sz := Nat.mul_pos hn hp
  obtain ⟨c, e', fr, hb', hc0, hs⟩ := heap_of_cell (h5 0 hpos ▸ List.getElem?_eq_getElem (by omega : 0 < ccs.length))
  have ha0 : a.add 0 = a := by simp [Addr.add]
  rw [ha0] at hb' hc0 hs
  have hcell : ∀ j, j < len * T.sz → c[a.off + j]? = ccs[j]? := fun j hj => by
    have hj' := h5 j hj
    rw [List.getElem?_eq_getElem (by omega)] at hj' ⊢
    unfold World.cell? at hj'
    have hblk : (a.add j).block = a.block := by unfold Addr.add; split <;> rfl
    have hoff : (a.add j).off = a.off + j := by
      unfold Addr.add
      split
      · rename_i h0; rw [h0]; rfl
      · rfl
    rw [hblk, hb', hoff] at hj'
    simp only at hj'
    split at hj'
    · cases hj'
    · exact hj'
  have hfit : a.off + len * T.sz ≤ c.size := by
    have := hcell (len * T.sz - 1) (by omega)
    rw [List.getElem?_eq_getElem (by omega : len * T.sz - 1 < ccs.length)] at this
    have := (Array.getElem?_eq_some_iff.1 this).1
    omega
  obtain ⟨ab, ao, asp⟩ := a
  simp only at hs
  subst hs
  refine ⟨ab, ao, c, (e', fr), rfl, ?_, hfit, ?_⟩
  · unfold Gw
    rw [hb']
    rfl
  · have : (c.toList.drop ao).take (len * T.sz) = ccs := by
      apply List.ext_getElem?
      intro j
      by_cases hj : j < len * T.sz
      · rw [List.getElem?_take_of_lt hj, List.getElem?_drop, Array.getElem?_toList]; exact hcell j hj
      · rw [List.getElem?_take_eq_none (by omega), List.getElem?_eq_none (by omega)]
    rw [this]
    exact h3
/-- A struct whose fields are one cell each. -/
theorem rd_fields {fs : Array Field} (ht : P.underlying t = some (.struct fs)) (hone : Go.Deep.oneCellFields P fs = true) (hC : P.cellsOf t = fs.size)
    {H : Type} {enc : TypeId × Value → H} {w : World} {cs : List Value} {d : DataW H} (h : Read enc P w t cs d) (hb : Rows.uptoBulk d ≤ 1048576) :
    ∃ V : Nat → Value, cs = (List.range fs.size).map V ∧ ∀ i f, fs[i]? = some f → ∃ y, Read enc P w f.type [V i] y ∧ Rows.uptoBulk y ≤ 1048576 := by
  obtain ⟨n0, ps, h⟩ := h
  obtain ⟨xs, n, _, hx, hl, hxl, hf⟩ := DataW.trod_struct ht h
  rw [hC] at hl
  refine ⟨fun i => cs.getD i undef, ?_, fun i f hi => ?_⟩
  · apply List.ext_getElem (by simp [hl])
    intro i h1 h2
    simp [List.getD, List.getElem?_eq_getElem h1]
  · have hlt : i < fs.size := (Array.getElem?_eq_some_iff.1 hi).1
    obtain ⟨ho, hc1⟩ := Go.Deep.hone_of hone i f hi
    have g := hf i f hi
    rw [ho, hc1, Go.Deep.take1_drop cs i undef (by omega), List.getElem?_eq_getElem (by omega)] at g
    refine ⟨(xs[i]'(by omega)).1, ⟨n, _, g⟩, ?_⟩
    have hd : d = .agg (xs.map (·.1)) := congrArg Prod.fst hx
    rw [hd] at hb
    simp only [Rows.uptoBulk] at hb
    have := bulk_part (List.mem_map.2 ⟨xs[i]'(by omega), List.getElem_mem _, rfl⟩ : (xs[i]'(by omega)).1 ∈ xs.map (·.1))
    omega
end
end Go.Proofs.YtnglgjgflohkmaaGreat.Sk
