/- Ghost heaps: what a function may rely on, and what it owns. No condition. -/
import Derived.Tactics
import Derived.Laws.AppendOwn
import Derived.Deep.LoopGhost
import Derived.LoopN
namespace Go.Proofs.YtnglgjgflohkmaaGreat.Sk
open Go
set_option linter.unusedVariables false
set_option linter.unusedSimpArgs false

/-- Short forms of values. -/
@[reducible] def vi (x : Int) : Value := .int .i64 x
@[reducible] def pt (b o : Nat) : Value := .pointer (some ⟨b, o, none⟩)

set_option linter.unusedVariables false
abbrev GH := Nat → Option (Bool × Obj)
/-- What may be relied on for ever stays. -/
def isDat : Obj → Bool
  | .cells .. | .map .. => true
  | _ => false
def RoLe (G G' : GH) : Prop := ∀ b o, isDat o = true → G b = some (true, o) → G' b = some (true, o)
def Ext (G G' : GH) : Prop := ∀ b x, G b = some x → G' b = some x
theorem RoLe.refl (G : GH) : RoLe G G := fun _ _ _ h => h
theorem RoLe.trans {A B C : GH} (h : RoLe A B) (k : RoLe B C) : RoLe A C := fun b o d x => k b o d (h b o d x)
theorem Ext.refl (G : GH) : Ext G G := fun _ _ h => h
theorem Ext.trans {A B C : GH} (h : Ext A B) (k : Ext B C) : Ext A C := fun b o x => k b o (h b o x)
theorem Ext.ro {A B : GH} (h : Ext A B) : RoLe A B := fun b o _ x => h b _ x

/-- What is owned. -/
inductive Res where
  | blk (b : Nat) (cs : List Value) (e : TypeId)
  | obj (b : Nat) (o : Obj)
  | row (v : Value) (e : TypeId) (sz n : Nat) (cs : List Value)

def Res.key : Res → Option Nat
  | .blk b _ _ => some b
  | .obj b _ => some b
  | .row v _ _ _ _ => v.ownBlock

def Res.ok (w : World) : Res → Prop
  | .blk b cs e => w.heap[b]? = some (.cells cs.toArray e (0, 0))
  | .obj b o => w.heap[b]? = some o
  | .row v e sz n cs => w.ownsRow 0 e sz v n cs

def Apart (r s : Res) : Prop := ∀ b, r.key = some b → s.key ≠ some b

structure St (B w : World) (G : GH) (M : List Res) : Prop where
  os : w.os = B.os
  tape : w.tape = B.tape
  output : w.output = B.output
  g : ∀ b x, G b = some x → w.heap[b]? = some x.2
  m : ∀ r ∈ M, r.ok w
  d : ∀ r ∈ M, ∀ b, r.key = some b → G b = none
  n : M.Pairwise Apart

theorem Apart.symm {r s : Res} (h : Apart r s) : Apart s r := fun b hs hr => h b hr hs

theorem Res.ok_lt {w : World} {r : Res} (h : r.ok w) {b : Nat} (hk : r.key = some b) : b < w.heap.size := by
  cases r with
  | blk b' cs e =>
    simp only [Res.key, Option.some.injEq] at hk; subst hk
    exact (Array.getElem?_eq_some_iff.1 h).1
  | obj b' o =>
    simp only [Res.key, Option.some.injEq] at hk; subst hk
    exact (Array.getElem?_eq_some_iff.1 h).1
  | row v e sz n cs => exact (World.ownsRow.lt h b hk).2

theorem Res.ok_kept {w w' : World} {r : Res} (h : r.ok w) (hb : ∀ b, r.key = some b → w'.heap[b]? = w.heap[b]?) : r.ok w' := by
  cases r with
  | blk b' cs e => exact (hb b' rfl).trans h
  | obj b' o => exact (hb b' rfl).trans h
  | row v e sz n cs =>
    refine ⟨h.1, ?_⟩
    rcases h.2 with hn | ⟨g, cap, cur, rfl, hb', hg, rest⟩
    · exact .inl hn
    · exact .inr ⟨g, cap, cur, rfl, hb', (hb g rfl).trans hg, rest⟩

theorem St.perm {B w : World} {G : GH} {M M' : List Res} (h : St B w G M) (p : M.Perm M') : St B w G M' :=
  ⟨h.os, h.tape, h.output, h.g, fun r hr => h.m r (p.mem_iff.2 hr), fun r hr => h.d r (p.mem_iff.2 hr), (p.pairwise_iff (fun h => Apart.symm h)).1 h.n⟩

/-- A draw changes nothing. -/
theorem St.drew {B w : World} {G : GH} {M : List Res} (h : St B w G M) : St B { w with drawn := w.drawn + 1 } G M :=
  ⟨h.os, h.tape, h.output, h.g, fun r hr => Res.ok_kept (h.m r hr) (fun _ _ => rfl), h.d, h.n⟩

/-- One resource at the head is replaced: other blocks are as they were. -/
theorem St.step {B w w' : World} {G : GH} {r r' : Res} {M : List Res} (h : St B w G (r :: M)) (hg : w.grownBy w' r.key) (hok : r'.ok w')
    (hk : ∀ b, r'.key = some b → r.key = some b ∨ w.heap.size ≤ b) : St B w' G (r' :: M) := by
  have old : ∀ b, b < w.heap.size → some b ≠ r.key → w'.heap[b]? = w.heap[b]? := fun b hb hne => hg.block b hb hne
  have hn := List.pairwise_cons.1 h.n
  refine ⟨hg.os.trans h.os, hg.tape.trans h.tape, hg.output.trans h.output, ?_, ?_, ?_, ?_⟩
  · intro b x hx
    have hx' := h.g b x hx
    refine (old b (Array.getElem?_eq_some_iff.1 hx').1 ?_).trans hx'
    intro e
    have := h.d r (List.mem_cons_self ..) b e.symm
    rw [this] at hx; cases hx
  · intro s hs
    rcases List.mem_cons.1 hs with rfl | hs
    · exact hok
    · refine Res.ok_kept (h.m s (List.mem_cons_of_mem _ hs)) fun b hb => ?_
      refine old b (Res.ok_lt (h.m s (List.mem_cons_of_mem _ hs)) hb) ?_
      intro e
      exact hn.1 s hs b e.symm hb
  · intro s hs b hb
    rcases List.mem_cons.1 hs with rfl | hs
    · rcases hk b hb with e | e
      · exact h.d r (List.mem_cons_self ..) b e
      · cases hG : G b with
        | none => rfl
        | some x => have := (Array.getElem?_eq_some_iff.1 (h.g b x hG)).1; omega
    · exact h.d s (List.mem_cons_of_mem _ hs) b hb
  · refine List.pairwise_cons.2 ⟨fun s hs b hb hsb => ?_, hn.2⟩
    rcases hk b hb with e | e
    · exact hn.1 s hs b e hsb
    · have := Res.ok_lt (h.m s (List.mem_cons_of_mem _ hs)) hsb; omega

/-- A new resource. -/
theorem St.push {B w w' : World} {G : GH} {r' : Res} {M : List Res} (h : St B w G M) (hg : w.grownBy w' none) (hok : r'.ok w')
    (hk : ∀ b, r'.key = some b → w.heap.size ≤ b) : St B w' G (r' :: M) := by
  have h0 : St B w G (.row (.slice none 0 0) 0 0 0 [] :: M) :=
    ⟨h.os, h.tape, h.output, h.g, fun r hr => by
      rcases List.mem_cons.1 hr with rfl | hr
      · exact World.ownsRow_nil w 0 0 0
      · exact h.m r hr, fun r hr b hb => by
      rcases List.mem_cons.1 hr with rfl | hr
      · cases hb
      · exact h.d r hr b hb, List.pairwise_cons.2 ⟨(fun s _ b hb => by simp [Res.key, Value.ownBlock] at hb), h.n⟩⟩
  exact h0.step hg hok fun b hb => .inr (hk b hb)

theorem St.pop {B w : World} {G : GH} {r : Res} {M : List Res} (h : St B w G (r :: M)) : St B w G M :=
  ⟨h.os, h.tape, h.output, h.g, fun s hs => h.m s (List.mem_cons_of_mem _ hs), fun s hs => h.d s (List.mem_cons_of_mem _ hs), (List.pairwise_cons.1 h.n).2⟩

theorem St.sub {B w : World} {G : GH} {M M' : List Res} (h : St B w G M) (s : M'.Sublist M) : St B w G M' :=
  ⟨h.os, h.tape, h.output, h.g, fun r hr => h.m r (s.subset hr), fun r hr => h.d r (s.subset hr), h.n.sublist s⟩
theorem St.pick {B w : World} {G : GH} {M : List Res} (k : Nat) {r : Res} (hr : M[k]? = some r) (h : St B w G M) : St B w G (r :: M.eraseIdx k) := by
  refine h.perm ?_
  have hk := (List.getElem?_eq_some_iff.1 hr).1
  have e : M = M.take k ++ r :: M.drop (k + 1) := by
    have h2 := (List.getElem?_eq_some_iff.1 hr).2
    rw [← h2, List.getElem_cons_drop, List.take_append_drop]
  have e2 : M.eraseIdx k = M.take k ++ M.drop (k + 1) := List.eraseIdx_eq_take_drop_succ ..
  rw [e2]
  exact (List.Perm.of_eq e).trans List.perm_middle

theorem St.alloc {B w : World} {G : GH} {M : List Res} (h : St B w G M) (cs : List Value) (e : TypeId) :
    St B (w.alloc (.cells cs.toArray e)) G (.blk w.heap.size cs e :: M) :=
  h.push (World.grownBy_alloc w _ none) (heap_alloc_new w _) (fun b hb => by cases hb; exact Nat.le_refl _)


/-- What is owned turns into what may be relied on. -/
theorem St.freeze {B w : World} {G : GH} {r : Res} {M : List Res} (h : St B w G (r :: M)) :
    ∃ G', St B w G' M ∧ Ext G G' ∧ ∀ b o, r.key = some b → w.heap[b]? = some o → G' b = some (true, o) := by
  have hn := List.pairwise_cons.1 h.n
  cases hk : r.key with
  | none => exact ⟨G, h.pop, Ext.refl _, fun b o hb => by cases hb⟩
  | some k =>
    have hlt := Res.ok_lt (h.m r (List.mem_cons_self ..)) hk
    refine ⟨fun b => if b = k then (w.heap[k]?).map (fun o => (true, o)) else G b, ⟨h.os, h.tape, h.output, ?_, fun s hs => h.m s (List.mem_cons_of_mem _ hs), ?_, hn.2⟩, ?_, ?_⟩
    · intro b x hx
      by_cases e : b = k
      · subst e
        simp only [if_true] at hx
        cases ho : w.heap[b]? with
        | none => rw [ho] at hx; cases hx
        | some o => rw [ho] at hx; cases hx; rfl
      · simp only [e, if_false] at hx
        exact h.g b x hx
    · intro s hs b hb
      have hne : b ≠ k := fun e => hn.1 s hs k hk (e ▸ hb)
      simp only [hne, if_false]
      exact h.d s (List.mem_cons_of_mem _ hs) b hb
    · intro b x hx
      have hne : b ≠ k := fun e => by
        have := h.d r (List.mem_cons_self ..) k hk
        rw [e] at hx; rw [this] at hx; cases hx
      simp only [hne, if_false]; exact hx
    · intro b o hb ho
      cases hb
      simp only [if_true, ho, Option.map_some]


/-- G, and what is owned in M, as what a callee must leave alone; of what is in β it may rely on it, too. -/
def frm (w : World) (G : GH) (M : List Res) (β : Bool) : GH := fun b =>
  if (M.any fun r => r.key == some b) = true then (w.heap[b]?).map (fun o => (β, o)) else G b

theorem any_key {M : List Res} {b : Nat} : (M.any fun r => r.key == some b) = true ↔ ∃ r ∈ M, r.key = some b := by
  simp [List.any_eq_true]

theorem frm_in {w : World} {G : GH} {M : List Res} {β : Bool} {b : Nat} {r : Res} (hr : r ∈ M) (hk : r.key = some b) : frm w G M β b = (w.heap[b]?).map (fun o => (β, o)) := by
  unfold frm; rw [if_pos (any_key.2 ⟨r, hr, hk⟩)]
theorem frm_out {w : World} {G : GH} {M : List Res} {β : Bool} {b : Nat} (h : ∀ r ∈ M, r.key ≠ some b) : frm w G M β b = G b := by
  unfold frm; rw [if_neg]; intro hh; obtain ⟨r, hr, hk⟩ := any_key.1 hh; exact h r hr hk

theorem St.ext_frm' {B w : World} {G : GH} {N M : List Res} (h : St B w G (N ++ M)) (β : Bool) : Ext G (frm w G M β) := fun b x hx => by
  rw [frm_out]; exact hx
  intro r hr hk
  have := h.d r (List.mem_append_right _ hr) b hk
  rw [this] at hx; cases hx

/-- A call's beginning: N goes in, M stays behind. -/
theorem St.enter {B w : World} {G : GH} {N M : List Res} (h : St B w G (N ++ M)) (β : Bool) : St B w (frm w G M β) N := by
  have hp := List.pairwise_append.1 h.n
  refine ⟨h.os, h.tape, h.output, ?_, fun r hr => h.m r (List.mem_append_left _ hr), ?_, hp.1⟩
  · intro b x hx
    by_cases hk : ∃ r ∈ M, r.key = some b
    · obtain ⟨r, hr, hk⟩ := hk
      rw [frm_in hr hk] at hx
      cases ho : w.heap[b]? with
      | none => rw [ho] at hx; cases hx
      | some o => rw [ho] at hx; cases hx; rfl
    · rw [frm_out (fun r hr hk' => hk ⟨r, hr, hk'⟩)] at hx
      exact h.g b x hx
  · intro r hr b hb
    rw [frm_out]
    · exact h.d r (List.mem_append_left _ hr) b hb
    · intro s hs hsb
      exact hp.2.2 r hr s hs b hb hsb

/-- A call's end. -/
theorem St.leave {B w w' : World} {G G' : GH} {N N' M : List Res} (h : St B w G (N ++ M)) (β : Bool) (he : Ext (frm w G M β) G') (h' : St B w' G' N') :
    ∃ G2, St B w' G2 (N' ++ M) ∧ Ext G G2 ∧ (β = false → RoLe G' G2) := by
  have hkeep : ∀ r ∈ M, ∀ b, r.key = some b → ∃ o, w.heap[b]? = some o ∧ G' b = some (β, o) ∧ w'.heap[b]? = some o := fun r hr b hb => by
    have hlt := Res.ok_lt (h.m r (List.mem_append_right _ hr)) hb
    have ho : w.heap[b]? = some w.heap[b] := Array.getElem?_eq_getElem hlt
    have hf : frm w G M β b = some (β, w.heap[b]) := by rw [frm_in hr hb, ho]; rfl
    exact ⟨_, ho, he b _ hf, h'.g b _ (he b _ hf)⟩
  refine ⟨fun b => if (M.any fun r => r.key == some b) = true then none else G' b, ⟨h'.os, h'.tape, h'.output, ?_, ?_, ?_, ?_⟩, ?_, ?_⟩
  · intro b x hx
    split at hx
    · cases hx
    · exact h'.g b x hx
  · intro r hr
    rcases List.mem_append.1 hr with hr | hr
    · exact h'.m r hr
    · refine Res.ok_kept (h.m r (List.mem_append_right _ hr)) fun b hb => ?_
      obtain ⟨o, h1, _, h3⟩ := hkeep r hr b hb
      rw [h1, h3]
  · intro r hr b hb
    rcases List.mem_append.1 hr with hr | hr
    · split
      · rfl
      · exact h'.d r hr b hb
    · rw [if_pos (any_key.2 ⟨r, hr, hb⟩)]
  · refine List.pairwise_append.2 ⟨h'.n, (List.pairwise_append.1 h.n).2.1, fun r hr s hs b hb hsb => ?_⟩
    obtain ⟨o, _, h2, _⟩ := hkeep s hs b hsb
    rw [h'.d r hr b hb] at h2; cases h2
  · intro b x hx
    have hno : ¬ (M.any fun r => r.key == some b) = true := fun hh => by
      obtain ⟨r, hr, hk⟩ := any_key.1 hh
      have := h.d r (List.mem_append_right _ hr) b hk
      rw [this] at hx; cases hx
    show (if _ then _ else _) = _
    rw [if_neg hno]
    refine he b x ?_
    unfold frm
    rw [if_neg hno]; exact hx
  · intro hβ b o _ hx
    have hno : ¬ (M.any fun r => r.key == some b) = true := fun hh => by
      obtain ⟨r, hr, hk⟩ := any_key.1 hh
      obtain ⟨o', _, h2, _⟩ := hkeep r hr b hk
      rw [hx, hβ] at h2; cases h2
    show (if _ then _ else _) = _
    rw [if_neg hno]; exact hx

end Go.Proofs.YtnglgjgflohkmaaGreat.Sk
