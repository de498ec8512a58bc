/- How plain data lie in memory. No condition. -/
import Derived.Test.YtnglgjgflohkmaaGreatSkWp
import Derived.KernelRfl
namespace Go.Proofs.YtnglgjgflohkmaaGreat.Sk
open Go
set_option linter.unusedVariables false
set_option linter.unusedSimpArgs false
set_option linter.unusedVariables false

/-- How values of a kind lie in cells. -/
structure Ty (α : Type) where
  sz : Nat
  rep : GH → List Value → α → Prop
  len : ∀ {G cs x}, rep G cs x → cs.length = sz
  one : ∀ {G cs x}, rep G cs x → ∀ c ∈ cs, c.oneCell' = true
  mono : ∀ {G G' cs x}, RoLe G G' → rep G cs x → rep G' cs x

def InK (k : IntKind) (n : Int) : Prop := k.wrap n = n

def tInt (k : IntKind) : Ty Int where
  sz := 1
  rep := fun _ cs n => cs = [.int k n] ∧ InK k n
  len := by rintro G cs x ⟨rfl, _⟩; rfl
  one := by rintro G cs x ⟨rfl, _⟩ c hc; simp at hc; subst hc; rfl
  mono := fun _ h => h
def tBool : Ty Bool where
  sz := 1
  rep := fun _ cs b => cs = [.bool b]
  len := by rintro G cs x rfl; rfl
  one := by rintro G cs x rfl c hc; simp at hc; subst hc; rfl
  mono := fun _ h => h
def SB : Nat := 140737488355328
def tStr : Ty ByteArray where
  sz := 1
  rep := fun _ cs s => cs = [.string s] ∧ s.size ≤ SB
  len := by rintro G cs x ⟨rfl, _⟩; rfl
  one := by rintro G cs x ⟨rfl, _⟩ c hc; simp at hc; subst hc; rfl
  mono := fun _ h => h

/-- Cells that hold a list, element by element. -/
def EAll {α : Type} (T : Ty α) (G : GH) : List Value → List α → Prop
  | cs, [] => cs = []
  | cs, x :: xs => ∃ c r, cs = c ++ r ∧ T.rep G c x ∧ EAll T G r xs

section
variable {α : Type} {T : Ty α} {G G' : GH}
theorem EAll.mono (h : RoLe G G') : ∀ {cs : List Value} {xs : List α}, EAll T G cs xs → EAll T G' cs xs
  | _, [], e => e
  | _, _ :: _, ⟨c, r, e, h1, h2⟩ => ⟨c, r, e, T.mono h h1, EAll.mono h h2⟩
theorem EAll.len : ∀ {cs : List Value} {xs : List α}, EAll T G cs xs → cs.length = xs.length * T.sz
  | _, [], e => by
    have e' : _ = [] := e
    rw [e']; simp
  | _, x :: xs, ⟨c, r, e, h1, h2⟩ => by
    rw [e, List.length_append, T.len h1, EAll.len h2, List.length_cons, Nat.succ_mul]; omega
theorem EAll.one : ∀ {cs : List Value} {xs : List α}, EAll T G cs xs → ∀ c ∈ cs, c.oneCell' = true
  | _, [], e, c, hc => by
    have e' : _ = [] := e
    rw [e'] at hc; cases hc
  | _, x :: xs, ⟨c, r, e, h1, h2⟩, u, hu => by
    subst e
    rcases List.mem_append.1 hu with hu | hu
    · exact T.one h1 u hu
    · exact EAll.one h2 u hu
theorem EAll.append : ∀ {cs ds : List Value} {xs ys : List α}, EAll T G cs xs → EAll T G ds ys → EAll T G (cs ++ ds) (xs ++ ys)
  | _, _, [], _, e, h => by
    have e' : _ = [] := e
    rw [e']; exact h
  | _, _, x :: xs, _, ⟨c, r, e, h1, h2⟩, h => ⟨c, r ++ _, by rw [e, List.append_assoc], h1, EAll.append h2 h⟩
theorem EAll.single {c : List Value} {x : α} (h : T.rep G c x) : EAll T G c [x] := ⟨c, [], (List.append_nil c).symm, h, rfl⟩
theorem EAll.nil : EAll T G [] ([] : List α) := rfl
theorem EAll.get : ∀ {cs : List Value} {xs : List α} {i : Nat} {x : α}, EAll T G cs xs → xs[i]? = some x → T.rep G ((cs.drop (i * T.sz)).take T.sz) x
  | _, [], _, _, _, h => by simp at h
  | _, y :: ys, 0, x, ⟨c, r, e, h1, h2⟩, h => by
    simp only [List.length_cons, Nat.zero_lt_succ, List.getElem?_eq_getElem, List.getElem_cons_zero, Option.some.injEq] at h
    subst h
    subst e
    rw [Nat.zero_mul, List.drop_zero, List.take_left' (T.len h1)]
    exact h1
  | _, y :: ys, i + 1, x, ⟨c, r, e, h1, h2⟩, h => by
    have h' : ys[i]? = some x := by simpa using h
    subst e
    have hd : (c ++ r).drop ((i + 1) * T.sz) = r.drop (i * T.sz) := by
      have := T.len h1
      rw [Nat.succ_mul, Nat.add_comm, List.drop_append, List.drop_of_length_le (by omega), List.nil_append, this, Nat.add_sub_cancel_left]
    rw [hd]
    exact EAll.get h2 h'
theorem EAll.set : ∀ {cs : List Value} {xs : List α} {i : Nat} {x : α} {d : List Value}, EAll T G cs xs → i < xs.length → T.rep G d x →
    EAll T G (cs.take (i * T.sz) ++ d ++ cs.drop (i * T.sz + T.sz)) (xs.set i x)
  | _, [], _, _, _, _, h, _ => by simp at h
  | _, y :: ys, 0, x, d, ⟨c, r, e, h1, h2⟩, h, hd => by
    subst e
    have := T.len h1
    refine ⟨d, r, ?_, hd, h2⟩
    simp only [Nat.zero_mul, List.take_zero, List.nil_append, Nat.zero_add]
    rw [← this, List.drop_left]
  | _, y :: ys, i + 1, x, d, ⟨c, r, e, h1, h2⟩, h, hd => by
    subst e
    have hl := T.len h1
    refine ⟨c, _, ?_, h1, EAll.set h2 (by simpa using h) hd⟩
    have e1 : (i + 1) * T.sz = c.length + i * T.sz := by rw [hl, Nat.succ_mul]; omega
    have e2 : (i + 1) * T.sz + T.sz = c.length + (i * T.sz + T.sz) := by rw [e1]; omega
    rw [e1, List.take_append, List.take_of_length_le (by omega), Nat.add_sub_cancel_left, Nat.add_assoc, List.drop_append, List.append_assoc, List.append_assoc, List.append_assoc]
    rw [List.drop_of_length_le (by omega), List.nil_append, Nat.add_sub_cancel_left]
theorem EAll.drop : ∀ {cs : List Value} {xs : List α} (i : Nat), EAll T G cs xs → EAll T G (cs.drop (i * T.sz)) (xs.drop i)
  | _, _, 0, h => by simpa using h
  | _, [], i + 1, e => by
    have e' : _ = [] := e
    rw [e']; simp [EAll]
  | _, x :: xs, i + 1, ⟨c, r, e, h1, h2⟩ => by
    subst e
    have hl := T.len h1
    have e1 : (i + 1) * T.sz = c.length + i * T.sz := by rw [hl, Nat.succ_mul]; omega
    rw [e1, List.drop_append, List.drop_of_length_le (by omega), List.nil_append, Nat.add_sub_cancel_left, List.drop_succ_cons]
    exact EAll.drop i h2
theorem EAll.take : ∀ {cs : List Value} {xs : List α} (i : Nat), EAll T G cs xs → EAll T G (cs.take (i * T.sz)) (xs.take i)
  | _, _, 0, h => by simp [EAll]
  | _, [], i + 1, e => by
    have e' : _ = [] := e
    rw [e']; simp [EAll]
  | _, x :: xs, i + 1, ⟨c, r, e, h1, h2⟩ => by
    subst e
    have hl := T.len h1
    have e1 : (i + 1) * T.sz = c.length + i * T.sz := by rw [hl, Nat.succ_mul]; omega
    rw [e1, List.take_append, List.take_of_length_le (by omega), Nat.add_sub_cancel_left, List.take_succ_cons]
    exact ⟨c, _, rfl, h1, EAll.take i h2⟩
end

/-- A slice that is read: its elements lie in memory that stays. -/
def SRep {α : Type} (e : TypeId) (T : Ty α) (G : GH) (v : Value) (xs : List α) : Prop :=
  ∃ a n c, v = .slice a n c ∧ xs.length = n ∧ n ≤ c ∧ n ≤ SB ∧ (0 < n → ∃ (b off : Nat) (cells : Array Value) (fr : TypeId × (Nat × Nat)), a = some ⟨b, off, none⟩ ∧ G b = some (true, .cells cells fr.1 fr.2) ∧ off + n * T.sz ≤ cells.size ∧ EAll T G ((cells.toList.drop off).take (n * T.sz)) xs)
theorem SRep.mono {α : Type} {e : TypeId} {T : Ty α} {G G' : GH} {v : Value} {xs : List α} (hr : RoLe G G') (h : SRep e T G v xs) : SRep e T G' v xs := by
  obtain ⟨a, n, c, h1, h2, h3, h4, h5⟩ := h
  refine ⟨a, n, c, h1, h2, h3, h4, fun hn => ?_⟩
  obtain ⟨b, off, cells, fr, e1, e2, e3, e4⟩ := h5 hn
  exact ⟨b, off, cells, fr, e1, hr _ _ rfl e2, e3, e4.mono hr⟩
theorem SRep.one {α : Type} {e : TypeId} {T : Ty α} {G : GH} {v : Value} {xs : List α} (h : SRep e T G v xs) : v.oneCell' = true := by
  obtain ⟨a, n, c, rfl, _⟩ := h; rfl
theorem SRep.nil {α : Type} {e : TypeId} {T : Ty α} {G : GH} : SRep e T G (.slice none 0 0) ([] : List α) :=
  ⟨none, 0, 0, rfl, rfl, Nat.le_refl _, Nat.zero_le _, fun h => absurd h (Nat.lt_irrefl 0)⟩
theorem SRep.le {α : Type} {e : TypeId} {T : Ty α} {G : GH} {v : Value} {xs : List α} (h : SRep e T G v xs) : xs.length ≤ SB := by
  obtain ⟨a, n, c, rfl, h2, _, h4, _⟩ := h; omega

def tSlice {α : Type} (e : TypeId) (T : Ty α) : Ty (List α) where
  sz := 1
  rep := fun G cs xs => ∃ v, cs = [v] ∧ SRep e T G v xs
  len := by rintro G cs x ⟨v, rfl, _⟩; rfl
  one := by
    rintro G cs x ⟨v, rfl, h⟩ c hc
    simp only [List.mem_singleton] at hc
    rw [hc]; exact h.one
  mono := fun hr ⟨v, e, h⟩ => ⟨v, e, h.mono hr⟩

def isAg : TypeDesc → Bool
  | .struct _ | .array _ _ => true
  | _ => false
/-- What a type's rows say. -/
structure TI (P : Program) (t : TypeId) (agg : Bool) (sz bytes : Nat) (z : Value) : Prop where
  und : ∃ d, P.underlying t = some d ∧ isAg d = agg
  info : ∃ i, P.info? t = some i ∧ i.size = sz ∧ i.bytes = bytes ∧ i.zero = some z
theorem TI.mk' {P : Program} {t : TypeId} {agg : Bool} {sz bytes : Nat} {z : Value} {d : TypeDesc} (h : P.underlying t = some d) (ha : isAg d = agg)
    (hi : (P.info? t).map (fun i => (i.zero, i.size, i.bytes)) = some (some z, sz, bytes)) : TI P t agg sz bytes z := by
  refine ⟨⟨d, h, ha⟩, ?_⟩
  cases hq : P.info? t with
  | none => rw [hq] at hi; cases hi
  | some i => rw [hq] at hi; simp only [Option.map_some, Option.some.injEq, Prod.mk.injEq] at hi; exact ⟨i, rfl, hi.2.1, hi.2.2, hi.1⟩

/-- The place of an element, as Go has it. -/
def idx {α : Type} (xs : List α) (i : Int) : Option α := if 0 ≤ i then xs[i.toNat]? else none
theorem idx_some {α : Type} {xs : List α} {i : Int} {x : α} (h : idx xs i = some x) : 0 ≤ i ∧ i < xs.length ∧ xs[i.toNat]? = some x := by
  unfold idx at h
  split at h
  · rename_i h0
    have := (List.getElem?_eq_some_iff.1 h).1
    exact ⟨h0, by omega, h⟩
  · cases h
end Go.Proofs.YtnglgjgflohkmaaGreat.Sk
