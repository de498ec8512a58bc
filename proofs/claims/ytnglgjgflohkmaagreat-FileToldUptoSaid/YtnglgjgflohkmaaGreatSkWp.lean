/- Environments in place of frames; loops as a least fixed point. No condition. -/
import Derived.Test.YtnglgjgflohkmaaGreatSkBase
import Derived.LoopNIn
import Derived.RangeFuncRecord
import Derived.TacticsIn
namespace Go.Proofs.YtnglgjgflohkmaaGreat.Sk
open Go
set_option linter.unusedVariables false
set_option linter.unusedSimpArgs false
set_option linter.unusedVariables false

/-- An activation's values, and the marks that its ranges over functions left. -/
structure Env where
  f : Nat → Value
  ks : List Nat
instance : CoeFun Env (fun _ => Nat → Value) := ⟨Env.f⟩
def ev (ρ : Env) : Operand → Value
  | .tmp t => ρ.f t
  | .const v => v
  | .global g => .pointer (some ⟨g, 0, none⟩)
  | .func f => .func (.func f) #[] #[]
def upd (ρ : Env) (d : Nat) (v : Value) : Env := ⟨fun t => bif Nat.beq t d then v else ρ.f t, ρ.ks⟩
/-- A list of slots over an environment. -/
def En (σ : Env) : List (Nat × Value) → Env
  | [] => σ
  | p :: l => upd (En σ l) p.1 p.2
def At (ρ : Env) : List (Nat × Value) → Prop
  | [] => True
  | p :: l => ρ p.1 = p.2 ∧ At ρ l

theorem upd_id (ρ : Env) (d : Nat) (v : Value) (h : ρ d = v) : upd ρ d v = ρ := by
  obtain ⟨f, ks⟩ := ρ
  unfold upd
  congr
  funext t
  cases e : Nat.beq t d with
  | false => rfl
  | true => rw [Nat.eq_of_beq_eq_true e]; exact h.symm
theorem En_at {ρ : Env} : ∀ {l : List (Nat × Value)}, At ρ l → En ρ l = ρ
  | [], _ => rfl
  | p :: l, h => by
    have ih := En_at (l := l) h.2
    show upd (En ρ l) p.1 p.2 = ρ
    rw [ih]; exact upd_id ρ p.1 p.2 h.1

theorem J3 {ρ : Env} {l : List (Nat × Value)} (h : At ρ l) : ρ = En ρ l := (En_at h).symm
/-- Within which round code stands; whether marks may be left. -/
structure Mode where
  r : Option Nat
  m : Bool
def FW (r : Option Nat) : Fence := { Fence.wide with round := r }
abbrev μ0 : Mode := ⟨none, false⟩
abbrev μm : Mode := ⟨none, true⟩
abbrev μr (l : Nat) : Mode := ⟨some l, false⟩
def marks (ks : List Nat) : List Deferred := ks.map fun D => { target := .collected D, args := #[] }
structure Agree (μ : Mode) (n : Nat) (a : Act) (ρ : Env) : Prop where
  size : a.tmps.size = n
  defers : a.defers = bif μ.m then marks ρ.ks else []
  get : ∀ t, a.tmps.getD t undef = ρ t

theorem Agree.eval {μ : Mode} {n : Nat} {a : Act} {ρ : Env} (h : Agree μ n a ρ) : a.eval = ev ρ := by
  funext x
  cases x with
  | tmp t => exact h.get t
  | _ => rfl
theorem Agree.put {μ : Mode} {n : Nat} {a : Act} {ρ : Env} (h : Agree μ n a ρ) {d : Nat} (hd : d < n) (v : Value) : Agree μ n (a.put (some d) v) (upd ρ d v) := by
  refine ⟨by simp [Act.put, h.size], h.defers, fun t => ?_⟩
  have hs := h.size
  unfold upd
  cases e : Nat.beq t d with
  | false =>
    have hne : d ≠ t := fun hh => by subst hh; simp at e
    simp only [e, cond_false]
    have := h.get t
    rw [← this]
    simp [Act.put, Array.getElem?_setIfInBounds_ne hne]
  | true =>
    have := Nat.eq_of_beq_eq_true e
    subst this
    simp [Act.put, hs, hd]
theorem Agree.skip {μ : Mode} {n : Nat} {a : Act} {ρ : Env} (h : Agree μ n a ρ) (v : Value) : Agree μ n (a.put none v) ρ := h

abbrev Post := Exit → Env → World → Prop
def lift (μ : Mode) (n : Nat) (Q : Post) : Exit → Act → World → Prop := fun e a w => ∃ ρ, Agree μ n a ρ ∧ Q e ρ w
def W (μ : Mode) (P : Program) (n : Nat) (c : Code) (Q : Post) (ρ : Env) (w : World) : Prop := ∀ a, Agree μ n a ρ → c.wpIn (FW μ.r) 0 P (lift μ n Q) a w
def WL (μ : Mode) (P : Program) (n : Nat) (ops : Array Oper) (Q : Post) (l : List Oper) (ρ : Env) (w : World) : Prop := ∀ a, Agree μ n a ρ → wpListIn (FW μ.r) 0 P ops (lift μ n Q) l a w

theorem callsIn_of {r : Option Nat} {n : Nat} {P : Program} {f : FuncId} {args : Array Value} {w : World} {R : Ending → World → Prop} (h : Calls P f args w R) : CallsIn (FW r) n P f args w R :=
  (callsIn_wide (n := n)).2 h
theorem of_callsIn {r : Option Nat} {n : Nat} {P : Program} {f : FuncId} {args : Array Value} {w : World} {R : Ending → World → Prop} (h : CallsIn (FW r) n P f args w R) : Calls P f args w R :=
  (callsIn_wide (n := n)).1 h
theorem not_defer {P : Program} {ρ : Operand → Value} {o : Oper} {w w' : World} {x : Next} (hr : (execOp ρ o).run P w = .ok x w') (hx : ∀ d, x ≠ .defer d) : ∀ c, o.op ≠ .defer c := by
  intro c e
  unfold execOp at hr
  rw [e] at hr
  simp only [Sem.run_bind] at hr
  cases hq : (resolve ρ c o.type).run P w with
  | ok d w2 =>
    rw [hq] at hr
    simp only [Result.andThen_ok, Sem.run_pure] at hr
    cases hr
    exact hx d rfl
  | halt d w2 => rw [hq] at hr; cases hr

section
variable {μ : Mode} {P : Program} {n : Nat} {Q Q' : Post} {ρ : Env} {w : World} {ops : Array Oper} {rest : List Oper}

theorem W.mono {c : Code} (h : W μ P n c Q ρ w) (hq : ∀ e ρ w, Q e ρ w → Q' e ρ w) : W μ P n c Q' ρ w :=
  fun a ha => wpIn_mono (h a ha) fun e a w ⟨ρ, h1, h2⟩ => ⟨ρ, h1, hq e ρ w h2⟩

def andThen (next : Env → World → Prop) (Q : Post) : Post
  | .normal, ρ, w => next ρ w
  | e, ρ, w => Q e ρ w

theorem J9 (h : Q .normal ρ w) : W μ P n .skip Q ρ w := fun a ha => wpIn_skip ⟨ρ, ha, h⟩
theorem Jr {id : Nat} (h : Q (.exit id) ρ w) : W μ P n (.exit id) Q ρ w := fun a ha => wpIn_exit ⟨ρ, ha, h⟩
theorem Jg (h : Q .ret ρ w) : W μ P n .ret Q ρ w := fun a ha => wpIn_ret ⟨ρ, ha, h⟩
theorem J2 {x y : Code} (h : W μ P n x (andThen (W μ P n y Q) Q) ρ w) : W μ P n (.seq x y) Q ρ w := fun a ha =>
  wpIn_seq (wpIn_mono (h a ha) fun e a w ⟨ρ, h1, h2⟩ => by
    cases e with
    | normal => exact h2 a h1
    | exit id => exact ⟨ρ, h1, h2⟩
    | goto l => exact ⟨ρ, h1, h2⟩
    | ret => exact ⟨ρ, h1, h2⟩
    | panic c => exact ⟨ρ, h1, h2⟩
    | outgrown => exact ⟨ρ, h1, h2⟩)
def inBlock (id : Nat) (Q : Post) : Post
  | .exit id', ρ, w => if id' = id then Q .normal ρ w else Q (.exit id') ρ w
  | e, ρ, w => Q e ρ w
theorem Jb {id : Nat} {c : Code} (h : W μ P n c (inBlock id Q) ρ w) : W μ P n (.block id c) Q ρ w := fun a ha =>
  wpIn_block (wpIn_mono (h a ha) fun e a w ⟨ρ, h1, h2⟩ => by
    cases e with
    | exit id' =>
      by_cases e : id' = id
      · subst e; simp only [inBlock, if_true] at h2; simp only [Exit.inBlock, if_true]; exact ⟨ρ, h1, h2⟩
      · simp only [inBlock, e, if_false] at h2; simp only [Exit.inBlock, e, if_false]; exact ⟨ρ, h1, h2⟩
    | normal => exact ⟨ρ, h1, h2⟩
    | goto l => exact ⟨ρ, h1, h2⟩
    | ret => exact ⟨ρ, h1, h2⟩
    | panic c => exact ⟨ρ, h1, h2⟩
    | outgrown => exact ⟨ρ, h1, h2⟩)
theorem J7 {c : Operand} {x y : Code} {t : Bool} (hc : ev ρ c = .bool t) (h1 : t = true → W μ P n x Q ρ w) (h2 : t = false → W μ P n y Q ρ w) : W μ P n (.cond c x y) Q ρ w := fun a ha => by
  have he : a.eval c = .bool t := by rw [ha.eval]; exact hc
  cases t with
  | true => exact wpIn_cond_true he (h1 rfl a ha)
  | false => exact wpIn_cond_false he (h2 rfl a ha)
theorem J1 {id : Nat} {l : List Oper} (h : WL μ P n l.toArray Q l ρ w) : W μ P n (.region id l.toArray false) Q ρ w := fun a ha => wpIn_region_lit (h a ha)


inductive Step (S R : Type) where
  | next (s : S)
  | done (r : R)
def iter {S R : Type} (f : S → Option (Step S R)) : Nat → S → Option R
  | 0, _ => none
  | k + 1, s => match f s with
    | none => none
    | some (.done r) => some r
    | some (.next s') => iter f k s'
theorem iter_mono {S R : Type} {f : S → Option (Step S R)} {r : R} : ∀ {k k' : Nat} {s : S}, k ≤ k' → iter f k s = some r → iter f k' s = some r
  | 0, _, _, _, h => by cases h
  | k + 1, 0, _, h, _ => by omega
  | k + 1, k' + 1, s, h, hi => by
    unfold iter at hi ⊢
    cases hf : f s with
    | none => rw [hf] at hi; cases hi
    | some x =>
      cases x with
      | done r' => rw [hf] at hi; exact hi
      | next s' => rw [hf] at hi; exact iter_mono (by omega) hi
@[irreducible] def loop {S R : Type} (f : S → Option (Step S R)) (s : S) : Option R := iter f 281474976710656 s
theorem loop_some {S R : Type} {f : S → Option (Step S R)} {s : S} {r : R} (h : loop f s = some r) : ∃ k, iter f k s = some r := by
  unfold loop at h
  exact ⟨_, h⟩
theorem loop_of {S R : Type} {f : S → Option (Step S R)} {s : S} {r : R} {k : Nat} (hk : k ≤ 281474976710656) (h : iter f k s = some r) : loop f s = some r := by
  unfold loop
  exact iter_mono hk h
theorem Jk {α : Type} {c : Bool} {y : Option α} {r : α} {p : Prop} (h : (bif c then none else y) = some r) (hc : c = true) : p := by rw [hc] at h; cases h
theorem Yo {α : Type} {c : Bool} {x : Option α} {r : α} {p : Prop} (h : (bif c then x else none) = some r) (hc : c = false) : p := by rw [hc] at h; cases h
/-- What a round of a loop ends in: it goes on, or it leaves. -/
def roundPost {S R : Type} (Inv : S → Env → World → Prop) (Qr : R → Post) (x : Step S R) : Post
  | .normal, ρ, w => ∃ s, x = .next s ∧ Inv s ρ w
  | e, ρ, w => ∃ r, x = .done r ∧ Qr r e ρ w
theorem W_loop {S R : Type} {c : Code} {f : S → Option (Step S R)} {s : S} {r : R} (hf : loop f s = some r) (Inv : S → Env → World → Prop) (Qr : R → Post) (h0 : Inv s ρ w)
    (round : ∀ s x ρ w, f s = some x → Inv s ρ w → W μ P n c (roundPost Inv Qr x) ρ w) (hq : ∀ e ρ w, Qr r e ρ w → Q e ρ w) : W μ P n (.loop c) Q ρ w := by
  obtain ⟨k, hk⟩ := loop_some hf
  clear hf
  intro a ha
  refine wpIn_loop_rounds k ?_
  induction k generalizing s ρ w a with
  | zero => cases hk
  | succ k ih =>
    rw [roundsIn_succ]
    unfold iter at hk
    cases hx : f s with
    | none => rw [hx] at hk; cases hk
    | some x =>
      rw [hx] at hk
      refine wpIn_mono (round s x ρ w hx h0 a ha) ?_
      rintro e a' w' ⟨ρ', ha', hr⟩
      cases x with
      | next s' =>
        cases e with
        | normal => obtain ⟨s2, he, hi⟩ := hr; cases he; have hk' : iter f k s' = some r := hk; apply ih <;> assumption
        | exit id => obtain ⟨r, he, _⟩ := hr; cases he
        | goto id => obtain ⟨r, he, _⟩ := hr; cases he
        | ret => obtain ⟨r, he, _⟩ := hr; cases he
        | panic c => obtain ⟨r, he, _⟩ := hr; cases he
        | outgrown => obtain ⟨r, he, _⟩ := hr; cases he
      | done r' =>
        cases hk
        cases e with
        | normal => obtain ⟨s2, he, hi⟩ := hr; cases he
        | exit id => obtain ⟨r, he, h⟩ := hr; cases he; exact ⟨ρ', ha', hq _ _ _ h⟩
        | goto id => obtain ⟨r, he, h⟩ := hr; cases he; exact ⟨ρ', ha', hq _ _ _ h⟩
        | ret => obtain ⟨r, he, h⟩ := hr; cases he; exact ⟨ρ', ha', hq _ _ _ h⟩
        | panic c => obtain ⟨r, he, h⟩ := hr; cases he; exact ⟨ρ', ha', hq _ _ _ h⟩
        | outgrown => obtain ⟨r, he, h⟩ := hr; cases he; exact ⟨ρ', ha', hq _ _ _ h⟩

theorem W_join {c : Code} (J : Env → World → Prop) (h : W μ P n c (andThen J Q) ρ w) (hj : ∀ ρ w, J ρ w → Q .normal ρ w) : W μ P n c Q ρ w :=
  h.mono fun e ρ w hq => by
    cases e with
    | normal => exact hj _ _ hq
    | exit id => exact hq
    | goto l => exact hq
    | ret => exact hq
    | panic c => exact hq
    | outgrown => exact hq
/-- So many rounds of a loop, one by one. -/
def WR (μ : Mode) (P : Program) (n : Nat) (c : Code) (Q : Post) : Nat → Env → World → Prop
  | 0 => fun _ _ => False
  | k + 1 => W μ P n c (andThen (WR μ P n c Q k) Q)
theorem W_rounds {c : Code} (k : Nat) (h : WR μ P n c Q k ρ w) : W μ P n (.loop c) Q ρ w := fun a ha => by
  refine wpIn_loop_rounds k ?_
  induction k generalizing ρ w a with
  | zero => exact h.elim
  | succ k ih =>
    rw [roundsIn_succ]
    refine wpIn_mono (h a ha) ?_
    rintro e a' w' ⟨ρ', ha', hr⟩
    cases e with
    | normal => exact ih hr a' ha'
    | exit id => exact ⟨ρ', ha', hr⟩
    | goto id => exact ⟨ρ', ha', hr⟩
    | ret => exact ⟨ρ', ha', hr⟩
    | panic c => exact ⟨ρ', ha', hr⟩
    | outgrown => exact ⟨ρ', ha', hr⟩

/-- How a loop ends: behind it, with what holds there; or with the answer of what stands round it. -/
def leaveQ {T A : Type} (id : Nat) (J : T → Env → World → Prop) (Q : Post) (a0 : A) : T ⊕ A → Post
  | .inl t => fun e ρ w => e = .exit id ∧ J t ρ w
  | .inr a => fun e ρ w => a = a0 → Q e ρ w
def leaveT {T : Type} (id : Nat) (J : T → Env → World → Prop) (t : T) : Post := fun e ρ w => e = .exit id ∧ J t ρ w
theorem W_loopS {S T A : Type} {c : Code} {f : S → Option (Step S (T ⊕ A))} {s : S} {z : T ⊕ A} {a0 : A} (id : Nat) (hz : loop f s = some z) (Inv : S → Env → World → Prop) (J : T → Env → World → Prop) (h0 : Inv s ρ w)
    (round : ∀ s x ρ w, f s = some x → Inv s ρ w → W μ P n c (roundPost Inv (leaveQ id J Q a0) x) ρ w)
    (hbrk : ∀ t ρ w, z = .inl t → J t ρ w → Q (.exit id) ρ w) (hret : ∀ a, z = .inr a → a = a0) : W μ P n (.loop c) Q ρ w :=
  W_loop hz Inv (leaveQ id J Q a0) h0 round fun e ρ w hq => by
    cases z with
    | inl t => obtain ⟨rfl, h⟩ := hq; exact hbrk t ρ w rfl h
    | inr a => exact hq (hret a rfl)
theorem Js {S T : Type} {c : Code} {f : S → Option (Step S T)} {s : S} {t : T} (id : Nat) (hz : loop f s = some t) (Inv : S → Env → World → Prop) (J : T → Env → World → Prop) (h0 : Inv s ρ w)
    (round : ∀ s x ρ w, f s = some x → Inv s ρ w → W μ P n c (roundPost Inv (leaveT id J) x) ρ w)
    (hbrk : ∀ ρ w, J t ρ w → Q (.exit id) ρ w) : W μ P n (.loop c) Q ρ w :=
  W_loop hz Inv (leaveT id J) h0 round fun e ρ w hq => by obtain ⟨rfl, h⟩ := hq; exact hbrk ρ w h

theorem J6 {α β : Type} {x : Option α} {f : α → Option β} {r : β} (h : x.bind f = some r) : ∃ a, x = some a ∧ f a = some r := Option.bind_eq_some_iff.1 h
theorem Jx {α : Type} {c : Bool} {x y : Option α} {r : α} (h : (bif c then x else y) = some r) (hc : c = true) : x = some r := by rw [hc] at h; exact h
theorem Jf {α : Type} {c : Bool} {x y : Option α} {r : α} (h : (bif c then x else y) = some r) (hc : c = false) : y = some r := by rw [hc] at h; exact h
theorem Ya {α : Type} {c : Bool} {x : Option α} {r : α} (h : (bif c then x else none) = some r) : c = true ∧ x = some r := by
  cases c with
  | true => exact ⟨rfl, h⟩
  | false => cases h
theorem Y8 (b : Bool) : b = true ∨ b = false := by cases b <;> simp
theorem band {a b : Bool} (h : (a && b) = true) : a = true ∧ b = true := by simpa using h
def cont {T A : Type} (z : T ⊕ A) (k : T → Option A) : Option A :=
  match z with
  | .inl t => k t
  | .inr a => some a
theorem cont_inl {T A : Type} {t : T} {k : T → Option A} {r : A} (h : cont (.inl t) k = some r) : k t = some r := h

def ROk (P : Program) (ρ : Env) (w : World) : List ResultVar → List Value → Prop
  | [], [] => True
  | .tmp t :: rs, v :: vs => ρ t = v ∧ ROk P ρ w rs vs
  | .cell t ty :: rs, v :: vs => (∃ a, ρ t = .pointer (some a) ∧ (loadVar ty a).run P w = .ok v w) ∧ ROk P ρ w rs vs
  | _, _ => False
def tup : List Value → Value
  | [v] => v
  | l => .tuple l.toArray
def bodyQ (P : Program) (rs : List ResultVar) (R : Ending → World → Prop) : Post
  | .normal, ρ, w | .ret, ρ, w => ∃ vs, ROk P ρ w rs vs ∧ R (.returned (tup vs)) w
  | _, _, _ => False
theorem results_ROk {fn : Func} {a : Act} {rs : List ResultVar} (hr : fn.results = rs.toArray) (ha : Agree μ n a ρ) {vs : List Value} (h : ROk P ρ w rs vs) : (results fn a.tmps).run P w = .ok (tup vs) w := by
  have hm : ∀ (g : ResultVar → Sem Value), (∀ t, g (.tmp t) = Pure.pure (a.tmps.getD t undef)) → (∀ t ty, g (.cell t ty) = (do loadVar ty (← asAddr (a.tmps.getD t undef)))) → ∀ (rs : List ResultVar) (vs : List Value), ROk P ρ w rs vs → (rs.mapM g).run P w = .ok vs w := by
    intro g g1 g2 rs
    induction rs with
    | nil => intro vs h; cases vs with
      | nil => rfl
      | cons v vs => exact h.elim
    | cons r rs ih =>
      intro vs h
      cases vs with
      | nil => cases r <;> exact h.elim
      | cons v vs =>
        cases r with
        | tmp t =>
          obtain ⟨h1, h2⟩ := h
          have := ih vs h2
          rw [List.mapM_cons, g1]
          simp only [Sem.run_bind, Sem.run_pure, Result.andThen_ok]
          rw [ha.get t, h1, this]
          rfl
        | cell t ty =>
          obtain ⟨⟨ad, h0, h1⟩, h2⟩ := h
          have := ih vs h2
          rw [List.mapM_cons, g2]
          have hA : (asAddr (.pointer (some ad))).run P w = .ok ad w := rfl
          simp only [Sem.run_bind, Sem.run_pure]
          rw [ha.get t, h0]
          simp only [hA, Result.andThen_ok, h1, this]
  unfold results
  rw [hr, List.mapM_toArray]
  simp only [Sem.run_bind, Sem.run_map]
  rw [hm _ (fun _ => rfl) (fun _ _ => rfl) rs vs h]
  simp only [Result.andThen_ok, Sem.run_pure]
  rcases vs with _ | ⟨v, _ | ⟨u, l⟩⟩ <;> simp [tup]
def env0 (args : List Value) : Env := ⟨fun t => args.getD t undef, []⟩
theorem agree0 {μ : Mode} {args : List Value} {fn : Func} (hn : fn.ntmps = n) (hl : args.length ≤ n) : Agree μ n { tmps := args.toArray ++ Array.replicate (fn.ntmps - args.toArray.size) undef, defers := [] } (env0 args) := by
  refine ⟨by simp [hn]; omega, by cases μ.m <;> rfl, fun t => ?_⟩
  rw [hn]
  show _ = args.getD t undef
  rcases Nat.lt_or_ge t args.length with ht | ht
  · simp [Array.getElem?_append, ht]
  · have h1 : args[t]? = none := List.getElem?_eq_none ht
    simp only [Array.getD_eq_getD_getElem?, Array.getElem?_append, List.size_toArray, Nat.not_lt.2 ht, if_false, Array.getElem?_replicate, List.getD_eq_getElem?_getD, h1, Option.getD_none]
    split <;> rfl
theorem Jc {f : FuncId} {fn : Func} {c : Code} {args : List Value} {R : Ending → World → Prop} (rs : List ResultVar)
    (hf : P.funcs[f]? = some fn) (hb : fn.body = some c) (hn : fn.ntmps = n) (hr : fn.results = rs.toArray) (hl : Nat.ble args.length n = true)
    (h : W μ0 P n c (bodyQ P rs R) (env0 args) w) : Calls P f args.toArray w R := by
  refine calls_of_wp hf hb ?_
  have hl' : args.length ≤ n := Nat.le_of_ble_eq_true hl
  refine wp_mono (wpIn_wide.1 (h _ (agree0 hn hl'))) ?_
  · rintro e a' w' ⟨ρ', ha, hq⟩
    cases e with
    | normal => obtain ⟨vs, h1, h2⟩ := hq; exact ⟨ha.defers, _, results_ROk hr ha h1, h2⟩
    | ret => obtain ⟨vs, h1, h2⟩ := hq; exact ⟨ha.defers, _, results_ROk hr ha h1, h2⟩
    | exit id => exact hq.elim
    | goto id => exact hq.elim
    | panic c => exact hq.elim
    | outgrown => exact hq.elim
/-- The blocks of marks are taken. -/
def takeAll : List Nat → World → World
  | [], w => w
  | D :: ks, w => takeAll ks (w.putObj D (.deferred none))
def bodyQM (P : Program) (rs : List ResultVar) (R : Ending → World → Prop) : Post
  | .normal, ρ, w | .ret, ρ, w => ρ.ks.Nodup ∧ (∀ D ∈ ρ.ks, w.heap[D]? = some (.deferred (some []))) ∧ ∃ vs, ROk P ρ (takeAll ρ.ks w) rs vs ∧ R (.returned (tup vs)) (takeAll ρ.ks w)
  | _, _, _ => False
theorem calls_WM {f : FuncId} {fn : Func} {c : Code} {args : List Value} {R : Ending → World → Prop} (rs : List ResultVar)
    (hf : P.funcs[f]? = some fn) (hb : fn.body = some c) (hn : fn.ntmps = n) (hr : fn.results = rs.toArray) (hl : Nat.ble args.length n = true)
    (h : W μm P n c (bodyQM P rs R) (env0 args) w) : Calls P f args.toArray w R := by
  refine of_callsIn (r := none) (n := 0) ?_
  have hl' : args.length ≤ n := Nat.le_of_ble_eq_true hl
  refine callsIn_of_wp_marks hf hb trivial ?_
  have key : ∀ (ks : List Nat) (tmps : Array Value) (w : World) (v : Value), ks.Nodup → (∀ D ∈ ks, w.heap[D]? = some (.deferred (some []))) → (results fn tmps).run P (takeAll ks w) = .ok v (takeAll ks w) → R (.returned v) (takeAll ks w) → LeavesInM (FW none) 0 P fn tmps R (marks ks) .returning w := by
    intro ks
    induction ks with
    | nil => intro tmps w v _ _ h1 h2; exact ⟨v, h1, h2⟩
    | cons D ks ih =>
      intro tmps w v hnd hk h1 h2
      refine ⟨by simp, .inl ⟨D, _, rfl, run_takeDeferred (hk D (List.mem_cons_self ..)), ih tmps _ v (List.nodup_cons.1 hnd).2 (fun D' h' => ?_) h1 h2⟩⟩
      rw [World.putObj_heap_other (fun e => (List.nodup_cons.1 hnd).1 (by rw [← e]; exact h'))]
      exact hk D' (List.mem_cons_of_mem _ h')
  refine wpIn_mono (h _ (agree0 hn hl')) ?_
  rintro e a' w' ⟨ρ', ha, hq⟩
  have hd : a'.defers = marks ρ'.ks := ha.defers
  cases e with
  | normal => obtain ⟨h0, h1, vs, h2, h3⟩ := hq; show LeavesInM _ _ _ _ _ _ a'.defers _ _; rw [hd]; exact key _ _ _ _ h0 h1 (results_ROk hr ha h2) h3
  | ret => obtain ⟨h0, h1, vs, h2, h3⟩ := hq; show LeavesInM _ _ _ _ _ _ a'.defers _ _; rw [hd]; exact key _ _ _ _ h0 h1 (results_ROk hr ha h2) h3
  | exit id => exact hq.elim
  | goto id => exact hq.elim
  | panic c => exact hq.elim
  | outgrown => exact hq.elim


theorem J0 (h : Q .normal ρ w) : WL μ P n ops Q [] ρ w := fun a ha => ⟨ρ, ha, h⟩

theorem Jw {l : List Oper} (k : Nat) (J : Env → World → Prop) (h : WL μ P n ops (andThen J Q) (l.take k) ρ w) (hj : ∀ ρ w, J ρ w → WL μ P n ops Q (l.drop k) ρ w) : WL μ P n ops Q l ρ w := by
  have key : ∀ (l1 l2 : List Oper) (a : Act) (w : World), wpListIn (FW μ.r) 0 P ops (lift μ n (andThen J Q)) l1 a w → (∀ ρ w, J ρ w → WL μ P n ops Q l2 ρ w) → wpListIn (FW μ.r) 0 P ops (lift μ n Q) (l1 ++ l2) a w := by
    intro l1 l2
    induction l1 with
    | nil =>
      rintro a w ⟨ρ, ha, hq⟩ h2
      exact h2 ρ w hq a ha
    | cons o l1 ih =>
      intro a w h1 h2
      unfold wpListIn at h1
      rw [List.cons_append]
      unfold wpListIn
      split
      · rename_i hw
        rw [if_pos hw] at h1
        refine ⟨fun _ _ => trivial, ?_⟩
        have h1 := h1.2
        generalize (o.semAt (FW μ.r).round a.eval).run P w = r at h1 ⊢
        cases r with
        | ok x w' =>
          cases x <;> simp only [Oper.uponIn] at h1 ⊢ <;> first
            | exact ih _ _ h1 h2
            | exact ⟨h1.1, CallsIn.mono h1.2 (fun e w'' he => by
                cases e with
                | returned v => exact ih _ _ he h2
                | panicked c => exact he
                | outgrown => exact he)⟩
            | exact ⟨h1.1, RowsIn.mono h1.2 (fun _ _ he => ih _ _ he h2)⟩
            | exact ⟨h1.1, RoundIn.mono h1.2 (fun e w'' he => by
                cases e with
                | returned v => exact ih _ _ he h2
                | panicked c => exact he
                | outgrown => exact he)⟩
        | halt x w' => cases x <;> simp only [Oper.uponIn] at h1 ⊢ <;> exact h1
      · rename_i hw
        rw [if_neg hw] at h1
        exact ⟨fun _ _ => trivial, ih _ _ h1.2 h2⟩
  intro a ha
  have := key (l.take k) (l.drop k) a w (h a ha) hj
  rwa [List.take_append_drop] at this

/-- An operation that gives a value. -/
theorem Jz {d : Nat} {op : Op} {ty : TypeId} {pos : String} {af : Array Edge} {v : Value} {w' : World} (hd : Nat.blt d n = true)
    (hr : (execOp (ev ρ) ⟨some d, op, ty, pos, af, none⟩).run P w = .ok (.value v) w') (h : WL μ P n ops Q rest (upd ρ d v) w') :
    WL μ P n ops Q (⟨some d, op, ty, pos, af, none⟩ :: rest) ρ w := fun a ha => by
  unfold wpListIn
  rw [if_pos (by rfl)]
  refine ⟨fun _ _ => trivial, ?_⟩
  rw [Oper.semAt_eq _ _ _ (not_defer hr (fun _ e => by cases e)), ha.eval, hr]
  exact h _ (ha.put (Nat.le_of_ble_eq_true hd) v)
/-- An operation that gives nothing. -/
theorem WL_unit {op : Op} {ty : TypeId} {pos : String} {af : Array Edge} {w' : World}
    (hr : (execOp (ev ρ) ⟨none, op, ty, pos, af, none⟩).run P w = .ok .skip w') (h : WL μ P n ops Q rest ρ w') :
    WL μ P n ops Q (⟨none, op, ty, pos, af, none⟩ :: rest) ρ w := fun a ha => by
  unfold wpListIn
  rw [if_pos (by rfl)]
  refine ⟨fun _ _ => trivial, ?_⟩
  rw [Oper.semAt_eq _ _ _ (not_defer hr (fun _ e => by cases e)), ha.eval, hr]
  exact h _ ha
/-- A guard: the operation is carried out, or passed over. -/
theorem Jq {d : Nat} {op : Op} {ty : TypeId} {pos : String} {af : Array Edge} {j t : Nat} {b want : Bool} (hd : Nat.blt d n = true) (hj : (ops[j]?).bind (·.dst) = some t) (ht : Nat.blt t n = true) (hb : ρ t = .bool b)
    (h1 : b = want → WL μ P n ops Q (⟨some d, op, ty, pos, af, none⟩ :: rest) ρ w) (h2 : b = !want → WL μ P n ops Q rest (upd ρ d undef) w) :
    WL μ P n ops Q (⟨some d, op, ty, pos, af, some (j, want)⟩ :: rest) ρ w := fun a ha => by
  have hy : yielded ops a.tmps j = some b := by
    unfold yielded
    rw [hj]
    have hlt : t < a.tmps.size := by rw [ha.size]; exact Nat.le_of_ble_eq_true ht
    have hg := ha.get t
    rw [hb] at hg
    simp only [Option.bind_some]
    rw [Array.getElem?_eq_getElem hlt]
    rw [Array.getD_eq_getD_getElem?, Array.getElem?_eq_getElem hlt] at hg
    simp only [Option.getD_some] at hg
    rw [hg]
  have hw : Region.wanted ⟨some d, op, ty, pos, af, some (j, want)⟩ (yielded ops a.tmps) = (b == want) := by
    simp only [Region.wanted, hy]
    cases b <;> cases want <;> rfl
  by_cases e : b = want
  · have := h1 e a ha
    unfold wpListIn at this ⊢
    rw [if_pos (by rfl)] at this
    rw [hw, if_pos (by simp [e])]
    exact this
  · have := h2 (by cases b <;> cases want <;> simp_all) _ (ha.put (Nat.le_of_ble_eq_true hd) undef)
    unfold wpListIn
    rw [hw, if_neg (by simpa using e)]
    exact ⟨fun _ _ => trivial, this⟩
/-- .. where it is known that the operation is done, and where that it is not. -/
theorem Ja {d : Nat} {op : Op} {ty : TypeId} {pos : String} {af : Array Edge} {j t : Nat} {b want : Bool} (hd : Nat.blt d n = true) (hj : (ops[j]?).bind (·.dst) = some t) (ht : Nat.blt t n = true) (hb : ρ t = .bool b) (hk : b = want)
    (h1 : WL μ P n ops Q (⟨some d, op, ty, pos, af, none⟩ :: rest) ρ w) : WL μ P n ops Q (⟨some d, op, ty, pos, af, some (j, want)⟩ :: rest) ρ w :=
  Jq hd hj ht hb (fun _ => h1) (fun h => by rw [hk] at h; cases want <;> cases h)
theorem Jv {d : Nat} {op : Op} {ty : TypeId} {pos : String} {af : Array Edge} {j t : Nat} {b want : Bool} (hd : Nat.blt d n = true) (hj : (ops[j]?).bind (·.dst) = some t) (ht : Nat.blt t n = true) (hb : ρ t = .bool b) (hk : b = !want)
    (h2 : WL μ P n ops Q rest (upd ρ d undef) w) : WL μ P n ops Q (⟨some d, op, ty, pos, af, some (j, want)⟩ :: rest) ρ w :=
  Jq hd hj ht hb (fun h => by rw [hk] at h; cases want <;> cases h) (fun _ => h2)
end
end Go.Proofs.YtnglgjgflohkmaaGreat.Sk
