/- A region whose order is open: each operation by itself, whatever came ahead. No condition. -/
import Derived.Test.YtnglgjgflohkmaaGreatSkMore
import Derived.StillTail
import Derived.OrdersIn
namespace Go.Proofs.YtnglgjgflohkmaaGreat.Sk
open Go
set_option linter.unusedVariables false
set_option linter.unusedSimpArgs false
set_option linter.unusedVariables false

def depL (o : Oper) : List Nat := (o.after.toList.filter (Region.binds .any)).map (·.on)
def Facts (F : Nat → Prop) : List Nat → Prop
  | [] => True
  | j :: l => F j ∧ Facts F l
def Each (C : Nat → Oper → Prop) : Nat → List Oper → Prop
  | _, [] => True
  | k, o :: l => C k o ∧ Each C (k + 1) l
theorem Facts.of {F : Nat → Prop} : ∀ {l : List Nat}, (∀ j ∈ l, F j) → Facts F l
  | [], _ => trivial
  | j :: l, h => ⟨h j (List.mem_cons_self ..), Facts.of fun i hi => h i (List.mem_cons_of_mem _ hi)⟩
theorem Facts.imp {F F' : Nat → Prop} (h : ∀ j, F j → F' j) : ∀ {l : List Nat}, Facts F l → Facts F' l
  | [], _ => trivial
  | j :: l, hf => ⟨h j hf.1, Facts.imp h hf.2⟩
theorem Each.get {C : Nat → Oper → Prop} : ∀ {l : List Oper} {k i : Nat} {o : Oper}, Each C k l → l[i]? = some o → C (k + i) o
  | [], _, _, _, _, h => by simp at h
  | o :: l, k, 0, o', h, e => by simp at e; subst e; exact h.1
  | o :: l, k, i + 1, o', h, e => by
    have := Each.get (i := i) h.2 (by simpa using e)
    rwa [Nat.add_assoc, Nat.add_comm 1 i] at this

/-- What an operation does: nothing to what is owned; the next turn of it; a new variable. -/
inductive Kind where
  | q
  | c (j : Nat)
  | a (cs : List Value) (e : TypeId)

section
variable {μ : Mode} {P : Program} {n : Nat} {Q : Post} {ρ : Env} {w B : World} {G : GH} {M : List Res}

theorem wpOp_of_list {F : Fence} {m : Nat} {ops : Array Oper} {o : Oper} {i : Nat} {a : Act} {w : World} {Q : Exit → Act → World → Prop} {K : Act → World → Prop} (hi : ops[i]? = some o)
    (hQ : ∀ a w, Q .normal a w → K a w) (h : wpListIn F m P ops Q [o] a w) : wpOpIn F m P ops Q i K a w := by
  have e : wpListIn F m P ops Q [] = fun a w => Q .normal a w := rfl
  unfold wpListIn at h
  rw [e] at h
  unfold wpOpIn
  simp only [hi]
  split
  · rename_i hw
    rw [if_pos hw] at h
    exact Oper.wpIn_mono (fun a w => hQ a w) h
  · rename_i hw
    rw [if_neg hw] at h
    exact ⟨h.1, hQ _ _ h.2⟩
theorem wpOp_Q {F : Fence} {m : Nat} {ops : Array Oper} {i : Nat} {a : Act} {w : World} {Q Q' : Exit → Act → World → Prop} {K : Act → World → Prop} (hQ : ∀ e a w, e ≠ .normal → Q e a w → Q' e a w) (h : wpOpIn F m P ops Q i K a w) : wpOpIn F m P ops Q' i K a w := by
  unfold wpOpIn at *
  split
  · rename_i hn; simpa [hn] using h
  · rename_i o ho
    simp only [ho] at h
    split
    · rename_i hw
      simp only [hw, if_true] at h
      refine ⟨h.1, ?_⟩
      have h := h.2
      generalize (o.semAt F.round a.eval).run P w = r at *
      cases r with
      | ok x w' =>
        cases x <;> simp only [Oper.uponIn] at h ⊢ <;> first
          | exact h
          | exact ⟨h.1, CallsIn.mono h.2 (fun e w'' he => by
              cases e with
              | returned v => exact he
              | panicked c => exact hQ _ _ _ (by simp) he
              | outgrown => obtain ⟨a, w, hh⟩ := he; exact ⟨a, w, hQ _ _ _ (by simp) hh⟩)⟩
          | exact ⟨h.1, RoundIn.mono h.2 (fun e w'' he => by
              cases e with
              | returned v => exact he
              | panicked c => exact hQ _ _ _ (by simp) he
              | outgrown => obtain ⟨a, w, hh⟩ := he; exact ⟨a, w, hQ _ _ _ (by simp) hh⟩)⟩
      | halt x w' => cases x <;> simp only [Oper.uponIn] at h ⊢ <;> first | exact h | exact hQ _ _ _ (by simp) h
    · rename_i hw; simp only [hw] at h; exact h
theorem wpAnyIn_of_seq {F : Fence} {m : Nat} {ops : Array Oper} {md : Region.Mode} {Q' : Exit → Act → World → Prop} : ∀ (l : List Oper) (k : Nat) (listed : Array Bool) (a : Act) (w : World), (∀ j, l[j]? = ops[k + j]?) →
    Region.seqB md ops l.length k listed = true → wpListIn F m P ops Q' l a w → wpAnyIn F m P md ops Q' l.length listed a w
  | [], _, _, _, _, _, hB, h => ⟨by simpa [Region.seqB] using hB, h⟩
  | o :: l, k, listed, a, w, hl, hB, h => by
    have h0 : ops[k]? = some o := by simpa using (hl 0).symm
    simp only [List.length_cons, Region.seqB, Bool.and_eq_true, decide_eq_true_eq] at hB
    refine ⟨fun h1 => (by rw [hB.1] at h1; cases h1), fun i hi => ?_⟩
    rw [hB.1] at hi
    have hik : i = k := by simpa using hi
    subst hik
    have hw : wpOpIn F m P ops Q' i (wpListIn F m P ops Q' l) a w := by unfold wpOpIn; simp only [h0]; exact h
    exact wpOpIn_mono (fun a' w' h' => wpAnyIn_of_seq l (i + 1) _ a' w' (fun j => by have := hl (j + 1); simpa [Nat.add_assoc, Nat.add_comm 1 j] using this) hB.2 h') hw

/-- The allocations that have been made, in their order. -/
def blockOf : Value → Nat
  | .pointer (some a) => a.block
  | _ => 0
def updO (ρ : Env) : Option Nat → Value → Env
  | some d, v => upd ρ d v
  | none, _ => ρ
def getO (ρ : Env) : Option Nat → Value
  | some d => ρ d
  | none => undef
def made (al : List (Nat × List Value × TypeId)) (ds : List (Option Nat)) (listed : Array Bool) (ρ : Env) : List Res :=
  al.filterMap fun x => if listed.getD x.1 false then some (.blk (blockOf (getO ρ (ds.getD x.1 none))) x.2.1 x.2.2) else none
def vals (ch : List Nat) (ds : List (Option Nat)) (k : Nat) (ρ : Env) : List Value := (ch.take k).map fun i => getO ρ (ds.getD i none)

theorem upd_ne (ρ : Env) {d t : Nat} (v : Value) (h : t ≠ d) : upd ρ d v t = ρ t := by
  show (bif Nat.beq t d then v else ρ.f t) = ρ.f t
  cases e : Nat.beq t d with
  | false => rfl
  | true => exact absurd (Nat.eq_of_beq_eq_true e) h
theorem upd_eq (ρ : Env) (d : Nat) (v : Value) : upd ρ d v d = v := by
  show (bif Nat.beq d d then v else ρ.f d) = v
  rw [Nat.beq_refl]; rfl

theorem get_updO (ρ : Env) {d d' : Option Nat} (v : Value) (h : ∀ t, d' = some t → d ≠ some t) : getO (updO ρ d v) d' = getO ρ d' := by
  cases d' with
  | none => rfl
  | some t =>
    cases d with
    | none => rfl
    | some u => exact upd_ne ρ v (fun e => h t rfl (by rw [e]))

def Fix (ds : List (Option Nat)) (ρ' ρ : Env) : Prop := (∀ t, some t ∉ ds → ρ' t = ρ t) ∧ ρ'.ks = ρ.ks
theorem updO_ks (ρ : Env) (d : Option Nat) (v : Value) : (updO ρ d v).ks = ρ.ks := by cases d <;> rfl
/-- Each waits for the one ahead of it. -/
def pathB (ops : Array Oper) : List Nat → Bool
  | a :: b :: l => Region.waitsFor .any ops b a && pathB ops (b :: l)
  | _ => true
abbrev Turns := Nat → List Value → GH → List Res → Prop
def posts (B : World) (G : GH) (M A : List Res) (T : Turns) (vs : List Value) (Φ : Nat → GH → Value → Prop) (ρ : Env) (d : Option Nat) (i : Nat) : Kind → Post
  | .q => fun e ρ' w' => e = .normal ∧ ∃ v G', ρ' = updO ρ d v ∧ Ext G G' ∧ St B w' G' (M ++ A) ∧ ∀ G3, Ext G' G3 → Φ i G3 (getO ρ' d)
  | .c j => fun e ρ' w' => e = .normal ∧ ∃ v G' M', ρ' = updO ρ d v ∧ Ext G G' ∧ St B w' G' (M' ++ A) ∧ ∀ G3, Ext G' G3 → T (j + 1) (vs ++ [getO ρ' d]) G3 M' ∧ Φ i G3 (getO ρ' d)
  | .a cs e => fun ex ρ' w' => ex = .normal ∧ ∃ b G' t, d = some t ∧ ρ' = updO ρ d (.pointer (some ⟨b, 0, none⟩)) ∧ Ext G G' ∧ St B w' G' (.blk b cs e :: (M ++ A)) ∧ ∀ G3, Ext G' G3 → Φ i G3 (getO ρ' d)
def stage (kd : Kind) (k : Nat) : Prop :=
  match kd with
  | .c j => k = j
  | _ => True
/-- One operation, whatever came ahead of it. -/
def StepOk (μ : Mode) (P : Program) (n : Nat) (ops : Array Oper) (B : World) (G : GH) (ρ : Env) (ds : List (Option Nat)) (ch : List Nat) (al : List (Nat × List Value × TypeId)) (T : Turns) (Φ : Nat → GH → Value → Prop) (kd : Kind) (i : Nat) (o : Oper) : Prop :=
  ∀ k ρ' w' G' M A, k ≤ ch.length → stage kd k → (al = [] → A = []) → Ext G G' → St B w' G' (M ++ A) → (∀ G3, Ext G' G3 → T k (vals ch ds k ρ') G3 M) → Fix ds ρ' ρ → (∀ q c b p, ch[q]? = some c → pathB ops (c :: b :: p) = true → (c :: b :: p).getLast? = some i → q < k) → (∀ q c p, ch[q]? = some c → pathB ops (i :: p) = true → (i :: p).getLast? = some c → k ≤ q) →
    Facts (fun j => ∀ G3, Ext G' G3 → Φ j G3 (getO ρ' (ds.getD j none))) (depL o) → WL μ P n ops (posts B G' M A T (vals ch ds k ρ') Φ ρ' (ds.getD i none) i kd) [o] ρ' w'
def Each2 (C : Kind → Nat → Oper → Prop) : Nat → List Kind → List Oper → Prop
  | _, _, [] => True
  | _, [], _ :: _ => False
  | k, kd :: ks, o :: l => C kd k o ∧ Each2 C (k + 1) ks l
theorem Each2.get {C : Kind → Nat → Oper → Prop} : ∀ {l : List Oper} {ks : List Kind} {k i : Nat} {o : Oper}, Each2 C k ks l → l[i]? = some o → ∃ kd, ks[i]? = some kd ∧ C kd (k + i) o
  | [], _, _, _, _, _, e => by simp at e
  | _ :: _, [], _, _, _, h, _ => h.elim
  | o :: l, kd :: ks, k, 0, o', h, e => by
    simp only [List.getElem?_cons_zero, Option.some.injEq] at e; subst e; exact ⟨kd, rfl, h.1⟩
  | o :: l, kd :: ks, k, i + 1, o', h, e => by
    obtain ⟨kd', h1, h2⟩ := Each2.get (i := i) h.2 (by simpa using e)
    refine ⟨kd', by simpa using h1, ?_⟩
    rw [show k + (i + 1) = k + 1 + i by omega]; exact h2
/-- The kinds, the turns' order and the allocations fit together. -/
def kindsOk (l : List Oper) (ks : List Kind) (ch : List Nat) (al : List (Nat × List Value × TypeId)) : Prop :=
  (∀ i j, ks[i]? = some (Kind.c j) → ch[j]? = some i) ∧ (∀ j i, ch[j]? = some i → ks[i]? = some (Kind.c j)) ∧ (∀ i cs e, ks[i]? = some (Kind.a cs e) → (i, cs, e) ∈ al) ∧ (∀ x ∈ al, ks[x.1]? = some (Kind.a x.2.1 x.2.2)) ∧ (al.map (·.1)).Nodup ∧
  (∀ j a b, ch[j]? = some a → ch[j + 1]? = some b → ∃ c p, pathB l.toArray (a :: c :: p) = true ∧ (a :: c :: p).getLast? = some b)

/-- The state of a region under way. -/
structure Under (B : World) (G : GH) (ρ0 : Env) (l : List Oper) (n : Nat) (ds : List (Option Nat)) (ch : List Nat) (al : List (Nat × List Value × TypeId)) (T : Turns) (Φ : Nat → GH → Value → Prop) (listed : Array Bool) (ρ : Env) (w : World) : Prop where
  head : HeadInv .any l.toArray n listed
  fix : Fix ds ρ ρ0
  st : ∃ G' k M A, Ext G G' ∧ k ≤ ch.length ∧ (∀ j i, ch[j]? = some i → (listed.getD i false = true ↔ j < k)) ∧ (made al ds listed ρ).Perm A ∧ St B w G' (M ++ A) ∧ (∀ G3, Ext G' G3 → T k (vals ch ds k ρ) G3 M) ∧
    ∀ i, i < n → listed.getD i false = true → ∀ G3, Ext G' G3 → Φ i G3 (getO ρ (ds.getD i none))

theorem path_up {ops : Array Oper} {n : Nat} {listed : Array Bool} (hi : HeadInv .any ops n listed) : ∀ {l : List Nat} {a z : Nat}, pathB ops (a :: l) = true → (a :: l).getLast? = some z → listed.getD z false = true → listed.getD a false = true
  | [], a, z, _, h, hz => by simp at h; subst h; exact hz
  | b :: l, a, z, hp, h, hz => by
    unfold pathB at hp
    rw [Bool.and_eq_true] at hp
    have hb := path_up hi (l := l) (a := b) hp.2 (by simpa [List.getLast?_cons_cons] using h) hz
    obtain ⟨oj, hoj, e, he, hbn, hon⟩ := Region.waitsFor_spec hp.1
    have := hi.closed b oj hoj hb e he hbn
    rwa [hon] at this
theorem path_lo {ops : Array Oper} {n : Nat} {listed : Array Bool} (hi : HeadInv .any ops n listed) {z : Nat} {o : Oper} (ho : ops[z]? = some o) (hz : ∀ e ∈ o.after, Region.binds .any e = true → listed.getD e.on false = true) : ∀ {l : List Nat} {a b : Nat}, pathB ops (a :: b :: l) = true → (a :: b :: l).getLast? = some z → listed.getD a false = true
  | [], a, b, hp, h => by
    simp at h
    subst h
    unfold pathB at hp
    rw [Bool.and_eq_true] at hp
    obtain ⟨oj, hoj, e, he, hbn, hon⟩ := Region.waitsFor_spec hp.1
    have : oj = o := Option.some.inj (hoj.symm.trans ho)
    subst this
    have := hz e he hbn
    rwa [hon] at this
  | c :: l, a, b, hp, h => by
    unfold pathB at hp
    rw [Bool.and_eq_true] at hp
    have hb := path_lo hi ho hz (l := l) (a := b) (b := c) hp.2 (by simpa [List.getLast?_cons_cons] using h)
    obtain ⟨oj, hoj, e, he, hbn, hon⟩ := Region.waitsFor_spec hp.1
    have := hi.closed b oj hoj hb e he hbn
    rwa [hon] at this
theorem getD_set_self {listed : Array Bool} {i : Nat} (h : i < listed.size) : (listed.setIfInBounds i true).getD i false = true := by simp [h]

theorem vals_upd {ch : List Nat} {ds : List (Option Nat)} {k : Nat} {ρ : Env} {d : Option Nat} {v : Value} (h : ∀ i ∈ ch.take k, ∀ t, ds.getD i none = some t → d ≠ some t) : vals ch ds k (updO ρ d v) = vals ch ds k ρ := by
  unfold vals
  exact List.map_congr_left fun i hi => get_updO ρ v (h i hi)
theorem made_upd {al : List (Nat × List Value × TypeId)} {ds : List (Option Nat)} {listed : Array Bool} {ρ : Env} {i : Nat} {d : Option Nat} {v : Value} (h : ∀ x ∈ al, x.1 ≠ i ∧ ∀ t, ds.getD x.1 none = some t → d ≠ some t) : made al ds (listed.setIfInBounds i true) (updO ρ d v) = made al ds listed ρ := by
  unfold made
  induction al with
  | nil => rfl
  | cons x al ih =>
    have hx := h x (List.mem_cons_self ..)
    rw [List.filterMap_cons, List.filterMap_cons, ih fun y hy => h y (List.mem_cons_of_mem _ hy), getD_set_ne false (Ne.symm hx.1), get_updO ρ v hx.2]
theorem made_add {ds : List (Option Nat)} {listed : Array Bool} {ρ : Env} {i b t0 : Nat} {cs : List Value} {e : TypeId} (ht : ds.getD i none = some t0) (hi : i < listed.size) (hl : listed.getD i false = false) : ∀ {al : List (Nat × List Value × TypeId)}, (i, cs, e) ∈ al → (al.map (·.1)).Nodup → (∀ x ∈ al, x.1 ≠ i → ∀ t, ds.getD x.1 none = some t → ds.getD i none ≠ some t) →
    (made al ds (listed.setIfInBounds i true) (updO ρ (ds.getD i none) (.pointer (some ⟨b, 0, none⟩)))).Perm (.blk b cs e :: made al ds listed ρ)
  | [], h, _, _ => by cases h
  | x :: al, h, hn, hd => by
    have hn' := List.nodup_cons.1 (by simpa using hn : (x.1 :: al.map (·.1)).Nodup)
    by_cases hx : x.1 = i
    · have hxe : x = (i, cs, e) := by
        rcases List.mem_cons.1 h with h | h
        · exact h.symm
        · exact absurd (List.mem_map.2 ⟨(i, cs, e), h, hx.symm⟩) hn'.1
      subst hxe
      have hrest : ∀ y ∈ al, y.1 ≠ i := fun y hy e => hn'.1 (List.mem_map.2 ⟨y, hy, e⟩)
      have e1 := made_upd (listed := listed) (ρ := ρ) (v := .pointer (some ⟨b, 0, none⟩)) (al := al) (i := i) (d := ds.getD i none) (ds := ds) fun y hy => ⟨hrest y hy, hd y (List.mem_cons_of_mem _ hy) (hrest y hy)⟩
      unfold made at e1 ⊢
      rw [List.filterMap_cons, List.filterMap_cons, e1]
      have hg : getO (updO ρ (ds.getD i none) (.pointer (some ⟨b, 0, none⟩))) (ds.getD i none) = .pointer (some ⟨b, 0, none⟩) := by rw [ht]; exact upd_eq ..
      simp only [getD_set_self hi, if_true, hg, blockOf, hl, Bool.false_eq_true, if_false]
      exact List.Perm.refl _
    · have ih := made_add (ρ := ρ) (b := b) ht hi hl (al := al) (by
        rcases List.mem_cons.1 h with h | h
        · exact absurd (by rw [← h]) hx
        · exact h) hn'.2 fun y hy => hd y (List.mem_cons_of_mem _ hy)
      unfold made at ih ⊢
      rw [List.filterMap_cons, List.filterMap_cons, getD_set_ne false (Ne.symm hx), get_updO ρ _ (hd x (List.mem_cons_self ..) hx)]
      split
      · exact ih
      · exact (List.Perm.cons _ ih).trans (List.Perm.swap ..)

/-- The prefix is done. -/
def preL (n0 m : Nat) : Array Bool := (List.replicate n0 true ++ List.replicate (m - n0) false).toArray
def backB (ops : Array Oper) : Bool := (List.range ops.size).all fun i => match ops[i]? with
  | some o => o.after.all fun e => !Region.binds .any e || Nat.blt e.on i
  | none => true
theorem backB_spec {ops : Array Oper} (h : backB ops = true) {i : Nat} {o : Oper} (ho : ops[i]? = some o) : ∀ e ∈ o.after, Region.binds .any e = true → e.on < i := by
  intro e he hb
  have h1 := List.all_eq_true.1 h i (List.mem_range.2 (Array.getElem?_eq_some_iff.1 ho).1)
  simp only [ho] at h1
  have h2 := Array.all_eq_true'.1 h1 e he
  simp only [hb, Bool.not_true, Bool.false_or] at h2
  exact Nat.le_of_ble_eq_true h2
theorem ready_ex {ops : Array Oper} {n0 : Nat} {listed : Array Bool} (hb : backB ops = true) (hn : n0 ≤ ops.size) (hs : listed.size = ops.size) : ∀ i, i < n0 → listed.getD i false = false → Region.ready .any ops listed ≠ [] := by
  intro i
  induction i using Nat.strongRecOn with
  | _ i ih =>
    intro hi hl hr
    obtain ⟨o, ho⟩ : ∃ o, ops[i]? = some o := ⟨ops[i], Array.getElem?_eq_getElem (by omega)⟩
    have : i ∈ Region.ready .any ops listed := by
      refine mem_ready.2 ⟨getD_in (by omega) hl, o, ho, fun e he hbn => ?_⟩
      have hlt := backB_spec hb ho e he hbn
      cases hle : listed.getD e.on false with
      | true => rfl
      | false => exact absurd hr (ih e.on hlt (by omega) hle)
    rw [hr] at this; cases this
theorem preL_of {listed : Array Bool} {n0 m : Nat} (hs : listed.size = m) (hn : n0 ≤ m) (h1 : ∀ i, i < n0 → listed.getD i false = true) (h2 : ∀ t, n0 ≤ t → t < m → listed.getD t true = false) : listed = preL n0 m := by
  apply Array.ext
  · simp [preL, hs]; omega
  · intro i hi hi'
    by_cases h : i < n0
    · have := h1 i h
      simp only [Array.getD_eq_getD_getElem?, Array.getElem?_eq_getElem hi, Option.getD_some] at this
      rw [this]
      simp [preL, h, List.getElem_append]
    · have := h2 i (by omega) (by omega)
      simp only [Array.getD_eq_getD_getElem?, Array.getElem?_eq_getElem hi, Option.getD_some] at this
      rw [this]
      simp [preL, h, List.getElem_append]
theorem made_all {ds : List (Option Nat)} {listed : Array Bool} {ρ : Env} : ∀ {al : List (Nat × List Value × TypeId)}, (∀ x ∈ al, listed.getD x.1 false = true) → made al ds listed ρ = al.map fun x => .blk (blockOf (getO ρ (ds.getD x.1 none))) x.2.1 x.2.2
  | [], _ => rfl
  | x :: al, h => by
    have ih := made_all (ds := ds) (ρ := ρ) (al := al) fun y hy => h y (List.mem_cons_of_mem _ hy)
    unfold made at ih ⊢
    rw [List.filterMap_cons, h x (List.mem_cons_self ..), if_pos rfl, ih]; rfl
theorem ds_ne {ds : List (Option Nat)} (hnd : (ds.filterMap fun x => x).Nodup) : ∀ {i j : Nat} {t : Nat}, ds.getD i none = some t → i ≠ j → ds.getD j none ≠ some t := by
  induction ds with
  | nil => intro i j t h; simp at h
  | cons x ds ih =>
    have hnd' : (ds.filterMap fun x => x).Nodup := by
      cases x with
      | none => simpa using hnd
      | some y => exact (List.nodup_cons.1 (by simpa using hnd)).2
    have hx : ∀ (k t : Nat), x = some t → ds.getD k none ≠ some t := fun k t hx e => by
      subst hx
      have h1 := (List.nodup_cons.1 (by simpa using hnd : (t :: ds.filterMap fun x => x).Nodup)).1
      refine h1 (List.mem_filterMap.2 ⟨some t, ?_, rfl⟩)
      rw [List.getD_eq_getElem?_getD] at e
      cases hk : ds[k]? with
      | none => rw [hk] at e; cases e
      | some y => rw [hk] at e; simp at e; subst e; exact List.mem_of_getElem? hk
    intro i j t h hne
    cases i with
    | zero =>
      cases j with
      | zero => exact absurd rfl hne
      | succ j => simp only [List.getD_cons_zero] at h; simp only [List.getD_cons_succ]; exact hx j t h
    | succ i =>
      cases j with
      | zero => simp only [List.getD_cons_succ] at h; simp only [List.getD_cons_zero]; exact fun e => hx i t e h
      | succ j => simp only [List.getD_cons_succ] at h ⊢; exact ih hnd' h (by omega)

theorem W_draw {id : Nat} {l : List Oper} (n0 : Nat) (ds : List (Option Nat)) (ch : List Nat) (al : List (Nat × List Value × TypeId)) (ks : List Kind) (T : Turns) (Φ : Nat → GH → Value → Prop)
    (hm : P.follows .mixedOrders = true) (hk : Nat.ble n0 l.length = true) (hback : backB l.toArray = true)
    (hside : n0 = l.length ∨ (Region.sinkB .any l.toArray n0 = true ∧ Region.chainB .any l.toArray n0 = true)) (hseq : Region.seqB .any l.toArray (l.drop n0).length n0 (preL n0 l.length) = true)
    (hds : (l.take n0).map (·.dst) = ds) (hnd : (ds.filterMap fun x => x).Nodup) (hks : kindsOk l ks ch al) (hlen : ks.length = n0)
    (st : St B w G M) (h0 : ∀ G3, Ext G G3 → T 0 [] G3 M)
    (steps : Each2 (StepOk μ P n l.toArray B G ρ ds ch al T Φ) 0 ks (l.take n0))
    (tail : ∀ ρ' w' G' M', Ext G G' → St B w' G' (M' ++ al.map (fun x => .blk (blockOf (getO ρ' (ds.getD x.1 none))) x.2.1 x.2.2)) → (∀ G3, Ext G' G3 → T ch.length (vals ch ds ch.length ρ') G3 M') → Fix ds ρ' ρ → (∀ j, j < n0 → ∀ G3, Ext G' G3 → Φ j G3 (getO ρ' (ds.getD j none))) → WL μ P n l.toArray Q (l.drop n0) ρ' w') :
    W μ P n (.region id l.toArray true) Q ρ w := by
  have hk' : n0 ≤ l.length := Nat.le_of_ble_eq_true hk
  obtain ⟨k1, k2, k3, k4, k5, k6⟩ := hks
  have hdl : ds.length = n0 := by
    have := congrArg List.length hds
    simp at this; omega
  have hklt : ∀ i kd, ks[i]? = some kd → i < n0 := fun i kd h => by have := (List.getElem?_eq_some_iff.1 h).1; omega
  have key : ∀ (f : Nat) (U : List Nat) (listed : Array Bool) (a : Act) (ρ' : Env) (w' : World), U.length = f → U.Nodup → (∀ i, i ∈ U ↔ i < n0 ∧ listed.getD i false = false) → Agree μ n a ρ' →
      Under B G ρ l n0 ds ch al T Φ listed ρ' w' → wpAnyIn (FW μ.r) 0 P .any l.toArray (lift μ n Q) (f + (l.drop n0).length) listed a w' := by
    intro f
    induction f with
    | zero =>
      intro U listed a ρ' w' hU _ hmem hag hun
      have hnil := List.eq_nil_of_length_eq_zero hU
      subst hnil
      have hall : ∀ i, i < n0 → listed.getD i false = true := fun i hi => by
        cases h : listed.getD i false with
        | true => rfl
        | false => have := (hmem i).2 ⟨hi, h⟩; cases this
      have hpre : listed = preL n0 l.length := preL_of (by simpa using hun.head.size) hk' hall (fun t h1 h2 => hun.head.tail t h1 (by simpa using h2))
      obtain ⟨G', k, M', A, e1, e2, e3, e4, e5, e6, e7⟩ := hun.st
      have hkc : k = ch.length := by
        rcases Nat.lt_or_ge k ch.length with h | h
        · have hc : ch[k]? = some ch[k] := List.getElem?_eq_getElem h
          have := (e3 k _ hc).1 (hall _ (hklt _ _ (k2 k _ hc)))
          omega
        · omega
      subst hkc
      rw [Nat.zero_add]
      refine wpAnyIn_of_seq (l.drop n0) n0 listed a w' (fun j => by simp [List.getElem?_drop]) (by rw [hpre]; exact hseq) ?_
      refine tail ρ' w' G' M' e1 ?_ e6 hun.fix (fun j hj => e7 j hj (hall j hj)) a hag
      rw [made_all fun x hx => hall _ (hklt _ _ (k4 x hx))] at e4
      exact e5.perm (List.Perm.append_left _ e4.symm)
    | succ f ih =>
      intro U listed a ρ' w' hU hndU hmem hag hun
      obtain ⟨i0, hi0⟩ : ∃ i0, i0 ∈ U := by
        cases U with
        | nil => simp at hU
        | cons x U => exact ⟨x, List.mem_cons_self ..⟩
      obtain ⟨hi0n, hi0l⟩ := (hmem i0).1 hi0
      have hsz : listed.size = l.length := by simpa using hun.head.size
      rw [show f + 1 + (l.drop n0).length = (f + (l.drop n0).length) + 1 by omega]
      refine ⟨fun hr => absurd hr (ready_ex hback (by simpa using hk') hun.head.size i0 hi0n hi0l), fun i hi => ?_⟩
      obtain ⟨hil, o, ho, hdep⟩ := mem_ready.1 hi
      have hin : i < n0 := by
        rcases Nat.lt_or_ge i n0 with h | h
        · exact h
        · rcases hside with hs | ⟨hs1, hs2⟩
          · have := (Array.getElem?_eq_some_iff.1 ho).1
            simp at this; omega
          · rcases Nat.lt_or_ge n0 l.length with h' | h'
            · exact absurd hi (tail_waits hs1 hs2 (by simpa using h') hun.head _ i0 rfl hi0n (getD_in (by omega) hi0l) i h)
            · have := (Array.getElem?_eq_some_iff.1 ho).1
              simp at this; omega
      have hil' : listed.getD i false = false := getD_both hil
      have hol : (l.take n0)[i]? = some o := by
        rw [List.getElem?_take_of_lt hin]; simpa using ho
      obtain ⟨kd, hkd, hstep⟩ := Each2.get steps hol
      rw [Nat.zero_add] at hstep
      obtain ⟨G', k, M', A, e1, e2, e3, e4, e5, e6, e7⟩ := hun.st
      have hdi : ds.getD i none ∈ ds := by
        rw [List.getD_eq_getElem?_getD, List.getElem?_eq_getElem (by omega), Option.getD_some]; exact List.getElem_mem ..
      have hother : ∀ j, j < n0 → j ≠ i → ∀ t, ds.getD j none = some t → ds.getD i none ≠ some t := fun j _ hne t ht => ds_ne hnd ht hne
      have hlow : ∀ q c b p, ch[q]? = some c → pathB l.toArray (c :: b :: p) = true → (c :: b :: p).getLast? = some i → q < k := fun q c b p hq hp hl => (e3 q c hq).1 (path_lo hun.head ho hdep hp hl)
      have hupp : ∀ q c p, ch[q]? = some c → pathB l.toArray (i :: p) = true → (i :: p).getLast? = some c → k ≤ q := fun q c p hq hp hl => by
        rcases Nat.lt_or_ge q k with h | h
        · have := path_up hun.head hp hl ((e3 q c hq).2 h)
          rw [hil'] at this; cases this
        · exact h
      have hstage : stage kd k := by
        cases kd with
        | q => trivial
        | a cs e => trivial
        | c j =>
          show k = j
          have hcj := k1 i j hkd
          have hjk : ¬ j < k := fun h => by
            have := (e3 j i hcj).2 h
            rw [hil'] at this; cases this
          rcases Nat.lt_or_ge k j with h | h
          · exfalso
            have hjc := (List.getElem?_eq_some_iff.1 hcj).1
            have hcp : ch[j - 1]? = some (ch.getD (j - 1) 0) := by
              rw [List.getD_eq_getElem?_getD, List.getElem?_eq_getElem (by omega), Option.getD_some]
            obtain ⟨c, p, hp1, hp2⟩ := k6 (j - 1) _ i hcp (by rw [show j - 1 + 1 = j by omega]; exact hcj)
            have hl := path_lo hun.head ho hdep hp1 hp2
            have := (e3 _ _ hcp).1 hl
            omega
          · omega
      have hA : al = [] → A = [] := fun h => by subst h; exact (List.nil_perm.1 (by simpa [made] using e4))
      have hfacts : Facts (fun j => ∀ G3, Ext G' G3 → Φ j G3 (getO ρ' (ds.getD j none))) (depL o) := Facts.of fun j hj => by
        obtain ⟨e, he, rfl⟩ := List.mem_map.1 hj
        obtain ⟨he1, he2⟩ := List.mem_filter.1 he
        have hlt := backB_spec hback ho e (by simpa using he1) he2
        exact e7 e.on (by omega) (hdep e (by simpa using he1) he2)
      have hwl := hstep k ρ' w' G' M' A e2 hstage hA e1 e5 e6 hun.fix hlow hupp hfacts a hag
      have hwp := wpOp_of_list (ops := l.toArray) (K := fun a w => lift μ n (posts B G' M' A T (vals ch ds k ρ') Φ ρ' (ds.getD i none) i kd) .normal a w) ho (fun a w h => h) hwl
      have hwp2 := wpOp_Q (Q' := lift μ n Q) (fun e a w hne hh => by
        obtain ⟨ρ2, _, hh⟩ := hh
        exfalso
        cases kd with
        | q => exact hne hh.1
        | c j => exact hne hh.1
        | a cs e => exact hne hh.1) hwp
      refine wpOpIn_mono (fun a2 w2 h2 => ?_) hwp2
      obtain ⟨ρ2, hag2, hp⟩ := h2
      have hin' : i < listed.size := by omega
      refine ih (U.erase i) (listed.setIfInBounds i true) a2 ρ2 w2 ?_ (hndU.erase i) (fun j => ?_) hag2 ?_
      · rw [List.length_erase_of_mem ((hmem i).2 ⟨hin, hil'⟩), hU]; rfl
      · rw [hndU.mem_erase_iff, hmem]
        constructor
        · rintro ⟨h1, h2, h3⟩
          exact ⟨h2, by rw [getD_set_ne false (Ne.symm h1)]; exact h3⟩
        · rintro ⟨h1, h2⟩
          have hne : j ≠ i := fun h => by subst h; rw [getD_set_self hin'] at h2; cases h2
          rw [getD_set_ne false (Ne.symm hne)] at h2
          exact ⟨hne, h1, h2⟩
      · have hset : ∀ j, j ≠ i → (listed.setIfInBounds i true).getD j false = listed.getD j false := fun j hj => getD_set_ne false (Ne.symm hj)
        refine ⟨hun.head.set hi hin, ?_, ?_⟩
        · have hne : ∀ v, Fix ds (updO ρ' (ds.getD i none) v) ρ := fun v => ⟨fun t ht => (get_updO (d' := some t) ρ' v fun u hu e => ht (by rw [hu, ← e]; exact hdi)).trans (hun.fix.1 t ht), (updO_ks ..).trans hun.fix.2⟩
          cases kd with
          | q => obtain ⟨_, v, G2, rfl, _⟩ := hp; exact hne _
          | c j => obtain ⟨_, v, G2, M2, rfl, _⟩ := hp; exact hne _
          | a cs e => obtain ⟨_, b, G2, t0, _, rfl, _⟩ := hp; exact hne _
        · have hfac : ∀ (v : Value) (G2 : GH), Ext G' G2 → (∀ G3, Ext G2 G3 → Φ i G3 (getO (updO ρ' (ds.getD i none) v) (ds.getD i none))) → ∀ j, j < n0 → (listed.setIfInBounds i true).getD j false = true → ∀ G3, Ext G2 G3 → Φ j G3 (getO (updO ρ' (ds.getD i none) v) (ds.getD j none)) := by
            intro v G2 hx hv j hj hl G3 hG3
            by_cases hji : j = i
            · subst hji; exact hv G3 hG3
            · rw [get_updO _ _ (hother j hj hji)]
              rw [hset j hji] at hl
              exact e7 j hj hl G3 (hx.trans hG3)
          have hvals : ∀ (v : Value), (∀ j, j < k → ch[j]? ≠ some i) → vals ch ds k (updO ρ' (ds.getD i none) v) = vals ch ds k ρ' := fun v hno => vals_upd fun j hj => by
            obtain ⟨m, hm1, hm2⟩ := List.getElem_of_mem hj
            have hm3 : ch[m]? = some j := by
              rw [List.length_take] at hm1
              rw [List.getElem?_eq_getElem (by omega)]
              rw [List.getElem_take] at hm2
              rw [hm2]
            have hmk : m < k := by rw [List.length_take] at hm1; omega
            exact hother j (hklt _ _ (k2 _ _ hm3)) (fun h => hno m hmk (h ▸ hm3))
          have hmade : ∀ (v : Value), (∀ x ∈ al, x.1 ≠ i) → made al ds (listed.setIfInBounds i true) (updO ρ' (ds.getD i none) v) = made al ds listed ρ' := fun v hno => made_upd fun x hx => ⟨hno x hx, hother _ (hklt _ _ (k4 x hx)) (hno x hx)⟩
          cases kd with
          | q =>
            obtain ⟨_, v, G2, rfl, f1, f2, f3⟩ := hp
            have hnc : ∀ j, ch[j]? ≠ some i := fun j h => by have := k2 j i h; rw [hkd] at this; cases this
            refine ⟨G2, k, M', A, e1.trans f1, e2, fun j i' hj => ?_, ?_, f2, fun G3 h3 => ?_, hfac v G2 f1 f3⟩
            · rw [hset i' (fun h => hnc j (h ▸ hj))]; exact e3 j i' hj
            · rw [hmade v fun x hx h => by have := k4 x hx; rw [h, hkd] at this; cases this]; exact e4
            · rw [hvals v fun j _ => hnc j]; exact e6 G3 (f1.trans h3)
          | c j0 =>
            have : k = j0 := hstage
            subst this
            obtain ⟨_, v, G2, M2, rfl, f1, f2, f3⟩ := hp
            have hck := k1 i k hkd
            have hkl := (List.getElem?_eq_some_iff.1 hck).1
            have huniq : ∀ j, ch[j]? = some i → j = k := fun j h => by
              have := k2 j i h
              rw [hkd] at this
              injection this with this
              injection this with this
              exact this.symm
            refine ⟨G2, k + 1, M2, A, e1.trans f1, hkl, fun j i' hj => ?_, ?_, f2, fun G3 h3 => ?_, hfac v G2 f1 fun G3 h3 => (f3 G3 h3).2⟩
            · by_cases hii : i' = i
              · subst hii
                have := huniq j hj
                subst this
                rw [getD_set_self hin']
                exact ⟨fun _ => by omega, fun _ => rfl⟩
              · rw [hset i' hii, e3 j i' hj]
                constructor
                · intro h; omega
                · intro h
                  rcases Nat.lt_or_ge j k with h' | h'
                  · exact h'
                  · exfalso
                    have : j = k := by omega
                    subst this
                    rw [hck] at hj
                    exact hii (Option.some.inj hj).symm
            · rw [hmade v fun x hx h => by have := k4 x hx; rw [h, hkd] at this; cases this]; exact e4
            · have hv : vals ch ds (k + 1) (updO ρ' (ds.getD i none) v) = vals ch ds k ρ' ++ [getO (updO ρ' (ds.getD i none) v) (ds.getD i none)] := by
                rw [← hvals v fun j hj h => by have := huniq j h; omega]
                unfold vals
                rw [List.take_add_one, hck]
                simp
              rw [hv]
              exact (f3 G3 h3).1
          | a cs e =>
            obtain ⟨_, b, G2, t0, ht0, rfl, f1, f2, f3⟩ := hp
            have hnc : ∀ j, ch[j]? ≠ some i := fun j h => by have := k2 j i h; rw [hkd] at this; cases this
            refine ⟨G2, k, M', .blk b cs e :: A, e1.trans f1, e2, fun j i' hj => ?_, ?_, f2.perm List.perm_middle.symm, fun G3 h3 => ?_, hfac _ G2 f1 f3⟩
            · rw [hset i' (fun h => hnc j (h ▸ hj))]; exact e3 j i' hj
            · exact (made_add ht0 hin' hil' (k3 i cs e hkd) k5 fun x hx hne => hother _ (hklt _ _ (k4 x hx)) hne).trans (List.Perm.cons _ e4)
            · rw [hvals _ fun j _ => hnc j]; exact e6 G3 (f1.trans h3)
  intro a ha
  refine wpIn_region_any hm ?_
  have := key n0 (List.range n0) (Array.replicate l.toArray.size false) a ρ { w with drawn := w.drawn + 1 } (by simp) List.nodup_range (fun i => by rw [getD_replicate_false]; simp) ha
    ⟨⟨by simp, fun j oj _ hl => (by rw [getD_replicate_false] at hl; cases hl), fun t _ ht => getD_in (by simpa using ht) (getD_replicate_false _ _)⟩, ⟨fun t _ => rfl, rfl⟩,
      ⟨G, 0, M, [], Ext.refl _, Nat.zero_le _, fun j i _ => (by rw [getD_replicate_false]; simp), by
        have : made al ds (Array.replicate l.toArray.size false) ρ = [] := by
          unfold made
          refine List.filterMap_eq_nil_iff.2 fun x _ => ?_
          rw [getD_replicate_false]; rfl
        rw [this], by simpa using st.drew, fun G3 h => by simpa [vals] using h0 G3 h, fun i _ h => (by rw [getD_replicate_false] at h; cases h)⟩⟩
  rwa [show n0 + (l.drop n0).length = l.toArray.size by simp; omega] at this


def pk : List (GH → Value → Prop) → Nat → GH → Value → Prop
  | p :: _, 0 => p
  | _ :: l, i + 1 => pk l i
  | [], _ => fun _ _ => True
def nodupB : List Nat → Bool
  | [] => true
  | x :: l => !(l.any fun y => Nat.beq x y) && nodupB l
theorem nodupB_spec : ∀ {l : List Nat}, nodupB l = true → l.Nodup
  | [], _ => List.nodup_nil
  | x :: l, h => by
    unfold nodupB at h
    rw [Bool.and_eq_true, Bool.not_eq_true', List.any_eq_false] at h
    exact List.nodup_cons.2 ⟨fun hx => h.1 x hx (Nat.beq_refl x), nodupB_spec h.2⟩
def drawB (l : List Oper) (n0 : Nat) (ds : List (Option Nat)) : Bool :=
  Nat.ble n0 l.length && backB l.toArray && (Nat.beq n0 l.length || (Region.sinkB .any l.toArray n0 && Region.chainB .any l.toArray n0)) && Region.seqB .any l.toArray (l.drop n0).length n0 (preL n0 l.length) && nodupB (ds.filterMap fun x => x)
def StepQ (μ : Mode) (P : Program) (n : Nat) (ops : Array Oper) (B : World) (G : GH) (ρ : Env) (ds : List (Option Nat)) (M : List Res) (Φ : Nat → GH → Value → Prop) (i : Nat) (o : Oper) : Prop :=
  ∀ ρ' w' G', Ext G G' → St B w' G' M → Fix ds ρ' ρ → Facts (fun j => Φ j G' (getO ρ' (ds.getD j none))) (depL o) →
    WL μ P n ops (posts B G' M [] (fun _ _ _ M' => M' = M) [] Φ ρ' (ds.getD i none) i .q) [o] ρ' w'
theorem J4 {T : Turns} {vs : List Value} {Φ : Nat → GH → Value → Prop} {G' : GH} {i d : Nat} {v : Value} (he : Ext G G') (st : St B w G' M) (h : ∀ G3, Ext G' G3 → Φ i G3 v) : posts B G M [] T vs Φ ρ (some d) i .q .normal (upd ρ d v) w :=
  ⟨rfl, v, G', rfl, he, by rw [List.append_nil]; exact st, fun G3 h3 => by
    show Φ i G3 (upd ρ d v d)
    rw [upd_eq]; exact h G3 h3⟩
theorem Each.cons {C : Nat → Oper → Prop} {k : Nat} {o : Oper} {l : List Oper} (h : C k o) (t : Each C (k + 1) l) : Each C k (o :: l) := ⟨h, t⟩
theorem Each.nil {C : Nat → Oper → Prop} {k : Nat} : Each C k [] := trivial
theorem Ye {id : Nat} {l : List Oper} (n0 : Nat) (ds : List (Option Nat)) (Φ : Nat → GH → Value → Prop) (hm : P.follows .mixedOrders = true) (hB : drawB l n0 ds = true) (hds : (l.take n0).map (·.dst) = ds)
    (st : St B w G M) (steps : Each (StepQ μ P n l.toArray B G ρ ds M Φ) 0 (l.take n0))
    (tail : ∀ ρ' w' G', Ext G G' → St B w' G' M → Fix ds ρ' ρ → (∀ j, j < n0 → Φ j G' (getO ρ' (ds.getD j none))) → WL μ P n l.toArray Q (l.drop n0) ρ' w') :
    W μ P n (.region id l.toArray true) Q ρ w := by
  unfold drawB at hB
  simp only [Bool.and_eq_true, Bool.or_eq_true] at hB
  obtain ⟨⟨⟨⟨h1, h2⟩, h3⟩, h4⟩, h6⟩ := hB
  have hk' : n0 ≤ l.length := Nat.le_of_ble_eq_true h1
  have conv : ∀ (ops : List Oper) (k : Nat), Each (StepQ μ P n l.toArray B G ρ ds M Φ) k ops → Each2 (StepOk μ P n l.toArray B G ρ ds [] [] (fun _ _ _ M' => M' = M) Φ) k (List.replicate ops.length .q) ops := by
    intro ops
    induction ops with
    | nil => intro k _; unfold Each2; trivial
    | cons o ops ih =>
      intro k h
      refine ⟨?_, ih _ h.2⟩
      intro k' ρ' w' G' M' A hk hs hA he hst hT hfix _ _ hd
      have := hA rfl
      subst this
      have hM : M' = M := hT G' (Ext.refl _)
      subst hM
      rw [List.append_nil] at hst
      have hv : vals [] ds k' ρ' = [] := by simp [vals]
      rw [hv]
      refine h.1 ρ' w' G' he hst hfix ?_
      exact Facts.imp (fun j hj => hj G' (Ext.refl _)) hd
  have hlen : (l.take n0).length = n0 := by rw [List.length_take]; omega
  refine W_draw n0 ds [] [] (List.replicate (l.take n0).length .q) (fun _ _ _ M' => M' = M) Φ hm h1 h2 ?_ h4 hds (nodupB_spec h6) ?_ (by rw [List.length_replicate, hlen]) st (fun _ _ => rfl) (conv _ _ steps) ?_
  · rcases h3 with h | ⟨h, h'⟩
    · exact .inl (Nat.eq_of_beq_eq_true h)
    · exact .inr ⟨h, h'⟩
  · refine ⟨fun i j h => ?_, fun j i h => (by simp at h), fun i cs e h => ?_, fun x h => (by cases h), List.nodup_nil, fun j a b h => (by simp at h)⟩
    · rw [List.getElem?_replicate] at h; split at h <;> cases h
    · rw [List.getElem?_replicate] at h; split at h <;> cases h
  · intro ρ' w' G' M' he hst hT hfix hΦ
    have hM : M' = M := hT G' (Ext.refl _)
    subst hM
    refine tail ρ' w' G' he (by simpa using hst) hfix fun j hj => hΦ j hj G' (Ext.refl _)


def pkT : List (List Value → GH → List Res → Prop) → Turns
  | p :: _, 0 => p
  | _ :: l, i + 1 => pkT l i
  | [], _ => fun _ _ _ => False
def kindsB : List Nat → Nat → List Kind → Bool
  | ch, i, kd :: ks => (match kd with
    | .q => ch.all fun x => !(Nat.beq x i)
    | .c j => (match ch[j]? with | some x => Nat.beq x i | none => false) && ((List.range ch.length).all fun q => Nat.beq q j || !(Nat.beq (ch.getD q 0) i))
    | .a _ _ => false) && kindsB ch (i + 1) ks
  | ch, i, [] => ch.all fun x => Nat.blt x i
theorem kindsB_spec {ch : List Nat} : ∀ {ks : List Kind} {i0 : Nat}, kindsB ch i0 ks = true → (∀ i j, ks[i]? = some (Kind.c j) → ch[j]? = some (i0 + i)) ∧ (∀ j i, ch[j]? = some i → i < i0 ∨ ks[i - i0]? = some (Kind.c j)) ∧ (∀ (i : Nat) cs e, ks[i]? ≠ some (Kind.a cs e))
  | [], i0, h => by
    refine ⟨fun i j h => by simp at h, fun j i hj => .inl ?_, fun i cs e h => by simp at h⟩
    unfold kindsB at h
    exact Nat.le_of_ble_eq_true (List.all_eq_true.1 h i (List.mem_of_getElem? hj))
  | kd :: ks, i0, h => by
    unfold kindsB at h
    rw [Bool.and_eq_true] at h
    obtain ⟨r1, r2, r3⟩ := kindsB_spec h.2
    have h1 := h.1
    refine ⟨fun i j hi => ?_, fun j i hj => ?_, fun i cs e hi => ?_⟩
    · cases i with
      | zero =>
        simp only [List.getElem?_cons_zero, Option.some.injEq] at hi
        subst hi
        simp only [Bool.and_eq_true] at h1
        cases hc : ch[j]? with
        | none => rw [hc] at h1; exact absurd h1.1 (by simp)
        | some x => rw [hc] at h1; rw [Nat.add_zero, Nat.eq_of_beq_eq_true h1.1]
      | succ i =>
        have := r1 i j (by simpa using hi)
        rw [this]; congr 1; omega
    · rcases r2 j i hj with h' | h'
      · rcases Nat.lt_or_ge i i0 with h'' | h''
        · exact .inl h''
        · have : i = i0 := by omega
          subst this
          right
          rw [Nat.sub_self, List.getElem?_cons_zero]
          cases kd with
          | q =>
            have := List.all_eq_true.1 h1 i (List.mem_of_getElem? hj)
            simp at this
          | a _ _ => cases h1
          | c j' =>
            simp only [Bool.and_eq_true] at h1
            have hjl := (List.getElem?_eq_some_iff.1 hj).1
            have h2 := List.all_eq_true.1 h1.2 j (List.mem_range.2 hjl)
            rw [List.getD_eq_getElem?_getD, hj, Option.getD_some, Nat.beq_refl, Bool.not_true, Bool.or_false] at h2
            rw [Nat.eq_of_beq_eq_true h2]
      · by_cases h'' : i = i0
        · subst h''
          right
          rw [Nat.sub_self, List.getElem?_cons_zero]
          cases kd with
          | q =>
            have := List.all_eq_true.1 h1 i (List.mem_of_getElem? hj)
            simp at this
          | a _ _ => cases h1
          | c j' =>
            simp only [Bool.and_eq_true] at h1
            have hjl := (List.getElem?_eq_some_iff.1 hj).1
            have h2 := List.all_eq_true.1 h1.2 j (List.mem_range.2 hjl)
            rw [List.getD_eq_getElem?_getD, hj, Option.getD_some, Nat.beq_refl, Bool.not_true, Bool.or_false] at h2
            rw [Nat.eq_of_beq_eq_true h2]
        · rcases Nat.lt_or_ge i i0 with h3 | h3
          · exact .inl h3
          · right
            rw [show i - i0 = (i - (i0 + 1)) + 1 by omega, List.getElem?_cons_succ]; exact h'
    · cases i with
      | zero =>
        simp only [List.getElem?_cons_zero, Option.some.injEq] at hi
        subst hi; cases h1
      | succ i => exact r3 i cs e (by simpa using hi)
/-- Each turn waits for the one ahead, along a path. -/
def chainedB (l : List Oper) : List Nat → List (List Nat) → Bool
  | [], _ => true
  | [_], _ => true
  | a :: b :: ch, (c :: p) :: ps => pathB l.toArray (a :: c :: p) && (match (a :: c :: p).getLast? with | some z => Nat.beq z b | none => false) && chainedB l (b :: ch) ps
  | _, _ => false
theorem chainedB_spec {l : List Oper} : ∀ {ch : List Nat} {ps : List (List Nat)}, chainedB l ch ps = true → ∀ j a b, ch[j]? = some a → ch[j + 1]? = some b → ∃ c p, pathB l.toArray (a :: c :: p) = true ∧ (a :: c :: p).getLast? = some b
  | [], _, _, j, a, b, h, _ => by simp at h
  | [x], _, _, j, a, b, _, h => by simp at h
  | x :: y :: ch, [], hc, _, _, _, _, _ => by simp [chainedB] at hc
  | x :: y :: ch, [] :: ps, hc, _, _, _, _, _ => by simp [chainedB] at hc
  | x :: y :: ch, (c :: p) :: ps, hc, j, a, b, h1, h2 => by
    unfold chainedB at hc
    rw [Bool.and_eq_true, Bool.and_eq_true] at hc
    cases j with
    | zero =>
      simp only [List.getElem?_cons_zero, Option.some.injEq] at h1
      simp only [Nat.zero_add, List.getElem?_cons_succ, List.getElem?_cons_zero, Option.some.injEq] at h2
      subst h1 h2
      refine ⟨c, p, hc.1.1, ?_⟩
      have h3 := hc.1.2
      cases hg : (x :: c :: p).getLast? with
      | none => rw [hg] at h3; cases h3
      | some z => rw [hg] at h3; rw [Nat.eq_of_beq_eq_true h3]
    | succ j => exact chainedB_spec hc.2 j a b (by simpa using h1) (by simpa using h2)
def StepC (μ : Mode) (P : Program) (n : Nat) (ops : Array Oper) (B : World) (G : GH) (ρ : Env) (ds : List (Option Nat)) (ch : List Nat) (T : Turns) (Φ : Nat → GH → Value → Prop) (kd : Kind) (i : Nat) (o : Oper) : Prop :=
  ∀ k ρ' w' G' M, k ≤ ch.length → stage kd k → Ext G G' → St B w' G' M → (∀ G3, Ext G' G3 → T k (vals ch ds k ρ') G3 M) → Fix ds ρ' ρ → (∀ q c b p, ch[q]? = some c → pathB ops (c :: b :: p) = true → (c :: b :: p).getLast? = some i → q < k) → (∀ q c p, ch[q]? = some c → pathB ops (i :: p) = true → (i :: p).getLast? = some c → k ≤ q) → Facts (fun j => Φ j G' (getO ρ' (ds.getD j none))) (depL o) →
    WL μ P n ops (posts B G' M [] T (vals ch ds k ρ') Φ ρ' (ds.getD i none) i kd) [o] ρ' w'
theorem Facts.and {F F' : Nat → Prop} : ∀ {l : List Nat}, (∀ j ∈ l, F j) → Facts F' l → Facts (fun j => F j ∧ F' j) l
  | [], _, _ => trivial
  | j :: l, h, hf => ⟨⟨h j (List.mem_cons_self ..), hf.1⟩, Facts.and (fun i hi => h i (List.mem_cons_of_mem _ hi)) hf.2⟩
theorem Yi {T : Turns} {vs : List Value} {Φ : Nat → GH → Value → Prop} {G' : GH} {M' : List Res} {i d j : Nat} {v : Value} (he : Ext G G') (st : St B w G' M') (h : ∀ G3, Ext G' G3 → T (j + 1) (vs ++ [v]) G3 M' ∧ Φ i G3 v) : posts B G M [] T vs Φ ρ (some d) i (.c j) .normal (upd ρ d v) w :=
  ⟨rfl, v, G', M', rfl, he, by rw [List.append_nil]; exact st, fun G3 h3 => by
    show T (j + 1) (vs ++ [upd ρ d v d]) G3 M' ∧ Φ i G3 (upd ρ d v d)
    rw [upd_eq]; exact h G3 h3⟩
theorem Each2.cons {C : Kind → Nat → Oper → Prop} {k : Nat} {kd : Kind} {ks : List Kind} {o : Oper} {l : List Oper} (h : C kd k o) (t : Each2 C (k + 1) ks l) : Each2 C k (kd :: ks) (o :: l) := ⟨h, t⟩
theorem Each2.nil {C : Kind → Nat → Oper → Prop} {k : Nat} {ks : List Kind} : Each2 C k ks [] := by unfold Each2; trivial
theorem Each2.imp {C C' : Kind → Nat → Oper → Prop} (h : ∀ kd k o, C kd k o → C' kd k o) : ∀ {l : List Oper} {ks : List Kind} {k : Nat}, Each2 C k ks l → Each2 C' k ks l
  | [], _, _, _ => Each2.nil
  | _ :: _, [], _, hh => hh.elim
  | _ :: _, _ :: _, _, hh => ⟨h _ _ _ hh.1, Each2.imp h hh.2⟩
theorem Ym {id : Nat} {l : List Oper} (n0 : Nat) (ds : List (Option Nat)) (ch : List Nat) (ks : List Kind) (T : Turns) (Φ : Nat → GH → Value → Prop) (hm : P.follows .mixedOrders = true) (hB : drawB l n0 ds = true) (hds : (l.take n0).map (·.dst) = ds)
    (hks : kindsB ch 0 ks = true) (ps : List (List Nat)) (hch : chainedB l ch ps = true) (hlen : ks.length = n0)
    (st : St B w G M) (h0 : ∀ G3, Ext G G3 → T 0 [] G3 M) (steps : Each2 (StepC μ P n l.toArray B G ρ ds ch T Φ) 0 ks (l.take n0))
    (tail : ∀ ρ' w' G' M', Ext G G' → St B w' G' M' → T ch.length (vals ch ds ch.length ρ') G' M' → Fix ds ρ' ρ → (∀ j, j < n0 → Φ j G' (getO ρ' (ds.getD j none))) → WL μ P n l.toArray Q (l.drop n0) ρ' w') :
    W μ P n (.region id l.toArray true) Q ρ w := by
  unfold drawB at hB
  simp only [Bool.and_eq_true, Bool.or_eq_true] at hB
  obtain ⟨⟨⟨⟨h1, h2⟩, h3⟩, h4⟩, h6⟩ := hB
  obtain ⟨k1, k2, k3⟩ := kindsB_spec hks
  refine W_draw n0 ds ch [] ks T Φ hm h1 h2 ?_ h4 hds (nodupB_spec h6) ⟨fun i j h => by rw [k1 i j h, Nat.zero_add], fun j i h => ?_, fun i cs e h => absurd h (k3 i cs e), fun x h => (by cases h), List.nodup_nil, chainedB_spec hch⟩ hlen st h0 (Each2.imp ?_ steps) ?_
  · rcases h3 with h | ⟨h, h'⟩
    · exact .inl (Nat.eq_of_beq_eq_true h)
    · exact .inr ⟨h, h'⟩
  · rcases k2 j i h with h' | h'
    · omega
    · exact h'
  · intro kd i o h k ρ' w' G' M' A hk hs hA he hst hT hfix hlow hupp hd
    have := hA rfl
    subst this
    rw [List.append_nil] at hst
    exact h k ρ' w' G' M' hk hs he hst hT hfix hlow hupp (Facts.imp (fun j hj => hj G' (Ext.refl _)) hd)
  · intro ρ' w' G' M' he hst hT hfix hΦ
    exact tail ρ' w' G' M' he (by simpa using hst) (hT G' (Ext.refl _)) hfix fun j hj => hΦ j hj G' (Ext.refl _)


def alOf : Nat → List Kind → List (Nat × List Value × TypeId)
  | _, [] => []
  | i, .a cs e :: ks => (i, cs, e) :: alOf (i + 1) ks
  | i, .q :: ks => alOf (i + 1) ks
  | i, .c _ :: ks => alOf (i + 1) ks
theorem alOf_mem : ∀ {ks : List Kind} {i0 : Nat} {x : Nat × List Value × TypeId}, x ∈ alOf i0 ks → i0 ≤ x.1 ∧ ks[x.1 - i0]? = some (Kind.a x.2.1 x.2.2)
  | [], _, _, h => by cases h
  | .a cs e :: ks, i0, x, h => by
    rcases List.mem_cons.1 h with rfl | h
    · exact ⟨Nat.le_refl _, by simp⟩
    · obtain ⟨h1, h2⟩ := alOf_mem (ks := ks) h
      exact ⟨by omega, by rw [show x.1 - i0 = (x.1 - (i0 + 1)) + 1 by omega]; simpa using h2⟩
  | .q :: ks, i0, x, h => by
    obtain ⟨h1, h2⟩ := alOf_mem (ks := ks) h
    exact ⟨by omega, by rw [show x.1 - i0 = (x.1 - (i0 + 1)) + 1 by omega]; simpa using h2⟩
  | .c _ :: ks, i0, x, h => by
    obtain ⟨h1, h2⟩ := alOf_mem (ks := ks) h
    exact ⟨by omega, by rw [show x.1 - i0 = (x.1 - (i0 + 1)) + 1 by omega]; simpa using h2⟩
theorem mem_alOf : ∀ {ks : List Kind} {i0 i : Nat} {cs : List Value} {e : TypeId}, ks[i]? = some (Kind.a cs e) → (i0 + i, cs, e) ∈ alOf i0 ks
  | [], _, _, _, _, h => by simp at h
  | k :: ks, i0, 0, cs, e, h => by
    simp only [List.getElem?_cons_zero, Option.some.injEq] at h
    subst h
    exact List.mem_cons_self ..
  | .a _ _ :: ks, i0, i + 1, cs, e, h => by
    have := mem_alOf (ks := ks) (i0 := i0 + 1) (i := i) (by simpa using h)
    rw [show i0 + (i + 1) = i0 + 1 + i by omega]; exact List.mem_cons_of_mem _ this
  | .q :: ks, i0, i + 1, cs, e, h => by
    have := mem_alOf (ks := ks) (i0 := i0 + 1) (i := i) (by simpa using h)
    rw [show i0 + (i + 1) = i0 + 1 + i by omega]; exact this
  | .c _ :: ks, i0, i + 1, cs, e, h => by
    have := mem_alOf (ks := ks) (i0 := i0 + 1) (i := i) (by simpa using h)
    rw [show i0 + (i + 1) = i0 + 1 + i by omega]; exact this
theorem alOf_nodup : ∀ {ks : List Kind} {i0 : Nat}, ((alOf i0 ks).map (·.1)).Nodup
  | [], _ => List.nodup_nil
  | .a cs e :: ks, i0 => by
    refine List.nodup_cons.2 ⟨fun h => ?_, alOf_nodup (ks := ks)⟩
    obtain ⟨x, hx, hx2⟩ := List.mem_map.1 h
    have := (alOf_mem hx).1
    have h2 : x.1 = i0 := hx2
    omega
  | .q :: ks, i0 => alOf_nodup (ks := ks)
  | .c _ :: ks, i0 => alOf_nodup (ks := ks)
def kindsB2 : List Nat → Nat → List Kind → Bool
  | ch, i, kd :: ks => (match kd with
    | .q => ch.all fun x => !(Nat.beq x i)
    | .c j => (match ch[j]? with | some x => Nat.beq x i | none => false) && ((List.range ch.length).all fun q => Nat.beq q j || !(Nat.beq (ch.getD q 0) i))
    | .a _ _ => ch.all fun x => !(Nat.beq x i)) && kindsB2 ch (i + 1) ks
  | ch, i, [] => ch.all fun x => Nat.blt x i
theorem kindsB2_spec {ch : List Nat} : ∀ {ks : List Kind} {i0 : Nat}, kindsB2 ch i0 ks = true → (∀ i j, ks[i]? = some (Kind.c j) → ch[j]? = some (i0 + i)) ∧ (∀ j i, ch[j]? = some i → i < i0 ∨ ks[i - i0]? = some (Kind.c j))
  | [], i0, h => by
    refine ⟨fun i j h => by simp at h, fun j i hj => .inl ?_⟩
    unfold kindsB2 at h
    exact Nat.le_of_ble_eq_true (List.all_eq_true.1 h i (List.mem_of_getElem? hj))
  | kd :: ks, i0, h => by
    unfold kindsB2 at h
    rw [Bool.and_eq_true] at h
    obtain ⟨r1, r2⟩ := kindsB2_spec h.2
    have h1 := h.1
    refine ⟨fun i j hi => ?_, fun j i hj => ?_⟩
    · cases i with
      | zero =>
        simp only [List.getElem?_cons_zero, Option.some.injEq] at hi
        subst hi
        simp only [Bool.and_eq_true] at h1
        cases hc : ch[j]? with
        | none => rw [hc] at h1; exact absurd h1.1 (by simp)
        | some x => rw [hc] at h1; rw [Nat.add_zero, Nat.eq_of_beq_eq_true h1.1]
      | succ i =>
        have := r1 i j (by simpa using hi)
        rw [this]; congr 1; omega
    · rcases r2 j i hj with h' | h'
      · rcases Nat.lt_or_ge i i0 with h'' | h''
        · exact .inl h''
        · have : i = i0 := by omega
          subst this
          right
          rw [Nat.sub_self, List.getElem?_cons_zero]
          cases kd with
          | q =>
            have := List.all_eq_true.1 h1 i (List.mem_of_getElem? hj)
            simp at this
          | a _ _ =>
            have := List.all_eq_true.1 h1 i (List.mem_of_getElem? hj)
            simp at this
          | c j' =>
            simp only [Bool.and_eq_true] at h1
            have hjl := (List.getElem?_eq_some_iff.1 hj).1
            have h2 := List.all_eq_true.1 h1.2 j (List.mem_range.2 hjl)
            rw [List.getD_eq_getElem?_getD, hj, Option.getD_some, Nat.beq_refl, Bool.not_true, Bool.or_false] at h2
            rw [Nat.eq_of_beq_eq_true h2]
      · rcases Nat.lt_or_ge i i0 with h3 | h3
        · exact .inl h3
        · by_cases h'' : i = i0
          · subst h''
            right
            rw [Nat.sub_self, List.getElem?_cons_zero]
            cases kd with
            | q =>
              have := List.all_eq_true.1 h1 i (List.mem_of_getElem? hj)
              simp at this
            | a _ _ =>
              have := List.all_eq_true.1 h1 i (List.mem_of_getElem? hj)
              simp at this
            | c j' =>
              simp only [Bool.and_eq_true] at h1
              have hjl := (List.getElem?_eq_some_iff.1 hj).1
              have h2 := List.all_eq_true.1 h1.2 j (List.mem_range.2 hjl)
              rw [List.getD_eq_getElem?_getD, hj, Option.getD_some, Nat.beq_refl, Bool.not_true, Bool.or_false] at h2
              rw [Nat.eq_of_beq_eq_true h2]
          · right
            rw [show i - i0 = (i - (i0 + 1)) + 1 by omega, List.getElem?_cons_succ]; exact h'
theorem q_doneA {T : Turns} {vs : List Value} {Φ : Nat → GH → Value → Prop} {G' : GH} {A : List Res} {i d : Nat} {v : Value} (he : Ext G G') (st : St B w G' (M ++ A)) (h : ∀ G3, Ext G' G3 → Φ i G3 v) : posts B G M A T vs Φ ρ (some d) i .q .normal (upd ρ d v) w :=
  ⟨rfl, v, G', rfl, he, st, fun G3 h3 => by
    show Φ i G3 (upd ρ d v d)
    rw [upd_eq]; exact h G3 h3⟩
theorem c_doneA {T : Turns} {vs : List Value} {Φ : Nat → GH → Value → Prop} {G' : GH} {M' A : List Res} {i d j : Nat} {v : Value} (he : Ext G G') (st : St B w G' (M' ++ A)) (h : ∀ G3, Ext G' G3 → T (j + 1) (vs ++ [v]) G3 M' ∧ Φ i G3 v) : posts B G M A T vs Φ ρ (some d) i (.c j) .normal (upd ρ d v) w :=
  ⟨rfl, v, G', M', rfl, he, st, fun G3 h3 => by
    show T (j + 1) (vs ++ [upd ρ d v d]) G3 M' ∧ Φ i G3 (upd ρ d v d)
    rw [upd_eq]; exact h G3 h3⟩
theorem a_doneA {T : Turns} {vs : List Value} {Φ : Nat → GH → Value → Prop} {G' : GH} {A : List Res} {i d b : Nat} {cs : List Value} {e : TypeId} (he : Ext G G') (st : St B w G' (.blk b cs e :: (M ++ A))) (h : ∀ G3, Ext G' G3 → Φ i G3 (.pointer (some ⟨b, 0, none⟩))) : posts B G M A T vs Φ ρ (some d) i (.a cs e) .normal (upd ρ d (.pointer (some ⟨b, 0, none⟩))) w :=
  ⟨rfl, b, G', d, rfl, rfl, he, st, fun G3 h3 => by
    show Φ i G3 (upd ρ d _ d)
    rw [upd_eq]; exact h G3 h3⟩
theorem blk_of {ρ : Env} {t b : Nat} (h : ρ t = .pointer (some ⟨b, 0, none⟩)) : blockOf (getO ρ (some t)) = b := by
  show blockOf (ρ t) = b
  rw [h]; rfl
theorem W_drawA {id : Nat} {l : List Oper} (n0 : Nat) (ds : List (Option Nat)) (ch : List Nat) (ks : List Kind) (T : Turns) (Φ : Nat → GH → Value → Prop) (hm : P.follows .mixedOrders = true) (hB : drawB l n0 ds = true) (hds : (l.take n0).map (·.dst) = ds)
    (hks : kindsB2 ch 0 ks = true) (ps : List (List Nat)) (hch : chainedB l ch ps = true) (hlen : ks.length = n0)
    (st : St B w G M) (h0 : ∀ G3, Ext G G3 → T 0 [] G3 M) (steps : Each2 (StepOk μ P n l.toArray B G ρ ds ch (alOf 0 ks) T Φ) 0 ks (l.take n0))
    (tail : ∀ ρ' w' G' M', Ext G G' → St B w' G' (M' ++ (alOf 0 ks).map (fun x => .blk (blockOf (getO ρ' (ds.getD x.1 none))) x.2.1 x.2.2)) → T ch.length (vals ch ds ch.length ρ') G' M' → Fix ds ρ' ρ → (∀ j, j < n0 → Φ j G' (getO ρ' (ds.getD j none))) → WL μ P n l.toArray Q (l.drop n0) ρ' w') :
    W μ P n (.region id l.toArray true) Q ρ w := by
  unfold drawB at hB
  simp only [Bool.and_eq_true, Bool.or_eq_true] at hB
  obtain ⟨⟨⟨⟨h1, h2⟩, h3⟩, h4⟩, h6⟩ := hB
  obtain ⟨k1, k2⟩ := kindsB2_spec hks
  refine W_draw n0 ds ch (alOf 0 ks) ks T Φ hm h1 h2 ?_ h4 hds (nodupB_spec h6) ⟨fun i j h => by rw [k1 i j h, Nat.zero_add], fun j i h => ?_, fun i cs e h => by have := mem_alOf (i0 := 0) h; rwa [Nat.zero_add] at this, fun x h => (alOf_mem h).2, alOf_nodup, chainedB_spec hch⟩ hlen st h0 steps ?_
  · rcases h3 with h | ⟨h, h'⟩
    · exact .inl (Nat.eq_of_beq_eq_true h)
    · exact .inr ⟨h, h'⟩
  · rcases k2 j i h with h' | h'
    · omega
    · exact h'
  · intro ρ' w' G' M' he hst hT hfix hΦ
    exact tail ρ' w' G' M' he hst (hT G' (Ext.refl _)) hfix fun j hj => hΦ j hj G' (Ext.refl _)
end
end Go.Proofs.YtnglgjgflohkmaaGreat.Sk
