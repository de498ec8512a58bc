/- Maps. No condition. -/
import Derived.Test.YtnglgjgflohkmaaGreatSkOps2
import Derived.MapKept
import Derived.WideKeyRuns
namespace Go.Proofs.YtnglgjgflohkmaaGreat.Sk
open Go
set_option linter.unusedVariables false
set_option linter.unusedSimpArgs false
open Go.MapKept
set_option linter.unusedVariables false


/-- The place of a key. -/
def kfind {κ : Type} (keq : κ → κ → Bool) (k : κ) : List κ → Nat → Option Nat
  | [], _ => none
  | x :: xs, i => bif keq k x then some i else kfind keq k xs (i + 1)
structure KLaw (P : Program) (kt : TypeId) {κ : Type} (ke : κ → Value) (keq : κ → κ → Bool) : Prop where
  chk : ∀ (k : κ) (e : Bool) (w : World), (Instr.checkKey e 10000 kt (ke k)).run P w = .ok () w
  fnd : ∀ (k : κ) (es : List MapEntry) (ks : List κ) (w : World), es.map (·.key) = ks.map ke → (Instr.findKey kt (ke k) es).run P w = .ok ((kfind keq k ks 0).bind fun i => es[i]?.map fun e => (i, e.val)) w
  same : ∀ a b : κ, keq a b = true → Instr.sameBits 10000 (ke b) (ke a) = true

theorem kfind_ge {κ : Type} {keq : κ → κ → Bool} {k : κ} : ∀ {ks : List κ} {n i : Nat}, kfind keq k ks n = some i → n ≤ i
  | [], _, _, h => by cases h
  | x :: xs, n, i, h => by
    unfold kfind at h
    cases e : keq k x with
    | true => rw [e] at h; simp only [cond_true, Option.some.injEq] at h; omega
    | false => rw [e] at h; have := kfind_ge (show kfind keq k xs (n + 1) = some i from h); omega
section
variable {P : Program}
theorem KLaw.str {kt : TypeId} (hk : P.underlying kt = some .string) : KLaw P kt Value.string seq where
  chk := fun k e w => run_checkKey hk (by simp [IsKey]) e 9999
  fnd := fun k es ks w hm => by
    refine run_findKey hk ?_
    have key : ∀ (es : List MapEntry) (ks : List ByteArray) (n : Nat), es.map (·.key) = ks.map Value.string → Instr.findNow .string (.string k) es n = some ((kfind seq k ks n).bind fun i => es[i - n]?.map fun e => (i, e.val)) := by
      intro es
      induction es with
      | nil => intro ks n h; cases ks with
        | nil => rfl
        | cons k ks => cases h
      | cons e es ih =>
        intro ks n h
        cases ks with
        | nil => cases h
        | cons x ks =>
          simp only [List.map_cons, List.cons.injEq] at h
          unfold Instr.findNow kfind
          rw [h.1]
          cases hq : seq k x with
          | true =>
            have hq' : (k == x) = true := by rw [beq_toListBytes]; exact hq
            simp [Instr.sameNow, hq']
          | false =>
            have hq' : (k == x) = false := by rw [beq_toListBytes]; exact hq
            simp only [Instr.sameNow, hq', cond_false]
            rw [ih ks (n + 1) h.2]
            congr 1
            cases hf : kfind seq k ks (n + 1) with
            | none => rfl
            | some i =>
              have := kfind_ge hf
              simp only [Option.bind_some]
              rw [show i - n = (i - (n + 1)) + 1 by omega, List.getElem?_cons_succ]
    have := key es ks 0 hm
    simpa using this
  same := fun a b h => by
    have h1 : a.toList = b.toList := by simpa [seq] using h
    have h2 : (b == a) = true := by rw [beq_toListBytes, h1]; exact beq_self_eq_true _
    show (b == a) = true
    exact h2

/-- Keys that are structs of whole numbers. -/
def intFields (P : Program) (kt : TypeId) (m : Nat) : Prop := ∃ fs : Array Field, P.underlying kt = some (.struct fs) ∧ P.stoodInHeld kt = false ∧ fs.toList.length = m ∧ ∀ j (f : Field), fs.toList[j]? = some f → f.name ≠ "_" ∧ f.offset = j ∧ P.underlying f.type = some (.int .i64)
def IFs (P : Program) : Nat → List Field → Prop
  | _, [] => True
  | o, f :: fs => f.name ≠ "_" ∧ f.offset = o ∧ P.underlying f.type = some (.int .i64) ∧ IFs P (o + 1) fs
theorem IFs.get {P : Program} : ∀ {fs : List Field} {o j : Nat} {f : Field}, IFs P o fs → fs[j]? = some f → f.name ≠ "_" ∧ f.offset = o + j ∧ P.underlying f.type = some (.int .i64)
  | [], _, _, _, _, h => by simp at h
  | g :: fs, o, 0, f, ⟨h1, h2, h3, _⟩, h => by
    simp only [List.getElem?_cons_zero, Option.some.injEq] at h
    subst h; exact ⟨h1, h2, h3⟩
  | g :: fs, o, j + 1, f, ⟨_, _, _, h4⟩, h => by
    have := IFs.get h4 (by simpa using h : fs[j]? = some f)
    exact ⟨this.1, by rw [this.2.1]; omega, this.2.2⟩
theorem intFields.of {P : Program} {kt : TypeId} {m : Nat} {fs : List Field} (h : P.underlying kt = some (.struct fs.toArray)) (hs : P.stoodInHeld kt = false) (hm : fs.length = m) (hf : IFs P 0 fs) : intFields P kt m :=
  ⟨_, h, hs, hm, fun j f hj => by have := hf.get hj; exact ⟨this.1, by rw [this.2.1]; omega, this.2.2⟩⟩
def encI (l : List Int) : Value := .agg (l.map (Value.int .i64)).toArray
theorem check_fields {P : Program} {w : World} (e : Bool) (n : Nat) (xs : List Int) : ∀ (fs : List Field), (∀ f ∈ fs, f.name ≠ "_" ∧ P.underlying f.type = some (.int .i64) ∧ f.offset < xs.length) →
    (forIn fs PUnit.unit (fun (f : Field) (_ : PUnit) => if f.name ≠ "_" then (do
      let v ← part f.type (xs.map (Value.int .i64)).toArray f.offset
      Instr.checkKey e (n + 1) f.type v
      pure (ForInStep.yield PUnit.unit)) else pure (ForInStep.yield PUnit.unit) : Field → PUnit → Sem (ForInStep PUnit))).run P w = .ok PUnit.unit w
  | [], _ => by simp
  | f :: fs, h => by
    obtain ⟨h1, h2, h3⟩ := h f (List.mem_cons_self ..)
    have hp : (part f.type (xs.map (Value.int .i64)).toArray f.offset).run P w = .ok (.int .i64 xs[f.offset]) w := by
      have ha : (isAgg f.type).run P w = .ok false w := by simp [isAgg, run_underlying h2]
      simp [part, ha, h3]
    have hc : (Instr.checkKey e (n + 1) f.type (.int .i64 xs[f.offset])).run P w = .ok () w := run_checkKey h2 (by simp [IsKey]) e n
    have ih := check_fields (P := P) (w := w) e n xs fs fun g hg => h g (List.mem_cons_of_mem _ hg)
    simp only [List.forIn_cons, Sem.run_bind, h1, ne_eq, not_false_eq_true, if_true, Result.andThen_ok, hp, hc, Sem.run_pure]
    exact ih
def leq : List Int → List Int → Bool
  | [], [] => true
  | x :: xs, y :: ys => decide (x = y) && leq xs ys
  | _, _ => false
theorem leq_eq : ∀ {a b : List Int}, leq a b = true → a = b
  | [], [], _ => rfl
  | x :: xs, y :: ys, h => by
    unfold leq at h
    rw [Bool.and_eq_true] at h
    rw [of_decide_eq_true h.1, leq_eq h.2]
  | [], _ :: _, h => by cases h
  | _ :: _, [], h => by cases h
theorem same_ints : ∀ (l : List Int) (n : Nat), ((l.map (Value.int .i64)).zip (l.map (Value.int .i64))).all (fun (x, y) => Instr.sameBits n x y) = true
  | [], _ => rfl
  | x :: l, n => by
    simp only [List.map_cons, List.zip_cons_cons, List.all_cons, same_ints l n, Bool.and_true]
    cases n <;> simp [Instr.sameBits]
theorem KLaw.ints {kt : TypeId} {m : Nat} (hi : intFields P kt m) {κ : Type} (ks : κ → List Int) (hl : ∀ k, (ks k).length = m) : KLaw P kt (fun k => encI (ks k)) (fun a b => leq (ks a) (ks b)) where
  chk := fun k e w => by
    obtain ⟨fs, h1, h2, h3, h4⟩ := hi
    rw [show (10000 : Nat) = 9998 + 1 + 1 from rfl]
    unfold Instr.checkKey encI
    simp only [Sem.run_bind, run_underlying h1, Result.andThen_ok]
    have := check_fields (P := P) (w := w) e 9998 (ks k) fs.toList fun f hf => by
      obtain ⟨j, hj, he⟩ := List.getElem_of_mem hf
      have hq := h4 j f (by rw [List.getElem?_eq_getElem hj, he])
      exact ⟨hq.1, hq.2.2, by rw [hq.2.1, hl, ← h3]; exact hj⟩
    rw [← Array.forIn_toList]
    exact (congrArg (fun r : Result PUnit => r.andThen fun a w' => Sem.run P (pure ()) w') this).trans rfl
  fnd := fun k es ks' w hm => by
    obtain ⟨fs, h1, h2, h3, h4⟩ := hi
    rw [run_findKey_eq (P := P) (w := w) (k := kt) (by rw [h1])]
    have heq : ∀ a b : κ, (Op.equal kt (encI (ks a)) (encI (ks b))).run P w = .ok (leq (ks a) (ks b)) w := by
      intro a b
      refine run_equal_flat h1 h2 ?_
      have key : ∀ (fl : List Field) (o : Nat) (xs ys : List Int), xs.length = (ks a).length → (ks a).drop o = (ks a).drop o → True := fun _ _ _ _ _ _ => trivial
      have main : ∀ (fl : List Field) (o : Nat), (∀ j (f : Field), fl[j]? = some f → f.name ≠ "_" ∧ f.offset = o + j ∧ P.underlying f.type = some (.int .i64)) → o + fl.length = m →
          FlatEq P fl ((ks a).map (Value.int .i64)).toArray ((ks b).map (Value.int .i64)).toArray (leq ((ks a).drop o) ((ks b).drop o)) := by
        intro fl
        induction fl with
        | nil =>
          intro o _ ho
          have e1 : (ks a).drop o = [] := List.drop_eq_nil_of_le (by rw [hl]; simp at ho; omega)
          have e2 : (ks b).drop o = [] := List.drop_eq_nil_of_le (by rw [hl]; simp at ho; omega)
          rw [e1, e2]; exact FlatEq.nil
        | cons f fl ih =>
          intro o hf ho
          simp only [List.length_cons] at ho
          have hoa : o < (ks a).length := by rw [hl]; omega
          have hob : o < (ks b).length := by rw [hl]; omega
          obtain ⟨g1, g2, g3⟩ := hf 0 f rfl
          rw [List.drop_eq_getElem_cons hoa, List.drop_eq_getElem_cons hob]
          unfold leq
          refine FlatEq.cons g1 (x := .int .i64 (ks a)[o]) (y := .int .i64 (ks b)[o]) ?_ ?_ (CellEq.int g3) (ih (o + 1) (fun j f' hj => ?_) (by omega))
          · rw [g2]; simp [hoa]
          · rw [g2]; simp [hob]
          · have := hf (j + 1) f' (by simpa using hj)
            exact ⟨this.1, by rw [this.2.1]; omega, this.2.2⟩
      have := main fs.toList 0 (fun j f hj => by have := h4 j f hj; exact ⟨this.1, by rw [this.2.1]; omega, this.2.2⟩) (by omega)
      simpa using this
    have key : ∀ (es : List MapEntry) (ks2 : List κ) (n : Nat), es.map (·.key) = ks2.map (fun k => encI (ks k)) → (Instr.findAsking kt (encI (ks k)) es n).run P w = .ok ((kfind (fun a b => leq (ks a) (ks b)) k ks2 n).bind fun i => es[i - n]?.map fun e => (i, e.val)) w := by
      intro es
      induction es with
      | nil => intro ks2 n h; cases ks2 with
        | nil => simp [Instr.findAsking, kfind]
        | cons k ks => cases h
      | cons e es ih =>
        intro ks2 n h
        cases ks2 with
        | nil => cases h
        | cons x ks2 =>
          simp only [List.map_cons, List.cons.injEq] at h
          unfold Instr.findAsking kfind
          rw [h.1]
          simp only [Sem.run_bind, heq, Result.andThen_ok]
          cases hq : leq (ks k) (ks x) with
          | true => simp
          | false =>
            simp only [Bool.false_eq_true, if_false, cond_false]
            rw [ih ks2 (n + 1) h.2]
            congr 1
            cases hf : kfind (fun a b => leq (ks a) (ks b)) k ks2 (n + 1) with
            | none => rfl
            | some i =>
              have := kfind_ge hf
              simp only [Option.bind_some]
              rw [show i - n = (i - (n + 1)) + 1 by omega, List.getElem?_cons_succ]
    have := key es ks' 0 hm
    simpa using this
  same := fun a b h => by
    have e := leq_eq h
    simp only [encI, e]
    unfold Instr.sameBits
    simp [same_ints]
end


def mfind {κ α : Type} (keq : κ → κ → Bool) (k : κ) (xs : List (κ × α)) : Option α := (kfind keq k (xs.map (·.1)) 0).bind fun i => xs[i]?.map (·.2)
def mput {κ α : Type} (keq : κ → κ → Bool) (k : κ) (v : α) (xs : List (κ × α)) : List (κ × α) :=
  match kfind keq k (xs.map (·.1)) 0 with
  | some i => xs.set i (k, v)
  | none => xs ++ [(k, v)]
def MIs {κ α : Type} (ke : κ → Value) (ve : α → Value) (es : Array MapEntry) (xs : List (κ × α)) : Prop := es.toList.map (fun e => (e.key, e.val)) = xs.map fun x => (ke x.1, ve x.2)
def MW {κ α : Type} (vw : α → Prop) (xs : List (κ × α)) : Prop := ∀ x ∈ xs, vw x.2
theorem MW.nil {κ α : Type} {vw : α → Prop} : MW vw ([] : List (κ × α)) := fun _ h => by cases h
theorem MW.put {κ α : Type} {vw : α → Prop} {keq : κ → κ → Bool} {k : κ} {v : α} {xs : List (κ × α)} (h : MW vw xs) (hv : vw v) : MW vw (mput keq k v xs) := fun x hx => by
  unfold mput at hx
  split at hx
  · rcases List.mem_or_eq_of_mem_set hx with hx | rfl
    · exact h x hx
    · exact hv
  · rcases List.mem_append.1 hx with hx | hx
    · exact h x hx
    · rw [List.mem_singleton.1 hx]; exact hv
theorem MW.getD {κ α : Type} {vw : α → Prop} {keq : κ → κ → Bool} {k : κ} {z : α} {xs : List (κ × α)} (h : MW vw xs) (hz : vw z) : vw ((mfind keq k xs).getD z) := by
  unfold mfind
  cases kfind keq k (xs.map (·.1)) 0 with
  | none => exact hz
  | some i =>
    simp only [Option.bind_some]
    cases hx : xs[i]? with
    | none => exact hz
    | some x => exact h x (List.mem_of_getElem? hx)
/-- A map that is read. -/
def MRep {κ α : Type} (ke : κ → Value) (ve : α → Value) (vw : α → Prop) (G : GH) (v : Value) (xs : List (κ × α)) : Prop := ∃ b es clock, v = .map (some b) ∧ G b = some (true, .map es clock) ∧ MIs ke ve es xs ∧ MW vw xs
theorem MRep.mono {κ α : Type} {ke : κ → Value} {ve : α → Value} {vw : α → Prop} {G G' : GH} {v : Value} {xs : List (κ × α)} (hr : RoLe G G') (h : MRep ke ve vw G v xs) : MRep ke ve vw G' v xs := by
  obtain ⟨b, es, clock, h1, h2, h3⟩ := h
  exact ⟨b, es, clock, h1, hr _ _ rfl h2, h3⟩
theorem MRep.one {κ α : Type} {ke : κ → Value} {ve : α → Value} {vw : α → Prop} {G : GH} {v : Value} {xs : List (κ × α)} (h : MRep ke ve vw G v xs) : v.oneCell' = true := by obtain ⟨b, es, clock, rfl, _⟩ := h; rfl
section
variable {μ : Mode} {P : Program} {n : Nat} {Q : Post} {ρ : Env} {w B : World} {G : GH} {M l1 l2 : List Res} {ops : Array Oper} {rest : List Oper} {d : Nat} {ty : TypeId} {pos : String} {af : Array Edge}
variable {κ α : Type} {ke : κ → Value} {ve : α → Value} {vw : α → Prop} {z0 : α} {keq : κ → κ → Bool} {t kt et : TypeId} {x y z : Operand} {v : Value} {xs : List (κ × α)} {k : κ} {agg : Bool} {sz by' : Nat} {zv : Value}
theorem MIs.len {es : Array MapEntry} (h : MIs ke ve es xs) : es.size = xs.length := by
  have := congrArg List.length h
  simpa using this
theorem MIs.get {es : Array MapEntry} (h : MIs ke ve es xs) (i : Nat) : es.toList[i]?.map (fun e => (e.key, e.val)) = xs[i]?.map fun x => (ke x.1, ve x.2) := by
  have := congrArg (fun l => l[i]?) h
  simpa using this
theorem MIs.nil : MIs ke ve #[] ([] : List (κ × α)) := rfl
end
end Go.Proofs.YtnglgjgflohkmaaGreat.Sk
