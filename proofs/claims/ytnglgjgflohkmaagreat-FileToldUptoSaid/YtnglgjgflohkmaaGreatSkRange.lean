/- Ranges over functions. No condition. -/
import Derived.Test.YtnglgjgflohkmaaGreatSkDraw
import Derived.RangeFuncSeq
namespace Go.Proofs.YtnglgjgflohkmaaGreat.Sk
open Go
set_option linter.unusedVariables false
set_option linter.unusedSimpArgs false
set_option linter.unusedVariables false


def MarksIn (G0 G : GH) (ks : List Nat) : Prop := ks.Nodup ∧ ∀ D ∈ ks, G0 D = none ∧ G D = some (true, .deferred (some []))
theorem MarksIn.nil {G0 G : GH} : MarksIn G0 G [] := ⟨List.nodup_nil, fun _ h => by cases h⟩
theorem MarksIn.mono {G0 G G' : GH} {ks : List Nat} (he : Ext G G') (h : MarksIn G0 G ks) : MarksIn G0 G' ks := ⟨h.1, fun D hD => ⟨(h.2 D hD).1, he _ _ (h.2 D hD).2⟩⟩
theorem takeAll_heap : ∀ (ks : List Nat) (w : World) (b : Nat), b ∉ ks → (takeAll ks w).heap[b]? = w.heap[b]?
  | [], _, _, _ => rfl
  | D :: ks, w, b, h => by
    rw [List.mem_cons, not_or] at h
    unfold takeAll
    rw [takeAll_heap ks _ b h.2, World.putObj_heap_other h.1]
theorem takeAll_os : ∀ (ks : List Nat) (w : World), (takeAll ks w).os = w.os ∧ (takeAll ks w).tape = w.tape ∧ (takeAll ks w).output = w.output
  | [], _ => ⟨rfl, rfl, rfl⟩
  | D :: ks, w => by
    unfold takeAll
    exact takeAll_os ks (w.putObj D (.deferred none))
theorem St.take {B w : World} {G0 G : GH} {M : List Res} {ks : List Nat} (st : St B w G M) (hm : MarksIn G0 G ks) (h0 : Ext G0 G) :
    ks.Nodup ∧ (∀ D ∈ ks, w.heap[D]? = some (.deferred (some []))) ∧ ∃ G', St B (takeAll ks w) G' M ∧ Ext G0 G' ∧ RoLe G G' := by
  have hh : ∀ D ∈ ks, w.heap[D]? = some (.deferred (some [])) := fun D hD => st.g D _ (hm.2 D hD).2
  have ho := takeAll_os ks w
  refine ⟨hm.1, hh, fun b => if b ∈ ks then none else G b, ⟨ho.1.trans st.os, ho.2.1.trans st.tape, ho.2.2.trans st.output, ?_, ?_, ?_, st.n⟩, ?_, ?_⟩
  · intro b x hx
    split at hx
    · cases hx
    · rename_i hb
      rw [takeAll_heap ks w b hb]; exact st.g b x hx
  · intro r hr
    refine Res.ok_kept (st.m r hr) fun b hb => takeAll_heap ks w b fun hbk => ?_
    have h1 := st.d r hr b hb
    rw [(hm.2 b hbk).2] at h1; cases h1
  · intro r hr b hb
    split
    · rfl
    · exact st.d r hr b hb
  · intro b x hx
    have hb : b ∉ ks := fun hbk => by
      have := (hm.2 b hbk).1
      rw [this] at hx; cases hx
    simp only [hb, if_false]; exact h0 b x hx
  · intro b o hd hx
    have hb : b ∉ ks := fun hbk => by
      have := (hm.2 b hbk).2
      rw [this] at hx; cases hx; cases hd
    simp only [hb, if_false]; exact hx

theorem MarksIn.cast {G0 G : GH} {ks ks' : List Nat} (e : ks' = ks) (h : MarksIn G0 G ks) : MarksIn G0 G ks' := e ▸ h
theorem St.flip {B w : World} {G : GH} {A N : List Res} (st : St B w G (A ++ N)) : St B w G (N ++ A) := st.perm List.perm_append_comm
theorem St.dropMid {B w : World} {G : GH} {M : List Res} (k m : Nat) (st : St B w G M) : St B w G (M.take k ++ M.drop (k + m)) := st.sub (by
  have h : M = M.take k ++ M.drop k := (List.take_append_drop k M).symm
  have h2 : (M.drop (k + m)).Sublist (M.drop k) := by rw [← List.drop_drop]; exact List.drop_sublist _ _
  exact (List.Sublist.append (List.Sublist.refl _) h2).trans (by rw [← h]; exact List.Sublist.refl _))


section
variable {P : Program} {B : World}
/-- A round, as an iterator meets it: yield's answer tells whether it goes on. -/
def YOk (P : Program) (B : World) (l : Nat) {α Z : Type} (E : GH → List Value → α → Prop) (step : Z → α → Option Z) (go : Z → Bool) (J : Z → GH → List Res → Prop) : Prop :=
  ∀ z x y w G M vs, step z x = some y → E G vs x → J z G M → St B w G M →
    YieldAt (FW none) 0 P l vs.toArray w fun e w' => e = .returned (.bool (go y)) ∧ ∃ G' M', Ext G G' ∧ St B w' G' M' ∧ J y G' M'
/-- What an iterator does: it hands its items to yield, in their order. -/
def It (P : Program) (B : World) (gf : FuncId) (caps : List Value) (G0 : GH) {α : Type} (E : GH → List Value → α → Prop) (fold : (Z : Type) → (Z → α → Option Z) → (Z → Bool) → Z → Option Z) : Prop :=
  ∀ (Z : Type) (step : Z → α → Option Z) (go : Z → Bool) (J : Z → GH → List Res → Prop) (l : Nat) (Gb : GH), Ext G0 Gb → (∀ z G G' M, Ext Gb G' → RoLe G G' → J z G M → J z G' M) → YOk P B l E step go J →
    ∀ z y w G M, fold Z step go z = some y → Ext Gb G → J z G M → St B w G M →
      Calls P gf (.func (.yield l) #[] #[] :: caps).toArray w fun e w' => ∃ v G' M', e = .returned v ∧ Ext G G' ∧ St B w' G' M' ∧ J y G' M'
def lz {S R α : Type} (step : S → α → Option (S ⊕ R)) : S ⊕ R → α → Option (S ⊕ R)
  | .inl s, x => step s x
  | .inr _, _ => none
def isL {S R : Type} : S ⊕ R → Bool
  | .inl _ => true
  | .inr _ => false
def contR {S R A : Type} (z : S ⊕ R) (k : S → Option A) (j : R → Option A) : Option A :=
  match z with
  | .inl s => k s
  | .inr r => j r
theorem contR_inl {S R A : Type} {s : S} {k : S → Option A} {j : R → Option A} {a : A} (h : contR (.inl s) k j = some a) : k s = some a := h
theorem St.objAt {w : World} {G : GH} {l1 l2 : List Res} {b : Nat} {o : Obj} (h : St B w G (l1 ++ .obj b o :: l2)) : w.heap[b]? = some o := St.mid h
theorem St.putObj {w : World} {G : GH} {l1 l2 : List Res} {b : Nat} {o : Obj} (o' : Obj) (h : St B w G (l1 ++ .obj b o :: l2)) : St B (w.putObj b o') G (l1 ++ .obj b o' :: l2) := by
  have hb : w.heap[b]? = some o := St.objAt h
  have hlt := (Array.getElem?_eq_some_iff.1 hb).1
  refine h.stepAt ⟨rfl, rfl, rfl, by simp [World.putObj], fun k hk hne => World.putObj_heap_other (fun e => hne (by simp [Res.key, e]))⟩ (World.putObj_heap_same hlt) (fun k hk => .inl hk)
/-- Parameters of a round. -/
def setPs (ρ : Env) : List Nat → List Value → Env
  | p :: ps, v :: vs => setPs (upd ρ p v) ps vs
  | _, _ => ρ
/-- How a round is left. -/
def roundQ {S R : Type} (B : World) (G : GH) (l : Nat) (rec : Loop) (I : S → GH → List Res → Prop) (Ix : R → Code → GH → List Res → Prop) (r : S ⊕ R) : Post
  | .normal, _, w => ∃ s, r = .inl s ∧ ∃ G' M', Ext G G' ∧ St B w G' (.obj l (.loop rec) :: M') ∧ I s G' M'
  | .ret, _, w => ∃ q, r = .inr q ∧ ∃ G' M', Ext G G' ∧ St B w G' (.obj l (.loop rec) :: M') ∧ Ix q .ret G' M'
  | .exit id, _, w => ∃ q, r = .inr q ∧ ∃ G' M', Ext G G' ∧ St B w G' (.obj l (.loop rec) :: M') ∧ Ix q (.exit id) G' M'
  | _, _, _ => False
/-- How the assignment ahead of a round's body is left. -/
def assignQ (B : World) (l : Nat) (rec : Loop) (K : Env → World → Prop) : Post
  | .normal, ρ, w => w.heap[l]? = some (.loop rec) ∧ ∀ w', w' = w.putObj l (.loop { rec with state := .busy }) → K ρ w'
  | _, _, _ => False
theorem agree_params {l : Nat} {n : Nat} : ∀ (ps : List Nat) (vs : List Value) (tmps : Array Value) (ρ : Env), Agree (μr l) n { tmps := tmps, defers := [] } ρ → (∀ p ∈ ps, p < n) →
    Agree (μr l) n { tmps := (ps.zip vs).foldl (fun t (p, v) => t.setIfInBounds p v) tmps, defers := [] } (setPs ρ ps vs)
  | [], vs, tmps, ρ, h, _ => by cases vs <;> exact h
  | p :: ps, [], tmps, ρ, h, _ => h
  | p :: ps, v :: vs, tmps, ρ, h, hp => by
    have := h.put (hp p (List.mem_cons_self ..)) v
    exact agree_params ps vs _ _ this fun q hq => hp q (List.mem_cons_of_mem _ hq)

theorem W_rangeFunc {n : Nat} {Q : Post} {ρ : Env} {w : World} {G0 G : GH} {M : List Res} {α S R : Type} {gf : FuncId} {caps : List Value} {E : GH → List Value → α → Prop} {fold : (Z : Type) → (Z → α → Option Z) → (Z → Bool) → Z → Option Z} {step : S → α → Option (S ⊕ R)} {s : S} {y : S ⊕ R} {g : Operand} {ps : List Nat} {assign body : Code}
    (hg : ev ρ g = .func (.func gf) #[] caps.toArray) (hcf : Callable P gf) (hps : (ps.all fun p => Nat.blt p n) = true) (hE : ∀ G vs x, E G vs x → vs.length = ps.length)
    (st : St B w G M) (hm : MarksIn G0 G ρ.ks) (h0 : Ext G0 G) (hit : It P B gf caps G E fold) (hf : fold (S ⊕ R) (lz step) isL (.inl s) = some y)
    (I : S → GH → List Res → Prop) (Ix : R → Code → GH → List Res → Prop) (hI : ∀ s G G' M, RoLe G G' → I s G M → I s G' M) (hIx : ∀ r c G G' M, RoLe G G' → Ix r c G M → Ix r c G' M) (hI0 : I s G M)
    (round : ∀ l rec rec' s x r vs w' G' M', step s x = some r → E G' vs x → Ext G G' → I s G' M' → St B w' G' (.obj l (.loop rec) :: M') → rec' = { rec with state := .busy } →
      W (μr l) P n assign (assignQ B l rec fun ρ1 w1 => W (μr l) P n body (roundQ B G' l rec' I Ix r) ρ1 w1) (setPs ρ ps vs) w')
    (done : ∀ s' D w' G' M', y = .inl s' → Ext G G' → St B w' G' M' → I s' G' M' → MarksIn G0 G' (D :: ρ.ks) → Q .normal ⟨ρ.f, D :: ρ.ks⟩ w')
    (left : ∀ r c D w' G' M', y = .inr r → Ext G G' → St B w' G' M' → Ix r c G' M' → MarksIn G0 G' (D :: ρ.ks) → W μm P n c Q ⟨ρ.f, D :: ρ.ks⟩ w') :
    W μm P n (.rangeFunc g ps.toArray assign body) Q ρ w := fun a ha => by
  have hpn : ∀ p ∈ ps, p < n := fun p hp => Nat.le_of_ble_eq_true (List.all_eq_true.1 hps p hp)
  refine wpIn_rangeFunc ?_
  intro fn _
  obtain ⟨rec, hrec⟩ : ∃ rec : LoopState → Option Code → Loop, rec = fun st pe => { state := st, pending := pe, fn, tmps := a.tmps, params := ps.toArray, assign, body, defers := w.heap.size } := ⟨_, rfl⟩
  obtain ⟨w1, hw1⟩ : ∃ w1, w1 = (w.alloc (.deferred (some []))).alloc (.loop (rec .ready none)) := ⟨_, rfl⟩
  have hda : a.defers = marks ρ.ks := ha.defers
  -- the mark's block, and the record
  have hfresh : ∀ b x, G b = some x → b < w.heap.size := fun b x hx => (Array.getElem?_eq_some_iff.1 (st.g b x hx)).1
  have s1 : St B (w.alloc (.deferred (some []))) G (.obj w.heap.size (.deferred (some [])) :: M) := st.push (World.grownBy_alloc w _ none) (heap_alloc_new w _) (fun b hb => by cases hb; exact Nat.le_refl _)
  obtain ⟨G1, s2, e1, q1⟩ := s1.freeze
  have hD1 : G1 w.heap.size = some (true, .deferred (some [])) := q1 _ _ rfl (heap_alloc_new w _)
  have s3 : St B w1 G1 (.obj (w.heap.size + 1) (.loop (rec .ready none)) :: M) := by
    have := s2.push (r' := .obj (w.heap.size + 1) (.loop (rec .ready none))) (World.grownBy_alloc (w.alloc (.deferred (some []))) (.loop (rec .ready none)) none) (by
      have := heap_alloc_new (w.alloc (.deferred (some []))) (.loop (rec .ready none))
      rw [World.size_alloc] at this
      exact this) (fun b hb => by cases hb; rw [World.size_alloc]; exact Nat.le_refl _)
    rw [hw1]; exact this
  have hmk : MarksIn G0 G1 (w.heap.size :: ρ.ks) := by
    have hm1 := hm.mono e1
    refine ⟨List.nodup_cons.2 ⟨fun hmem => ?_, hm1.1⟩, fun D hD => ?_⟩
    · have := hfresh _ _ (hm.2 _ hmem).2
      omega
    · rcases List.mem_cons.1 hD with rfl | hD
      · refine ⟨?_, hD1⟩
        cases hq : G0 w.heap.size with
        | none => rfl
        | some x => have := hfresh _ _ (h0 _ _ hq); omega
      · exact hm1.2 D hD
  obtain ⟨fn0, c1, c2, c3⟩ := hcf
  have c2' : ¬ fn0.name = "runtime.NumGoroutine" := by simpa using c2
  have c3' : ¬ fn0.body = none := by intro e; rw [e] at c3; cases c3
  refine ⟨w.heap.size + 1, [{ target := .collected w.heap.size, args := #[] }], w1, { target := .fn (.func gf) caps.toArray, args := #[.func (.yield (w.heap.size + 1)) #[] #[]] }, w1, gf, (.func (.yield (w.heap.size + 1)) #[] #[] :: caps).toArray, w1, ?_, ?_, fun _ _ => trivial, ?_, noDepth, ?_⟩
  · rw [hw1, hrec]; exact run_enterLoop_outer _ _ _ _ _
  · have hge : a.eval g = .func (.func gf) #[] caps.toArray := by rw [ha.eval]; exact hg
    simp only [resolve, hge]
    simp [go_sem]
  · have e0 : (#[Value.func (.yield (w.heap.size + 1)) #[] #[]] ++ caps.toArray) = (.func (.yield (w.heap.size + 1)) #[] #[] :: caps).toArray := by simp
    simp [invoke, callFunc, c1, c2', c3', go_sem]
  · refine callsIn_of ((hit (S ⊕ R) (lz step) isL
      (fun z G' M' => Ext G1 G' ∧ match z with
        | .inl s => ∃ M0, M' = .obj (w.heap.size + 1) (.loop (rec .ready none)) :: M0 ∧ I s G' M0
        | .inr r => ∃ c M0, M' = .obj (w.heap.size + 1) (.loop (rec .done (some c))) :: M0 ∧ Ix r c G' M0) (w.heap.size + 1) G1 e1 ?_ ?_ (.inl s) y w1 G1 _ hf (Ext.refl _) ⟨Ext.refl _, M, rfl, hI _ _ _ _ e1.ro hI0⟩ s3).mono ?_)
    · rintro z G2 G3 M2 hb he ⟨he0, hz⟩
      refine ⟨hb, ?_⟩
      cases z with
      | inl s => obtain ⟨M0, rfl, h⟩ := hz; exact ⟨M0, rfl, hI _ _ _ _ he h⟩
      | inr r => obtain ⟨c, M0, rfl, h⟩ := hz; exact ⟨c, M0, rfl, hIx _ _ _ _ _ he h⟩
    · -- one round
      intro z x y' w2 G2 M2 vs hstep hEx hJ st2
      cases z with
      | inr r => cases hstep
      | inl s2 =>
        obtain ⟨he2, M0, rfl, hI2⟩ := hJ
        have hl : w2.heap[w.heap.size + 1]? = some (.loop (rec .ready none)) := St.objAt (l1 := []) st2
        have hlen := hE _ _ _ hEx
        have hy := run_yield (P := P) (args := vs.toArray) hl (by rw [hrec]; simpa using hlen)
        rw [hrec] at hy
        have hre : (rec .ready none) = { state := .ready, pending := none, fn, tmps := a.tmps, params := ps.toArray, assign, body, defers := w.heap.size } := by rw [hrec]
        refine ⟨fn, _, assign, body, hy, roundIn_of_wpIn trivial ?_⟩
        have hag : Agree (μr (w.heap.size + 1)) n { tmps := a.tmps, defers := [] } ρ := ⟨ha.size, rfl, ha.get⟩
        have hag2 := agree_params ps vs a.tmps ρ hag hpn
        have e0 : (ps.toArray.zip vs.toArray).foldl (fun tmps (t, a) => tmps.setIfInBounds t a) a.tmps = (ps.zip vs).foldl (fun t (p, v) => t.setIfInBounds p v) a.tmps := by simp
        rw [e0]
        refine wpIn_mono (round (w.heap.size + 1) (rec .ready none) (rec .busy none) s2 x y' vs w2 G2 M0 hstep hEx (e1.trans he2) hI2 st2 (by rw [hrec]) _ hag2) ?_
        rintro e a3 w3 ⟨ρ3, hag3, hq3⟩
        cases e with
        | normal =>
          obtain ⟨hh3, hk3⟩ := hq3
          refine ⟨_, run_beginRound hh3 (by rw [hrec]), wpIn_mono (hk3 _ rfl _ hag3) ?_⟩
          rintro e a4 w4 ⟨ρ4, _, hq4⟩
          cases e with
          | normal =>
            obtain ⟨s4, rfl, G4, M4, e4, st4, hI4⟩ := hq4
            have hl4 : w4.heap[w.heap.size + 1]? = some (.loop (rec .busy none)) := St.objAt (l1 := []) st4
            refine ⟨_, _, run_endRound none hl4, rfl, G4, _, e4, St.putObj (l1 := []) _ st4, he2.trans e4, M4, ?_, hI4⟩
            rw [hrec]; rfl
          | ret =>
            obtain ⟨q4, rfl, G4, M4, e4, st4, hI4⟩ := hq4
            have hl4 : w4.heap[w.heap.size + 1]? = some (.loop (rec .busy none)) := St.objAt (l1 := []) st4
            refine ⟨_, _, run_endRound (some .ret) hl4, rfl, G4, _, e4, St.putObj (l1 := []) _ st4, he2.trans e4, .ret, M4, ?_, hI4⟩
            rw [hrec]; rfl
          | exit id =>
            obtain ⟨q4, rfl, G4, M4, e4, st4, hI4⟩ := hq4
            have hl4 : w4.heap[w.heap.size + 1]? = some (.loop (rec .busy none)) := St.objAt (l1 := []) st4
            refine ⟨_, _, run_endRound (some (.exit id)) hl4, rfl, G4, _, e4, St.putObj (l1 := []) _ st4, he2.trans e4, .exit id, M4, ?_, hI4⟩
            rw [hrec]; rfl
          | goto t => exact hq4.elim
          | panic c => exact hq4.elim
          | outgrown => exact hq4.elim
        | exit id => exact hq3.elim
        | goto t => exact hq3.elim
        | ret => exact hq3.elim
        | panic c => exact hq3.elim
        | outgrown => exact hq3.elim
    · rintro e w2 ⟨v, G2, M2, rfl, e2, st2, he2, hJ⟩
      have hag : Agree μm n { a with defers := [{ target := .collected w.heap.size, args := #[] }] ++ a.defers } ⟨ρ.f, w.heap.size :: ρ.ks⟩ := ⟨ha.size, by
        show _ = marks (w.heap.size :: ρ.ks)
        rw [hda]; rfl, ha.get⟩
      cases y with
      | inl s' =>
        obtain ⟨M0, rfl, hI2⟩ := hJ
        have hl : w2.heap[w.heap.size + 1]? = some (.loop (rec .ready none)) := St.objAt (l1 := []) st2
        have hp : (rec .ready none).pending = none := by rw [hrec]
        refine ⟨_, _, run_endLoop hl (by rw [hrec]; simp), ?_⟩
        rw [hp]
        exact ⟨_, hag, done s' _ _ G2 M0 rfl (e1.trans e2) (St.putObj (l1 := []) _ st2).pop hI2 (hmk.mono e2)⟩
      | inr r =>
        obtain ⟨c, M0, rfl, hI2⟩ := hJ
        have hl : w2.heap[w.heap.size + 1]? = some (.loop (rec .done (some c))) := St.objAt (l1 := []) st2
        have hp : (rec .done (some c)).pending = some c := by rw [hrec]
        refine ⟨_, _, run_endLoop hl (by rw [hrec]; simp), ?_⟩
        rw [hp]
        exact left r c _ _ G2 M0 rfl (e1.trans e2) (St.putObj (l1 := []) _ st2).pop hI2 (hmk.mono e2) _ hag
/-- A call of yield within an iterator: what is owned by the loop goes in, what is the iterator's own stays behind. -/
theorem WL_yield {n : Nat} {Q : Post} {ρ : Env} {w : World} {G : GH} {N R : List Res} {ops : Array Oper} {rest : List Oper} {ty : TypeId} {pos : String} {af : Array Edge} {d l : Nat} {α Z : Type} {E : GH → List Value → α → Prop} {step : Z → α → Option Z} {go : Z → Bool} {J : Z → GH → List Res → Prop} {x : Operand} {xs : Array Operand} {ats : Array TypeId} {vs : List Value} {z y : Z} {u : α}
    {Gb : GH} (hy : YOk P B l E step go J) (hJ : ∀ z G G' M, Ext Gb G' → RoLe G G' → J z G M → J z G' M) (hb : Ext Gb G) (hx : ev ρ x = .func (.yield l) #[] #[]) (hvs : xs.toList.map (ev ρ) = vs) (st : St B w G (N ++ R)) (hz : J z G N) (hs : step z u = some y) (hE : ∀ G1, Ext G G1 → E G1 vs u) (hd : Nat.blt d n = true)
    (h : ∀ w' G' N', Ext G G' → J y G' N' → St B w' G' (N' ++ R) → WL μ0 P n ops Q rest (upd ρ d (.bool (go y))) w') :
    WL μ0 P n ops Q (⟨some d, .call { callee := .value x, args := xs, argTypes := ats }, ty, pos, af, none⟩ :: rest) ρ w := fun a ha' => by
  have ee := st.ext_frm' false
  obtain ⟨fn, tmps, assign, body, hrun, hround⟩ := hy z u y w (frm w G R false) N vs hs (hE _ ee) (hJ _ _ _ _ (hb.trans ee) ee.ro hz) (st.enter false)
  have hxs : xs.map (ev ρ) = vs.toArray := by
    rw [← hvs]; apply Array.ext'; simp
  unfold wpListIn
  rw [if_pos (by rfl)]
  refine ⟨fun _ _ => trivial, ?_⟩
  have hr : (execOp (ev ρ) ⟨some d, .call { callee := .value x, args := xs, argTypes := ats }, ty, pos, af, none⟩).run P w = .ok (.round l fn tmps assign body) w := by
    simp [execOp, resolve, hx, Deferred.ofValue, invoke, callFunc, hxs, hrun]
  rw [Oper.semAt_eq _ _ _ (fun _ e => by cases e), ha'.eval, hr, Oper.uponIn_round]
  refine ⟨noDepth, RoundIn.mono hround ?_⟩
  rintro e w' ⟨rfl, G1, N', he, hs', hK⟩
  obtain ⟨G2, h1, h2, h3⟩ := st.leave false he hs'
  exact h w' G2 N' h2 (hJ _ _ _ _ (hb.trans h2) (h3 rfl) hK) h1 _ (ha'.put (Nat.le_of_ble_eq_true hd) _)
end
end Go.Proofs.YtnglgjgflohkmaaGreat.Sk
