/- Calls by contracts; slices of slices. No condition. -/
import Derived.Test.YtnglgjgflohkmaaGreatSkMem
namespace Go.Proofs.YtnglgjgflohkmaaGreat.Sk
open Go
set_option linter.unusedVariables false
set_option linter.unusedSimpArgs false
set_option linter.unusedVariables false

/-- What a call comes to: a value, and what is owned then. -/
def Ret (B : World) (G : GH) (K : GH → Value → List Res → Prop) : Ending → World → Prop := fun e w' => ∃ v G' N', e = .returned v ∧ Ext G G' ∧ St B w' G' N' ∧ K G' v N'

theorem noDepth {r : Option Nat} {n : Nat} : (FW r).depth.isSome = true → 1 ≤ n := fun (h : false = true) => Bool.noConfusion h
def Callable (P : Program) (f : FuncId) : Prop := ∃ fn, P.funcs[f]? = some fn ∧ (fn.name == "runtime.NumGoroutine") = false ∧ fn.body.isNone = false

section
variable {μ : Mode} {P : Program} {n : Nat} {Q : Post} {ρ : Env} {w B : World} {G : GH} {M l1 l2 : List Res} {ops : Array Oper} {rest : List Oper} {d : Nat} {ty : TypeId} {pos : String} {af : Array Edge}

theorem run_call {f : FuncId} {o : Oper} {x : Operand} {xs : Array Operand} {ats : Array TypeId} {first cap : Array Value} {av : List Value} (ho : o.op = .call { callee := .value x, args := xs, argTypes := ats }) (hf : Callable P f) (hx : ev ρ x = .func (.func f) first cap)
    (ha : first.toList ++ (xs.toList.map (ev ρ) ++ cap.toList) = av) : (execOp (ev ρ) o).run P w = .ok (.enter f av.toArray) w := by
  obtain ⟨fn, h1, h2, h3⟩ := hf
  have h2' : ¬ fn.name = "runtime.NumGoroutine" := by simpa using h2
  have h3' : ¬ fn.body = none := by intro e; rw [e] at h3; cases h3
  have ha' : first ++ xs.map (ev ρ) ++ cap = av.toArray := by
    rw [← ha]; apply Array.ext'; simp
  simp [execOp, ho, resolve, hx, Deferred.ofValue, invoke, callFunc, h1, h2', h3', ha']

/-- A call: N goes in, R stays behind. -/
theorem WL_callB {f : FuncId} {x : Operand} {xs : Array Operand} {ats : Array TypeId} {first cap : Array Value} {av : List Value} {N R : List Res} {K : GH → Value → List Res → Prop} (β : Bool) (hf : Callable P f) (hx : ev ρ x = .func (.func f) first cap)
    (ha : first.toList ++ (xs.toList.map (ev ρ) ++ cap.toList) = av) (st : St B w G (N ++ R)) (hd : Nat.blt d n = true)
    (hc : ∀ G1, Ext G G1 → (∀ r ∈ R, ∀ b o, r.key = some b → w.heap[b]? = some o → G1 b = some (β, o)) → St B w G1 N → Calls P f av.toArray w (Ret B G1 K))
    (h : ∀ v w' G1 G' N', Ext G G' → (β = false → RoLe G1 G') → K G1 v N' → St B w' G' (N' ++ R) → WL μ P n ops Q rest (upd ρ d v) w') :
    WL μ P n ops Q (⟨some d, .call { callee := .value x, args := xs, argTypes := ats }, ty, pos, af, none⟩ :: rest) ρ w := fun a ha' => by
  have hrun := run_call (w := w) (o := ⟨some d, .call { callee := .value x, args := xs, argTypes := ats }, ty, pos, af, none⟩) rfl hf hx ha
  unfold wpListIn
  rw [if_pos (by rfl)]
  refine ⟨fun _ _ => trivial, ?_⟩
  rw [Oper.semAt_eq _ _ _ (fun _ e => by cases e), ha'.eval, hrun, Oper.uponIn_enter]
  refine ⟨noDepth, callsIn_of ((hc (frm w G R β) (st.ext_frm' β) (fun r hr b o hk ho => by rw [frm_in hr hk, ho]; rfl) (st.enter β)).mono ?_)⟩
  rintro e w' ⟨v, G1, N', rfl, he, hs, hK⟩
  obtain ⟨G2, h1, h2, h3⟩ := st.leave β he hs
  exact h v w' G1 G2 N' h2 h3 hK h1 _ (ha'.put (Nat.le_of_ble_eq_true hd) v)

theorem Yd {f : FuncId} {x : Operand} {xs : Array Operand} {ats : Array TypeId} {first cap : Array Value} {av : List Value} {N R : List Res} {K : GH → Value → List Res → Prop} (hf : Callable P f) (hx : ev ρ x = .func (.func f) first cap)
    (ha : first.toList ++ (xs.toList.map (ev ρ) ++ cap.toList) = av) (st : St B w G (N ++ R)) (hd : Nat.blt d n = true)
    (hc : ∀ G1, Ext G G1 → St B w G1 N → Calls P f av.toArray w (Ret B G1 K))
    (h : ∀ v w' G1 G' N', Ext G G' → RoLe G1 G' → K G1 v N' → St B w' G' (N' ++ R) → WL μ P n ops Q rest (upd ρ d v) w') :
    WL μ P n ops Q (⟨some d, .call { callee := .value x, args := xs, argTypes := ats }, ty, pos, af, none⟩ :: rest) ρ w :=
  WL_callB false hf hx ha st hd (fun G1 h1 _ h2 => hc G1 h1 h2) (fun v w' G1 G' N' h1 h2 h3 h4 => h v w' G1 G' N' h1 (h2 rfl) h3 h4)
theorem J8 {f : FuncId} {x : Operand} {xs : Array Operand} {ats : Array TypeId} {first cap : Array Value} {av : List Value} {R : List Res} {K : GH → Value → List Res → Prop} (hf : Callable P f) (hx : ev ρ x = .func (.func f) first cap)
    (ha : first.toList ++ (xs.toList.map (ev ρ) ++ cap.toList) = av) (st : St B w G (R)) (hd : Nat.blt d n = true)
    (hc : ∀ G1, Ext G G1 → St B w G1 [] → Calls P f av.toArray w (Ret B G1 K))
    (h : ∀ v w' G1 G' N', Ext G G' → RoLe G1 G' → K G1 v N' → St B w' G' (N' ++ R) → WL μ P n ops Q rest (upd ρ d v) w') :
    WL μ P n ops Q (⟨some d, .call { callee := .value x, args := xs, argTypes := ats }, ty, pos, af, none⟩ :: rest) ρ w :=
  Yd (N := []) hf hx ha st hd hc h
theorem Jn {f : FuncId} {x : Operand} {xs : Array Operand} {ats : Array TypeId} {first cap : Array Value} {av : List Value} {r0 : Res} {R : List Res} {K : GH → Value → List Res → Prop} (hf : Callable P f) (hx : ev ρ x = .func (.func f) first cap)
    (ha : first.toList ++ (xs.toList.map (ev ρ) ++ cap.toList) = av) (st : St B w G (r0 :: R)) (hd : Nat.blt d n = true)
    (hc : ∀ G1, Ext G G1 → St B w G1 [r0] → Calls P f av.toArray w (Ret B G1 K))
    (h : ∀ v w' G1 G' N', Ext G G' → RoLe G1 G' → K G1 v N' → St B w' G' (N' ++ R) → WL μ P n ops Q rest (upd ρ d v) w') :
    WL μ P n ops Q (⟨some d, .call { callee := .value x, args := xs, argTypes := ats }, ty, pos, af, none⟩ :: rest) ρ w :=
  Yd (N := [r0]) hf hx ha st hd hc h
theorem Y6 {f : FuncId} {x : Operand} {xs : Array Operand} {ats : Array TypeId} {first cap : Array Value} {av : List Value} {r0 r1 : Res} {R : List Res} {K : GH → Value → List Res → Prop} (hf : Callable P f) (hx : ev ρ x = .func (.func f) first cap)
    (ha : first.toList ++ (xs.toList.map (ev ρ) ++ cap.toList) = av) (st : St B w G (r0 :: r1 :: R)) (hd : Nat.blt d n = true)
    (hc : ∀ G1, Ext G G1 → St B w G1 [r0, r1] → Calls P f av.toArray w (Ret B G1 K))
    (h : ∀ v w' G1 G' N', Ext G G' → RoLe G1 G' → K G1 v N' → St B w' G' (N' ++ R) → WL μ P n ops Q rest (upd ρ d v) w') :
    WL μ P n ops Q (⟨some d, .call { callee := .value x, args := xs, argTypes := ats }, ty, pos, af, none⟩ :: rest) ρ w :=
  Yd (N := [r0, r1]) hf hx ha st hd hc h

theorem St.rowRep {α : Type} {T : Ty α} {e : TypeId} {v : Value} {m : Nat} {cs : List Value} {xs : List α} (st : St B w G (l1 ++ .row v e T.sz m cs :: l2)) (hE : EAll T G cs xs) (hm : xs.length = m) (hle : m ≤ SB) :
    ∃ G', St B w G' (l1 ++ l2) ∧ Ext G G' ∧ SRep e T G' v xs := by
  have hok : w.ownsRow 0 e T.sz v m cs := St.mid st
  obtain ⟨G', h1, h2, h3⟩ := st.freezeAt
  refine ⟨G', h1, h2, ?_⟩
  rcases hok.2 with ⟨rfl, rfl⟩ | ⟨g, cap, cur, rfl, hb, hg, hnc, hcm, hcs, htake⟩
  · have : xs = [] := List.eq_nil_of_length_eq_zero hm
    subst this
    exact SRep.nil
  · refine ⟨_, m, cap, rfl, hm, hnc, hle, fun hn => ⟨g, 0, cur, (e, (0, 0)), rfl, h3 g _ rfl hg, ?_, ?_⟩⟩
    · rw [hcs]; simp only [Nat.zero_add]; exact Nat.mul_le_mul_right _ hnc
    · rw [List.drop_zero, htake]; exact hE.mono h2.ro
theorem St.blkRep {b : Nat} {cs : List Value} {e : TypeId} (st : St B w G (l1 ++ .blk b cs e :: l2)) : ∃ G', St B w G' (l1 ++ l2) ∧ Ext G G' ∧ LiesG G' b 0 cs := by
  have hok : w.heap[b]? = some (.cells cs.toArray e (0, 0)) := St.mid st
  obtain ⟨G', h1, h2, h3⟩ := st.freezeAt
  exact ⟨G', h1, h2, cs.toArray, e, (0, 0), h3 b _ rfl hok, fun j v hv => by rw [Nat.zero_add]; simpa using hv⟩
/-- A nil row may be had at any time. -/
theorem St.nilRow (st : St B w G M) (e : TypeId) (sz : Nat) : St B w G (.row (.slice none 0 0) e sz 0 [] :: M) :=
  st.push (w' := w) ⟨rfl, rfl, rfl, Nat.le_refl _, fun _ _ _ => rfl⟩ (World.ownsRow_nil w 0 e sz) (fun b hb => by simp [Res.key, Value.ownBlock] at hb)


theorem SRep.sub {α : Type} {T : Ty α} {e : TypeId} {a : Option Addr} {m c l h : Nat} {xs : List α} (hs : SRep e T G (.slice a m c) xs) (hl : l ≤ h) (hh : h ≤ m) :
    SRep e T G (sliced a l h c T.sz) ((xs.drop l).take (h - l)) := by
  obtain ⟨a', m', c', he, h2, h3, h4, h5⟩ := hs
  cases he
  unfold sliced
  refine ⟨_, h - l, c - l, rfl, by simp; omega, by omega, by omega, fun hn => ?_⟩
  obtain ⟨b, off, cells, fr, rfl, hG, hfit, hE⟩ := h5 (by omega)
  have hne : ¬ c = l := by omega
  have hmul : (h - l) * T.sz + l * T.sz ≤ m * T.sz := by rw [← Nat.add_mul]; exact Nat.mul_le_mul_right _ (by omega)
  refine ⟨b, off + l * T.sz, cells, fr, by simp [hne, addn], hG, by omega, ?_⟩
  have h6 := (hE.drop l).take (h - l)
  have : (((cells.toList.drop off).take (m * T.sz)).drop (l * T.sz)).take ((h - l) * T.sz) = ((cells.toList.drop (off + l * T.sz)).take ((h - l) * T.sz)) := by
    rw [List.drop_take, List.drop_drop, List.take_take, Nat.min_eq_left (by omega)]
  rw [this] at h6
  exact h6
theorem elem_of {t e : TypeId} (ht : P.underlying t = some (.slice e)) : P.elem t = e := by simp [Program.elem, ht]
section
variable {α : Type} {T : Ty α} {t e : TypeId} {x y z : Operand} {by' : Nat} {agg : Bool} {zv v : Value} {xs : List α} {k j : IntKind} {l h : Int}
theorem WL_sliceL (ht : P.underlying t = some (.slice e)) (hi : TI P e agg T.sz by' zv) (hs : SRep e T G v xs) (hd : Nat.blt d n = true) (hx : ev ρ x = v) (hy : ev ρ y = .int k l) (h0 : 0 ≤ l) (h1 : l ≤ xs.length)
    (hk : ∀ v', SRep e T G v' (xs.drop l.toNat) → WL μ P n ops Q rest (upd ρ d v') w) : WL μ P n ops Q (⟨some d, .slice t x (some y) none none, ty, pos, af, none⟩ :: rest) ρ w := by
  have hs0 := hs
  obtain ⟨a, m, c, rfl, h2, h3, h4, h5⟩ := hs
  have he := elem_of ht
  have ht' : P.underlying t = some (.slice (P.elem t)) := by rw [he]; exact ht
  refine Jz hd ?_ (hk (sliced a l.toNat m c T.sz) ?_)
  · simp only [execOp, hx, hy, Option.map_some, Option.map_none, Sem.run_bind, run_sliceAt_slice (P := P) w t _ _ _ _ ht', run_slice_l (P := P) w t a m c ht' k l h0 (by omega), he, sizeOf_run hi, Result.andThen_ok, Sem.run_pure]
  · have := hs0.sub (l := l.toNat) (h := m) (by omega) (Nat.le_refl _)
    rwa [List.take_of_length_le (by simp; omega)] at this
theorem WL_sliceH (ht : P.underlying t = some (.slice e)) (hi : TI P e agg T.sz by' zv) (hs : SRep e T G v xs) (hd : Nat.blt d n = true) (hx : ev ρ x = v) (hy : ev ρ y = .int k h) (h0 : 0 ≤ h) (h1 : h ≤ xs.length)
    (hk : ∀ v', SRep e T G v' (xs.take h.toNat) → WL μ P n ops Q rest (upd ρ d v') w) : WL μ P n ops Q (⟨some d, .slice t x none (some y) none, ty, pos, af, none⟩ :: rest) ρ w := by
  have hs0 := hs
  obtain ⟨a, m, c, rfl, h2, h3, h4, h5⟩ := hs
  have he := elem_of ht
  have ht' : P.underlying t = some (.slice (P.elem t)) := by rw [he]; exact ht
  refine Jz hd ?_ (hk (sliced a 0 h.toNat c T.sz) ?_)
  · simp only [execOp, hx, hy, Option.map_some, Option.map_none, Sem.run_bind, run_sliceAt_slice (P := P) w t _ _ _ _ ht', run_slice_h (P := P) w t a m c ht' k h h0 (by omega), he, sizeOf_run hi, Result.andThen_ok, Sem.run_pure]
  · have := hs0.sub (l := 0) (h := h.toNat) (by omega) (by omega)
    rwa [List.drop_zero, Nat.sub_zero] at this
theorem WL_sliceLH (ht : P.underlying t = some (.slice e)) (hi : TI P e agg T.sz by' zv) (hs : SRep e T G v xs) (hd : Nat.blt d n = true) (hx : ev ρ x = v) (hy : ev ρ y = .int k l) (hz : ev ρ z = .int j h) (h0 : 0 ≤ l) (h01 : l ≤ h) (h1 : h ≤ xs.length)
    (hk : ∀ v', SRep e T G v' ((xs.drop l.toNat).take (h.toNat - l.toNat)) → WL μ P n ops Q rest (upd ρ d v') w) : WL μ P n ops Q (⟨some d, .slice t x (some y) (some z) none, ty, pos, af, none⟩ :: rest) ρ w := by
  have hs0 := hs
  obtain ⟨a, m, c, rfl, h2, h3, h4, h5⟩ := hs
  have he := elem_of ht
  have ht' : P.underlying t = some (.slice (P.elem t)) := by rw [he]; exact ht
  refine Jz hd ?_ (hk (sliced a l.toNat h.toNat c T.sz) (hs0.sub (l := l.toNat) (h := h.toNat) (by omega) (by omega)))
  simp only [execOp, hx, hy, hz, Option.map_some, Option.map_none, Sem.run_bind, run_sliceAt_slice (P := P) w t _ _ _ _ ht', run_slice_lh (P := P) w t a m c ht' k j l h h0 h01 (by omega), he, sizeOf_run hi, Result.andThen_ok, Sem.run_pure]
theorem Jd (ht : P.underlying t = some (.slice e)) (hs : SRep e T G v xs) (hd : Nat.blt d n = true) (hx : ev ρ x = v) (hk : WL μ P n ops Q rest (upd ρ d (.int .i64 (xs.length : Int))) w) :
    WL μ P n ops Q (⟨some d, .call { callee := .builtin .len, args := #[x], argTypes := #[t] }, ty, pos, af, none⟩ :: rest) ρ w := by
  obtain ⟨a, m, c, rfl, h2, h3, h4, h5⟩ := hs
  subst h2
  exact WL_len (ats := #[]) ht hd hx hk
end
/-- The length of a row of one's own. -/
theorem WL_lenOwn {t e : TypeId} {x : Operand} {v : Value} {sz m : Nat} {cs : List Value} (ht : P.underlying t = some (.slice e)) (st : St B w G (l1 ++ .row v e sz m cs :: l2)) (hd : Nat.blt d n = true) (hx : ev ρ x = v) (hk : WL μ P n ops Q rest (upd ρ d (.int .i64 (m : Int))) w) :
    WL μ P n ops Q (⟨some d, .call { callee := .builtin .len, args := #[x], argTypes := #[t] }, ty, pos, af, none⟩ :: rest) ρ w := by
  have hok : w.ownsRow 0 e sz v m cs := St.mid st
  rcases hok.2 with ⟨rfl, rfl⟩ | ⟨g, cap, cur, rfl, _⟩
  · exact WL_len (ats := #[]) ht hd hx hk
  · exact WL_len (ats := #[]) ht hd hx hk
/-- 'make', of elements of one cell. -/
theorem WL_make {t e : TypeId} {x y : Operand} {k j : IntKind} {l : Int} {by' : Nat} {agg : Bool} {z z0 : Value} (ht : P.underlying t = some (.slice e)) (hi : TI P e agg 1 by' z) (st : St B w G M) (hd : Nat.blt d n = true) (hx : ev ρ x = .int k l) (hy : ev ρ y = .int j l) (h0 : 0 ≤ l) (hb : (by' : Int) * l ≤ SB) (hl : l ≤ SB)
    (hzs : z.cells = #[z0]) (h : ∀ v w', St B w' G (.row v e 1 l.toNat (List.replicate l.toNat z0) :: M) → WL μ P n ops Q rest (upd ρ d v) w') :
    WL μ P n ops Q (⟨some d, .makeSlice t x y, ty, pos, af, none⟩ :: rest) ρ w := by
  obtain ⟨i, hinfo, hsz, hby, hzz⟩ := hi.info
  have hSB : (SB : Int) = 140737488355328 := by unfold SB; rfl
  have hr := run_make (P := P) w t e i z ht hinfo hzz k j l l h0 (Int.le_refl _) (by rw [hby]; omega) (by omega)
  have hmade : madeCells z.cells (l.toNat * i.size) = (List.replicate l.toNat z0).toArray := by
    rw [hsz, hzs, Nat.mul_one]
    unfold madeCells
    apply Array.ext
    · simp
    · intro q h1 h2
      simp [Nat.mod_one]
  rw [hmade] at hr
  have hnew := heap_alloc_new w (.cells (List.replicate l.toNat z0).toArray e)
  refine Jz hd ?_ (h (.slice (some ⟨w.heap.size, 0, none⟩) l.toNat l.toNat) _ (st.push (World.grownBy_alloc w _ none) ⟨by simp, .inr ⟨w.heap.size, l.toNat, _, rfl, Nat.zero_le _, hnew, Nat.le_refl _, ?_, by simp, by simp⟩⟩ ?_))
  · simp only [execOp, hx, hy, Sem.run_bind, hr, Result.andThen_ok, Sem.run_pure]
  · unfold maxLen; omega
  · intro b hb; cases hb; exact Nat.le_refl _
end
end Go.Proofs.YtnglgjgflohkmaaGreat.Sk
