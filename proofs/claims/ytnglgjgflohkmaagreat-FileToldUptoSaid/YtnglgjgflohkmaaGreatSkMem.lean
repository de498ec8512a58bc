/- Memory: loads, stores, variables, slices, appends. No condition. -/
import Derived.Test.YtnglgjgflohkmaaGreatSkOps
import Derived.Laws.MakeOwn
namespace Go.Proofs.YtnglgjgflohkmaaGreat.Sk
open Go
set_option linter.unusedVariables false
set_option linter.unusedSimpArgs false
set_option linter.unusedVariables false

theorem addn (b o n : Nat) : (⟨b, o, none⟩ : Addr).add n = ⟨b, o + n, none⟩ := by unfold Addr.add; split <;> simp_all
/-- Cells that lie at a place. -/
def Lies (w : World) (b o : Nat) (cs : List Value) : Prop := ∀ j v, cs[j]? = some v → w.cell? ⟨b, o + j, none⟩ = some v
def LiesG (G : GH) (b o : Nat) (cs : List Value) : Prop := ∃ cells e fr, G b = some (true, .cells cells e fr) ∧ ∀ j v, cs[j]? = some v → cells[o + j]? = some v
theorem Lies.drop {w : World} {b o : Nat} {cs : List Value} (k : Nat) (h : Lies w b o cs) : Lies w b (o + k) (cs.drop k) := fun j v hv => by
  rw [List.getElem?_drop] at hv
  have := h (k + j) v hv
  rw [Nat.add_assoc]; exact this
theorem Lies.take {w : World} {b o : Nat} {cs : List Value} (k : Nat) (h : Lies w b o cs) : Lies w b o (cs.take k) := fun j v hv => by
  rw [List.getElem?_take] at hv
  split at hv
  · exact h j v hv
  · cases hv
theorem LiesG.drop {G : GH} {b o : Nat} {cs : List Value} (k : Nat) (h : LiesG G b o cs) : LiesG G b (o + k) (cs.drop k) := by
  obtain ⟨cells, e, fr, h1, h2⟩ := h
  refine ⟨cells, e, fr, h1, fun j v hv => ?_⟩
  rw [List.getElem?_drop] at hv
  rw [Nat.add_assoc]; exact h2 _ v hv
theorem LiesG.mono {G G' : GH} {b o : Nat} {cs : List Value} (hr : RoLe G G') (h : LiesG G b o cs) : LiesG G' b o cs := by
  obtain ⟨cells, e, fr, h1, h2⟩ := h
  exact ⟨cells, e, fr, hr _ _ rfl h1, h2⟩

section
variable {μ : Mode} {P : Program} {n : Nat} {Q : Post} {ρ : Env} {w B : World} {G : GH} {M l1 l2 : List Res} {ops : Array Oper} {rest : List Oper} {d : Nat} {ty : TypeId} {pos : String} {af : Array Edge}

theorem LiesG.lies {b o : Nat} {cs : List Value} (h : LiesG G b o cs) (st : St B w G M) : Lies w b o cs := fun j v hv => by
  obtain ⟨cells, e, fr, h1, h2⟩ := h
  have := st.g _ _ h1
  rw [cell_of_row w b (o + j) cells e fr this]
  exact h2 j v hv
theorem St.mid {r : Res} (h : St B w G (l1 ++ r :: l2)) : r.ok w := h.m r (by simp)
theorem St.lies {b : Nat} {cs : List Value} {e : TypeId} (h : St B w G (l1 ++ .blk b cs e :: l2)) : Lies w b 0 cs := fun j v hv => by
  have : w.heap[b]? = some (.cells cs.toArray e (0, 0)) := St.mid h
  rw [cell_of_row w b (0 + j) cs.toArray e (0, 0) this, Nat.zero_add]
  simpa using hv
theorem St.stepAt {w' : World} {r r' : Res} (h : St B w G (l1 ++ r :: l2)) (hg : w.grownBy w' r.key) (hok : r'.ok w')
    (hk : ∀ b, r'.key = some b → r.key = some b ∨ w.heap.size ≤ b) : St B w' G (l1 ++ r' :: l2) :=
  ((h.perm List.perm_middle).step hg hok hk).perm List.perm_middle.symm
theorem St.freezeAt {r : Res} (h : St B w G (l1 ++ r :: l2)) : ∃ G', St B w G' (l1 ++ l2) ∧ Ext G G' ∧ ∀ b o, r.key = some b → w.heap[b]? = some o → G' b = some (true, o) :=
  (h.perm List.perm_middle).freeze

theorem isAgg_run {t : TypeId} {agg : Bool} {sz by' : Nat} {z : Value} (hi : TI P t agg sz by' z) : (isAgg t).run P w = .ok agg w := by
  obtain ⟨dd, hu, hagg⟩ := hi.und
  unfold isAgg
  rw [Sem.run_bind, run_underlying hu w, ← hagg]
  cases dd <;> rfl
theorem sizeOf_run {t : TypeId} {agg : Bool} {sz by' : Nat} {z : Value} (hi : TI P t agg sz by' z) : (sizeOf t).run P w = .ok sz w := by
  obtain ⟨i, hinfo, hsz, _, _⟩ := hi.info
  simp [sizeOf, typeInfo, hinfo, hsz]
theorem zero_run {t : TypeId} {agg : Bool} {sz by' : Nat} {z : Value} (hi : TI P t agg sz by' z) : (zeroValue t).run P w = .ok z w := by
  obtain ⟨i, hinfo, _, _, hz⟩ := hi.info
  simp [zeroValue, typeInfo, hinfo, hz]


theorem Y4 {t : TypeId} {x : Operand} {b o by' : Nat} {cs : List Value} {v z : Value} (hi : TI P t false 1 by' z) (hd : Nat.blt d n = true) (hx : ev ρ x = .pointer (some ⟨b, o, none⟩)) (hl : Lies w b o cs) (hv : cs[0]? = some v)
    (h : WL μ P n ops Q rest (upd ρ d v) w) : WL μ P n ops Q (⟨some d, .load t x, ty, pos, af, none⟩ :: rest) ρ w := by
  refine Jz hd ?_ h
  have := hl 0 v hv
  simp only [Nat.add_zero] at this
  simp [execOp, hx, Instr.loadAt, Instr.sureAddr, loadVar, isAgg_run hi, run_load, this]
theorem Jy {t : TypeId} {x : Operand} {b o by' sz : Nat} {cs : List Value} {z : Value} (hi : TI P t true sz by' z) (hd : Nat.blt d n = true) (hx : ev ρ x = .pointer (some ⟨b, o, none⟩)) (hl : Lies w b o cs) (hs : sz ≤ cs.length)
    (h : WL μ P n ops Q rest (upd ρ d (.agg (cs.take sz).toArray)) w) : WL μ P n ops Q (⟨some d, .load t x, ty, pos, af, none⟩ :: rest) ρ w := by
  refine Jz hd ?_ h
  have hlen : (cs.take sz).length = sz := by simp [hs]
  have := run_loadCells_list (P := P) w ⟨b, o, none⟩ (cs.take sz) (fun j v hv => by rw [addn]; exact hl.take sz j v hv)
  rw [hlen] at this
  simp [execOp, hx, Instr.loadAt, Instr.sureAddr, loadVar, isAgg_run hi, sizeOf_run hi, this]

theorem WL_loadB {t e : TypeId} {x : Operand} {b o by' : Nat} {cs : List Value} {v z : Value} (hi : TI P t false 1 by' z) (st : St B w G (l1 ++ .blk b cs e :: l2)) (hd : Nat.blt d n = true) (hx : ev ρ x = .pointer (some ⟨b, o, none⟩)) (hv : cs[o]? = some v)
    (h : WL μ P n ops Q rest (upd ρ d v) w) : WL μ P n ops Q (⟨some d, .load t x, ty, pos, af, none⟩ :: rest) ρ w :=
  Y4 (cs := [v]) hi hd hx (fun j u hu => by
    cases j with
    | zero => simp at hu; subst hu; have := St.lies st o v hv; rwa [Nat.zero_add] at this
    | succ j => simp at hu) rfl h
theorem Jl {t e : TypeId} {x : Operand} {b o by' sz : Nat} {cs vs : List Value} {z : Value} (hi : TI P t true sz by' z) (st : St B w G (l1 ++ .blk b cs e :: l2)) (hd : Nat.blt d n = true) (hx : ev ρ x = .pointer (some ⟨b, o, none⟩)) (hv : (cs.drop o).take sz = vs) (hl : vs.length = sz)
    (h : WL μ P n ops Q rest (upd ρ d (.agg vs.toArray)) w) : WL μ P n ops Q (⟨some d, .load t x, ty, pos, af, none⟩ :: rest) ρ w := by
  refine Jy (cs := vs) hi hd hx ?_ (by omega) (by rw [List.take_of_length_le (by omega)]; exact h)
  subst hv
  have := ((St.lies st).drop o).take sz
  rwa [Nat.zero_add] at this
/-- What a result's variable holds. -/
theorem cell_ok {t e : TypeId} {b by' : Nat} {cs : List Value} {v z : Value} (hi : TI P t false 1 by' z) (st : St B w G (l1 ++ .blk b cs e :: l2)) (hv : cs[0]? = some v) : (loadVar t ⟨b, 0, none⟩).run P w = .ok v w := by
  have := St.lies st 0 v hv
  simp only [Nat.add_zero] at this
  simp [loadVar, isAgg_run hi, run_load, this]
theorem Yl {t e : TypeId} {b by' sz : Nat} {cs : List Value} {z : Value} (hi : TI P t true sz by' z) (st : St B w G (l1 ++ .blk b cs e :: l2)) (hl : cs.length = sz) : (loadVar t ⟨b, 0, none⟩).run P w = .ok (.agg cs.toArray) w := by
  have := run_loadCells_list (P := P) w ⟨b, 0, none⟩ cs (fun j v hv => by rw [addn]; exact St.lies st j v hv)
  rw [hl] at this
  simp [loadVar, isAgg_run hi, sizeOf_run hi, this]


theorem WL_fieldAddr {t ft : TypeId} {x : Operand} {f off b o sz by' : Nat} {fs : Array Field} {agg : Bool} {z : Value} (ht : P.underlying t = some (.struct fs)) (hf : (fs[f]?).map (fun q => (q.type, q.offset)) = some (ft, off)) (hi : TI P ft agg sz by' z) (hsz : Nat.blt 0 sz = true)
    (hd : Nat.blt d n = true) (hx : ev ρ x = .pointer (some ⟨b, o, none⟩)) (h : WL μ P n ops Q rest (upd ρ d (.pointer (some ⟨b, o + off, none⟩))) w) :
    WL μ P n ops Q (⟨some d, .fieldAddr t x f, ty, pos, af, none⟩ :: rest) ρ w := by
  refine Jz hd ?_ h
  have hsz' : ¬ sz = 0 := by have := Nat.le_of_ble_eq_true hsz; omega
  cases hq : fs[f]? with
  | none => rw [hq] at hf; cases hf
  | some q =>
    rw [hq] at hf
    simp only [Option.map_some, Option.some.injEq, Prod.mk.injEq] at hf
    obtain ⟨rfl, rfl⟩ := hf
    simp [execOp, hx, Instr.fieldAt, run_underlying ht, hq, Instr.sureAddr, fieldPlace, sizeOf_run hi, hsz', addn]
theorem WL_fa {t ft : TypeId} {x : Operand} {f off b o o' sz by' : Nat} {fs : Array Field} {agg : Bool} {z : Value} (ht : P.underlying t = some (.struct fs)) (hf : (fs[f]?).map (fun q => (q.type, q.offset)) = some (ft, off)) (hi : TI P ft agg sz by' z) (hsz : Nat.blt 0 sz = true)
    (hd : Nat.blt d n = true) (hx : ev ρ x = .pointer (some ⟨b, o, none⟩)) (ho : o + off = o') (h : WL μ P n ops Q rest (upd ρ d (.pointer (some ⟨b, o', none⟩))) w) :
    WL μ P n ops Q (⟨some d, .fieldAddr t x f, ty, pos, af, none⟩ :: rest) ρ w := by subst ho; exact WL_fieldAddr ht hf hi hsz hd hx h

theorem Jmv (v : Value) {x : Operand} (hd : Nat.blt d n = true) (hx : ev ρ x = v) (h : WL μ P n ops Q rest (upd ρ d v) w) : WL μ P n ops Q (⟨some d, .move x, ty, pos, af, none⟩ :: rest) ρ w := WL_mv hd hx h
theorem Jsv (v : Value) {x : Operand} (hd : Nat.blt d n = true) (hx : ev ρ x = v) (h : WL μ P n ops Q rest (upd ρ d v) w) : WL μ P n ops Q (⟨some d, .assign x, ty, pos, af, none⟩ :: rest) ρ w := WL_as hd hx h
theorem Jfa (off o' : Nat) {t ft : TypeId} {x : Operand} {f b o sz by' : Nat} {fs : Array Field} {agg : Bool} {z : Value} (ht : P.underlying t = some (.struct fs)) (hf : (fs[f]?).map (fun q => (q.type, q.offset)) = some (ft, off)) (hi : TI P ft agg sz by' z) (hsz : Nat.blt 0 sz = true)
    (hd : Nat.blt d n = true) (hx : ev ρ x = .pointer (some ⟨b, o, none⟩)) (ho : o + off = o') (h : WL μ P n ops Q rest (upd ρ d (.pointer (some ⟨b, o', none⟩))) w) :
    WL μ P n ops Q (⟨some d, .fieldAddr t x f, ty, pos, af, none⟩ :: rest) ρ w := WL_fa ht hf hi hsz hd hx ho h
theorem Jlb (m1 : List Res) (v : Value) {m2 : List Res} {t e : TypeId} {x : Operand} {b o by' : Nat} {cs : List Value} {z : Value} (hi : TI P t false 1 by' z) (st : St B w G (m1 ++ .blk b cs e :: m2)) (hd : Nat.blt d n = true) (hx : ev ρ x = .pointer (some ⟨b, o, none⟩)) (hv : cs[o]? = some v)
    (h : WL μ P n ops Q rest (upd ρ d v) w) : WL μ P n ops Q (⟨some d, .load t x, ty, pos, af, none⟩ :: rest) ρ w := WL_loadB hi st hd hx hv h
theorem WL_indexArr {t e : TypeId} {x y : Operand} {k : IntKind} {i : Int} {m b o sz by' : Nat} {agg : Bool} {z : Value} (ht : P.underlying t = some (.array m e)) (hi : TI P e agg sz by' z) (hd : Nat.blt d n = true) (hx : ev ρ x = .pointer (some ⟨b, o, none⟩)) (hy : ev ρ y = .int k i)
    (h0 : 0 ≤ i) (h1 : i < m) (h : WL μ P n ops Q rest (upd ρ d (.pointer (some ⟨b, o + i.toNat * sz, none⟩))) w) :
    WL μ P n ops Q (⟨some d, .indexAddr t x y, ty, pos, af, none⟩ :: rest) ρ w := by
  refine Jz hd ?_ h
  simp [execOp, hx, hy, Instr.indexAt, asIntOf, run_underlying ht, Instr.sureAddr, h0, h1, sizeOf_run hi, addn]
/-- The place of an element of a slice that is read. -/
theorem Jh {α : Type} {T : Ty α} {t e : TypeId} {x y : Operand} {k : IntKind} {i : Int} {by' : Nat} {agg : Bool} {z v : Value} {xs : List α} {x0 : α} (ht : P.underlying t = some (.slice e)) (hi : TI P e agg T.sz by' z) (st : St B w G M) (hs : SRep e T G v xs)
    (hd : Nat.blt d n = true) (hx : ev ρ x = v) (hy : ev ρ y = .int k i) (hv : idx xs i = some x0)
    (h : ∀ b o cs, LiesG G b o cs → T.rep G cs x0 → WL μ P n ops Q rest (upd ρ d (.pointer (some ⟨b, o, none⟩))) w) :
    WL μ P n ops Q (⟨some d, .indexAddr t x y, ty, pos, af, none⟩ :: rest) ρ w := by
  obtain ⟨h0, h1, h2⟩ := idx_some hv
  obtain ⟨a, m, c, rfl, hm, _, _, hb⟩ := hs
  obtain ⟨b, off, cells, fr, rfl, hG, hfit, hE⟩ := hb (by omega)
  have h1' : i < (m : Int) := by omega
  have hrep := hE.get h2
  refine Jz hd ?_ (h b (off + i.toNat * T.sz) _ ⟨cells, fr.1, fr.2, hG, fun j u hu => ?_⟩ hrep)
  · simp [execOp, hx, hy, Instr.indexAt, asIntOf, run_underlying ht, h0, h1', sizeOf_run hi, addn]
  · rw [List.getElem?_take] at hu
    split at hu
    · rw [List.getElem?_drop, List.getElem?_take] at hu
      split at hu
      · rw [List.getElem?_drop] at hu
        rw [Nat.add_assoc]
        simpa using hu
      · cases hu
    · cases hu
/-- The place of an element of a row of one's own. -/
theorem Y7 {t e : TypeId} {x y : Operand} {k : IntKind} {i : Int} {m by' sz : Nat} {agg : Bool} {z v : Value} {cs : List Value} (ht : P.underlying t = some (.slice e)) (hi : TI P e agg sz by' z) (st : St B w G (l1 ++ .row v e sz m cs :: l2))
    (hd : Nat.blt d n = true) (hx : ev ρ x = v) (hy : ev ρ y = .int k i) (h0 : 0 ≤ i) (h1 : i < m)
    (h : ∀ g, v.ownBlock = some g → Lies w g 0 cs → WL μ P n ops Q rest (upd ρ d (.pointer (some ⟨g, i.toNat * sz, none⟩))) w) :
    WL μ P n ops Q (⟨some d, .indexAddr t x y, ty, pos, af, none⟩ :: rest) ρ w := by
  have hok : w.ownsRow 0 e sz v m cs := St.mid st
  rcases hok.2 with ⟨rfl, rfl⟩ | ⟨g, cap, cur, rfl, hb, hg, hnc, hcm, hcs, htake⟩
  · omega
  · refine Jz hd ?_ (h g rfl (fun j u hu => ?_))
    · simp [execOp, hx, hy, Instr.indexAt, asIntOf, run_underlying ht, h0, h1, sizeOf_run hi, addn]
    · have := hok.cells (g := g) rfl j u hu
      rw [addn] at this; exact this


theorem Y5 {t e : TypeId} {x y : Operand} {b o by' : Nat} {cs : List Value} {v z : Value} (hi : TI P t false 1 by' z) (st : St B w G (l1 ++ .blk b cs e :: l2)) (hx : ev ρ x = .pointer (some ⟨b, o, none⟩)) (hy : ev ρ y = v) (h1 : v.oneCell' = true) (ho : Nat.blt o cs.length = true)
    (h : ∀ w', St B w' G (l1 ++ .blk b (cs.set o v) e :: l2) → WL μ P n ops Q rest ρ w') : WL μ P n ops Q (⟨none, .store t x y, ty, pos, af, none⟩ :: rest) ρ w := by
  have ho' := Nat.le_of_ble_eq_true ho
  have hb : w.heap[b]? = some (.cells cs.toArray e (0, 0)) := St.mid st
  have hc : w.cell? ⟨b, o, none⟩ = some (cs[o]) := by rw [cell_of_row w b o cs.toArray e (0, 0) hb]; simp
  have hfr : w.frozen? ⟨b, o, none⟩ = false := by simp [World.frozen?, hb]
  have hcs : v.cells = #[v] := by cases v <;> first | rfl | cases h1
  have hw : (w.setCell ⟨b, o, none⟩ v).heap[b]? = some (.cells (cs.set o v).toArray e (0, 0)) := by
    have := heap_setCell_same w b o cs.toArray e v hb
    rw [this]; simp
  refine WL_unit (w' := w.setCell ⟨b, o, none⟩ v) ?_ (h _ (st.stepAt ⟨rfl, rfl, rfl, by simp, fun k hk hne => heap_setCell_other w _ k v (fun e => hne (by simp [Res.key, e]))⟩ hw (fun k hk => .inl hk)))
  have hadd : (⟨b, o, none⟩ : Addr).add 0 = ⟨b, o, none⟩ := rfl
  have hs := run_store P w ⟨b, o, none⟩ v .plain h1
  rw [hc] at hs
  simp only [hfr, Bool.false_eq_true, if_false] at hs
  simp [execOp, hx, hy, Instr.storeAt, Instr.sureAddr, storeVar, sizeOf_run hi, hcs, storeCells, hadd, hs]
theorem Jp {t e : TypeId} {x y : Operand} {b o by' sz : Nat} {cs : List Value} {vs : List Value} {z : Value} (hi : TI P t true sz by' z) (st : St B w G (l1 ++ .blk b cs e :: l2)) (hx : ev ρ x = .pointer (some ⟨b, o, none⟩)) (hy : ev ρ y = .agg vs.toArray) (hl : vs.length = sz) (h1 : ∀ v ∈ vs, v.oneCell' = true)
    (ho : Nat.ble (o + sz) cs.length = true) (h : ∀ w', St B w' G (l1 ++ .blk b (cs.take o ++ vs ++ cs.drop (o + sz)) e :: l2) → WL μ P n ops Q rest ρ w') : WL μ P n ops Q (⟨none, .store t x y, ty, pos, af, none⟩ :: rest) ρ w := by
  have ho' := Nat.le_of_ble_eq_true ho
  have hb : w.heap[b]? = some (.cells cs.toArray e (0, 0)) := St.mid st
  have hst := run_storeCells_at (P := P) b o e vs 0 cs.toArray w hb (by simp; omega) h1
  simp only [Nat.add_zero, hl] at hst
  have hw := setRow_heap w b cs.toArray (cs.take o ++ vs ++ cs.drop (o + sz)).toArray e (0, 0) hb
  refine WL_unit (w' := w.setRow b (cs.take o ++ vs ++ cs.drop (o + sz)).toArray) ?_ (h _ (st.stepAt ⟨rfl, rfl, rfl, by simp, fun k hk hne => setRow_other w b k _ (fun e => hne (by simp [Res.key, e]))⟩ hw (fun k hk => .inl hk)))
  simp [execOp, hx, hy, Instr.storeAt, Instr.sureAddr, storeVar, sizeOf_run hi, Value.cells, hl, hst]
/-- A store into a row of one's own. -/
theorem WL_storeOwn {t e : TypeId} {x y : Operand} {g o m by' sz s1 : Nat} {agg : Bool} {v : Value} {cs : List Value} {vs : List Value} {z u : Value} (hi : TI P t agg s1 by' z) (st : St B w G (l1 ++ .row v e sz m cs :: l2)) (hg : v.ownBlock = some g) (hx : ev ρ x = .pointer (some ⟨g, o, none⟩)) (hy : ev ρ y = u)
    (hu : u.cells = vs.toArray) (hl : vs.length = s1) (h1 : ∀ v ∈ vs, v.oneCell' = true) (ho : o + s1 ≤ cs.length)
    (h : ∀ w', St B w' G (l1 ++ .row v e sz m (cs.take o ++ vs ++ cs.drop (o + s1)) :: l2) → WL μ P n ops Q rest ρ w') : WL μ P n ops Q (⟨none, .store t x y, ty, pos, af, none⟩ :: rest) ρ w := by
  have hok : w.ownsRow 0 e sz v m cs := St.mid st
  rcases hok.2 with ⟨rfl, rfl⟩ | ⟨g', cap, cur, rfl, hb, hgg, hnc, hcm, hcs, htake⟩
  · simp [Value.ownBlock] at hg
  · simp only [Value.ownBlock, Option.some.injEq] at hg
    subst hg
    have hlen : m * sz ≤ cur.size := by rw [hcs]; exact Nat.mul_le_mul_right _ hnc
    have hcl := hok.1
    have hst := run_storeCells_at (P := P) g' o e vs 0 cur w hgg (by omega) h1
    simp only [Nat.add_zero, hl] at hst
    have hw := setRow_heap w g' cur (cur.toList.take o ++ vs ++ cur.toList.drop (o + s1)).toArray e (0, 0) hgg
    refine WL_unit (w' := w.setRow g' (cur.toList.take o ++ vs ++ cur.toList.drop (o + s1)).toArray) ?_ (h _ (st.stepAt ⟨rfl, rfl, rfl, by simp, fun k hk hne => setRow_other w g' k _ (fun e => hne (by simp [Res.key, Value.ownBlock, e]))⟩ ?_ (fun k hk => .inl hk)))
    · have h2 : u.cells.toList = vs := by rw [hu]
      have h3 : u.cells.size = s1 := by rw [hu]; simpa using hl
      simp [execOp, hx, hy, Instr.storeAt, Instr.sureAddr, storeVar, sizeOf_run hi, h3, h2, hst]
    · refine ⟨?_, .inr ⟨g', cap, _, rfl, hb, hw, hnc, hcm, ?_, ?_⟩⟩
      · simp only [List.length_append, List.length_take, List.length_drop]; omega
      · simp only [List.size_toArray, List.length_append, List.length_take, List.length_drop, Array.length_toList]; omega
      · have hA : (cur.toList.take o).length = o := by rw [List.length_take, Array.length_toList]; omega
        rw [← htake]
        simp only [List.take_append, hA, List.length_append, hl, List.take_take, show min (m * sz) o = o by omega, show min o (m * sz) = o by omega, List.take_of_length_le (show vs.length ≤ m * sz - o by omega), List.drop_take]


theorem Jo {t : TypeId} {agg : Bool} {sz by' : Nat} {z : Value} (hi : TI P t agg sz by' z) (st : St B w G M) (hd : Nat.blt d n = true)
    (h : ∀ b w', St B w' G (.blk b z.cells.toList t :: M) → WL μ P n ops Q rest (upd ρ d (.pointer (some ⟨b, 0, none⟩))) w') : WL μ P n ops Q (⟨some d, .alloc t, ty, pos, af, none⟩ :: rest) ρ w := by
  refine Jz (w' := w.alloc (.cells z.cells.toList.toArray t)) hd ?_ (h w.heap.size _ (st.alloc z.cells.toList t))
  simp [execOp, Instr.alloc, zero_run hi, newVar, newRow]
theorem Ju {t : TypeId} {x : Operand} {v : Value} {cs : List Value} (st : St B w G M) (hd : Nat.blt d n = true) (hx : ev ρ x = v) (hc : v.cells = cs.toArray)
    (h : ∀ b w', St B w' G (.blk b cs t :: M) → WL μ P n ops Q rest (upd ρ d (.pointer (some ⟨b, 0, none⟩))) w') : WL μ P n ops Q (⟨some d, .box t x, ty, pos, af, none⟩ :: rest) ρ w := by
  refine Jz (w' := w.alloc (.cells cs.toArray t)) hd ?_ (h w.heap.size _ (st.alloc cs t))
  simp [execOp, Instr.box, hx, newVar, newRow, hc]
/-- A slice literal: a row of one's own. -/
theorem Jj {t e : TypeId} {len sz by' : Nat} {agg : Bool} {z : Value} {parts : Array (Nat × Operand)} {cells : List Value} (ht : P.underlying t = some (.slice e)) (hi : TI P e agg sz by' z) (st : St B w G M) (hd : Nat.blt d n = true)
    (hsmall : Nat.ble (len * sz) 16777216 = true) (hpos : Nat.blt 0 (len * sz) = true) (hlen : cells.length = len * sz) (hz : (z.cells.size == sz) = true)
    (hf : Instr.fill (fun i => some (i * sz, sz)) ((Array.range (len * sz)).map (z.cells[· % z.cells.size]!)) (parts.map fun (i, x) => (i, ev ρ x)).toList = some cells.toArray)
    (h : ∀ v w', St B w' G (.row v e sz len cells :: M) → (∃ b, v = .slice (some ⟨b, 0, none⟩) len len ∧ Lies w' b 0 cells) → WL μ P n ops Q rest (upd ρ d v) w') : WL μ P n ops Q (⟨some d, .buildSlice t len parts, ty, pos, af, none⟩ :: rest) ρ w := by
  have h1 := Nat.le_of_ble_eq_true hsmall
  have h2 := Nat.le_of_ble_eq_true hpos
  obtain ⟨i, hinfo, hsz, hby, hzz⟩ := hi.info
  have hrun := run_buildSlice (P := P) w t e len (parts.map fun (i, x) => (i, ev ρ x)) cells.toArray i z ht hinfo hzz (by rw [hsz]; omega) (by rw [hsz]; omega) (by rw [hsz]; exact hf)
  have hnew := heap_alloc_new w (.cells cells.toArray e)
  refine Jz (w' := w.alloc (.cells cells.toArray e)) hd ?_ (h (.slice (some ⟨w.heap.size, 0, none⟩) len len) _ (st.push (World.grownBy_alloc w _ none) ⟨hlen, .inr ⟨w.heap.size, len, cells.toArray, rfl, Nat.zero_le _, hnew, Nat.le_refl _, ?_, by simp [hlen], ?_⟩⟩ ?_) ⟨_, rfl, ?_⟩)
  · simp only [execOp, Sem.run_bind, hrun, Result.andThen_ok, Sem.run_pure]
  · have : len ≤ len * sz := Nat.le_mul_of_pos_right _ (by cases sz with
      | zero => simp at h2
      | succ s => omega)
    unfold maxLen; omega
  · rw [← hlen]; simp
  · intro b hb; cases hb; exact Nat.le_refl _
  · intro j v hv
    rw [cell_of_row _ _ _ _ _ _ hnew, Nat.zero_add]; simpa using hv
/-- 'append': a row of one's own grows by cells that lie somewhere. -/
theorem WL_append {t e : TypeId} {x y : Operand} {sz by' m k c b o : Nat} {agg : Bool} {z v : Value} {cs news : List Value} (ht : P.underlying t = some (.slice e)) (hi : TI P e agg sz by' z) (hz : z.cells.size = sz) (hsz : Nat.blt 0 sz = true) (st : St B w G (l1 ++ .row v e sz m cs :: l2)) (hd : Nat.blt d n = true)
    (hx : ev ρ x = v) (hy : ev ρ y = .slice (some ⟨b, o, none⟩) k c) (hl : news.length = k * sz) (hlies : Lies w b o news) (h1 : ∀ u ∈ news, u.oneCell' = true) (hlim : (m + k) * by' ≤ SB) (hm : m + k ≤ SB)
    (h : ∀ v' w', St B w' G (l1 ++ .row v' e sz (m + k) (cs ++ news) :: l2) → WL μ P n ops Q rest (upd ρ d v') w') :
    WL μ P n ops Q (⟨some d, .call { callee := .builtin .append, args := #[x, y], argTypes := #[t, t] }, ty, pos, af, none⟩ :: rest) ρ w := by
  obtain ⟨i, hinfo, hisz, hby, hzz⟩ := hi.info
  have hok : w.ownsRow 0 e sz v m cs := St.mid st
  have hmax : m + k ≤ maxLen := by unfold SB at hm; unfold maxLen; omega
  obtain ⟨v', w', hr, h2, h3, h4⟩ := run_append_own (P := P) w 0 t ty e i z sz by' ht hinfo hzz hisz hby hz (Nat.le_of_ble_eq_true hsz) v m cs hok ⟨b, o, none⟩ k c news hl (fun j u hu => by rw [addn]; exact hlies j u hu) h1 hmax hlim (Nat.zero_le _)
  refine Jz hd ?_ (h v' w' (st.stepAt h3 h2 (fun q hq => ?_)))
  · simp only [execOp, resolve, invoke, builtin, Sem.run_bind, Sem.run_pure, Result.andThen_ok, List.map_toArray, List.map_cons, List.map_nil, hx, hy, hr]
  · rcases hok.2 with ⟨rfl, rfl⟩ | ⟨g, cap, cur, rfl, hb, hg, hnc, hcm, hcs, htake⟩
    · right
      have hok' : w.ownsRow w.heap.size e sz (.slice none 0 0) 0 cs := ⟨hok.1, .inl ⟨rfl, rfl⟩⟩
      obtain ⟨v2, w2, hr2, h22, _, _⟩ := run_append_own (P := P) w w.heap.size t ty e i z sz by' ht hinfo hzz hisz hby hz (Nat.le_of_ble_eq_true hsz) (.slice none 0 0) 0 cs hok' ⟨b, o, none⟩ k c news hl (fun j u hu => by rw [addn]; exact hlies j u hu) h1 hmax hlim (Nat.le_refl _)
      rw [hr] at hr2
      cases hr2
      rcases h22.2 with ⟨rfl, _⟩ | ⟨g, cap, cur, rfl, hb, _⟩
      · simp [Res.key, Value.ownBlock] at hq
      · simp only [Res.key, Value.ownBlock, Option.some.injEq] at hq
        omega
    · by_cases hroom : m + k ≤ cap
      · left
        have hfit : m * i.size + news.length ≤ cur.size := by rw [hl, hcs, hisz, ← Nat.add_mul]; exact Nat.mul_le_mul_right _ hroom
        have hr2 := run_append_room (P := P) w t ty e i ht hinfo g m cap cur hg ⟨b, o, none⟩ k c news (by rw [hisz]; exact hl) (fun j u hu => by rw [addn]; exact hlies j u hu) h1 hroom hfit
        rw [hr] at hr2
        cases hr2
        exact hq
      · right
        have hr2 := run_append_grow (P := P) w t ty e i z ht hinfo hzz ⟨g, 0, none⟩ m cap cs (by rw [hisz]; exact hok.1) (hok.cells (g := g) rfl) ⟨b, o, none⟩ k c news (by rw [hisz]; exact hl) (fun j u hu => by rw [addn]; exact hlies j u hu) (by omega) (by unfold maxLen at hmax; omega) (growslice_fits (by omega) (by rw [hby]; exact hlim))
        rw [hr] at hr2
        cases hr2
        simp only [Res.key, Value.ownBlock, Option.some.injEq] at hq
        omega
end
end Go.Proofs.YtnglgjgflohkmaaGreat.Sk
