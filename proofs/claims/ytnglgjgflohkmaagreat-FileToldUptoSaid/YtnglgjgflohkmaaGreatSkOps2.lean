/- Further operations: pointers held against nil, strings and bytes, literals of bytes. No condition. -/
import Derived.Test.YtnglgjgflohkmaaGreatSkMore
import Derived.Laws.Pointers
import Derived.Laws.StructEq
import Derived.Laws.BytesString
import Derived.Lib.ConvBytes
import Derived.Lib.SlBytesConst
import Derived.Lib.AppendStr
namespace Go.Proofs.YtnglgjgflohkmaaGreat.Sk
open Go
set_option linter.unusedVariables false
set_option linter.unusedSimpArgs false
set_option linter.unusedVariables false
set_option linter.unusedSimpArgs false
section
variable {μ : Mode} {P : Program} {n : Nat} {Q : Post} {ρ : Env} {w B : World} {G : GH} {M l1 l2 : List Res} {ops : Array Oper} {rest : List Oper} {d : Nat} {ty : TypeId} {pos : String} {af : Array Edge}

theorem guard_ptr {op : BinOp} {t : TypeId} {x y : Operand} {p q : Option Addr} : (eqGuard op t x y (.pointer p) (.pointer q)).run P w = .ok () w := by
  unfold eqGuard; split <;> simp
theorem eql_ptr {t u : TypeId} {a : Addr} (ht : P.underlying t = some (.pointer u)) : (binOp .eql t (.pointer (some a)) (.pointer none)).run P w = .ok (.bool false) w := by
  have h : P.underlying t = some (.pointer (P.pointee t)) := by simp [Program.pointee, ht]
  exact run_eql_pointer_nil w t (some a) h
theorem neq_ptr {t u : TypeId} {a : Addr} (ht : P.underlying t = some (.pointer u)) : (binOp .neq t (.pointer (some a)) (.pointer none)).run P w = .ok (.bool true) w := by
  have h : P.underlying t = some (.pointer (P.pointee t)) := by simp [Program.pointee, ht]
  have := run_equal_pointer_nil w t (some a) h
  simp [binOp, this]
theorem WL_peql {t u : TypeId} {x y : Operand} {yt : TypeId} {a : Addr} (ht : P.underlying t = some (.pointer u)) (hd : Nat.blt d n = true) (hx : ev ρ x = .pointer (some a)) (hy : ev ρ y = .pointer none) (h : WL μ P n ops Q rest (upd ρ d (.bool false)) w) :
    WL μ P n ops Q (⟨some d, .binOp .eql t x y yt, ty, pos, af, none⟩ :: rest) ρ w := Jz hd (run_bin hx hy guard_ptr (eql_ptr ht)) h
theorem WL_pneq {t u : TypeId} {x y : Operand} {yt : TypeId} {a : Addr} (ht : P.underlying t = some (.pointer u)) (hd : Nat.blt d n = true) (hx : ev ρ x = .pointer (some a)) (hy : ev ρ y = .pointer none) (h : WL μ P n ops Q rest (upd ρ d (.bool true)) w) :
    WL μ P n ops Q (⟨some d, .binOp .neq t x y yt, ty, pos, af, none⟩ :: rest) ρ w := Jz hd (run_bin hx hy guard_ptr (neq_ptr ht)) h

def bytesOf (xs : List Int) : ByteArray := ⟨(xs.map fun n => UInt8.ofNat n.toNat).toArray⟩
def bytesTo (s : ByteArray) : List Int := s.data.toList.map fun b => (b.toNat : Int)

theorem fold_push : ∀ (xs : List Int) (r : ByteArray), xs.foldl (fun r n => r.push (UInt8.ofNat n.toNat)) r = ⟨r.data ++ (xs.map fun n => UInt8.ofNat n.toNat).toArray⟩
  | [], r => by simp
  | x :: xs, r => by
    rw [List.foldl_cons, fold_push xs]
    simp [ByteArray.push]
theorem EAll.ints {k : IntKind} : ∀ {cs : List Value} {xs : List Int}, EAll (tInt k) G cs xs → cs = xs.map (Value.int k)
  | _, [], e => e
  | _, x :: xs, ⟨c, r, e, h1, h2⟩ => by
    rw [e, h1.1, EAll.ints h2]; rfl
theorem EAll.inK {k : IntKind} : ∀ {cs : List Value} {xs : List Int}, EAll (tInt k) G cs xs → ∀ x ∈ xs, InK k x
  | _, [], e, _, h => by cases h
  | _, x :: xs, ⟨c, r, e, h1, h2⟩, y, hy => by
    rcases List.mem_cons.1 hy with rfl | hy
    · exact h1.2
    · exact EAll.inK h2 y hy
theorem bytesOf_size (xs : List Int) : (bytesOf xs).size = xs.length := by
  show ((xs.map fun n => UInt8.ofNat n.toNat).toArray).size = _
  rw [List.size_toArray, List.length_map]
theorem bytesTo_len (s : ByteArray) : (bytesTo s).length = s.size := by
  show (s.data.toList.map _).length = _
  rw [List.length_map, Array.length_toList]; rfl
theorem bytesOf_le {e : TypeId} {T : Ty Int} {v : Value} {xs : List Int} (h : SRep e T G v xs) : (bytesOf xs).size ≤ SB := by rw [bytesOf_size]; exact h.le
theorem WL_convBS {s t e : TypeId} {x : Operand} {v : Value} {xs : List Int} (hs : P.underlying s = some (.slice e)) (he : P.underlying e = some (.int .u8)) (ht : P.underlying t = some .string) (st : St B w G M) (hr : SRep e (tInt .u8) G v xs)
    (hd : Nat.blt d n = true) (hx : ev ρ x = v) (h : WL μ P n ops Q rest (upd ρ d (.string (bytesOf xs))) w) : WL μ P n ops Q (⟨some d, .convert s t x, ty, pos, af, none⟩ :: rest) ρ w := by
  obtain ⟨a, m, c, rfl, h2, h3, h4, h5⟩ := hr
  refine Jz hd ?_ h
  have hc := run_convert_bytes_string (P := P) w s t e a m c hs he ht
  by_cases h0 : 0 < m
  · obtain ⟨b, off, cells, fr, rfl, hG, hfit, hE⟩ := h5 h0
    have hcs := hE.ints
    have hm : (tInt .u8).sz = 1 := rfl
    rw [hm, Nat.mul_one] at hcs
    have hlen : ((cells.toList.drop off).take m).length = m := by
      rw [List.length_take, List.length_drop]
      rw [hm, Nat.mul_one] at hfit
      have := Array.length_toList (xs := cells)
      omega
    have hl := run_loadCells_list (P := P) w ⟨b, off, none⟩ ((cells.toList.drop off).take m) (fun j u hu => by
      rw [addn]
      rw [List.getElem?_take] at hu
      split at hu
      · rw [List.getElem?_drop] at hu
        rw [cell_of_row w b (off + j) cells fr.1 fr.2 (st.g _ _ hG)]
        simpa using hu
      · cases hu)
    rw [hlen, hcs] at hl
    have := run_bytesToString (P := P) w ⟨b, off, none⟩ m c xs hl
    rw [fold_push] at this
    simp only [execOp, Sem.run_bind, hx, hc, this, Result.andThen_ok, Sem.run_pure]
    have e0 : ∀ q : Array UInt8, ByteArray.empty.data ++ q = q := fun q => Array.empty_append
    rw [e0]; rfl
  · have hx0 : xs = [] := List.eq_nil_of_length_eq_zero (by omega)
    subst hx0
    have hm : m = 0 := by omega
    subst hm
    cases a with
    | none =>
      simp only [execOp, Sem.run_bind, hx, hc, Result.andThen_ok, Sem.run_pure]
      simp only [Conv.bytesToString, Sem.run_pure, Result.andThen_ok]
      rfl
    | some a =>
      have hl := run_loadCells_list (P := P) w a [] (fun j u hu => by simp at hu)
      have := run_bytesToString (P := P) w a 0 c [] hl
      simp only [execOp, Sem.run_bind, hx, hc, Result.andThen_ok, Sem.run_pure, List.length_nil] at this ⊢
      rw [this]
      rfl
theorem EAll.bytes : ∀ (l : List UInt8), EAll (tInt .u8) G (l.map fun b => Value.int .u8 b.toNat) (l.map fun b => (b.toNat : Int))
  | [] => rfl
  | b :: l => ⟨[.int .u8 b.toNat], _, rfl, ⟨rfl, by
      have := b.toNat_lt
      show IntKind.wrap .u8 (b.toNat : Int) = _
      unfold IntKind.wrap
      simp [IntKind.bits, IntKind.signed]
      omega⟩, EAll.bytes l⟩
/-- A literal's bytes, marked: from now on they are only read. -/
theorem WL_convMark {t e : TypeId} {x : Operand} {v : Value} {m : Nat} {cs : List Value} {xs : List Int} (ht : P.underlying t = some (.slice e)) (he : P.underlying e = some (.int .u8)) (st : St B w G (l1 ++ .row v e 1 m cs :: l2))
    (hv : ∃ b, v = .slice (some ⟨b, 0, none⟩) m m) (hE : EAll (tInt .u8) G cs xs) (hm : xs.length = m) (hle : m ≤ SB)
    (hd : Nat.blt d n = true) (hx : ev ρ x = v) (h : ∀ w' G', Ext G G' → SRep e (tInt .u8) G' v xs → St B w' G' (l1 ++ l2) → WL μ P n ops Q rest (upd ρ d v) w') : WL μ P n ops Q (⟨some d, .convert t t x, ty, pos, af, none⟩ :: rest) ρ w := by
  obtain ⟨b, rfl⟩ := hv
  have hok : w.ownsRow 0 e 1 _ m cs := St.mid st
  rcases hok.2 with ⟨h0, _⟩ | ⟨g, cap, cur, h0, hb, hg, hnc, hcm, hcs, htake⟩
  · cases h0
  · injection h0 with h1 h2 h3
    injection h1 with h1
    injection h1 with h1
    subst h1
    subst h3
    have hsh : w.shape? b = some (e, cur.size) := by unfold World.shape?; rw [hg]
    have hw : (w.freeze ⟨b, cur.size, none⟩ 1).heap = w.heap.modify b (fun
      | .cells c elem (lo, hi) => .cells c elem (if lo == hi then (cur.size, cur.size + 1) else (min lo cur.size, max hi (cur.size + 1)))
      | o => o) := by unfold World.freeze; rw [if_neg (by decide)]; rfl
    have hnew : (w.freeze ⟨b, cur.size, none⟩ 1).heap[b]? = some (.cells cur e (cur.size, cur.size + 1)) := by
      rw [hw, Array.getElem?_modify, if_pos rfl, hg]; rfl
    have hgr : w.grownBy (w.freeze ⟨b, cur.size, none⟩ 1) (some b) := by
      refine ⟨?_, ?_, ?_, ?_, fun k hk hne => ?_⟩
      · unfold World.freeze; split <;> rfl
      · unfold World.freeze; split <;> rfl
      · unfold World.freeze; split <;> rfl
      · rw [hw, Array.size_modify]; exact Nat.le_refl _
      · rw [hw, Array.getElem?_modify, if_neg (fun hh => hne (by rw [hh]))]
    have st2 := (st.perm List.perm_middle).step (r' := .obj b (.cells cur e (cur.size, cur.size + 1))) hgr hnew (fun k hk => .inl hk)
    obtain ⟨G', s1, s2, s3⟩ := st2.freeze
    refine Jz hd ?_ (h _ G' s2 ⟨_, m, m, rfl, hm, Nat.le_refl _, hle, fun h0 => ⟨b, 0, _, (e, _), rfl, s3 _ _ rfl hnew, ?_, ?_⟩⟩ s1)
    · simp [execOp, hx, convert, run_underlying ht, run_underlying he, markStringish, hsh]
    · have h1 : (tInt .u8).sz = 1 := rfl
      rw [h1, hcs, Nat.zero_add]; exact Nat.le_refl _
    · have h1 : (tInt .u8).sz = 1 := rfl
      rw [h1, List.drop_zero, htake]
      exact hE.mono s2.ro


inductive CellEq (P : Program) : TypeId → Value → Value → Bool → Prop where
  | int {t : TypeId} {k0 k : IntKind} {a b : Int} (ht : P.underlying t = some (.int k0)) : CellEq P t (.int k a) (.int k b) (decide (a = b))
  | bool {t : TypeId} {a b : Bool} (ht : P.underlying t = some .bool) : CellEq P t (.bool a) (.bool b) (a == b)
  | str {t : TypeId} {a b : ByteArray} (ht : P.underlying t = some .string) : CellEq P t (.string a) (.string b) (seq a b)
theorem CellEq.run {t : TypeId} {x y : Value} {b : Bool} (h : CellEq P t x y b) (k : Nat) : (Op.equalIn (k + 1) t x y).run P w = .ok b w ∧ (isAgg t).run P w = .ok false w := by
  cases h with
  | int ht => exact ⟨by simp [Op.equalIn, run_underlying ht]; rfl, by simp [isAgg, run_underlying ht]⟩
  | bool ht => exact ⟨by simp [Op.equalIn, run_underlying ht], by simp [isAgg, run_underlying ht]⟩
  | str ht => exact ⟨by simp [Op.equalIn, run_underlying ht, beq_toListBytes]; rfl, by simp [isAgg, run_underlying ht]⟩
inductive FlatEq (P : Program) : List Field → Array Value → Array Value → Bool → Prop where
  | nil {xs ys : Array Value} : FlatEq P [] xs ys true
  | cons {f : Field} {fs : List Field} {xs ys : Array Value} {x y : Value} {b c : Bool} (hn : f.name ≠ "_") (hx : xs[f.offset]? = some x) (hy : ys[f.offset]? = some y) (h : CellEq P f.type x y b) (t : FlatEq P fs xs ys c) : FlatEq P (f :: fs) xs ys (b && c)
theorem FlatEq.run {fs : List Field} {xs ys : Array Value} {b : Bool} (h : FlatEq P fs xs ys b) (k : Nat) : (Op.eqFields (k + 1) xs ys fs).run P w = .ok b w := by
  induction h with
  | nil => simp [Op.eqFields]
  | @cons f fs xs ys x y b c hn hx hy h t ih =>
    obtain ⟨h1, h2⟩ := h.run (w := w) k
    have p1 : (part f.type xs f.offset).run P w = .ok x w := by simp [part, h2, hx]
    have p2 : (part f.type ys f.offset).run P w = .ok y w := by simp [part, h2, hy]
    unfold Op.eqFields
    rw [if_pos hn]
    simp only [Sem.run_bind, p1, p2, h1, Result.andThen_ok]
    cases b with
    | true => simp only [Bool.not_true, Bool.false_eq_true, if_false, ih, Bool.true_and]
    | false => simp
theorem run_equal_flat {t : TypeId} {fs : Array Field} {xs ys : Array Value} {b : Bool} (ht : P.underlying t = some (.struct fs)) (hp : P.stoodInHeld t = false) (h : FlatEq P fs.toList xs ys b) : (Op.equal t (.agg xs) (.agg ys)).run P w = .ok b w := by
  have hf : P.fieldsOf t = fs := by simp [Program.fieldsOf, ht]
  have := run_equalIn_struct (P := P) w 9999 t xs ys (by rw [hf]; exact ht) hp
  rw [hf, h.run (w := w) 9998] at this
  exact this
theorem guard_agg {op : BinOp} {t : TypeId} {x y : Operand} {xs ys : Array Value} (hg : P.eqGuardType P.depth t = false) : (eqGuard op t x y (.agg xs) (.agg ys)).run P w = .ok () w := by
  unfold eqGuard; split <;> simp [hg]
theorem WL_aneq {t : TypeId} {x y : Operand} {yt : TypeId} {fs : Array Field} {xs ys : Array Value} {b : Bool} (ht : P.underlying t = some (.struct fs)) (hp : P.stoodInHeld t = false) (hg : P.eqGuardType P.depth t = false) (hd : Nat.blt d n = true) (hx : ev ρ x = .agg xs) (hy : ev ρ y = .agg ys) (hf : FlatEq P fs.toList xs ys b)
    (h : WL μ P n ops Q rest (upd ρ d (.bool (!b))) w) : WL μ P n ops Q (⟨some d, .binOp .neq t x y yt, ty, pos, af, none⟩ :: rest) ρ w :=
  Jz hd (run_bin hx hy (guard_agg hg) (by simp [binOp, run_equal_flat ht hp hf])) h


theorem St.liesRow {v : Value} {e : TypeId} {sz m g : Nat} {cs : List Value} (st : St B w G (l1 ++ .row v e sz m cs :: l2)) (hg : v.ownBlock = some g) : Lies w g 0 cs := fun j u hu => by
  have hok : w.ownsRow 0 e sz v m cs := St.mid st
  have := hok.cells (g := g) hg j u hu
  rw [addn] at this; exact this
theorem WL_buildNone {t e : TypeId} {sz by' : Nat} {agg : Bool} {z : Value} (ht : P.underlying t = some (.slice e)) (hi : TI P e agg sz by' z) (st : St B w G M) (hd : Nat.blt d n = true)
    (h : ∀ v w', St B w' G (.row v e sz 0 [] :: M) → WL μ P n ops Q rest (upd ρ d v) w') : WL μ P n ops Q (⟨some d, .buildSlice t 0 #[], ty, pos, af, none⟩ :: rest) ρ w := by
  have hrun : (Instr.buildSlice t 0 #[]).run P w = .ok (.slice (some ⟨w.heap.size, 0, none⟩) 0 0) (w.alloc (.cells #[] e)) := by
    have e1 : Array.map (fun x => (default : Value)) (Array.range 0) = #[] := by simp
    simp [Instr.buildSlice, run_underlying ht, sizeOf_run hi, Instr.fill, newRow]
    exact congrArg (fun q => w.alloc (.cells q e)) e1
  have hnew := heap_alloc_new w (.cells #[] e)
  refine Jz (w' := w.alloc (.cells #[] e)) hd ?_ (h (.slice (some ⟨w.heap.size, 0, none⟩) 0 0) _ (st.push (World.grownBy_alloc w _ none) ⟨by simp, .inr ⟨w.heap.size, 0, #[], rfl, Nat.zero_le _, hnew, Nat.le_refl _, Nat.zero_le _, by simp, by simp⟩⟩ ?_))
  · have e0 : (Array.map (fun x : Nat × Operand => (x.1, ev ρ x.2)) #[]) = #[] := by simp
    simp only [execOp, Sem.run_bind, e0, hrun, Result.andThen_ok, Sem.run_pure]
  · intro b hb; cases hb; exact Nat.le_refl _
/-- 'append' of a string's bytes to a row of one's own. -/
theorem WL_appendS {t u e : TypeId} {x y : Operand} {m : Nat} {z v : Value} {cs : List Value} {a : ByteArray} (ht : P.underlying t = some (.slice e)) (hu : P.underlying u = some .string) (hi : TI P e false 1 1 z) (hz : z = .int .u8 0) (st : St B w G (l1 ++ .row v e 1 m cs :: l2)) (hd : Nat.blt d n = true)
    (hx : ev ρ x = v) (hy : ev ρ y = .string a) (hm : m + a.size ≤ SB)
    (h : ∀ v' w' news, EAll (tInt .u8) G news (bytesTo a) → St B w' G (l1 ++ .row v' e 1 (m + (bytesTo a).length) (cs ++ news) :: l2) → WL μ P n ops Q rest (upd ρ d v') w') :
    WL μ P n ops Q (⟨some d, .call { callee := .builtin .append, args := #[x, y], argTypes := #[t, u] }, ty, pos, af, none⟩ :: rest) ρ w := by
  subst hz
  obtain ⟨i, hinfo, hisz, hby, hzz⟩ := hi.info
  have hok : w.ownsRow 0 e 1 v m cs := St.mid st
  have hmax : m + a.size ≤ maxLen := by unfold SB at hm; unfold maxLen; omega
  have hnews : EAll (tInt .u8) G (Lib.strCells a) (bytesTo a) := by
    have := EAll.bytes (G := G) a.data.toList
    exact this
  obtain ⟨v', w', hr, h2, h3, h4⟩ := Lib.run_append_own_string (P := P) w 0 t u ty e i ht hu hinfo hzz hisz hby v m cs hok a hmax hm (Nat.zero_le _)
  rw [← bytesTo_len a] at h2
  refine Jz hd ?_ (h v' w' _ hnews (st.stepAt h3 h2 (fun q hq => ?_)))
  · simp only [execOp, resolve, invoke, builtin, Sem.run_bind, Sem.run_pure, Result.andThen_ok, List.map_toArray, List.map_cons, List.map_nil, hx, hy, hr]
  · rcases hok.2 with ⟨rfl, rfl⟩ | ⟨g, cap, cur, rfl, hb, hg, hnc, hcm, hcs, htake⟩
    · right
      have hok' : w.ownsRow w.heap.size e 1 (.slice none 0 0) 0 cs := ⟨hok.1, .inl ⟨rfl, rfl⟩⟩
      obtain ⟨v2, w2, hr2, h22, _, _⟩ := Lib.run_append_own_string (P := P) w w.heap.size t u ty e i ht hu hinfo hzz hisz hby (.slice none 0 0) 0 cs hok' a hmax hm (Nat.le_refl _)
      rw [hr] at hr2
      cases hr2
      rcases h22.2 with ⟨rfl, _⟩ | ⟨g, cap, cur, rfl, hb, _⟩
      · simp [Res.key, Value.ownBlock] at hq
      · simp only [Res.key, Value.ownBlock, Option.some.injEq] at hq
        omega
    · by_cases hroom : m + a.size ≤ cap
      · left
        have hr2 := Lib.run_append_room_string (P := P) w t u ty e i ht hu hinfo hisz g m cap cur hg a hroom (by omega)
        rw [hr] at hr2
        cases hr2
        exact hq
      · right
        have hr2 := Lib.run_append_grow_string (P := P) w t u ty e i _ ht hu hinfo hzz ⟨g, 0, none⟩ m cap cs (by rw [hisz]; exact hok.1) (hok.cells (g := g) rfl) a (by omega) (by unfold maxLen at hmax; omega) (growslice_fits (by omega) (by rw [hby, Nat.mul_one]; exact hm))
        rw [hr] at hr2
        cases hr2
        simp only [Res.key, Value.ownBlock, Option.some.injEq] at hq
        omega
theorem app_str {α : Type} {xs : List α} {m : Nat} {a : ByteArray} (h : xs.length = m) (hc : decide (xs.length + a.size ≤ SB) = true) : m + a.size ≤ SB := by
  rw [← h]; exact of_decide_eq_true hc
theorem app_strL {α : Type} {xs : List α} {m : Nat} {a : ByteArray} (h : xs.length = m) (hc : decide (xs.length + a.size ≤ SB) = true) : m + (bytesTo a).length ≤ SB := by
  rw [bytesTo_len]; exact app_str h hc

theorem Yb {t e : TypeId} {x y : Operand} {k : IntKind} {i : Int} {m b by' : Nat} {agg : Bool} {z : Value} (ht : P.underlying t = some (.array m e)) (hi : TI P e agg 1 by' z) (hd : Nat.blt d n = true) (hx : ev ρ x = .pointer (some ⟨b, 0, none⟩)) (hy : ev ρ y = .int k i)
    (h0 : 0 ≤ i) (h1 : i < m) (h : WL μ P n ops Q rest (upd ρ d (.pointer (some ⟨b, i.toNat, none⟩))) w) : WL μ P n ops Q (⟨some d, .indexAddr t x y, ty, pos, af, none⟩ :: rest) ρ w := by
  refine WL_indexArr ht hi hd hx hy h0 h1 ?_
  rw [Nat.zero_add, Nat.mul_one]; exact h
theorem WL_storeArr {α : Type} {T : Ty α} {t e : TypeId} {x y : Operand} {b by' i : Nat} {cs : List Value} {xs : List α} {u : α} {v z : Value} (hi : TI P t false 1 by' z) (hT : T.sz = 1) (st : St B w G (l1 ++ .blk b cs e :: l2)) (hE : EAll T G cs xs) (hx : ev ρ x = .pointer (some ⟨b, i, none⟩)) (hy : ev ρ y = v)
    (hv : T.rep G [v] u) (hlt : i < xs.length) (h : ∀ w', St B w' G (l1 ++ .blk b (cs.set i v) e :: l2) → EAll T G (cs.set i v) (xs.set i u) → WL μ P n ops Q rest ρ w') : WL μ P n ops Q (⟨none, .store t x y, ty, pos, af, none⟩ :: rest) ρ w := by
  have hl := hE.len
  rw [hT, Nat.mul_one] at hl
  refine Y5 hi st hx hy (T.one hv v (List.mem_singleton.2 rfl)) (Nat.ble_eq_true_of_le (by omega : i + 1 ≤ cs.length)) fun w' st' => h w' st' ?_
  have := hE.set hlt hv
  rw [hT, Nat.mul_one] at this
  rw [List.set_eq_take_append_cons_drop, if_pos (by omega)]
  simpa using this
theorem arr_lt {α : Type} {T : Ty α} {cs : List Value} {xs : List α} {N : Nat} {i : Int} (hl : cs.length = N) (hE : EAll T G cs xs) (h : (decide (0 ≤ i) && decide (i < (N : Int))) = true) (hT : T.sz = 1 := by rfl) : i.toNat < xs.length := by
  have h1 := hE.len
  rw [hT, Nat.mul_one, hl] at h1
  rw [Bool.and_eq_true] at h
  have := of_decide_eq_true h.1
  have := of_decide_eq_true h.2
  omega
theorem idx_nat {α : Type} {xs : List α} {i : Int} {x : α} (h : idx xs i = some x) : idx xs ((i.toNat : Nat) : Int) = some x := by
  have := (idx_some h).1
  rw [Int.toNat_of_nonneg this]; exact h
end
end Go.Proofs.YtnglgjgflohkmaaGreat.Sk
