/- The operations over owned memory. No condition. -/
import Derived.Test.YtnglgjgflohkmaaGreatSkData
import Derived.Laws.Entries
import Derived.Laws.Slices
import Derived.Laws.Strings
import Derived.Laws.Small
import Derived.Laws.Build
import Derived.Laws.Shifts
import Derived.Laws.BitsAll
import Derived.Great.BuildSlice
namespace Go.Proofs.YtnglgjgflohkmaaGreat.Sk
open Go
set_option linter.unusedVariables false
set_option linter.unusedSimpArgs false
set_option linter.unusedVariables false

section
variable {μ : Mode} {P : Program} {n : Nat} {Q : Post} {ρ : Env} {w B : World} {G : GH} {M : List Res} {ops : Array Oper} {rest : List Oper} {d : Nat} {ty : TypeId} {pos : String} {af : Array Edge}


theorem WL_move {x : Operand} (hd : Nat.blt d n = true) (h : WL μ P n ops Q rest (upd ρ d (ev ρ x)) w) : WL μ P n ops Q (⟨some d, .move x, ty, pos, af, none⟩ :: rest) ρ w := Jz hd rfl h
theorem WL_assign {x : Operand} (hd : Nat.blt d n = true) (h : WL μ P n ops Q rest (upd ρ d (ev ρ x)) w) : WL μ P n ops Q (⟨some d, .assign x, ty, pos, af, none⟩ :: rest) ρ w := Jz hd rfl h
theorem WL_mv {x : Operand} {v : Value} (hd : Nat.blt d n = true) (hx : ev ρ x = v) (h : WL μ P n ops Q rest (upd ρ d v) w) : WL μ P n ops Q (⟨some d, .move x, ty, pos, af, none⟩ :: rest) ρ w := by subst hx; exact WL_move hd h
theorem WL_as {x : Operand} {v : Value} (hd : Nat.blt d n = true) (hx : ev ρ x = v) (h : WL μ P n ops Q rest (upd ρ d v) w) : WL μ P n ops Q (⟨some d, .assign x, ty, pos, af, none⟩ :: rest) ρ w := by subst hx; exact WL_assign hd h
theorem Y9 {c x y : Operand} {b : Bool} {v : Value} (hd : Nat.blt d n = true) (hc : ev ρ c = .bool b) (hb : b = true) (hx : ev ρ x = v) (h : WL μ P n ops Q rest (upd ρ d v) w) : WL μ P n ops Q (⟨some d, .pick c x y, ty, pos, af, none⟩ :: rest) ρ w :=
  Jz hd (by subst hb hx; simp [execOp, hc, asBool]) h
theorem Jt {c x y : Operand} {b : Bool} {v : Value} (hd : Nat.blt d n = true) (hc : ev ρ c = .bool b) (hb : b = false) (hx : ev ρ y = v) (h : WL μ P n ops Q rest (upd ρ d v) w) : WL μ P n ops Q (⟨some d, .pick c x y, ty, pos, af, none⟩ :: rest) ρ w :=
  Jz hd (by subst hb hx; simp [execOp, hc, asBool]) h
theorem Yc {t : TypeId} {x : Operand} {b : Bool} (hd : Nat.blt d n = true) (hx : ev ρ x = .bool b) (h : WL μ P n ops Q rest (upd ρ d (.bool (!b))) w) :
    WL μ P n ops Q (⟨some d, .unOp .not t x, ty, pos, af, none⟩ :: rest) ρ w := Jz hd (by simp [execOp, hx, Op.unary]) h
theorem Jm {x : Operand} {i : Nat} {vs : Array Value} {v : Value} (hd : Nat.blt d n = true) (hx : ev ρ x = .tuple vs) (hv : vs[i]? = some v) (h : WL μ P n ops Q rest (upd ρ d v) w) :
    WL μ P n ops Q (⟨some d, .extract x i, ty, pos, af, none⟩ :: rest) ρ w := Jz hd (by simp [execOp, hx, Instr.extract, hv]) h
theorem Je {x : Operand} {a : Addr} (hd : Nat.blt d n = true) (hx : ev ρ x = .pointer (some a)) (h : WL μ P n ops Q rest (upd ρ d (.pointer (some a))) w) :
    WL μ P n ops Q (⟨some d, .nilCheck x, ty, pos, af, none⟩ :: rest) ρ w := Jz hd (by simp [execOp, hx]) h
theorem WL_makeFunc {f : Fn} {xs ys : Array Operand} (hd : Nat.blt d n = true) (h : WL μ P n ops Q rest (upd ρ d (.func f (xs.map (ev ρ)) (ys.map (ev ρ)))) w) :
    WL μ P n ops Q (⟨some d, .makeFunc f xs ys, ty, pos, af, none⟩ :: rest) ρ w := Jz hd (by simp [execOp, Instr.makeFunc]) h

theorem Yg {f : Fn} {xs ys : Array Operand} {fs cs : List Value} (hd : Nat.blt d n = true) (hf : xs.toList.map (ev ρ) = fs) (hc : ys.toList.map (ev ρ) = cs) (h : WL μ P n ops Q rest (upd ρ d (.func f fs.toArray cs.toArray)) w) : WL μ P n ops Q (⟨some d, .makeFunc f xs ys, ty, pos, af, none⟩ :: rest) ρ w := by
  subst hf hc
  have e1 : (xs.toList.map (ev ρ)).toArray = xs.map (ev ρ) := by apply Array.ext'; simp
  have e2 : (ys.toList.map (ev ρ)).toArray = ys.map (ev ρ) := by apply Array.ext'; simp
  rw [e1, e2] at h
  exact WL_makeFunc hd h


theorem run_bin {op : BinOp} {t : TypeId} {x y : Operand} {yt : TypeId} {a b v : Value} (hx : ev ρ x = a) (hy : ev ρ y = b) (hg : (eqGuard op t x y a b).run P w = .ok () w) (hb : (binOp op t a b).run P w = .ok v w) :
    (execOp (ev ρ) ⟨some d, .binOp op t x y yt, ty, pos, af, none⟩).run P w = .ok (.value v) w := by
  simp [execOp, hx, hy, hg, hb]
theorem guard_int {op : BinOp} {t : TypeId} {x y : Operand} {k j : IntKind} {a b : Int} : (eqGuard op t x y (.int k a) (.int j b)).run P w = .ok () w := by
  unfold eqGuard; cases op <;> rfl
theorem guard_str {op : BinOp} {t : TypeId} {x y : Operand} {a b : ByteArray} : (eqGuard op t x y (.string a) (.string b)).run P w = .ok () w := by
  unfold eqGuard; cases op <;> rfl
theorem guard_bool {op : BinOp} {t : TypeId} {x y : Operand} {a b : Bool} : (eqGuard op t x y (.bool a) (.bool b)).run P w = .ok () w := by
  unfold eqGuard; cases op <;> rfl
section ints
variable {t yt : TypeId} {x y : Operand} {k : IntKind} {a b : Int}
theorem Yj (hd : Nat.blt d n = true) (hx : ev ρ x = .int k a) (hy : ev ρ y = .int k b) (h : WL μ P n ops Q rest (upd ρ d (.int k (k.wrap (a + b)))) w) : WL μ P n ops Q (⟨some d, .binOp .add t x y yt, ty, pos, af, none⟩ :: rest) ρ w :=
  Jz hd (run_bin hx hy guard_int (by simp [binOp, Op.intArith])) h
theorem Yn (hd : Nat.blt d n = true) (hx : ev ρ x = .int k a) (hy : ev ρ y = .int k b) (h : WL μ P n ops Q rest (upd ρ d (.int k (k.wrap (a - b)))) w) : WL μ P n ops Q (⟨some d, .binOp .sub t x y yt, ty, pos, af, none⟩ :: rest) ρ w :=
  Jz hd (run_bin hx hy guard_int (by simp [binOp, Op.intArith])) h
theorem WL_mul (hd : Nat.blt d n = true) (hx : ev ρ x = .int k a) (hy : ev ρ y = .int k b) (h : WL μ P n ops Q rest (upd ρ d (.int k (k.wrap (a * b)))) w) : WL μ P n ops Q (⟨some d, .binOp .mul t x y yt, ty, pos, af, none⟩ :: rest) ρ w :=
  Jz hd (run_bin hx hy guard_int (by simp [binOp, Op.intArith])) h
theorem WL_rem (hd : Nat.blt d n = true) (hx : ev ρ x = .int k a) (hy : ev ρ y = .int k b) (hb : b ≠ 0) (h : WL μ P n ops Q rest (upd ρ d (.int k (a.tmod b))) w) : WL μ P n ops Q (⟨some d, .binOp .rem t x y yt, ty, pos, af, none⟩ :: rest) ρ w :=
  Jz hd (run_bin hx hy guard_int (by simp [binOp, Op.intDiv, hb])) h
theorem Ji (hd : Nat.blt d n = true) (hx : ev ρ x = .int k a) (hy : ev ρ y = .int k b) (h : WL μ P n ops Q rest (upd ρ d (.bool (decide (a < b)))) w) : WL μ P n ops Q (⟨some d, .binOp .lss t x y yt, ty, pos, af, none⟩ :: rest) ρ w :=
  Jz hd (run_bin hx hy guard_int (by simp [binOp, Op.intCmp])) h
theorem WL_leq (hd : Nat.blt d n = true) (hx : ev ρ x = .int k a) (hy : ev ρ y = .int k b) (h : WL μ P n ops Q rest (upd ρ d (.bool (decide (a ≤ b)))) w) : WL μ P n ops Q (⟨some d, .binOp .leq t x y yt, ty, pos, af, none⟩ :: rest) ρ w :=
  Jz hd (run_bin hx hy guard_int (by simp [binOp, Op.intCmp])) h
theorem Yh (hd : Nat.blt d n = true) (hx : ev ρ x = .int k a) (hy : ev ρ y = .int k b) (h : WL μ P n ops Q rest (upd ρ d (.bool (decide (a > b)))) w) : WL μ P n ops Q (⟨some d, .binOp .gtr t x y yt, ty, pos, af, none⟩ :: rest) ρ w :=
  Jz hd (run_bin hx hy guard_int (by simp [binOp, Op.intCmp])) h
theorem Yk (hd : Nat.blt d n = true) (hx : ev ρ x = .int k a) (hy : ev ρ y = .int k b) (h : WL μ P n ops Q rest (upd ρ d (.bool (decide (a ≥ b)))) w) : WL μ P n ops Q (⟨some d, .binOp .geq t x y yt, ty, pos, af, none⟩ :: rest) ρ w :=
  Jz hd (run_bin hx hy guard_int (by simp [binOp, Op.intCmp])) h
theorem Y3 (hd : Nat.blt d n = true) (hx : ev ρ x = .int k a) (hy : ev ρ y = .int k b) (h : WL μ P n ops Q rest (upd ρ d (.bool (decide (a = b)))) w) : WL μ P n ops Q (⟨some d, .binOp .eql t x y yt, ty, pos, af, none⟩ :: rest) ρ w :=
  Jz hd (run_bin hx hy guard_int (by simp [binOp, Op.intCmp]; rfl)) h
theorem Y1 (hd : Nat.blt d n = true) (hx : ev ρ x = .int k a) (hy : ev ρ y = .int k b) (h : WL μ P n ops Q rest (upd ρ d (.bool (decide (a ≠ b)))) w) : WL μ P n ops Q (⟨some d, .binOp .neq t x y yt, ty, pos, af, none⟩ :: rest) ρ w :=
  Jz hd (run_bin hx hy guard_int (by simp [binOp, Op.intCmp]; rfl)) h
end ints
theorem WL_bits {op : BinOp} {t yt : TypeId} {x y : Operand} {k : IntKind} {a b : Int} (hd : Nat.blt d n = true) (hx : ev ρ x = .int k a) (hy : ev ρ y = .int k b) (hop : op = .and ∨ op = .or ∨ op = .xor ∨ op = .andNot) (h : WL μ P n ops Q rest (upd ρ d (.int k (bits op k a b))) w) :
    WL μ P n ops Q (⟨some d, .binOp op t x y yt, ty, pos, af, none⟩ :: rest) ρ w :=
  Jz hd (run_bin hx hy guard_int (by rcases hop with rfl | rfl | rfl | rfl <;> simp [binOp, intBits_and, intBits_or, intBits_xor, intBits_andNot])) h
/-- A shift by a count; a negative one would panic. -/
def shl (k : IntKind) (a b : Int) : Int := k.wrap (a * 2 ^ (min b.toNat k.bits))
def shr (k : IntKind) (a b : Int) : Int := a.fdiv (2 ^ (min b.toNat k.bits))
theorem WL_shl {t yt : TypeId} {x y : Operand} {k j : IntKind} {a b : Int} (hd : Nat.blt d n = true) (hx : ev ρ x = .int k a) (hy : ev ρ y = .int j b) (hb : 0 ≤ b) (h : WL μ P n ops Q rest (upd ρ d (.int k (shl k a b))) w) :
    WL μ P n ops Q (⟨some d, .binOp .shl t x y yt, ty, pos, af, none⟩ :: rest) ρ w :=
  Jz hd (run_bin hx hy guard_int (by simp [binOp, Op.shift, shl, Int.not_lt.2 hb])) h
theorem WL_shr {t yt : TypeId} {x y : Operand} {k j : IntKind} {a b : Int} (hd : Nat.blt d n = true) (hx : ev ρ x = .int k a) (hy : ev ρ y = .int j b) (hb : 0 ≤ b) (h : WL μ P n ops Q rest (upd ρ d (.int k (shr k a b))) w) :
    WL μ P n ops Q (⟨some d, .binOp .shr t x y yt, ty, pos, af, none⟩ :: rest) ρ w :=
  Jz hd (run_bin hx hy guard_int (by simp [binOp, Op.shift, shr, Int.not_lt.2 hb])) h
def seq (a b : ByteArray) : Bool := a.toList == b.toList
theorem WL_seql {t yt : TypeId} {x y : Operand} {a b : ByteArray} (hd : Nat.blt d n = true) (hx : ev ρ x = .string a) (hy : ev ρ y = .string b) (h : WL μ P n ops Q rest (upd ρ d (.bool (seq a b))) w) :
    WL μ P n ops Q (⟨some d, .binOp .eql t x y yt, ty, pos, af, none⟩ :: rest) ρ w := Jz hd (run_bin hx hy guard_str rfl) h
theorem WL_sneq {t yt : TypeId} {x y : Operand} {a b : ByteArray} (hd : Nat.blt d n = true) (hx : ev ρ x = .string a) (hy : ev ρ y = .string b) (h : WL μ P n ops Q rest (upd ρ d (.bool (!(seq a b)))) w) :
    WL μ P n ops Q (⟨some d, .binOp .neq t x y yt, ty, pos, af, none⟩ :: rest) ρ w := Jz hd (run_bin hx hy guard_str rfl) h
theorem WL_bneq {t yt : TypeId} {x y : Operand} {a b : Bool} (ht : P.underlying t = some .bool) (hd : Nat.blt d n = true) (hx : ev ρ x = .bool a) (hy : ev ρ y = .bool b) (h : WL μ P n ops Q rest (upd ρ d (.bool (!(a == b)))) w) :
    WL μ P n ops Q (⟨some d, .binOp .neq t x y yt, ty, pos, af, none⟩ :: rest) ρ w := Jz hd (run_bin hx hy guard_bool (run_neq_bool w t a b ht)) h
theorem WL_conv {s t : TypeId} {x : Operand} {k j : IntKind} {a : Int} (hs : (P.underlying s).isSome = true) (ht : P.underlying t = some (.int k)) (hd : Nat.blt d n = true) (hx : ev ρ x = .int j a) (h : WL μ P n ops Q rest (upd ρ d (.int k (k.wrap a))) w) :
    WL μ P n ops Q (⟨some d, .convert s t x, ty, pos, af, none⟩ :: rest) ρ w := by
  obtain ⟨ds, hs'⟩ := Option.isSome_iff_exists.1 hs
  exact Jz hd (by simp [execOp, hx, convert, run_underlying hs', run_underlying ht, Conv.intToInt]) h
theorem WL_len {t : TypeId} {e : TypeId} {x : Operand} {a : Option Addr} {m c : Nat} {ats : Array TypeId} (ht : P.underlying t = some (.slice e)) (hd : Nat.blt d n = true) (hx : ev ρ x = .slice a m c) (h : WL μ P n ops Q rest (upd ρ d (.int .i64 (m : Int))) w) :
    WL μ P n ops Q (⟨some d, .call { callee := .builtin .len, args := #[x], argTypes := #[t] }, ty, pos, af, none⟩ :: rest) ρ w :=
  Jz hd (by simp [execOp, resolve, invoke, builtin, hx, Builtin.len_, run_underlying ht, goInt]) h
theorem WL_lenS {t : TypeId} {x : Operand} {s : ByteArray} (ht : P.underlying t = some .string) (hd : Nat.blt d n = true) (hx : ev ρ x = .string s) (h : WL μ P n ops Q rest (upd ρ d (.int .i64 (s.size : Int))) w) :
    WL μ P n ops Q (⟨some d, .call { callee := .builtin .len, args := #[x], argTypes := #[t] }, ty, pos, af, none⟩ :: rest) ρ w :=
  Jz hd (by simp [execOp, resolve, invoke, builtin, hx, run_len_string (P := P) w t ty s ht, goInt]) h
theorem WL_min {t u : TypeId} {x y : Operand} {k j : IntKind} {a b : Int} (hd : Nat.blt d n = true) (hx : ev ρ x = .int k a) (hy : ev ρ y = .int j b) (h : WL μ P n ops Q rest (upd ρ d (.int k (if b < a then b else a))) w) :
    WL μ P n ops Q (⟨some d, .call { callee := .builtin .min, args := #[x, y], argTypes := #[t, u] }, ty, pos, af, none⟩ :: rest) ρ w :=
  Jz hd (by simp only [execOp, resolve, invoke, builtin, List.map_toArray, List.map_cons, List.map_nil, Sem.run_bind, Sem.run_pure, Result.andThen_ok, hx, hy, run_min_int2]) h
theorem Y0 {t : TypeId} {parts : Array (Nat × Operand)} {cells : Array Value} (hd : Nat.blt d n = true) (hb : P.built t (parts.map fun (i, x) => (i, ev ρ x)).toList = some cells) (h : WL μ P n ops Q rest (upd ρ d (.agg cells)) w) :
    WL μ P n ops Q (⟨some d, .build t parts, ty, pos, af, none⟩ :: rest) ρ w :=
  Jz hd (by simp only [execOp, Sem.run_bind, run_build w t _ _ hb, Result.andThen_ok, Sem.run_pure]) h
/-- A byte of a string. -/
def bt (s : ByteArray) (i : Int) : Option Int := if 0 ≤ i then (s[i.toNat]?).map (fun b => (b.toNat : Int)) else none
theorem WL_indexS {t : TypeId} {x y : Operand} {s : ByteArray} {k : IntKind} {i b : Int} (ht : P.underlying t = some .string) (hd : Nat.blt d n = true) (hx : ev ρ x = .string s) (hy : ev ρ y = .int k i) (hb : bt s i = some b) (h : WL μ P n ops Q rest (upd ρ d (.int .u8 b)) w) :
    WL μ P n ops Q (⟨some d, .index t x y, ty, pos, af, none⟩ :: rest) ρ w := by
  refine Jz hd ?_ h
  unfold bt at hb
  split at hb
  · rename_i h0
    obtain ⟨c, hc, rfl⟩ := Option.map_eq_some_iff.1 hb
    simp [execOp, hx, hy, Instr.index, asIntOf, run_underlying ht, h0, hc]
  · cases hb
/-- An element of an array's value. -/
theorem WL_indexA {t e : TypeId} {m : Nat} {x y : Operand} {cs : Array Value} {k : IntKind} {i : Int} {v z : Value} {by' : Nat} (ht : P.underlying t = some (.array m e)) (hi : TI P e false 1 by' z) (hd : Nat.blt d n = true) (hx : ev ρ x = .agg cs) (hy : ev ρ y = .int k i) (hm : cs.size = m)
    (hv : idx cs.toList i = some v) (h : WL μ P n ops Q rest (upd ρ d v) w) :
    WL μ P n ops Q (⟨some d, .index t x y, ty, pos, af, none⟩ :: rest) ρ w := by
  refine Jz hd ?_ h
  obtain ⟨h0, h1, h2⟩ := idx_some hv
  obtain ⟨dd, hu, hagg⟩ := hi.und
  obtain ⟨q, hinfo, hsz, _, _⟩ := hi.info
  have ha : (isAgg e).run P w = .ok false w := by
    unfold isAgg
    rw [Sem.run_bind, run_underlying hu w, ← hagg]
    cases dd <;> rfl
  have h1' : i < (m : Int) := by rw [← hm]; simpa using h1
  have h2' : cs[i.toNat]? = some v := by simpa using h2
  simp [execOp, hx, hy, Instr.index, asIntOf, run_underlying ht, h0, h1', part, ha, sizeOf, typeInfo, hinfo, hsz, h2']
end
end Go.Proofs.YtnglgjgflohkmaaGreat.Sk
