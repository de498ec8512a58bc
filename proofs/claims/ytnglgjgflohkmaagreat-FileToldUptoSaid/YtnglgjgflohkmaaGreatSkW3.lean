/- Walks, printed by gen.py. No condition. -/
import Derived.Test.YtnglgjgflohkmaaGreatSkTy
namespace Go.Proofs.YtnglgjgflohkmaaGreat.Sk
open Go Go.Proofs.Tryz
set_option linter.unusedVariables false
set_option linter.unusedSimpArgs false
variable {B w : World} {G : GH}
set_option linter.unusedVariables false
set_option maxHeartbeats 4000000
set_option maxRecDepth 100000
def sheerlegref15_Few.f (a0 : XData) : Option (Bool) :=
 (bif decide ((a0.Words.length : Int) ≤ 100) then some (decide ((a0.Relocs.length : Int) ≤ 100)) else some false).bind fun t0 => some t0
def sheerlegref15_Few.K (r : Bool) (G19 : GH) (v : Value) (N : List Res) : Prop := v = tup [(.bool r)] ∧ N = []
theorem sheerlegref15_Few.ok {ca0 : List Value} {a0 : XData} (st : St B w G []) (ha0 : TData.rep G ca0 a0) {r : Bool} (hr : sheerlegref15_Few.f a0 = some r) :
 Calls Tryz.prog 56 ([(.agg ca0.toArray)] : List Value).toArray w (Ret B G (sheerlegref15_Few.K r)) := by
 obtain ⟨sa0_1, sa0_2, rfl, ha0_0, ha0_1, ha0_2⟩ := ha0
 refine Jc [.tmp 2] func56 rfl ntmps56 rfl rfl ?_
 refine J2 (J1 ?_)
 refine Ju (cs := [(vi a0.Kind), sa0_1, sa0_2]) st rfl rfl rfl ?_
 intro b0 w0 h0
 refine Jsv (.bool false) rfl rfl ?_
 refine J0 (J2 (J1 ?_))
 refine Jfa 1 1 underlying49 rfl ti47 rfl rfl rfl rfl ?_
 refine Jlb [] sa0_1 ti47 h0 rfl rfl rfl ?_
 refine Jd (T := (tInt .i64)) underlying47 ha0_1 rfl rfl ?_
 refine WL_leq rfl rfl rfl ?_
 refine Jmv (.bool (decide ((a0.Words.length : Int) ≤ 100))) rfl rfl ?_
 obtain ⟨t0, hr, o0⟩ := J6 hr
 refine Jw 5 (fun ρ w => ∃ (σ0 : Env) (G0 : GH), ρ = En σ0 [(2, (.bool false)), (12, (.bool t0))] ∧ Ext G G0 ∧ St B w G0 []) ?_ ?_
 ·rcases Y8 (decide ((a0.Words.length : Int) ≤ 100)) with hb_ | hb_
  ·have h1 : (decide ((a0.Words.length : Int) ≤ 100)) = true := hb_
   replace hr := Jx hr h1
   refine Ja rfl rfl rfl rfl h1 ?_
   refine Jfa 2 2 underlying49 rfl ti42 rfl rfl rfl rfl ?_
   refine Ja rfl rfl rfl rfl h1 ?_
   refine Jlb [] sa0_2 ti42 h0 rfl rfl rfl ?_
   refine Ja rfl rfl rfl rfl h1 ?_
   refine Jd (T := TReloc) underlying42 ha0_2 rfl rfl ?_
   refine Ja rfl rfl rfl rfl h1 ?_
   refine WL_leq rfl rfl rfl ?_
   refine Y9 (v := (.bool (decide ((a0.Relocs.length : Int) ≤ 100)))) rfl rfl h1 rfl ?_
   refine J0 ?_
   have h2 := St.takeN 0 h0
   obtain rfl := Option.some.inj hr
   exact ⟨_, _, (J3 ⟨rfl, rfl, trivial⟩), (Ext.refl _), h2⟩
  have h3 : (decide ((a0.Words.length : Int) ≤ 100)) = false := hb_
  replace hr := Jf hr h3
  refine Jv rfl rfl rfl rfl h3 ?_
  refine Jv rfl rfl rfl rfl h3 ?_
  refine Jv rfl rfl rfl rfl h3 ?_
  refine Jv rfl rfl rfl rfl h3 ?_
  refine Jt (v := (.bool false)) rfl rfl h3 rfl ?_
  refine J0 ?_
  have h4 := St.takeN 0 h0
  obtain rfl := Option.some.inj hr
  exact ⟨_, _, (J3 ⟨rfl, rfl, trivial⟩), (Ext.refl _), h4⟩
 rintro _ _ ⟨σ0, G0, rfl, e0, h5⟩
 replace hr := o0
 refine Jsv (.bool t0) rfl rfl ?_
 refine J0 (Jg ?_)
 obtain rfl := Option.some.inj hr
 exact ⟨[(.bool t0)], ⟨rfl, trivial⟩, _, _, _, rfl, e0, h5, ⟨rfl, rfl⟩⟩
def object_Items.f (a0 : XObject) : Option (Int) :=
 some (IntKind.wrap .i64 ((a0.Funcs.length : Int) + (a0.Datas.length : Int)))
def object_Items.K (r : Int) (G6 : GH) (v : Value) (N : List Res) : Prop := v = tup [(vi r)] ∧ N = [] ∧ InK .i64 r
theorem object_Items.ok {ca0 : List Value} {a0 : XObject} (st : St B w G []) (ha0 : TObject.rep G ca0 a0) {r : Int} (hr : object_Items.f a0 = some r) :
 Calls Tryz.prog 86 ([(.agg ca0.toArray)] : List Value).toArray w (Ret B G (object_Items.K r)) := by
 obtain ⟨sa0_0, sa0_1, sa0_2, rfl, ha0_0, ha0_1, ha0_2⟩ := ha0
 refine Jc [.tmp 2] func86 rfl ntmps86 rfl rfl ?_
 refine J2 (J1 ?_)
 refine Ju (cs := [sa0_0, sa0_1, sa0_2]) st rfl rfl rfl ?_
 intro b0 w0 h0
 refine Jsv (vi 0) rfl rfl ?_
 refine J0 (J2 (J1 ?_))
 refine Jfa 1 1 underlying61 rfl ti58 rfl rfl rfl rfl ?_
 refine Jlb [] sa0_1 ti58 h0 rfl rfl rfl ?_
 refine Jd (T := TFunc) underlying58 ha0_1 rfl rfl ?_
 refine Jfa 2 2 underlying61 rfl ti59 rfl rfl rfl rfl ?_
 refine Jlb [] sa0_2 ti59 h0 rfl rfl rfl ?_
 refine Jd (T := TData) underlying59 ha0_2 rfl rfl ?_
 refine Yj rfl rfl rfl ?_
 refine Jsv (vi (IntKind.wrap .i64 ((a0.Funcs.length : Int) + (a0.Datas.length : Int)))) rfl rfl ?_
 refine J0 (Jg ?_)
 have h1 := St.takeN 0 h0
 obtain rfl := Option.some.inj hr
 exact ⟨[(vi (IntKind.wrap .i64 ((a0.Funcs.length : Int) + (a0.Datas.length : Int))))], ⟨rfl, trivial⟩, _, _, _, rfl, (Ext.refl _), h1, ⟨rfl, rfl, (inK_wrap _ _)⟩⟩
def op_Ends.f (a0 : Int) : Option (Bool) :=
 (bif decide (a0 = 11) then none else some ()).bind fun t0 => (bif decide (a0 = 22) then none else some ()).bind fun t1 => some (decide (a0 = 24))
def op_Ends.K (r : Bool) (G20 : GH) (v : Value) (N : List Res) : Prop := v = tup [(.bool r)] ∧ N = []
theorem op_Ends.ok {a0 : Int} (st : St B w G []) (ha0 : InK .i64 a0) {r : Bool} (hr : op_Ends.f a0 = some r) :
 Calls Tryz.prog 273 ([(vi a0)] : List Value).toArray w (Ret B G (op_Ends.K r)) := by
 refine Jc [.tmp 2] func273 rfl ntmps273 rfl rfl ?_
 refine J2 (J1 ?_)
 refine Jsv (.bool false) rfl rfl ?_
 refine J0 (J2 (J1 ?_))
 refine Jmv (vi a0) rfl rfl ?_
 refine Y3 rfl rfl rfl ?_
 refine Jmv (.bool (decide (a0 = 11))) rfl rfl ?_
 obtain ⟨t0, hr, o0⟩ := J6 hr
 refine Jw 3 (fun ρ w => ∃ (σ0 : Env) (G0 : GH), ρ = En σ0 [(0, (vi a0)), (2, (.bool false)), (8, (.bool (decide (a0 = 22))))] ∧ Ext G G0 ∧ St B w G0 []) ?_ ?_
 ·rcases Y8 (decide (a0 = 11)) with hb_ | hb_
  ·exact Jk hr hb_
  have h0 : (decide (a0 = 11)) = false := hb_
  replace hr := Jf hr h0
  refine Ja rfl rfl rfl rfl h0 ?_
  refine Jmv (vi a0) rfl rfl ?_
  refine Ja rfl rfl rfl rfl h0 ?_
  refine Y3 rfl rfl rfl ?_
  refine Jt (v := (.bool (decide (a0 = 22)))) rfl rfl h0 rfl ?_
  refine J0 ?_
  obtain rfl := Option.some.inj hr
  exact ⟨_, _, (J3 ⟨rfl, rfl, rfl, trivial⟩), (Ext.refl _), st⟩
 rintro _ _ ⟨σ0, G0, rfl, e0, h1⟩
 replace hr := o0
 refine Jmv (.bool (decide (a0 = 22))) rfl rfl ?_
 obtain ⟨t1, hr, o1⟩ := J6 hr
 refine Jw 3 (fun ρ w => ∃ (σ1 : Env) (G1 : GH), ρ = En σ1 [(2, (.bool false)), (12, (.bool (decide (a0 = 24))))] ∧ Ext G0 G1 ∧ St B w G1 []) ?_ ?_
 ·rcases Y8 (decide (a0 = 22)) with hb_ | hb_
  ·exact Jk hr hb_
  have h2 : (decide (a0 = 22)) = false := hb_
  replace hr := Jf hr h2
  refine Ja rfl rfl rfl rfl h2 ?_
  refine Jmv (vi a0) rfl rfl ?_
  refine Ja rfl rfl rfl rfl h2 ?_
  refine Y3 rfl rfl rfl ?_
  refine Jt (v := (.bool (decide (a0 = 24)))) rfl rfl h2 rfl ?_
  refine J0 ?_
  obtain rfl := Option.some.inj hr
  exact ⟨_, _, (J3 ⟨rfl, rfl, trivial⟩), (Ext.refl _), h1⟩
 rintro _ _ ⟨σ1, G1, rfl, e1, h3⟩
 replace hr := o1
 refine Jsv (.bool (decide (a0 = 24))) rfl rfl ?_
 refine J0 (Jg ?_)
 obtain rfl := Option.some.inj hr
 exact ⟨[(.bool (decide (a0 = 24)))], ⟨rfl, trivial⟩, _, _, _, rfl, (e0.trans e1), h3, ⟨rfl, rfl⟩⟩
def fun_rising.l0 (a1 : (List Int)) (a0 : Int) (s0 : (Int × Nat)) : Option (Step (Int × Nat) Unit) :=
 bif decide (((s0.2 : Nat) : Int) < (a1.length : Int)) then (idx a1 ((s0.2 : Nat) : Int)).bind fun x0 => (bif decide (x0 ≤ s0.1) then none else some ()).bind fun t0 => bif decide (x0 ≥ a0) then none else some (.next (x0, s0.2 + 1)) else some (.done ())
def fun_rising.f (a0 : Int) (a1 : (List Int)) : Option (Unit) :=
 (loop (fun_rising.l0 a1 a0) ((-1), 0)).bind fun t1 => some ()
def fun_rising.K (r : Unit) (G0 : GH) (v : Value) (N : List Res) : Prop := v = tup [(.bool true)] ∧ N = []
theorem fun_rising.ok {a0 : Int} {va1 : Value} {a1 : (List Int)} (st : St B w G []) (ha0 : InK .i64 a0) (ha1 : SRep 3 (tInt .i64) G va1 a1) {r : Unit} (hr : fun_rising.f a0 a1 = some r) :
 Calls Tryz.prog 246 ([(vi a0), va1] : List Value).toArray w (Ret B G (fun_rising.K r)) := by
 refine Jc [.tmp 4] func246 rfl ntmps246 rfl rfl ?_
 refine J2 (J1 ?_)
 refine Jsv (.bool false) rfl rfl ?_
 refine J0 (J2 (J1 ?_))
 refine Jsv (vi (-1)) rfl rfl ?_
 refine J0 (J2 (J2 (J1 ?_)))
 refine Jmv va1 rfl rfl ?_
 refine Jd (T := (tInt .i64)) underlying39 ha1 rfl rfl ?_
 refine Jmv (vi 0) rfl rfl ?_
 refine J0 (Jb ?_)
 obtain ⟨t1, h0, hr⟩ := J6 hr
 refine Js 0 h0 (fun s0 ρ w => ∃ (σ0 : Env) (G1 : GH), ρ = En σ0 [(0, (vi a0)), (5, (vi s0.1)), (8, va1), (9, (vi (a1.length : Int))), (10, (vi ((s0.2 : Nat) : Int)))] ∧ Ext G G1 ∧ St B w G1 [] ∧ InK .i64 s0.1 ∧ InK .i64 ((s0.2 : Nat) : Int)) (fun t2 ρ w => ∃ (σ1 : Env) (G2 : GH), ρ = En σ1 [] ∧ Ext G G2 ∧ St B w G2 []) ⟨_, _, (J3 ⟨rfl, rfl, rfl, rfl, rfl, trivial⟩), (Ext.refl _), st, (by rfl), (by rfl)⟩ ?_ ?_
 ·rintro s0 x1 _ _ hr ⟨σ0, G1, rfl, e0, h1, f0, f1⟩
  refine J2 (J1 ?_)
  refine Ji rfl rfl rfl ?_
  refine J0 (J2 ?_)
  refine J7 rfl (fun h2 => ?_) (fun h2 => ?_)
  ·replace hr := Jx hr h2
   refine J9 (J2 (Jb (J2 (J1 ?_))))
   obtain ⟨x0, h3, hr⟩ := J6 hr
   refine Jh (T := (tInt .i64)) underlying39 ti3 h1 (SRep.mono e0.ro ha1) rfl rfl rfl h3 ?_
   intro b0 o0 c0 l3 f2
   obtain ⟨rfl, f3⟩ := f2
   refine Y4 (v := (vi x0)) ti3 rfl rfl (LiesG.lies l3 h1) rfl ?_
   refine Jsv (vi x0) rfl rfl ?_
   refine J0 (J2 (J2 (J1 ?_)))
   refine Jmv (vi x0) rfl rfl ?_
   refine Jmv (vi s0.1) rfl rfl ?_
   refine WL_leq rfl rfl rfl ?_
   refine Jmv (.bool (decide (x0 ≤ s0.1))) rfl rfl ?_
   obtain ⟨t0, hr, o1⟩ := J6 hr
   refine Jw 4 (fun ρ w => ∃ (σ2 : Env) (G3 : GH), ρ = En σ2 [(0, (vi a0)), (5, (vi s0.1)), (7, (vi x0)), (8, va1), (9, (vi (a1.length : Int))), (10, (vi ((s0.2 : Nat) : Int))), (21, (.bool (decide (x0 ≥ a0))))] ∧ Ext G1 G3 ∧ St B w G3 []) ?_ ?_
   ·rcases Y8 (decide (x0 ≤ s0.1)) with hb_ | hb_
    ·exact Jk hr hb_
    have h4 : (decide (x0 ≤ s0.1)) = false := hb_
    replace hr := Jf hr h4
    refine Ja rfl rfl rfl rfl h4 ?_
    refine Jmv (vi x0) rfl rfl ?_
    refine Ja rfl rfl rfl rfl h4 ?_
    refine Jmv (vi a0) rfl rfl ?_
    refine Ja rfl rfl rfl rfl h4 ?_
    refine Yk rfl rfl rfl ?_
    refine Jt (v := (.bool (decide (x0 ≥ a0)))) rfl rfl h4 rfl ?_
    refine J0 ?_
    obtain rfl := Option.some.inj hr
    exact ⟨_, _, (J3 ⟨rfl, rfl, rfl, rfl, rfl, rfl, rfl, trivial⟩), (Ext.refl _), h1⟩
   rintro _ _ ⟨σ2, G3, rfl, e1, h5⟩
   replace hr := o1
   refine J0 ?_
   refine J7 rfl (fun h6 => ?_) (fun h6 => ?_)
   ·exact Jk hr h6
   replace hr := Jf hr h6
   refine J9 (J1 ?_)
   refine Jmv (vi x0) rfl rfl ?_
   refine Jsv (vi x0) rfl rfl ?_
   refine J0 (J1 ?_)
   refine Y2 rfl rfl rfl (of_decide_eq_true h2) (inK_len (SRep.le ha1)) ?_
   refine Jmv (vi ((s0.2 + 1 : Nat) : Int)) rfl rfl ?_
   refine J0 ?_
   exact ⟨_, (Option.some.inj hr).symm, _, _, (J3 ⟨rfl, rfl, rfl, rfl, rfl, trivial⟩), (e0.trans e1), h5, f3, (inK_inc (of_decide_eq_true h2) (inK_len (SRep.le ha1)))⟩
  replace hr := Jf hr h2
  refine Jr ?_
  exact ⟨_, (Option.some.inj hr).symm, rfl, _, _, rfl, e0, h1⟩
 rintro _ _ ⟨σ1, G2, rfl, e2, h7⟩
 refine J2 (J1 ?_)
 refine Jsv (.bool true) rfl rfl ?_
 refine J0 (Jg ?_)
 obtain rfl := Option.some.inj hr
 exact ⟨[(.bool true)], ⟨rfl, trivial⟩, _, _, _, rfl, e2, h7, ⟨rfl, rfl⟩⟩
def slices_Index_rune_rune.l0 (a0 : (List Int)) (a1 : Int) (s0 : Nat) : Option (Step Nat (Unit ⊕ Int)) :=
 bif decide (((s0 : Nat) : Int) < (a0.length : Int)) then (idx a0 ((s0 : Nat) : Int)).bind fun x0 => bif decide (a1 = x0) then some (.done (.inr ((s0 : Nat) : Int))) else some (.next (s0 + 1)) else some (.done (.inl ()))
def slices_Index_rune_rune.f (a0 : (List Int)) (a1 : Int) : Option (Int) :=
 (loop (slices_Index_rune_rune.l0 a0 a1) 0).bind fun t0 => cont t0 fun t1 => some (-1)
def slices_Index_rune_rune.K (r : Int) (G79 : GH) (v : Value) (N : List Res) : Prop := v = tup [(vi r)] ∧ N = [] ∧ InK .i64 r
theorem slices_Index_rune_rune.ok {va0 : Value} {a0 : (List Int)} {a1 : Int} (st : St B w G []) (ha0 : SRep 21 (tInt .i32) G va0 a0) (ha1 : InK .i32 a1) {r : Int} (hr : slices_Index_rune_rune.f a0 a1 = some r) :
 Calls Tryz.prog 272 ([va0, (.int .i32 a1)] : List Value).toArray w (Ret B G (slices_Index_rune_rune.K r)) := by
 refine Jc [.tmp 4] func272 rfl ntmps272 rfl rfl ?_
 refine J2 (J1 ?_)
 refine Jsv (vi 0) rfl rfl ?_
 refine J0 (J2 (J2 (J1 ?_)))
 refine Jmv va0 rfl rfl ?_
 refine Jd (T := (tInt .i32)) underlying289 ha0 rfl rfl ?_
 refine Jmv (vi 0) rfl rfl ?_
 refine J0 (Jb ?_)
 obtain ⟨t0, h0, hr⟩ := J6 hr
 refine W_loopS (a0 := r) 0 h0 (fun s0 ρ w => ∃ (σ0 : Env) (G0 : GH), ρ = En σ0 [(0, va0), (1, (.int .i32 a1)), (7, (vi (a0.length : Int))), (8, (vi ((s0 : Nat) : Int)))] ∧ Ext G G0 ∧ St B w G0 [] ∧ InK .i64 ((s0 : Nat) : Int)) (fun t1 ρ w => ∃ (σ1 : Env) (G1 : GH), ρ = En σ1 [] ∧ Ext G G1 ∧ St B w G1 []) ⟨_, _, (J3 ⟨rfl, rfl, rfl, rfl, trivial⟩), (Ext.refl _), st, (by rfl)⟩ ?_ ?_ ?_
 ·rintro s0 x1 _ _ hr ⟨σ0, G0, rfl, e0, h1, f0⟩
  refine J2 (J1 ?_)
  refine Ji rfl rfl rfl ?_
  refine J0 (J2 ?_)
  refine J7 rfl (fun h2 => ?_) (fun h2 => ?_)
  ·replace hr := Jx hr h2
   refine J9 (J2 (Jb (J2 (J1 ?_))))
   refine Jmv (vi ((s0 : Nat) : Int)) rfl rfl ?_
   refine Jsv (vi ((s0 : Nat) : Int)) rfl rfl ?_
   refine J0 (J2 (J1 ?_))
   refine Jmv (.int .i32 a1) rfl rfl ?_
   refine Jmv va0 rfl rfl ?_
   refine Jmv (vi ((s0 : Nat) : Int)) rfl rfl ?_
   obtain ⟨x0, h3, hr⟩ := J6 hr
   refine Jh (T := (tInt .i32)) underlying289 ti21 h1 (SRep.mono e0.ro ha0) rfl rfl rfl h3 ?_
   intro b0 o0 c0 l3 f1
   obtain ⟨rfl, f2⟩ := f1
   refine Y4 (v := (.int .i32 x0)) ti21 rfl rfl (LiesG.lies l3 h1) rfl ?_
   refine Y3 rfl rfl rfl ?_
   refine J0 ?_
   refine J7 rfl (fun h4 => ?_) (fun h4 => ?_)
   ·replace hr := Jx hr h4
    refine J2 (J1 ?_)
    refine Jmv (vi ((s0 : Nat) : Int)) rfl rfl ?_
    refine Jsv (vi ((s0 : Nat) : Int)) rfl rfl ?_
    refine J0 (Jg ?_)
    refine ⟨_, (Option.some.inj hr).symm, fun h5 => ?_⟩
    replace hr := congrArg some h5
    obtain rfl := Option.some.inj hr
    exact ⟨[(vi ((s0 : Nat) : Int))], ⟨rfl, trivial⟩, _, _, _, rfl, e0, h1, ⟨rfl, rfl, f0⟩⟩
   replace hr := Jf hr h4
   refine J9 (J1 ?_)
   refine Y2 rfl rfl rfl (of_decide_eq_true h2) (inK_len (SRep.le ha0)) ?_
   refine Jmv (vi ((s0 + 1 : Nat) : Int)) rfl rfl ?_
   refine J0 ?_
   exact ⟨_, (Option.some.inj hr).symm, _, _, (J3 ⟨rfl, rfl, rfl, rfl, trivial⟩), e0, h1, (inK_inc (of_decide_eq_true h2) (inK_len (SRep.le ha0)))⟩
  replace hr := Jf hr h2
  refine Jr ?_
  exact ⟨_, (Option.some.inj hr).symm, rfl, _, _, rfl, e0, h1⟩
 ·rintro t1 _ _ rfl ⟨σ1, G1, rfl, e1, h6⟩
  replace hr := cont_inl hr
  refine J2 (J1 ?_)
  refine Jsv (vi (-1)) rfl rfl ?_
  refine J0 (Jg ?_)
  obtain rfl := Option.some.inj hr
  exact ⟨[(vi (-1))], ⟨rfl, trivial⟩, _, _, _, rfl, e1, h6, ⟨rfl, rfl, (by rfl)⟩⟩
 rintro a rfl; exact Option.some.inj hr
def verify_checker_fine.f (a0_ : Xverify_checker) (a1 : Int) : Option (Unit) :=
 some ()
def verify_checker_fine.K (ba0 : Nat) (a0_ : Xverify_checker) (r : Unit) (G2 : GH) (v : Value) (N : List Res) : Prop := ∃ (v6 : Value) (v8 : Value) (v10 : Value) (v12 : Value), v = tup [(vi 0)] ∧ N = [.blk ba0 [(vi a0_.f.Class), v6, (vi a0_.f.Pad), (.bool a0_.f.Nosplit), (vi a0_.f.From), (vi a0_.f.To), v8, v10, v12, (vi a0_.x.Op), (vi a0_.x.A), (vi a0_.x.B), (vi a0_.x.C), (vi a0_.x.N), (.string a0_.sym.Name), (.bool a0_.sym.Local), (vi a0_.sym.Sort_), (vi a0_.sym.Kind), (vi a0_.sym.Def), (vi a0_.class_)] 269] ∧ SRep 3 (tInt .i64) G2 v6 a0_.f.Kinds ∧ SRep 157 TLine G2 v8 a0_.f.Lines ∧ SRep 54 TInstr G2 v10 a0_.f.Code ∧ SRep 133 TReloc G2 v12 a0_.f.Relocs
theorem verify_checker_fine.ok {ba0 : Nat} {ca0_ : List Value} {a0_ : Xverify_checker} {a1 : Int} (st : St B w G [.blk ba0 ca0_ 269]) (ha0_ : Tverify_checker.rep G ca0_ a0_) (ha1 : InK .i64 a1) {r : Unit} (hr : verify_checker_fine.f a0_ a1 = some r) :
 Calls Tryz.prog 271 ([(pt ba0 0), (vi a1)] : List Value).toArray w (Ret B G (verify_checker_fine.K ba0 a0_ r)) := by
 obtain ⟨sa0__1, sa0__6, sa0__7, sa0__8, rfl, ha0__0, ha0__1, ha0__2, ha0__4, ha0__5, ha0__6, ha0__7, ha0__8, ha0__9, ha0__10, ha0__11, ha0__12, ha0__13, ha0__14, ha0__16, ha0__17, ha0__18, ha0__19⟩ := ha0_
 refine Jc [.tmp 4] func271 rfl ntmps271 rfl rfl ?_
 refine J2 (J1 ?_)
 refine Jsv (vi 0) rfl rfl ?_
 refine J0 (J2 (J1 ?_))
 refine Jsv (vi 0) rfl rfl ?_
 refine J0 (Jg ?_)
 obtain rfl := Option.some.inj hr
 exact ⟨[(vi 0)], ⟨rfl, trivial⟩, _, _, _, rfl, (Ext.refl _), st, ⟨sa0__1, sa0__6, sa0__7, sa0__8, rfl, rfl, ha0__1, ha0__6, ha0__7, ha0__8⟩⟩
def digraph_Reach.l0 (a1 : (List Int)) (s0 : Unit) : Option (Step Unit Unit) :=
 bif decide (0 < (a1.length : Int)) then none else some (.done ())
def digraph_Reach.l1 (s1 : Unit) : Option (Step Unit Unit) :=
 some (.done ())
def digraph_Reach.f (a0 : (List (List Int))) (a1 : (List Int)) : Option ((List Bool)) :=
 bif (decide (0 ≤ (a0.length : Int)) && decide ((1 : Int) * (a0.length : Int) ≤ SB)) then (loop (digraph_Reach.l0 a1) ()).bind fun t0 => (loop (digraph_Reach.l1) ()).bind fun t1 => some (List.replicate (Int.toNat ((a0.length : Int))) false) else none
def digraph_Reach.K (r : (List Bool)) (G65 : GH) (v : Value) (N : List Res) : Prop := ∃ (v69 : Value) (c70 : List Value), v = tup [v69] ∧ N = [.row v69 4 1 r.length c70] ∧ EAll tBool G65 c70 r ∧ r.length ≤ SB
theorem digraph_Reach.ok {va0 : Value} {a0 : (List (List Int))} {va1 : Value} {a1 : (List Int)} (st : St B w G []) (ha0 : SRep 39 (tSlice 3 (tInt .i64)) G va0 a0) (ha1 : SRep 3 (tInt .i64) G va1 a1) {r : (List Bool)} (hr : digraph_Reach.f a0 a1 = some r) :
 Calls Tryz.prog 253 ([va0, va1] : List Value).toArray w (Ret B G (digraph_Reach.K r)) := by
 refine calls_WM [.tmp 4] func253 rfl ntmps253 rfl rfl ?_
 refine J2 (J1 ?_)
 refine Jsv (.slice none 0 0) rfl rfl ?_
 refine J0 (J2 (J1 ?_))
 refine Jmv va0 rfl rfl ?_
 refine Jd (T := (tSlice 3 (tInt .i64))) underlying274 ha0 rfl rfl ?_
 obtain ⟨h0, hr⟩ := Ya hr
 refine WL_make (z0 := .bool false) underlying259 ti4 st rfl rfl rfl (of_decide_eq_true (band h0).1) (of_decide_eq_true (band h0).2) (by have h1_ := of_decide_eq_true (band h0).1; have h2_ := of_decide_eq_true (band h0).2; omega) rfl ?_
 intro v0 w0 h1
 have f0 : EAll tBool G (List.replicate (Int.toNat ((a0.length : Int))) (.bool false : Value)) (List.replicate (Int.toNat ((a0.length : Int))) false) := EAll.rep (T := tBool) (c := .bool false) (x := false) rfl
 refine Jsv v0 rfl rfl ?_
 refine J0 (J2 (J1 ?_))
 refine Jo ti39 h1 rfl ?_
 intro b0 w1 h2
 refine J0 (J2 (J2 (J1 ?_)))
 refine Jmv va1 rfl rfl ?_
 refine Jd (T := (tInt .i64)) underlying39 ha1 rfl rfl ?_
 refine Jmv (vi 0) rfl rfl ?_
 refine J0 (Jb ?_)
 obtain ⟨t0, h3, hr⟩ := J6 hr
 have h4 := St.pick 1 rfl h2
 refine Js 0 h3 (fun s0 ρ w => ∃ (σ0 : Env) (G0 : GH), ρ = En σ0 [(0, va0), (5, v0), (6, (pt b0 0)), (14, va1), (15, (vi (a1.length : Int))), (16, (vi 0))] ∧ Ext G G0 ∧ St B w G0 [.row v0 4 1 (Int.toNat ((a0.length : Int))) (List.replicate (Int.toNat ((a0.length : Int))) (.bool false : Value)), .blk b0 [(.slice none 0 0)] 39] ∧ MarksIn G G0 σ0.ks) (fun t2 ρ w => ∃ (σ1 : Env) (G1 : GH), ρ = En σ1 [(0, va0), (5, v0), (6, (pt b0 0))] ∧ Ext G G1 ∧ St B w G1 [.row v0 4 1 (Int.toNat ((a0.length : Int))) (List.replicate (Int.toNat ((a0.length : Int))) (.bool false : Value)), .blk b0 [(.slice none 0 0)] 39] ∧ MarksIn G G1 σ1.ks) ⟨_, _, (J3 ⟨rfl, rfl, rfl, rfl, rfl, rfl, trivial⟩), (Ext.refl _), h4, MarksIn.nil⟩ ?_ ?_
 ·rintro s0 x0 _ _ hr ⟨σ0, G0, rfl, e0, h5, m0⟩
  refine J2 (J1 ?_)
  refine Ji rfl rfl rfl ?_
  refine J0 (J2 ?_)
  refine J7 rfl (fun h6 => ?_) (fun h6 => ?_)
  ·exact Jk hr h6
  replace hr := Jf hr h6
  refine Jr ?_
  have h7 := St.pick 1 rfl h5
  have h8 := St.pick 1 rfl h7
  exact ⟨_, (Option.some.inj hr).symm, rfl, _, _, (J3 ⟨rfl, rfl, rfl, trivial⟩), e0, h8, m0⟩
 rintro _ _ ⟨σ1, G1, rfl, e1, h9, m1⟩
 refine J2 (Jb ?_)
 obtain ⟨t1, h10, hr⟩ := J6 hr
 have h11 := St.pick 1 rfl h9
 have h12 := St.pick 1 rfl h11
 refine Js 2 h10 (fun s1 ρ w => ∃ (σ2 : Env) (G2 : GH), ρ = En σ2 [(0, va0), (5, v0), (6, (pt b0 0))] ∧ Ext G1 G2 ∧ St B w G2 [.row v0 4 1 (Int.toNat ((a0.length : Int))) (List.replicate (Int.toNat ((a0.length : Int))) (.bool false : Value)), .blk b0 [(.slice none 0 0)] 39] ∧ MarksIn G G2 σ2.ks) (fun t3 ρ w => ∃ (σ3 : Env) (G3 : GH), ρ = En σ3 [(5, v0)] ∧ Ext G1 G3 ∧ St B w G3 [.row v0 4 1 (Int.toNat ((a0.length : Int))) (List.replicate (Int.toNat ((a0.length : Int))) (.bool false : Value))] ∧ MarksIn G G3 σ3.ks) ⟨_, _, (J3 ⟨rfl, rfl, rfl, trivial⟩), (Ext.refl _), h12, m1⟩ ?_ ?_
 ·rintro s1 x1 _ _ hr ⟨σ2, G2, rfl, e2, h13, m2⟩
  refine J2 (J2 (J1 ?_))
  refine Jlb [_] (.slice none 0 0) ti39 h13 rfl rfl rfl ?_
  refine WL_len (ats := #[]) underlying39 rfl rfl ?_
  change WL _ _ _ _ _ _ (upd _ _ (vi 0)) _
  refine Yh rfl rfl rfl ?_
  change WL _ _ _ _ _ _ (upd _ _ (.bool false)) _
  refine J0 ?_
  refine J7 rfl (fun h => nomatch h) (fun _ => ?_)
  refine Jr ?_
  have h14 := St.takeN 1 h13
  exact ⟨_, (Option.some.inj hr).symm, rfl, _, _, (J3 ⟨rfl, trivial⟩), e2, h14, m2⟩
 rintro _ _ ⟨σ3, G3, rfl, e3, h15, m3⟩
 refine J2 (J1 ?_)
 refine Jmv v0 rfl rfl ?_
 refine Jsv v0 rfl rfl ?_
 refine J0 (Jg ?_)
 obtain ⟨nd1127, hh1128, G4, h16, e4, q0⟩ := St.take h15 m3 (e1.trans e3)
 have h17 := St.row_len (l1 := []) (k := (List.replicate (Int.toNat ((a0.length : Int))) false).length) (List.length_replicate ..) h16
 obtain rfl := Option.some.inj hr
 exact ⟨nd1127, hh1128, [v0], ⟨rfl, trivial⟩, _, _, _, rfl, e4, h17, ⟨v0, (List.replicate (Int.toNat ((a0.length : Int))) (.bool false : Value)), rfl, rfl, (EAll.mono (e1.ro.trans (e3.ro.trans q0)) f0), (le_eq (m := (Int.toNat ((a0.length : Int)))) (List.length_replicate ..) (by have h1_ := of_decide_eq_true (band h0).1; have h2_ := of_decide_eq_true (band h0).2; omega))⟩⟩
def file_flag.f (a0 : Bool) : Option (Int) :=
 bif a0 then some 1 else some 0
def file_flag.K (r : Int) (G3 : GH) (v : Value) (N : List Res) : Prop := v = tup [(vi r)] ∧ N = [] ∧ InK .i64 r
theorem file_flag.ok {a0 : Bool} (st : St B w G []) {r : Int} (hr : file_flag.f a0 = some r) :
 Calls Tryz.prog 72 ([(.bool a0)] : List Value).toArray w (Ret B G (file_flag.K r)) := by
 refine Jc [.tmp 2] func72 rfl ntmps72 rfl rfl ?_
 refine J2 (J1 ?_)
 refine Jsv (vi 0) rfl rfl ?_
 refine J0 (J2 (J2 (J1 ?_)))
 refine Jmv (.bool a0) rfl rfl ?_
 refine J0 ?_
 refine J7 rfl (fun h0 => ?_) (fun h0 => ?_)
 ·replace hr := Jx hr h0
  refine J2 (J1 ?_)
  refine Jsv (vi 1) rfl rfl ?_
  refine J0 (Jg ?_)
  obtain rfl := Option.some.inj hr
  exact ⟨[(vi 1)], ⟨rfl, trivial⟩, _, _, _, rfl, (Ext.refl _), st, ⟨rfl, rfl, (by rfl)⟩⟩
 replace hr := Jf hr h0
 refine J9 (J2 (J1 ?_))
 refine Jsv (vi 0) rfl rfl ?_
 refine J0 (Jg ?_)
 obtain rfl := Option.some.inj hr
 exact ⟨[(vi 0)], ⟨rfl, trivial⟩, _, _, _, rfl, (Ext.refl _), st, ⟨rfl, rfl, (by rfl)⟩⟩
def sum_New.f : Option (Unit) :=
 some ()
def sum_New.K (r : Unit) (G6 : GH) (v : Value) (N : List Res) : Prop := ∃ (b11 : Nat), v = tup [(pt b11 0)] ∧ N = [.blk b11 [(vi 1), (vi 0), (.bool true)] 263]
theorem sum_New.ok (st : St B w G []) {r : Unit} (hr : sum_New.f = some r) :
 Calls Tryz.prog 173 ([] : List Value).toArray w (Ret B G (sum_New.K r)) := by
 refine Jc [.tmp 0] func173 rfl ntmps173 rfl rfl ?_
 refine J2 (J1 ?_)
 refine Jsv (.pointer none) rfl rfl ?_
 refine J0 (J2 (J1 ?_))
 refine Y0 (cells := #[(vi 1), (vi 0), (.bool true)]) rfl (by kernel_rfl) ?_
 refine Ju (cs := [(vi 1), (vi 0), (.bool true)]) st rfl rfl rfl ?_
 intro b0 w0 h0
 refine Jsv (pt b0 0) rfl rfl ?_
 refine J0 (Jg ?_)
 obtain rfl := Option.some.inj hr
 exact ⟨[(pt b0 0)], ⟨rfl, trivial⟩, _, _, _, rfl, (Ext.refl _), h0, ⟨b0, rfl, rfl⟩⟩
def sum_Adder_Add.l0 (a1 : (List Int)) (s0 : (Int × Int × Nat)) : Option (Step (Int × Int × Nat) (Int × Int)) :=
 bif decide (((s0.2.2 : Nat) : Int) < (a1.length : Int)) then (idx a1 ((s0.2.2 : Nat) : Int)).bind fun x0 => some (.next (Int.tmod (IntKind.wrap .i64 (s0.1 + (IntKind.wrap .i64 (x0)))) 65521, Int.tmod (IntKind.wrap .i64 (s0.2.1 + (Int.tmod (IntKind.wrap .i64 (s0.1 + (IntKind.wrap .i64 (x0)))) 65521))) 65521, s0.2.2 + 1)) else some (.done (s0.1, s0.2.1))
def sum_Adder_Add.f (a0_ : Xsum_Adder) (a1 : (List Int)) : Option ((Int × Int)) :=
 bif !a0_.live then some (a0_.a, a0_.b) else (loop (sum_Adder_Add.l0 a1) (a0_.a, a0_.b, 0)).bind fun t0 => some (t0.1, t0.2)
def sum_Adder_Add.K (ba0 : Nat) (a0_ : Xsum_Adder) (r : (Int × Int)) (G0 : GH) (v : Value) (N : List Res) : Prop := v = tup [] ∧ N = [.blk ba0 [(vi r.1), (vi r.2), (.bool a0_.live)] 263] ∧ InK .i64 r.1 ∧ InK .i64 r.2
theorem sum_Adder_Add.ok {ba0 : Nat} {ca0_ : List Value} {a0_ : Xsum_Adder} {va1 : Value} {a1 : (List Int)} (st : St B w G [.blk ba0 ca0_ 263]) (ha0_ : Tsum_Adder.rep G ca0_ a0_) (ha1 : SRep 5 (tInt .u8) G va1 a1) {r : (Int × Int)} (hr : sum_Adder_Add.f a0_ a1 = some r) :
 Calls Tryz.prog 175 ([(pt ba0 0), va1] : List Value).toArray w (Ret B G (sum_Adder_Add.K ba0 a0_ r)) := by
 obtain ⟨rfl, ha0__0, ha0__1⟩ := ha0_
 refine Jc [] func175 rfl ntmps175 rfl rfl ?_
 refine J2 (J2 (J1 ?_))
 refine Jmv (pt ba0 0) rfl rfl ?_
 refine WL_peql underlying221 rfl rfl rfl ?_
 refine Jmv (.bool false) rfl rfl ?_
 refine Jq rfl rfl rfl rfl (fun _ => ?_) (fun h => nomatch h)
 refine Jmv (pt ba0 0) rfl rfl ?_
 refine Jq rfl rfl rfl rfl (fun _ => ?_) (fun h => nomatch h)
 refine Je rfl rfl ?_
 refine Jq rfl rfl rfl rfl (fun _ => ?_) (fun h => nomatch h)
 refine Jfa 2 2 underlying263 rfl ti4 rfl rfl rfl rfl ?_
 refine Jq rfl rfl rfl rfl (fun _ => ?_) (fun h => nomatch h)
 refine Jlb [] (.bool a0_.live) ti4 st rfl rfl rfl ?_
 refine Jq rfl rfl rfl rfl (fun _ => ?_) (fun h => nomatch h)
 refine Yc rfl rfl ?_
 refine Jt (v := (.bool !a0_.live)) rfl rfl rfl rfl ?_
 refine J0 ?_
 refine J7 rfl (fun h0 => ?_) (fun h0 => ?_)
 ·replace hr := Jx hr h0
  refine Jg ?_
  obtain rfl := Option.some.inj hr
  exact ⟨[], trivial, _, _, _, rfl, (Ext.refl _), st, ⟨rfl, rfl, ha0__0, ha0__1⟩⟩
 replace hr := Jf hr h0
 refine J9 (J2 (J1 ?_))
 refine Jmv va1 rfl rfl ?_
 refine Jd (T := (tInt .u8)) underlying63 ha1 rfl rfl ?_
 refine Jmv (vi 0) rfl rfl ?_
 refine J0 (Jb ?_)
 obtain ⟨t0, h1, hr⟩ := J6 hr
 refine Js 0 h1 (fun s0 ρ w => ∃ (σ0 : Env) (G1 : GH), ρ = En σ0 [(0, (pt ba0 0)), (15, va1), (16, (vi (a1.length : Int))), (17, (vi ((s0.2.2 : Nat) : Int)))] ∧ Ext G G1 ∧ St B w G1 [.blk ba0 [(vi s0.1), (vi s0.2.1), (.bool a0_.live)] 263] ∧ InK .i64 s0.1 ∧ InK .i64 s0.2.1 ∧ InK .i64 ((s0.2.2 : Nat) : Int)) (fun t1 ρ w => ∃ (σ1 : Env) (G2 : GH), ρ = En σ1 [] ∧ Ext G G2 ∧ St B w G2 [.blk ba0 [(vi t1.1), (vi t1.2), (.bool a0_.live)] 263] ∧ InK .i64 t1.1 ∧ InK .i64 t1.2) ⟨_, _, (J3 ⟨rfl, rfl, rfl, rfl, trivial⟩), (Ext.refl _), st, ha0__0, ha0__1, (by rfl)⟩ ?_ ?_
 ·rintro s0 x1 _ _ hr ⟨σ0, G1, rfl, e0, h2, f0, f1, f2⟩
  refine J2 (J1 ?_)
  refine Ji rfl rfl rfl ?_
  refine J0 (J2 ?_)
  refine J7 rfl (fun h3 => ?_) (fun h3 => ?_)
  ·replace hr := Jx hr h3
   refine J9 (J2 (Jb (J2 (J1 ?_))))
   obtain ⟨x0, h4, hr⟩ := J6 hr
   refine Jh (T := (tInt .u8)) underlying63 ti5 h2 (SRep.mono e0.ro ha1) rfl rfl rfl h4 ?_
   intro b0 o0 c0 l3 f3
   obtain ⟨rfl, f4⟩ := f3
   refine Y4 (v := (.int .u8 x0)) ti5 rfl rfl (LiesG.lies l3 h2) rfl ?_
   refine Jsv (.int .u8 x0) rfl rfl ?_
   refine J0 (J2 (J1 ?_))
   refine Jmv (pt ba0 0) rfl rfl ?_
   refine Jmv (pt ba0 0) rfl rfl ?_
   refine Je rfl rfl ?_
   refine Jfa 0 0 underlying263 rfl ti2 rfl rfl rfl rfl ?_
   refine Jlb [] (vi s0.1) ti2 h2 rfl rfl rfl ?_
   refine Jmv (.int .u8 x0) rfl rfl ?_
   refine WL_conv (by rw [underlying5]; rfl) underlying2 rfl rfl ?_
   refine Yj rfl rfl rfl ?_
   refine WL_rem rfl rfl rfl (by decide) ?_
   refine Je rfl rfl ?_
   refine Jfa 0 0 underlying263 rfl ti2 rfl rfl rfl rfl ?_
   refine Y5 (l1 := []) (v := (vi (Int.tmod (IntKind.wrap .i64 (s0.1 + (IntKind.wrap .i64 (x0)))) 65521))) ti2 h2 rfl rfl rfl rfl ?_
   intro w0 (h5 : St B w0 G1 [.blk ba0 [(vi (Int.tmod (IntKind.wrap .i64 (s0.1 + (IntKind.wrap .i64 (x0)))) 65521)), (vi s0.2.1), (.bool a0_.live)] 263])
   refine J0 ?_
   refine Ye 11 [some 32, some 33, some 34, some 35, some 36, some 37, some 38, some 39, some 40, some 41, some 42] (pk [(fun G_ v_ => v_ = (pt ba0 0)), (fun G_ v_ => v_ = (pt ba0 0)), (fun G_ v_ => v_ = (pt ba0 0)), (fun G_ v_ => v_ = (pt ba0 1)), (fun G_ v_ => v_ = (vi s0.2.1)), (fun G_ v_ => v_ = (pt ba0 0)), (fun G_ v_ => v_ = (pt ba0 0)), (fun G_ v_ => v_ = (pt ba0 0)), (fun G_ v_ => v_ = (vi (Int.tmod (IntKind.wrap .i64 (s0.1 + (IntKind.wrap .i64 (x0)))) 65521))), (fun G_ v_ => v_ = (vi (IntKind.wrap .i64 (s0.2.1 + (Int.tmod (IntKind.wrap .i64 (s0.1 + (IntKind.wrap .i64 (x0)))) 65521))))), (fun G_ v_ => v_ = (vi (Int.tmod (IntKind.wrap .i64 (s0.2.1 + (Int.tmod (IntKind.wrap .i64 (s0.1 + (IntKind.wrap .i64 (x0)))) 65521))) 65521)))]) rfl (by kernel_rfl) rfl h5 ?_ ?_
   ·refine Each.cons ?_ (Each.cons ?_ (Each.cons ?_ (Each.cons ?_ (Each.cons ?_ (Each.cons ?_ (Each.cons ?_ (Each.cons ?_ (Each.cons ?_ (Each.cons ?_ (Each.cons ?_ Each.nil))))))))))
    ·intro q0 w1 G3 e1 h6 h7 h8
     rw [J3 (ρ := q0) (l := [(0, (pt ba0 0))]) ⟨(h7.1 0 (by decide)).trans rfl, trivial⟩]
     refine Jmv (pt ba0 0) rfl rfl ?_
     exact J0 (J4 (Ext.refl _) h6 fun G4 e2 => rfl)
    ·intro q0 w1 G3 e1 h6 h7 h8
     rw [J3 (ρ := q0) (l := [(0, (pt ba0 0))]) ⟨(h7.1 0 (by decide)).trans rfl, trivial⟩]
     refine Jmv (pt ba0 0) rfl rfl ?_
     exact J0 (J4 (Ext.refl _) h6 fun G5 e3 => rfl)
    ·intro q0 w1 G3 e1 h6 h7 h8
     obtain ⟨hd0_, _⟩ := h8
     have hv33 := hd0_
     rw [J3 (ρ := q0) (l := [(33, (pt ba0 0))]) ⟨hv33, trivial⟩]
     refine Je rfl rfl ?_
     exact J0 (J4 (Ext.refl _) h6 fun G6 e4 => rfl)
    ·intro q0 w1 G3 e1 h6 h7 h8
     obtain ⟨hd0_, _⟩ := h8
     have hv34 := hd0_
     rw [J3 (ρ := q0) (l := [(34, (pt ba0 0))]) ⟨hv34, trivial⟩]
     refine Jfa 1 1 underlying263 rfl ti2 rfl rfl rfl rfl ?_
     exact J0 (J4 (Ext.refl _) h6 fun G7 e5 => rfl)
    ·intro q0 w1 G3 e1 h6 h7 h8
     obtain ⟨hd0_, _⟩ := h8
     have hv35 := hd0_
     rw [J3 (ρ := q0) (l := [(35, (pt ba0 1))]) ⟨hv35, trivial⟩]
     refine Jlb [] (vi s0.2.1) ti2 h6 rfl rfl rfl ?_
     exact J0 (J4 (Ext.refl _) h6 fun G8 e6 => rfl)
    ·intro q0 w1 G3 e1 h6 h7 h8
     rw [J3 (ρ := q0) (l := [(0, (pt ba0 0))]) ⟨(h7.1 0 (by decide)).trans rfl, trivial⟩]
     refine Jmv (pt ba0 0) rfl rfl ?_
     exact J0 (J4 (Ext.refl _) h6 fun G9 e7 => rfl)
    ·intro q0 w1 G3 e1 h6 h7 h8
     obtain ⟨hd0_, _⟩ := h8
     have hv37 := hd0_
     rw [J3 (ρ := q0) (l := [(37, (pt ba0 0))]) ⟨hv37, trivial⟩]
     refine Je rfl rfl ?_
     exact J0 (J4 (Ext.refl _) h6 fun Ga e8 => rfl)
    ·intro q0 w1 G3 e1 h6 h7 h8
     obtain ⟨hd0_, _⟩ := h8
     have hv38 := hd0_
     rw [J3 (ρ := q0) (l := [(38, (pt ba0 0))]) ⟨hv38, trivial⟩]
     refine Jfa 0 0 underlying263 rfl ti2 rfl rfl rfl rfl ?_
     exact J0 (J4 (Ext.refl _) h6 fun Gb e9 => rfl)
    ·intro q0 w1 G3 e1 h6 h7 h8
     obtain ⟨hd0_, _⟩ := h8
     have hv39 := hd0_
     rw [J3 (ρ := q0) (l := [(39, (pt ba0 0))]) ⟨hv39, trivial⟩]
     refine Jlb [] (vi (Int.tmod (IntKind.wrap .i64 (s0.1 + (IntKind.wrap .i64 (x0)))) 65521)) ti2 h6 rfl rfl rfl ?_
     exact J0 (J4 (Ext.refl _) h6 fun Gc ea => rfl)
    ·intro q0 w1 G3 e1 h6 h7 h8
     obtain ⟨hd0_, hd1_, _⟩ := h8
     have hv36 := hd0_
     have hv40 := hd1_
     rw [J3 (ρ := q0) (l := [(36, (vi s0.2.1)), (40, (vi (Int.tmod (IntKind.wrap .i64 (s0.1 + (IntKind.wrap .i64 (x0)))) 65521)))]) ⟨hv36, hv40, trivial⟩]
     refine Yj rfl rfl rfl ?_
     exact J0 (J4 (Ext.refl _) h6 fun Gd eb => rfl)
    intro q0 w1 G3 e1 h6 h7 h8
    obtain ⟨hd0_, _⟩ := h8
    have hv41 := hd0_
    rw [J3 (ρ := q0) (l := [(41, (vi (IntKind.wrap .i64 (s0.2.1 + (Int.tmod (IntKind.wrap .i64 (s0.1 + (IntKind.wrap .i64 (x0)))) 65521)))))]) ⟨hv41, trivial⟩]
    refine WL_rem rfl rfl rfl (by decide) ?_
    exact J0 (J4 (Ext.refl _) h6 fun Ge ec => rfl)
   intro q0 w1 G3 e1 h6 h7 h8
   have hv32 := h8 0 (by decide)
   have hv42 := h8 10 (by decide)
   rw [J3 (ρ := q0) (l := [(0, (pt ba0 0)), (15, va1), (16, (vi (a1.length : Int))), (17, (vi ((s0.2.2 : Nat) : Int))), (32, (pt ba0 0)), (42, (vi (Int.tmod (IntKind.wrap .i64 (s0.2.1 + (Int.tmod (IntKind.wrap .i64 (s0.1 + (IntKind.wrap .i64 (x0)))) 65521))) 65521)))]) ⟨(h7.1 0 (by decide)).trans rfl, (h7.1 15 (by decide)).trans rfl, (h7.1 16 (by decide)).trans rfl, (h7.1 17 (by decide)).trans rfl, hv32, hv42, trivial⟩]
   refine Je rfl rfl ?_
   refine Jfa 1 1 underlying263 rfl ti2 rfl rfl rfl rfl ?_
   refine Y5 (l1 := []) (v := (vi (Int.tmod (IntKind.wrap .i64 (s0.2.1 + (Int.tmod (IntKind.wrap .i64 (s0.1 + (IntKind.wrap .i64 (x0)))) 65521))) 65521))) ti2 h6 rfl rfl rfl rfl ?_
   intro w2 (h9 : St B w2 G3 [.blk ba0 [(vi (Int.tmod (IntKind.wrap .i64 (s0.1 + (IntKind.wrap .i64 (x0)))) 65521)), (vi (Int.tmod (IntKind.wrap .i64 (s0.2.1 + (Int.tmod (IntKind.wrap .i64 (s0.1 + (IntKind.wrap .i64 (x0)))) 65521))) 65521)), (.bool a0_.live)] 263])
   refine J0 (J1 ?_)
   refine Y2 rfl rfl rfl (of_decide_eq_true h3) (inK_len (SRep.le ha1)) ?_
   refine Jmv (vi ((s0.2.2 + 1 : Nat) : Int)) rfl rfl ?_
   refine J0 ?_
   exact ⟨_, (Option.some.inj hr).symm, _, _, (J3 ⟨rfl, rfl, rfl, rfl, trivial⟩), (e0.trans e1), h9, (inK_tmod (inK_wrap _ _)), (inK_tmod (inK_wrap _ _)), (inK_inc (of_decide_eq_true h3) (inK_len (SRep.le ha1)))⟩
  replace hr := Jf hr h3
  refine Jr ?_
  exact ⟨_, (Option.some.inj hr).symm, rfl, _, _, rfl, e0, h2, f0, f1⟩
 rintro _ _ ⟨σ1, G2, rfl, ed, h10, f5, f6⟩
 obtain rfl := Option.some.inj hr
 exact ⟨[], trivial, _, _, _, rfl, ed, h10, ⟨rfl, rfl, f5, f6⟩⟩
def octet_Reader_Bad.f (a0_0 : (List Int)) (a0_1 : Int) (a0_2 : Bool) (a0_3 : Bool) : Option ((Bool × (List Int))) :=
 (bif !a0_2 then some true else some a0_3).bind fun t0 => some (t0, a0_0)
def octet_Reader_Bad.K (ba0 : Nat) (a0_1 : Int) (a0_2 : Bool) (a0_3 : Bool) (r : (Bool × (List Int))) (G15 : GH) (v : Value) (N : List Res) : Prop := ∃ (v19 : Value) (c20 : List Value), v = tup [(.bool r.1)] ∧ N = [.row v19 5 1 r.2.length c20, .blk ba0 [v19, (vi a0_1), (.bool a0_2), (.bool a0_3)] 163] ∧ EAll (tInt .u8) G15 c20 r.2 ∧ r.2.length ≤ SB
theorem octet_Reader_Bad.ok {ba0 : Nat} {va0_0 : Value} {ca0_0 : List Value} {a0_0 : (List Int)} {a0_1 : Int} {a0_2 : Bool} {a0_3 : Bool} (st : St B w G [.blk ba0 [va0_0, (vi a0_1), (.bool a0_2), (.bool a0_3)] 163, .row va0_0 5 1 a0_0.length ca0_0]) (ha0_0 : EAll (tInt .u8) G ca0_0 a0_0) (lha0_0 : a0_0.length ≤ SB) (ha0_1 : InK .i64 a0_1) {r : (Bool × (List Int))} (hr : octet_Reader_Bad.f a0_0 a0_1 a0_2 a0_3 = some r) :
 Calls Tryz.prog 113 ([(pt ba0 0)] : List Value).toArray w (Ret B G (octet_Reader_Bad.K ba0 a0_1 a0_2 a0_3 r)) := by
 refine Jc [.tmp 2] func113 rfl ntmps113 rfl rfl ?_
 refine J2 (J1 ?_)
 refine Jsv (.bool false) rfl rfl ?_
 refine J0 (J2 (J1 ?_))
 refine Jmv (pt ba0 0) rfl rfl ?_
 refine WL_peql underlying104 rfl rfl rfl ?_
 refine Jmv (.bool false) rfl rfl ?_
 refine Jq rfl rfl rfl rfl (fun _ => ?_) (fun h => nomatch h)
 refine Jmv (pt ba0 0) rfl rfl ?_
 refine Jq rfl rfl rfl rfl (fun _ => ?_) (fun h => nomatch h)
 refine Je rfl rfl ?_
 refine Jq rfl rfl rfl rfl (fun _ => ?_) (fun h => nomatch h)
 refine Jfa 2 2 underlying163 rfl ti4 rfl rfl rfl rfl ?_
 refine Jq rfl rfl rfl rfl (fun _ => ?_) (fun h => nomatch h)
 refine Jlb [] (.bool a0_2) ti4 st rfl rfl rfl ?_
 refine Jq rfl rfl rfl rfl (fun _ => ?_) (fun h => nomatch h)
 refine Yc rfl rfl ?_
 refine Jt (v := (.bool !a0_2)) rfl rfl rfl rfl ?_
 refine Jmv (.bool !a0_2) rfl rfl ?_
 obtain ⟨t0, hr, o0⟩ := J6 hr
 refine Jw 5 (fun ρ w => ∃ (σ0 : Env) (G0 : GH), ρ = En σ0 [(2, (.bool false)), (17, (.bool t0))] ∧ Ext G G0 ∧ St B w G0 [.row va0_0 5 1 a0_0.length ca0_0, .blk ba0 [va0_0, (vi a0_1), (.bool a0_2), (.bool a0_3)] 163]) ?_ ?_
 ·rcases Y8 (!a0_2) with hb_ | hb_
  ·have h0 : (!a0_2) = true := hb_
   replace hr := Jx hr h0
   refine Jv rfl rfl rfl rfl h0 ?_
   refine Jv rfl rfl rfl rfl h0 ?_
   refine Jv rfl rfl rfl rfl h0 ?_
   refine Jv rfl rfl rfl rfl h0 ?_
   refine Y9 (v := (.bool true)) rfl rfl h0 rfl ?_
   refine J0 ?_
   have h1 := St.pick 1 rfl st
   obtain rfl := Option.some.inj hr
   exact ⟨_, _, (J3 ⟨rfl, rfl, trivial⟩), (Ext.refl _), h1⟩
  have h2 : (!a0_2) = false := hb_
  replace hr := Jf hr h2
  refine Ja rfl rfl rfl rfl h2 ?_
  refine Jmv (pt ba0 0) rfl rfl ?_
  refine Ja rfl rfl rfl rfl h2 ?_
  refine Je rfl rfl ?_
  refine Ja rfl rfl rfl rfl h2 ?_
  refine Jfa 3 3 underlying163 rfl ti4 rfl rfl rfl rfl ?_
  refine Ja rfl rfl rfl rfl h2 ?_
  refine Jlb [] (.bool a0_3) ti4 st rfl rfl rfl ?_
  refine Jt (v := (.bool a0_3)) rfl rfl h2 rfl ?_
  refine J0 ?_
  have h3 := St.pick 1 rfl st
  obtain rfl := Option.some.inj hr
  exact ⟨_, _, (J3 ⟨rfl, rfl, trivial⟩), (Ext.refl _), h3⟩
 rintro _ _ ⟨σ0, G0, rfl, e0, h4⟩
 replace hr := o0
 refine Jsv (.bool t0) rfl rfl ?_
 refine J0 (Jg ?_)
 have h5 := St.pick 1 rfl h4
 have h6 := St.pick 1 rfl h5
 obtain rfl := Option.some.inj hr
 exact ⟨[(.bool t0)], ⟨rfl, trivial⟩, _, _, _, rfl, e0, h6, ⟨va0_0, ca0_0, rfl, rfl, (EAll.mono e0.ro ha0_0), lha0_0⟩⟩
def api_Data.f (a0_0 : (List XSymbol)) (a0_1 : (List XFunc)) (a0_2 : (List XData)) (a2_0 : (List Int)) (a2_1 : Int) (a2_2 : Bool) (a2_3 : Bool) : Option (((List Int) × (List XSymbol) × (List XFunc) × (List XData))) :=
 some (a2_0, a0_0, a0_1, a0_2)
def api_Data.K (ba2 : Nat) (a2_1 : Int) (a2_2 : Bool) (a2_3 : Bool) (ba0 : Nat) (r : ((List Int) × (List XSymbol) × (List XFunc) × (List XData))) (G14 : GH) (v : Value) (N : List Res) : Prop := ∃ (v22 : Value) (v29 : Value) (v34 : Value) (v39 : Value) (c23 : List Value) (c30 : List Value) (c35 : List Value) (c40 : List Value) (b19 : Nat) (b21 : Nat) (b28 : Nat), v = tup [(.func (.func 127) #[] #[(pt b19 0), (pt b21 0), (pt b28 0)])] ∧ N = [.blk b19 [(.func (.func 66) #[] #[])] 117, .row v22 5 1 r.1.length c23, .blk ba2 [v22, (vi a2_1), (.bool a2_2), (.bool a2_3)] 163, .blk b21 [(pt ba2 0)] 104, .row v29 82 5 r.2.1.length c30, .row v34 44 9 r.2.2.1.length c35, .row v39 49 3 r.2.2.2.length c40, .blk ba0 [v29, v34, v39] 61, .blk b28 [(pt ba0 2)] 116] ∧ EAll (tInt .u8) G14 c23 r.1 ∧ r.1.length ≤ SB ∧ EAll TSymbol G14 c30 r.2.1 ∧ r.2.1.length ≤ SB ∧ EAll TFunc G14 c35 r.2.2.1 ∧ r.2.2.1.length ≤ SB ∧ EAll TData G14 c40 r.2.2.2 ∧ r.2.2.2.length ≤ SB
theorem api_Data.ok {ba0 : Nat} {va0_0 : Value} {ca0_0 : List Value} {a0_0 : (List XSymbol)} {va0_1 : Value} {ca0_1 : List Value} {a0_1 : (List XFunc)} {va0_2 : Value} {ca0_2 : List Value} {a0_2 : (List XData)} {ba2 : Nat} {va2_0 : Value} {ca2_0 : List Value} {a2_0 : (List Int)} {a2_1 : Int} {a2_2 : Bool} {a2_3 : Bool} (st : St B w G [.blk ba0 [va0_0, va0_1, va0_2] 61, .row va0_0 82 5 a0_0.length ca0_0, .row va0_1 44 9 a0_1.length ca0_1, .row va0_2 49 3 a0_2.length ca0_2, .blk ba2 [va2_0, (vi a2_1), (.bool a2_2), (.bool a2_3)] 163, .row va2_0 5 1 a2_0.length ca2_0]) (ha0_0 : EAll TSymbol G ca0_0 a0_0) (lha0_0 : a0_0.length ≤ SB) (ha0_1 : EAll TFunc G ca0_1 a0_1) (lha0_1 : a0_1.length ≤ SB) (ha0_2 : EAll TData G ca0_2 a0_2) (lha0_2 : a0_2.length ≤ SB) (ha2_0 : EAll (tInt .u8) G ca2_0 a2_0) (lha2_0 : a2_0.length ≤ SB) (ha2_1 : InK .i64 a2_1) {r : ((List Int) × (List XSymbol) × (List XFunc) × (List XData))} (hr : api_Data.f a0_0 a0_1 a0_2 a2_0 a2_1 a2_2 a2_3 = some r) :
 Calls Tryz.prog 65 ([(pt ba0 2), (.func (.func 66) #[] #[]), (pt ba2 0)] : List Value).toArray w (Ret B G (api_Data.K ba2 a2_1 a2_2 a2_3 ba0 r)) := by
 refine Jc [.tmp 6] func65 rfl ntmps65 rfl rfl ?_
 refine J2 (J1 ?_)
 refine Ju (cs := [(pt ba0 2)]) st rfl rfl rfl ?_
 intro b0 w0 h0
 refine Ju (cs := [(.func (.func 66) #[] #[])]) h0 rfl rfl rfl ?_
 intro b1 w1 h1
 refine Ju (cs := [(pt ba2 0)]) h1 rfl rfl rfl ?_
 intro b2 w2 h2
 refine Jsv .nilFunc rfl rfl ?_
 refine J0 (J2 (J1 ?_))
 refine Yg (fs := []) (cs := [(pt b1 0), (pt b2 0), (pt b0 0)]) rfl rfl rfl ?_
 refine Jsv (.func (.func 127) #[] #[(pt b1 0), (pt b2 0), (pt b0 0)]) rfl rfl ?_
 refine J0 (Jg ?_)
 have h3 := St.pick 2 rfl h2
 have h4 := St.pick 3 rfl h3
 have h5 := St.pick 6 rfl h4
 have h6 := St.pick 6 rfl h5
 have h7 := St.pick 6 rfl h6
 have h8 := St.pick 5 rfl h7
 have h9 := St.pick 7 rfl h8
 have h10 := St.pick 8 rfl h9
 have h11 := St.pick 8 rfl h10
 obtain rfl := Option.some.inj hr
 exact ⟨[(.func (.func 127) #[] #[(pt b1 0), (pt b2 0), (pt b0 0)])], ⟨rfl, trivial⟩, _, _, _, rfl, (Ext.refl _), h11, ⟨va2_0, va0_0, va0_1, va0_2, ca2_0, ca0_0, ca0_1, ca0_2, b1, b2, b0, rfl, rfl, ha2_0, lha2_0, ha0_0, lha0_0, ha0_1, lha0_1, ha0_2, lha0_2⟩⟩
def sheerlegref15_SameRelocs.l0 (a0 : (List XReloc)) (a1 : (List XReloc)) (s0 : Nat) : Option (Step Nat Unit) :=
 bif decide (((s0 : Nat) : Int) < (a0.length : Int)) then (idx a0 ((s0 : Nat) : Int)).bind fun x0 => (idx a1 ((s0 : Nat) : Int)).bind fun x1 => bif !(decide (x0.At = x1.At) && (decide (x0.Sym = x1.Sym) && ((x0.Wide == x1.Wide) && true))) then none else some (.next (s0 + 1)) else some (.done ())
def sheerlegref15_SameRelocs.f (a0 : (List XReloc)) (a1 : (List XReloc)) : Option (Unit) :=
 bif decide ((a0.length : Int) ≠ (a1.length : Int)) then none else (loop (sheerlegref15_SameRelocs.l0 a0 a1) 0).bind fun t0 => some ()
def sheerlegref15_SameRelocs.K (r : Unit) (G0 : GH) (v : Value) (N : List Res) : Prop := v = tup [(.bool true)] ∧ N = []
theorem sheerlegref15_SameRelocs.ok {va0 : Value} {a0 : (List XReloc)} {va1 : Value} {a1 : (List XReloc)} (st : St B w G []) (ha0 : SRep 133 TReloc G va0 a0) (ha1 : SRep 133 TReloc G va1 a1) {r : Unit} (hr : sheerlegref15_SameRelocs.f a0 a1 = some r) :
 Calls Tryz.prog 105 ([va0, va1] : List Value).toArray w (Ret B G (sheerlegref15_SameRelocs.K r)) := by
 refine Jc [.tmp 4] func105 rfl ntmps105 rfl rfl ?_
 refine J2 (J1 ?_)
 refine Jsv (.bool false) rfl rfl ?_
 refine J0 (J2 (J2 (J1 ?_)))
 refine Jmv va0 rfl rfl ?_
 refine Jd (T := TReloc) underlying42 ha0 rfl rfl ?_
 refine Jmv va1 rfl rfl ?_
 refine Jd (T := TReloc) underlying42 ha1 rfl rfl ?_
 refine Y1 rfl rfl rfl ?_
 refine J0 ?_
 refine J7 rfl (fun h0 => ?_) (fun h0 => ?_)
 ·exact Jk hr h0
 replace hr := Jf hr h0
 refine J9 (J2 (J2 (J1 ?_)))
 refine Jsv (vi 0) rfl rfl ?_
 refine J0 (Jb ?_)
 obtain ⟨t0, h1, hr⟩ := J6 hr
 refine Js 0 h1 (fun s0 ρ w => ∃ (σ0 : Env) (G1 : GH), ρ = En σ0 [(0, va0), (1, va1), (5, (vi ((s0 : Nat) : Int)))] ∧ Ext G G1 ∧ St B w G1 [] ∧ InK .i64 ((s0 : Nat) : Int)) (fun t1 ρ w => ∃ (σ1 : Env) (G2 : GH), ρ = En σ1 [] ∧ Ext G G2 ∧ St B w G2 []) ⟨_, _, (J3 ⟨rfl, rfl, rfl, trivial⟩), (Ext.refl _), st, (by rfl)⟩ ?_ ?_
 ·rintro s0 x2 _ _ hr ⟨σ0, G1, rfl, e0, h2, f0⟩
  refine J2 (J2 (J1 ?_))
  refine Jmv (vi ((s0 : Nat) : Int)) rfl rfl ?_
  refine Jmv va0 rfl rfl ?_
  refine Jd (T := TReloc) underlying42 (SRep.mono e0.ro ha0) rfl rfl ?_
  refine Ji rfl rfl rfl ?_
  refine J0 ?_
  refine J7 rfl (fun h3 => ?_) (fun h3 => ?_)
  ·replace hr := Jx hr h3
   refine J9 (J2 (Jb (J2 ?_)))
   obtain ⟨x0, h4, hr⟩ := J6 hr
   obtain ⟨x1, h5, hr⟩ := J6 hr
   refine Ye 8 [some 17, some 18, some 19, some 20, some 21, some 22, some 23, some 24] (pk [(fun G_ v_ => v_ = va0), (fun G_ v_ => v_ = (vi ((s0 : Nat) : Int))), (fun G_ v_ => ∃ (b0 : Nat) (b1 : Nat), v_ = (pt b0 b1) ∧ InK .i64 x0.At ∧ InK .i64 x0.Sym ∧ LiesG G_ b0 b1 [(vi x0.At), (vi x0.Sym), (.bool x0.Wide)]), (fun G_ v_ => v_ = (.agg #[(vi x0.At), (vi x0.Sym), (.bool x0.Wide)]) ∧ InK .i64 x0.At ∧ InK .i64 x0.Sym), (fun G_ v_ => v_ = va1), (fun G_ v_ => v_ = (vi ((s0 : Nat) : Int))), (fun G_ v_ => ∃ (b2 : Nat) (b3 : Nat), v_ = (pt b2 b3) ∧ InK .i64 x1.At ∧ InK .i64 x1.Sym ∧ LiesG G_ b2 b3 [(vi x1.At), (vi x1.Sym), (.bool x1.Wide)]), (fun G_ v_ => v_ = (.agg #[(vi x1.At), (vi x1.Sym), (.bool x1.Wide)]) ∧ InK .i64 x1.At ∧ InK .i64 x1.Sym)]) rfl (by kernel_rfl) rfl h2 ?_ ?_
   ·refine Each.cons ?_ (Each.cons ?_ (Each.cons ?_ (Each.cons ?_ (Each.cons ?_ (Each.cons ?_ (Each.cons ?_ (Each.cons ?_ Each.nil)))))))
    ·intro q0 w0 G3 e1 h6 h7 h8
     rw [J3 (ρ := q0) (l := [(0, va0)]) ⟨(h7.1 0 (by decide)).trans rfl, trivial⟩]
     refine Jmv va0 rfl rfl ?_
     exact J0 (J4 (Ext.refl _) h6 fun G4 e2 => rfl)
    ·intro q0 w0 G3 e1 h6 h7 h8
     rw [J3 (ρ := q0) (l := [(5, (vi ((s0 : Nat) : Int)))]) ⟨(h7.1 5 (by decide)).trans rfl, trivial⟩]
     refine Jmv (vi ((s0 : Nat) : Int)) rfl rfl ?_
     exact J0 (J4 (Ext.refl _) h6 fun G5 e3 => rfl)
    ·intro q0 w0 G3 e1 h6 h7 h8
     obtain ⟨hd0_, hd1_, _⟩ := h8
     have hv17 := hd0_
     have hv18 := hd1_
     rw [J3 (ρ := q0) (l := [(17, va0), (18, (vi ((s0 : Nat) : Int)))]) ⟨hv17, hv18, trivial⟩]
     refine Jh (T := TReloc) underlying42 ti133 h6 (SRep.mono (e0.ro.trans e1.ro) ha0) rfl rfl rfl h4 ?_
     intro b4 o0 c0 l3 f1
     obtain ⟨rfl, f2, f3⟩ := f1
     exact J0 (J4 (Ext.refl _) h6 fun G6 e4 => ⟨b4, o0, rfl, f2, f3, (LiesG.mono e4.ro l3)⟩)
    ·intro q0 w0 G3 e1 h6 h7 h8
     obtain ⟨hd0_, _⟩ := h8
     obtain ⟨b0, b1, hv19, f4, f5, f6⟩ := hd0_
     rw [J3 (ρ := q0) (l := [(19, (pt b0 b1))]) ⟨hv19, trivial⟩]
     refine Jy ti133 rfl rfl (LiesG.lies f6 h6) (Nat.le_of_ble_eq_true rfl) ?_
     change WL _ _ _ _ _ _ (upd _ _ (.agg #[(vi x0.At), (vi x0.Sym), (.bool x0.Wide)])) _
     exact J0 (J4 (Ext.refl _) h6 fun G7 e5 => ⟨rfl, f4, f5⟩)
    ·intro q0 w0 G3 e1 h6 h7 h8
     rw [J3 (ρ := q0) (l := [(1, va1)]) ⟨(h7.1 1 (by decide)).trans rfl, trivial⟩]
     refine Jmv va1 rfl rfl ?_
     exact J0 (J4 (Ext.refl _) h6 fun G8 e6 => rfl)
    ·intro q0 w0 G3 e1 h6 h7 h8
     rw [J3 (ρ := q0) (l := [(5, (vi ((s0 : Nat) : Int)))]) ⟨(h7.1 5 (by decide)).trans rfl, trivial⟩]
     refine Jmv (vi ((s0 : Nat) : Int)) rfl rfl ?_
     exact J0 (J4 (Ext.refl _) h6 fun G9 e7 => rfl)
    ·intro q0 w0 G3 e1 h6 h7 h8
     obtain ⟨hd0_, hd1_, _⟩ := h8
     have hv21 := hd0_
     have hv22 := hd1_
     rw [J3 (ρ := q0) (l := [(21, va1), (22, (vi ((s0 : Nat) : Int)))]) ⟨hv21, hv22, trivial⟩]
     refine Jh (T := TReloc) underlying42 ti133 h6 (SRep.mono (e0.ro.trans e1.ro) ha1) rfl rfl rfl h5 ?_
     intro b5 o1 c1 l4 f7
     obtain ⟨rfl, f8, f9⟩ := f7
     exact J0 (J4 (Ext.refl _) h6 fun Ga e8 => ⟨b5, o1, rfl, f8, f9, (LiesG.mono e8.ro l4)⟩)
    intro q0 w0 G3 e1 h6 h7 h8
    obtain ⟨hd0_, _⟩ := h8
    obtain ⟨b2, b3, hv23, fa, fb, fc⟩ := hd0_
    rw [J3 (ρ := q0) (l := [(23, (pt b2 b3))]) ⟨hv23, trivial⟩]
    refine Jy ti133 rfl rfl (LiesG.lies fc h6) (Nat.le_of_ble_eq_true rfl) ?_
    change WL _ _ _ _ _ _ (upd _ _ (.agg #[(vi x1.At), (vi x1.Sym), (.bool x1.Wide)])) _
    exact J0 (J4 (Ext.refl _) h6 fun Gb e9 => ⟨rfl, fa, fb⟩)
   intro q0 w0 G3 e1 h6 h7 h8
   obtain ⟨hv20, fd, fe⟩ := h8 3 (by decide)
   obtain ⟨hv24, ff, fg⟩ := h8 7 (by decide)
   rw [J3 (ρ := q0) (l := [(0, va0), (1, va1), (5, (vi ((s0 : Nat) : Int))), (20, (.agg #[(vi x0.At), (vi x0.Sym), (.bool x0.Wide)])), (24, (.agg #[(vi x1.At), (vi x1.Sym), (.bool x1.Wide)]))]) ⟨(h7.1 0 (by decide)).trans rfl, (h7.1 1 (by decide)).trans rfl, (h7.1 5 (by decide)).trans rfl, hv20, hv24, trivial⟩]
   refine WL_aneq (b := (decide (x0.At = x1.At) && (decide (x0.Sym = x1.Sym) && ((x0.Wide == x1.Wide) && true)))) underlying133 (by kernel_rfl) (by kernel_rfl) rfl rfl rfl (FlatEq.cons (by decide) rfl rfl (CellEq.int underlying3) (FlatEq.cons (by decide) rfl rfl (CellEq.int underlying3) (FlatEq.cons (by decide) rfl rfl (CellEq.bool underlying4) (FlatEq.nil)))) ?_
   refine J0 ?_
   refine J7 rfl (fun h9 => ?_) (fun h9 => ?_)
   ·exact Jk hr h9
   replace hr := Jf hr h9
   refine J9 (J1 ?_)
   refine Jmv (vi ((s0 : Nat) : Int)) rfl rfl ?_
   refine Y2 rfl rfl rfl (of_decide_eq_true h3) (inK_len (SRep.le (SRep.mono e0.ro ha0))) ?_
   refine Jsv (vi ((s0 + 1 : Nat) : Int)) rfl rfl ?_
   refine J0 ?_
   exact ⟨_, (Option.some.inj hr).symm, _, _, (J3 ⟨rfl, rfl, rfl, trivial⟩), (e0.trans e1), h6, (inK_inc (of_decide_eq_true h3) (inK_len (SRep.le (SRep.mono e0.ro ha0))))⟩
  replace hr := Jf hr h3
  refine Jr ?_
  exact ⟨_, (Option.some.inj hr).symm, rfl, _, _, rfl, e0, h2⟩
 rintro _ _ ⟨σ1, G2, rfl, ea, h10⟩
 refine J2 (J1 ?_)
 refine Jsv (.bool true) rfl rfl ?_
 refine J0 (Jg ?_)
 obtain rfl := Option.some.inj hr
 exact ⟨[(.bool true)], ⟨rfl, trivial⟩, _, _, _, rfl, ea, h10, ⟨rfl, rfl⟩⟩
end Go.Proofs.YtnglgjgflohkmaaGreat.Sk
