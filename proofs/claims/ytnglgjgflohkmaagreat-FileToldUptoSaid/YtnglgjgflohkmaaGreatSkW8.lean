/- Walks, printed by gen.py. No condition. -/
import Derived.Test.YtnglgjgflohkmaaGreatSkTy
import Derived.Test.YtnglgjgflohkmaaGreatSkW1
import Derived.Test.YtnglgjgflohkmaaGreatSkW2
import Derived.Test.YtnglgjgflohkmaaGreatSkW3
import Derived.Test.YtnglgjgflohkmaaGreatSkW4
namespace Go.Proofs.YtnglgjgflohkmaaGreat.Sk
open Go Go.Proofs.Tryz
set_option linter.unusedVariables false
set_option linter.unusedSimpArgs false
variable {B w : World} {G : GH}
set_option linter.unusedVariables false
set_option maxHeartbeats 4000000
set_option maxRecDepth 100000
def sheerlegref19_Few.l0 (a0 : XObject) (s0 : Nat) : Option (Step Nat (Unit ⊕ Bool)) :=
 bif decide (((s0 : Nat) : Int) < (a0.Symbols.length : Int)) then (idx a0.Symbols ((s0 : Nat) : Int)).bind fun x0 => bif decide ((x0.Name.size : Int) > 300) then some (.done (.inr false)) else some (.next (s0 + 1)) else some (.done (.inl ()))
def sheerlegref19_Few.l1 (a0 : XObject) (s1 : Nat) : Option (Step Nat (Unit ⊕ Bool)) :=
 bif decide (((s1 : Nat) : Int) < (a0.Funcs.length : Int)) then (bif decide (((s1 : Nat) : Int) ≥ 20) then some true else (idx a0.Funcs ((s1 : Nat) : Int)).bind fun x1 => (sheerlegref16_Few.f x1).bind fun t0 => some !t0).bind fun t1 => bif t1 then some (.done (.inr false)) else some (.next (s1 + 1)) else some (.done (.inl ()))
def sheerlegref19_Few.l2 (a0 : XObject) (s2 : Nat) : Option (Step Nat (Unit ⊕ Bool)) :=
 bif decide (((s2 : Nat) : Int) < (a0.Datas.length : Int)) then (bif decide (((s2 : Nat) : Int) ≥ 20) then some true else (idx a0.Datas ((s2 : Nat) : Int)).bind fun x2 => (sheerlegref15_Few.f x2).bind fun t2 => some !t2).bind fun t3 => bif t3 then some (.done (.inr false)) else some (.next (s2 + 1)) else some (.done (.inl ()))
def sheerlegref19_Few.f (a0 : XObject) : Option (Bool) :=
 (loop (sheerlegref19_Few.l0 a0) 0).bind fun t4 => cont t4 fun t5 => (loop (sheerlegref19_Few.l1 a0) 0).bind fun t6 => cont t6 fun t7 => (loop (sheerlegref19_Few.l2 a0) 0).bind fun t8 => cont t8 fun t9 => some (decide ((a0.Symbols.length : Int) ≤ 60))
def sheerlegref19_Few.K (r : Bool) (G0 : GH) (v : Value) (N : List Res) : Prop := v = tup [(.bool r)] ∧ N = []
theorem sheerlegref19_Few.ok {ca0 : List Value} {a0 : XObject} (st : St B w G []) (ha0 : TObject.rep G ca0 a0) {r : Bool} (hr : sheerlegref19_Few.f a0 = some r) :
 Calls Tryz.prog 19 ([(.agg ca0.toArray)] : List Value).toArray w (Ret B G (sheerlegref19_Few.K r)) := by
 obtain ⟨sa0_0, sa0_1, sa0_2, rfl, ha0_0, ha0_1, ha0_2⟩ := ha0
 refine Jc [.tmp 2] func19 rfl ntmps19 rfl rfl ?_
 refine J2 (J1 ?_)
 refine Ju (cs := [sa0_0, sa0_1, sa0_2]) st rfl rfl rfl ?_
 intro b0 w0 h0
 refine Jsv (.bool false) rfl rfl ?_
 refine J0 (J2 (J2 (J1 ?_)))
 refine Jsv (vi 0) rfl rfl ?_
 refine J0 (Jb ?_)
 obtain ⟨t4, h1, hr⟩ := J6 hr
 refine W_loopS (a0 := r) 0 h1 (fun s0 ρ w => ∃ (σ0 : Env) (G1 : GH), ρ = En σ0 [(1, (pt b0 0)), (3, (vi ((s0 : Nat) : Int)))] ∧ Ext G G1 ∧ St B w G1 [.blk b0 [sa0_0, sa0_1, sa0_2] 61] ∧ InK .i64 ((s0 : Nat) : Int)) (fun t5 ρ w => ∃ (σ1 : Env) (G2 : GH), ρ = En σ1 [(1, (pt b0 0))] ∧ Ext G G2 ∧ St B w G2 [.blk b0 [sa0_0, sa0_1, sa0_2] 61]) ⟨_, _, (J3 ⟨rfl, rfl, trivial⟩), (Ext.refl _), h0, (by rfl)⟩ ?_ ?_ ?_
 ·rintro s0 x3 _ _ hr ⟨σ0, G1, rfl, e0, h2, f0⟩
  refine J2 (J2 (J1 ?_))
  refine Jmv (vi ((s0 : Nat) : Int)) rfl rfl ?_
  refine Jfa 0 0 underlying61 rfl ti57 rfl rfl rfl rfl ?_
  refine Jlb [] sa0_0 ti57 h2 rfl rfl rfl ?_
  refine Jd (T := TSymbol) underlying57 (SRep.mono e0.ro ha0_0) rfl rfl ?_
  refine Ji rfl rfl rfl ?_
  refine J0 ?_
  refine J7 rfl (fun h3 => ?_) (fun h3 => ?_)
  ·replace hr := Jx hr h3
   refine J9 (J2 (Jb (J2 (J1 ?_))))
   refine Jfa 0 0 underlying61 rfl ti57 rfl rfl rfl rfl ?_
   refine Jlb [] sa0_0 ti57 h2 rfl rfl rfl ?_
   refine Jmv (vi ((s0 : Nat) : Int)) rfl rfl ?_
   obtain ⟨x0, h4, hr⟩ := J6 hr
   refine Jh (T := TSymbol) underlying57 ti82 h2 (SRep.mono e0.ro ha0_0) rfl rfl rfl h4 ?_
   intro b1 o0 c0 l3 f1
   obtain ⟨rfl, f2, f3, f4, f5⟩ := f1
   refine Jfa 0 o0 underlying82 rfl ti9 rfl rfl rfl rfl ?_
   refine Y4 (v := (.string x0.Name)) ti9 rfl rfl (LiesG.lies l3 h2) rfl ?_
   refine WL_lenS underlying9 rfl rfl ?_
   refine Yh rfl rfl rfl ?_
   refine J0 ?_
   refine J7 rfl (fun h5 => ?_) (fun h5 => ?_)
   ·replace hr := Jx hr h5
    refine J2 (J1 ?_)
    refine Jsv (.bool false) rfl rfl ?_
    refine J0 (Jg ?_)
    refine ⟨_, (Option.some.inj hr).symm, fun h6 => ?_⟩
    replace hr := congrArg some h6
    have h7 := St.takeN 0 h2
    obtain rfl := Option.some.inj hr
    exact ⟨[(.bool false)], ⟨rfl, trivial⟩, _, _, _, rfl, e0, h7, ⟨rfl, rfl⟩⟩
   replace hr := Jf hr h5
   refine J9 (J1 ?_)
   refine Jmv (vi ((s0 : Nat) : Int)) rfl rfl ?_
   refine Y2 rfl rfl rfl (of_decide_eq_true h3) (inK_len (SRep.le (SRep.mono e0.ro ha0_0))) ?_
   refine Jsv (vi ((s0 + 1 : Nat) : Int)) rfl rfl ?_
   refine J0 ?_
   exact ⟨_, (Option.some.inj hr).symm, _, _, (J3 ⟨rfl, rfl, trivial⟩), e0, h2, (inK_inc (of_decide_eq_true h3) (inK_len (SRep.le (SRep.mono e0.ro ha0_0))))⟩
  replace hr := Jf hr h3
  refine Jr ?_
  exact ⟨_, (Option.some.inj hr).symm, rfl, _, _, (J3 ⟨rfl, trivial⟩), e0, h2⟩
 ·rintro t5 _ _ rfl ⟨σ1, G2, rfl, e1, h8⟩
  replace hr := cont_inl hr
  refine J2 (J2 (J1 ?_))
  refine Jsv (vi 0) rfl rfl ?_
  refine J0 (Jb ?_)
  obtain ⟨t6, h9, hr⟩ := J6 hr
  refine W_loopS (a0 := r) 2 h9 (fun s1 ρ w => ∃ (σ2 : Env) (G3 : GH), ρ = En σ2 [(1, (pt b0 0)), (4, (vi ((s1 : Nat) : Int)))] ∧ Ext G2 G3 ∧ St B w G3 [.blk b0 [sa0_0, sa0_1, sa0_2] 61] ∧ InK .i64 ((s1 : Nat) : Int)) (fun t7 ρ w => ∃ (σ3 : Env) (G4 : GH), ρ = En σ3 [(1, (pt b0 0))] ∧ Ext G2 G4 ∧ St B w G4 [.blk b0 [sa0_0, sa0_1, sa0_2] 61]) ⟨_, _, (J3 ⟨rfl, rfl, trivial⟩), (Ext.refl _), h8, (by rfl)⟩ ?_ ?_ ?_
  ·rintro s1 x4 _ _ hr ⟨σ2, G3, rfl, e2, h10, f6⟩
   refine J2 (J2 (J1 ?_))
   refine Jmv (vi ((s1 : Nat) : Int)) rfl rfl ?_
   refine Jfa 1 1 underlying61 rfl ti58 rfl rfl rfl rfl ?_
   refine Jlb [] sa0_1 ti58 h10 rfl rfl rfl ?_
   refine Jd (T := TFunc) underlying58 (SRep.mono (e1.ro.trans e2.ro) ha0_1) rfl rfl ?_
   refine Ji rfl rfl rfl ?_
   refine J0 ?_
   refine J7 rfl (fun h11 => ?_) (fun h11 => ?_)
   ·replace hr := Jx hr h11
    refine J9 (J2 (Jb (J2 (J1 ?_))))
    refine Jmv (vi ((s1 : Nat) : Int)) rfl rfl ?_
    refine Yk rfl rfl rfl ?_
    refine Jmv (.bool (decide (((s1 : Nat) : Int) ≥ 20))) rfl rfl ?_
    obtain ⟨t1, hr, o1⟩ := J6 hr
    refine Jw 8 (fun ρ w => ∃ (σ4 : Env) (G5 : GH), ρ = En σ4 [(1, (pt b0 0)), (4, (vi ((s1 : Nat) : Int))), (38, (.bool t1))] ∧ Ext G3 G5 ∧ St B w G5 [.blk b0 [sa0_0, sa0_1, sa0_2] 61]) ?_ ?_
    ·rcases Y8 (decide (((s1 : Nat) : Int) ≥ 20)) with hb_ | hb_
     ·have h12 : (decide (((s1 : Nat) : Int) ≥ 20)) = true := hb_
      replace hr := Jx hr h12
      refine Jv rfl rfl rfl rfl h12 ?_
      refine Jv rfl rfl rfl rfl h12 ?_
      refine Jv rfl rfl rfl rfl h12 ?_
      refine Jv rfl rfl rfl rfl h12 ?_
      refine Jv rfl rfl rfl rfl h12 ?_
      refine Jv rfl rfl rfl rfl h12 ?_
      refine Jv rfl rfl rfl rfl h12 ?_
      refine Y9 (v := (.bool true)) rfl rfl h12 rfl ?_
      refine J0 ?_
      obtain rfl := Option.some.inj hr
      exact ⟨_, _, (J3 ⟨rfl, rfl, rfl, trivial⟩), (Ext.refl _), h10⟩
     have h13 : (decide (((s1 : Nat) : Int) ≥ 20)) = false := hb_
     replace hr := Jf hr h13
     refine Ja rfl rfl rfl rfl h13 ?_
     refine Jfa 1 1 underlying61 rfl ti58 rfl rfl rfl rfl ?_
     refine Ja rfl rfl rfl rfl h13 ?_
     refine Jlb [] sa0_1 ti58 h10 rfl rfl rfl ?_
     refine Ja rfl rfl rfl rfl h13 ?_
     refine Jmv (vi ((s1 : Nat) : Int)) rfl rfl ?_
     refine Ja rfl rfl rfl rfl h13 ?_
     obtain ⟨x1, h14, hr⟩ := J6 hr
     refine Jh (T := TFunc) underlying58 ti44 h10 (SRep.mono (e1.ro.trans e2.ro) ha0_1) rfl rfl rfl h14 ?_
     intro b2 o2 c1 l4 f7
     obtain ⟨v0, v1, v2, v3, rfl, f8, f9, fa, fb, fc, fd, fe, ff⟩ := f7
     refine Ja rfl rfl rfl rfl h13 ?_
     refine Jy ti44 rfl rfl (LiesG.lies l4 h10) (Nat.le_of_ble_eq_true rfl) ?_
     change WL _ _ _ _ _ _ (upd _ _ (.agg #[(vi x1.Class), v0, (vi x1.Pad), (.bool x1.Nosplit), (vi x1.From), (vi x1.To), v1, v2, v3])) _
     refine Ja rfl rfl rfl rfl h13 ?_
     obtain ⟨t0, h15, hr⟩ := J6 hr
     refine J8 (f := 55) (av := [(.agg #[(vi x1.Class), v0, (vi x1.Pad), (.bool x1.Nosplit), (vi x1.From), (vi x1.To), v1, v2, v3])]) cf55 rfl rfl h10 rfl (fun G6 e3 h16 => sheerlegref16_Few.ok (a0 := x1) h16 (⟨v0, v1, v2, v3, rfl, f8, (SRep.mono e3.ro f9), fa, fb, fc, (SRep.mono e3.ro fd), (SRep.mono e3.ro fe), (SRep.mono e3.ro ff)⟩) h15) ?_
     rintro v4 w1 G7 G8 N0 e4 q0 ⟨rfl, rfl⟩ h17
     refine Ja rfl rfl rfl rfl h13 ?_
     refine Yc rfl rfl ?_
     refine Jt (v := (.bool !t0)) rfl rfl h13 rfl ?_
     refine J0 ?_
     obtain rfl := Option.some.inj hr
     exact ⟨_, _, (J3 ⟨rfl, rfl, rfl, trivial⟩), e4, h17⟩
    rintro _ _ ⟨σ4, G5, rfl, e5, h18⟩
    replace hr := o1
    refine J0 ?_
    refine J7 rfl (fun h19 => ?_) (fun h19 => ?_)
    ·replace hr := Jx hr h19
     refine J2 (J1 ?_)
     refine Jsv (.bool false) rfl rfl ?_
     refine J0 (Jg ?_)
     refine ⟨_, (Option.some.inj hr).symm, fun h1a => ?_⟩
     replace hr := congrArg some h1a
     have h1b := St.takeN 0 h18
     obtain rfl := Option.some.inj hr
     exact ⟨[(.bool false)], ⟨rfl, trivial⟩, _, _, _, rfl, (e1.trans (e2.trans e5)), h1b, ⟨rfl, rfl⟩⟩
    replace hr := Jf hr h19
    refine J9 (J1 ?_)
    refine Jmv (vi ((s1 : Nat) : Int)) rfl rfl ?_
    refine Y2 rfl rfl rfl (of_decide_eq_true h11) (inK_len (SRep.le (SRep.mono (e1.ro.trans e2.ro) ha0_1))) ?_
    refine Jsv (vi ((s1 + 1 : Nat) : Int)) rfl rfl ?_
    refine J0 ?_
    exact ⟨_, (Option.some.inj hr).symm, _, _, (J3 ⟨rfl, rfl, trivial⟩), (e2.trans e5), h18, (inK_inc (of_decide_eq_true h11) (inK_len (SRep.le (SRep.mono (e1.ro.trans e2.ro) ha0_1))))⟩
   replace hr := Jf hr h11
   refine Jr ?_
   exact ⟨_, (Option.some.inj hr).symm, rfl, _, _, (J3 ⟨rfl, trivial⟩), e2, h10⟩
  ·rintro t7 _ _ rfl ⟨σ3, G4, rfl, e6, h1c⟩
   replace hr := cont_inl hr
   refine J2 (J2 (J1 ?_))
   refine Jsv (vi 0) rfl rfl ?_
   refine J0 (Jb ?_)
   obtain ⟨t8, h1d, hr⟩ := J6 hr
   refine W_loopS (a0 := r) 4 h1d (fun s2 ρ w => ∃ (σ5 : Env) (G9 : GH), ρ = En σ5 [(1, (pt b0 0)), (5, (vi ((s2 : Nat) : Int)))] ∧ Ext G4 G9 ∧ St B w G9 [.blk b0 [sa0_0, sa0_1, sa0_2] 61] ∧ InK .i64 ((s2 : Nat) : Int)) (fun t9 ρ w => ∃ (σ6 : Env) (Ga : GH), ρ = En σ6 [(1, (pt b0 0))] ∧ Ext G4 Ga ∧ St B w Ga [.blk b0 [sa0_0, sa0_1, sa0_2] 61]) ⟨_, _, (J3 ⟨rfl, rfl, trivial⟩), (Ext.refl _), h1c, (by rfl)⟩ ?_ ?_ ?_
   ·rintro s2 x5 _ _ hr ⟨σ5, G9, rfl, e7, h1e, fg⟩
    refine J2 (J2 (J1 ?_))
    refine Jmv (vi ((s2 : Nat) : Int)) rfl rfl ?_
    refine Jfa 2 2 underlying61 rfl ti59 rfl rfl rfl rfl ?_
    refine Jlb [] sa0_2 ti59 h1e rfl rfl rfl ?_
    refine Jd (T := TData) underlying59 (SRep.mono (e1.ro.trans (e6.ro.trans e7.ro)) ha0_2) rfl rfl ?_
    refine Ji rfl rfl rfl ?_
    refine J0 ?_
    refine J7 rfl (fun h1f => ?_) (fun h1f => ?_)
    ·replace hr := Jx hr h1f
     refine J9 (J2 (Jb (J2 (J1 ?_))))
     refine Jmv (vi ((s2 : Nat) : Int)) rfl rfl ?_
     refine Yk rfl rfl rfl ?_
     refine Jmv (.bool (decide (((s2 : Nat) : Int) ≥ 20))) rfl rfl ?_
     obtain ⟨t3, hr, o3⟩ := J6 hr
     refine Jw 8 (fun ρ w => ∃ (σ7 : Env) (Gb : GH), ρ = En σ7 [(1, (pt b0 0)), (5, (vi ((s2 : Nat) : Int))), (56, (.bool t3))] ∧ Ext G9 Gb ∧ St B w Gb [.blk b0 [sa0_0, sa0_1, sa0_2] 61]) ?_ ?_
     ·rcases Y8 (decide (((s2 : Nat) : Int) ≥ 20)) with hb_ | hb_
      ·have h1g : (decide (((s2 : Nat) : Int) ≥ 20)) = true := hb_
       replace hr := Jx hr h1g
       refine Jv rfl rfl rfl rfl h1g ?_
       refine Jv rfl rfl rfl rfl h1g ?_
       refine Jv rfl rfl rfl rfl h1g ?_
       refine Jv rfl rfl rfl rfl h1g ?_
       refine Jv rfl rfl rfl rfl h1g ?_
       refine Jv rfl rfl rfl rfl h1g ?_
       refine Jv rfl rfl rfl rfl h1g ?_
       refine Y9 (v := (.bool true)) rfl rfl h1g rfl ?_
       refine J0 ?_
       obtain rfl := Option.some.inj hr
       exact ⟨_, _, (J3 ⟨rfl, rfl, rfl, trivial⟩), (Ext.refl _), h1e⟩
      have h1h : (decide (((s2 : Nat) : Int) ≥ 20)) = false := hb_
      replace hr := Jf hr h1h
      refine Ja rfl rfl rfl rfl h1h ?_
      refine Jfa 2 2 underlying61 rfl ti59 rfl rfl rfl rfl ?_
      refine Ja rfl rfl rfl rfl h1h ?_
      refine Jlb [] sa0_2 ti59 h1e rfl rfl rfl ?_
      refine Ja rfl rfl rfl rfl h1h ?_
      refine Jmv (vi ((s2 : Nat) : Int)) rfl rfl ?_
      refine Ja rfl rfl rfl rfl h1h ?_
      obtain ⟨x2, h1i, hr⟩ := J6 hr
      refine Jh (T := TData) underlying59 ti49 h1e (SRep.mono (e1.ro.trans (e6.ro.trans e7.ro)) ha0_2) rfl rfl rfl h1i ?_
      intro b3 o4 c2 l5 fh
      obtain ⟨v5, v6, rfl, fj, fk, fl⟩ := fh
      refine Ja rfl rfl rfl rfl h1h ?_
      refine Jy ti49 rfl rfl (LiesG.lies l5 h1e) (Nat.le_of_ble_eq_true rfl) ?_
      change WL _ _ _ _ _ _ (upd _ _ (.agg #[(vi x2.Kind), v5, v6])) _
      refine Ja rfl rfl rfl rfl h1h ?_
      obtain ⟨t2, h1j, hr⟩ := J6 hr
      refine J8 (f := 56) (av := [(.agg #[(vi x2.Kind), v5, v6])]) cf56 rfl rfl h1e rfl (fun Gc e8 h1k => sheerlegref15_Few.ok (a0 := x2) h1k (⟨v5, v6, rfl, fj, (SRep.mono e8.ro fk), (SRep.mono e8.ro fl)⟩) h1j) ?_
      rintro v7 w2 Gd Ge N1 e9 q1 ⟨rfl, rfl⟩ h1l
      refine Ja rfl rfl rfl rfl h1h ?_
      refine Yc rfl rfl ?_
      refine Jt (v := (.bool !t2)) rfl rfl h1h rfl ?_
      refine J0 ?_
      obtain rfl := Option.some.inj hr
      exact ⟨_, _, (J3 ⟨rfl, rfl, rfl, trivial⟩), e9, h1l⟩
     rintro _ _ ⟨σ7, Gb, rfl, ea, h1m⟩
     replace hr := o3
     refine J0 ?_
     refine J7 rfl (fun h1n => ?_) (fun h1n => ?_)
     ·replace hr := Jx hr h1n
      refine J2 (J1 ?_)
      refine Jsv (.bool false) rfl rfl ?_
      refine J0 (Jg ?_)
      refine ⟨_, (Option.some.inj hr).symm, fun h1o => ?_⟩
      replace hr := congrArg some h1o
      have h1p := St.takeN 0 h1m
      obtain rfl := Option.some.inj hr
      exact ⟨[(.bool false)], ⟨rfl, trivial⟩, _, _, _, rfl, (e1.trans (e6.trans (e7.trans ea))), h1p, ⟨rfl, rfl⟩⟩
     replace hr := Jf hr h1n
     refine J9 (J1 ?_)
     refine Jmv (vi ((s2 : Nat) : Int)) rfl rfl ?_
     refine Y2 rfl rfl rfl (of_decide_eq_true h1f) (inK_len (SRep.le (SRep.mono (e1.ro.trans (e6.ro.trans e7.ro)) ha0_2))) ?_
     refine Jsv (vi ((s2 + 1 : Nat) : Int)) rfl rfl ?_
     refine J0 ?_
     exact ⟨_, (Option.some.inj hr).symm, _, _, (J3 ⟨rfl, rfl, trivial⟩), (e7.trans ea), h1m, (inK_inc (of_decide_eq_true h1f) (inK_len (SRep.le (SRep.mono (e1.ro.trans (e6.ro.trans e7.ro)) ha0_2))))⟩
    replace hr := Jf hr h1f
    refine Jr ?_
    exact ⟨_, (Option.some.inj hr).symm, rfl, _, _, (J3 ⟨rfl, trivial⟩), e7, h1e⟩
   ·rintro t9 _ _ rfl ⟨σ6, Ga, rfl, eb, h1q⟩
    replace hr := cont_inl hr
    refine J2 (J1 ?_)
    refine Jfa 0 0 underlying61 rfl ti57 rfl rfl rfl rfl ?_
    refine Jlb [] sa0_0 ti57 h1q rfl rfl rfl ?_
    refine Jd (T := TSymbol) underlying57 (SRep.mono (e1.ro.trans (e6.ro.trans eb.ro)) ha0_0) rfl rfl ?_
    refine WL_leq rfl rfl rfl ?_
    refine Jsv (.bool (decide ((a0.Symbols.length : Int) ≤ 60))) rfl rfl ?_
    refine J0 (Jg ?_)
    have h1r := St.takeN 0 h1q
    obtain rfl := Option.some.inj hr
    exact ⟨[(.bool (decide ((a0.Symbols.length : Int) ≤ 60)))], ⟨rfl, trivial⟩, _, _, _, rfl, (e1.trans (e6.trans eb)), h1r, ⟨rfl, rfl⟩⟩
   rintro a rfl; exact Option.some.inj hr
  rintro a rfl; exact Option.some.inj hr
 rintro a rfl; exact Option.some.inj hr
def object_defines.f (a0 : XObject) (a1 : XSymbol) (a2 : Int) : Option (Bool) :=
 bif decide (a2 < 0) then none else (object_Items.f a0).bind fun t0 => bif decide (a2 ≥ t0) then none else bif decide (a2 < (a0.Funcs.length : Int)) then (bif decide (a1.Sort_ = 1) then some () else none).bind fun t1 => some (decide (a1.Def = a2)) else (bif decide (a1.Sort_ = 2) then some (decide (a1.Def = (IntKind.wrap .i64 (a2 - (a0.Funcs.length : Int))))) else some false).bind fun t2 => some t2
def object_defines.K (r : Bool) (G69 : GH) (v : Value) (N : List Res) : Prop := v = tup [(.bool r)] ∧ N = []
theorem object_defines.ok {ca0 : List Value} {a0 : XObject} {ca1 : List Value} {a1 : XSymbol} {a2 : Int} (st : St B w G []) (ha0 : TObject.rep G ca0 a0) (ha1 : TSymbol.rep G ca1 a1) (ha2 : InK .i64 a2) {r : Bool} (hr : object_defines.f a0 a1 a2 = some r) :
 Calls Tryz.prog 189 ([(.agg ca0.toArray), (.agg ca1.toArray), (vi a2)] : List Value).toArray w (Ret B G (object_defines.K r)) := by
 obtain ⟨sa0_0, sa0_1, sa0_2, rfl, ha0_0, ha0_1, ha0_2⟩ := ha0
 obtain ⟨rfl, ha1_0, ha1_2, ha1_3, ha1_4⟩ := ha1
 refine Jc [.tmp 6] func189 rfl ntmps189 rfl rfl ?_
 refine J2 (J1 ?_)
 refine Ju (cs := [sa0_0, sa0_1, sa0_2]) st rfl rfl rfl ?_
 intro b0 w0 h0
 refine Ju (cs := [(.string a1.Name), (.bool a1.Local), (vi a1.Sort_), (vi a1.Kind), (vi a1.Def)]) h0 rfl rfl rfl ?_
 intro b1 w1 h1
 refine Jsv (.bool false) rfl rfl ?_
 refine J0 (J2 (Jb (J2 (J2 (J1 ?_)))))
 refine Jmv (vi a2) rfl rfl ?_
 refine Ji rfl rfl rfl ?_
 refine Jsv (.bool (decide (a2 < 0))) rfl rfl ?_
 refine J0 ?_
 refine J7 rfl (fun h2 => ?_) (fun h2 => ?_)
 ·exact Jk hr h2
 replace hr := Jf hr h2
 refine J1 ?_
 refine Jmv (vi a2) rfl rfl ?_
 refine Jl (l1 := [_]) (vs := [sa0_0, sa0_1, sa0_2]) ti61 h1 rfl rfl rfl rfl ?_
 obtain ⟨t0, h3, hr⟩ := J6 hr
 refine J8 (f := 86) (av := [(.agg #[sa0_0, sa0_1, sa0_2])]) cf86 rfl rfl h1 rfl (fun G0 e0 h4 => object_Items.ok (a0 := a0) h4 (⟨sa0_0, sa0_1, sa0_2, rfl, (SRep.mono e0.ro ha0_0), (SRep.mono e0.ro ha0_1), (SRep.mono e0.ro ha0_2)⟩) h3) ?_
 rintro v0 w2 G1 G2 N0 e1 q0 ⟨rfl, rfl, f0⟩ h5
 refine Yk rfl rfl rfl ?_
 refine Jsv (.bool (decide (a2 ≥ t0))) rfl rfl ?_
 refine J0 ?_
 refine J7 rfl (fun h6 => ?_) (fun h6 => ?_)
 ·exact Jk hr h6
 replace hr := Jf hr h6
 refine J2 (J1 ?_)
 refine Jmv (vi a2) rfl rfl ?_
 refine Jfa 1 1 underlying61 rfl ti58 rfl rfl rfl rfl ?_
 refine Jlb [_] sa0_1 ti58 h5 rfl rfl rfl ?_
 refine Jd (T := TFunc) underlying58 (SRep.mono e1.ro ha0_1) rfl rfl ?_
 refine Ji rfl rfl rfl ?_
 refine Jsv (.bool (decide (a2 < (a0.Funcs.length : Int)))) rfl rfl ?_
 refine J0 ?_
 refine J7 rfl (fun h7 => ?_) (fun h7 => ?_)
 ·replace hr := Jx hr h7
  refine J2 (J1 ?_)
  refine Jfa 2 2 underlying82 rfl ti3 rfl rfl rfl rfl ?_
  refine Jlb [] (vi a1.Sort_) ti3 h5 rfl rfl rfl ?_
  refine Y3 rfl rfl rfl ?_
  refine Jmv (.bool (decide (a1.Sort_ = 1))) rfl rfl ?_
  obtain ⟨t1, hr, o0⟩ := J6 hr
  refine Jw 5 (fun ρ w => ∃ (σ0 : Env) (G3 : GH), ρ = En σ0 [(2, (vi a2)), (3, (pt b0 0)), (4, (pt b1 0)), (6, (.bool false)), (7, (.bool (decide (a2 ≥ t0)))), (28, (.bool (decide (a1.Def = a2))))] ∧ Ext G2 G3 ∧ St B w G3 [.blk b0 [sa0_0, sa0_1, sa0_2] 61, .blk b1 [(.string a1.Name), (.bool a1.Local), (vi a1.Sort_), (vi a1.Kind), (vi a1.Def)] 82]) ?_ ?_
  ·rcases Y8 (decide (a1.Sort_ = 1)) with hb_ | hb_
   ·have h8 : (decide (a1.Sort_ = 1)) = true := hb_
    replace hr := Jx hr h8
    refine Ja rfl rfl rfl rfl h8 ?_
    refine Jfa 4 4 underlying82 rfl ti3 rfl rfl rfl rfl ?_
    refine Ja rfl rfl rfl rfl h8 ?_
    refine Jlb [] (vi a1.Def) ti3 h5 rfl rfl rfl ?_
    refine Ja rfl rfl rfl rfl h8 ?_
    refine Jmv (vi a2) rfl rfl ?_
    refine Ja rfl rfl rfl rfl h8 ?_
    refine Y3 rfl rfl rfl ?_
    refine Y9 (v := (.bool (decide (a1.Def = a2)))) rfl rfl h8 rfl ?_
    refine J0 ?_
    have h9 := St.pick 1 rfl h5
    obtain rfl := Option.some.inj hr
    exact ⟨_, _, (J3 ⟨rfl, rfl, rfl, rfl, rfl, rfl, trivial⟩), (Ext.refl _), h9⟩
   exact Yo hr hb_
  rintro _ _ ⟨σ0, G3, rfl, e2, h10⟩
  replace hr := o0
  refine Jsv (.bool (decide (a1.Def = a2))) rfl rfl ?_
  refine J0 (Jg ?_)
  have h11 := St.takeN 0 h10
  obtain rfl := Option.some.inj hr
  exact ⟨[(.bool (decide (a1.Def = a2)))], ⟨rfl, trivial⟩, _, _, _, rfl, (e1.trans e2), h11, ⟨rfl, rfl⟩⟩
 replace hr := Jf hr h7
 refine J9 (J2 (J1 ?_))
 refine Jfa 2 2 underlying82 rfl ti3 rfl rfl rfl rfl ?_
 refine Jlb [] (vi a1.Sort_) ti3 h5 rfl rfl rfl ?_
 refine Y3 rfl rfl rfl ?_
 refine Jmv (.bool (decide (a1.Sort_ = 2))) rfl rfl ?_
 obtain ⟨t2, hr, o1⟩ := J6 hr
 refine Jw 9 (fun ρ w => ∃ (σ1 : Env) (G4 : GH), ρ = En σ1 [(2, (vi a2)), (3, (pt b0 0)), (4, (pt b1 0)), (6, (.bool false)), (7, (.bool (decide (a2 ≥ t0)))), (41, (.bool t2))] ∧ Ext G2 G4 ∧ St B w G4 [.blk b0 [sa0_0, sa0_1, sa0_2] 61, .blk b1 [(.string a1.Name), (.bool a1.Local), (vi a1.Sort_), (vi a1.Kind), (vi a1.Def)] 82]) ?_ ?_
 ·rcases Y8 (decide (a1.Sort_ = 2)) with hb_ | hb_
  ·have h12 : (decide (a1.Sort_ = 2)) = true := hb_
   replace hr := Jx hr h12
   refine Ja rfl rfl rfl rfl h12 ?_
   refine Jfa 4 4 underlying82 rfl ti3 rfl rfl rfl rfl ?_
   refine Ja rfl rfl rfl rfl h12 ?_
   refine Jlb [] (vi a1.Def) ti3 h5 rfl rfl rfl ?_
   refine Ja rfl rfl rfl rfl h12 ?_
   refine Jmv (vi a2) rfl rfl ?_
   refine Ja rfl rfl rfl rfl h12 ?_
   refine Jfa 1 1 underlying61 rfl ti58 rfl rfl rfl rfl ?_
   refine Ja rfl rfl rfl rfl h12 ?_
   refine Jlb [_] sa0_1 ti58 h5 rfl rfl rfl ?_
   refine Ja rfl rfl rfl rfl h12 ?_
   refine Jd (T := TFunc) underlying58 (SRep.mono e1.ro ha0_1) rfl rfl ?_
   refine Ja rfl rfl rfl rfl h12 ?_
   refine Yn rfl rfl rfl ?_
   refine Ja rfl rfl rfl rfl h12 ?_
   refine Y3 rfl rfl rfl ?_
   refine Y9 (v := (.bool (decide (a1.Def = (IntKind.wrap .i64 (a2 - (a0.Funcs.length : Int))))))) rfl rfl h12 rfl ?_
   refine J0 ?_
   have h13 := St.pick 1 rfl h5
   obtain rfl := Option.some.inj hr
   exact ⟨_, _, (J3 ⟨rfl, rfl, rfl, rfl, rfl, rfl, trivial⟩), (Ext.refl _), h13⟩
  have h14 : (decide (a1.Sort_ = 2)) = false := hb_
  replace hr := Jf hr h14
  refine Jv rfl rfl rfl rfl h14 ?_
  refine Jv rfl rfl rfl rfl h14 ?_
  refine Jv rfl rfl rfl rfl h14 ?_
  refine Jv rfl rfl rfl rfl h14 ?_
  refine Jv rfl rfl rfl rfl h14 ?_
  refine Jv rfl rfl rfl rfl h14 ?_
  refine Jv rfl rfl rfl rfl h14 ?_
  refine Jv rfl rfl rfl rfl h14 ?_
  refine Jt (v := (.bool false)) rfl rfl h14 rfl ?_
  refine J0 ?_
  have h15 := St.pick 1 rfl h5
  obtain rfl := Option.some.inj hr
  exact ⟨_, _, (J3 ⟨rfl, rfl, rfl, rfl, rfl, rfl, trivial⟩), (Ext.refl _), h15⟩
 rintro _ _ ⟨σ1, G4, rfl, e3, h16⟩
 replace hr := o1
 refine Jsv (.bool t2) rfl rfl ?_
 refine J0 (Jg ?_)
 have h17 := St.takeN 0 h16
 obtain rfl := Option.some.inj hr
 exact ⟨[(.bool t2)], ⟨rfl, trivial⟩, _, _, _, rfl, (e1.trans e3), h17, ⟨rfl, rfl⟩⟩
def object_Definer_1.f (a0 : XSymbol) (a1_ : XObject) (a2_0 : Int) : Option (Bool) :=
 (object_defines.f a1_ a0 a2_0).bind fun t0 => some t0
def object_Definer_1.K (ba1 : Nat) (ba2 : Nat) (a2_0 : Int) (a1_ : XObject) (r : Bool) (G20 : GH) (v : Value) (N : List Res) : Prop := ∃ (v24 : Value) (v26 : Value) (v28 : Value), v = tup [(.bool r)] ∧ N = [.blk ba1 [v24, v26, v28] 61, .blk ba2 [(vi a2_0)] 3] ∧ SRep 82 TSymbol G20 v24 a1_.Symbols ∧ SRep 44 TFunc G20 v26 a1_.Funcs ∧ SRep 49 TData G20 v28 a1_.Datas
theorem object_Definer_1.ok {ca0 : List Value} {a0 : XSymbol} {ba1 : Nat} {ca1_ : List Value} {a1_ : XObject} {ba2 : Nat} {a2_0 : Int} (st : St B w G [.blk ba1 ca1_ 61, .blk ba2 [(vi a2_0)] 3]) (ha0 : TSymbol.rep G ca0 a0) (ha1_ : TObject.rep G ca1_ a1_) (ha2_0 : InK .i64 a2_0) {r : Bool} (hr : object_Definer_1.f a0 a1_ a2_0 = some r) :
 Calls Tryz.prog 188 ([(.agg ca0.toArray), (pt ba1 0), (pt ba2 0)] : List Value).toArray w (Ret B G (object_Definer_1.K ba1 ba2 a2_0 a1_ r)) := by
 obtain ⟨rfl, ha0_0, ha0_2, ha0_3, ha0_4⟩ := ha0
 obtain ⟨sa1__0, sa1__1, sa1__2, rfl, ha1__0, ha1__1, ha1__2⟩ := ha1_
 refine Jc [.tmp 4] func188 rfl ntmps188 rfl rfl ?_
 refine J2 (J1 ?_)
 refine Ju (cs := [(.string a0.Name), (.bool a0.Local), (vi a0.Sort_), (vi a0.Kind), (vi a0.Def)]) st rfl rfl rfl ?_
 intro b0 w0 h0
 refine Jsv (.bool false) rfl rfl ?_
 refine J0 (J2 (J1 ?_))
 refine Jl (l1 := [_]) (vs := [sa1__0, sa1__1, sa1__2]) ti61 h0 rfl rfl rfl rfl ?_
 refine Jl (l1 := []) (vs := [(.string a0.Name), (.bool a0.Local), (vi a0.Sort_), (vi a0.Kind), (vi a0.Def)]) ti82 h0 rfl rfl rfl rfl ?_
 refine Jlb [_, _] (vi a2_0) ti3 h0 rfl rfl rfl ?_
 obtain ⟨t0, h1, hr⟩ := J6 hr
 refine J8 (f := 189) (av := [(.agg #[sa1__0, sa1__1, sa1__2]), (.agg #[(.string a0.Name), (.bool a0.Local), (vi a0.Sort_), (vi a0.Kind), (vi a0.Def)]), (vi a2_0)]) cf189 rfl rfl h0 rfl (fun G0 e0 h2 => object_defines.ok (a0 := a1_) (a1 := a0) h2 (⟨sa1__0, sa1__1, sa1__2, rfl, (SRep.mono e0.ro ha1__0), (SRep.mono e0.ro ha1__1), (SRep.mono e0.ro ha1__2)⟩) (⟨rfl, ha0_0, ha0_2, ha0_3, ha0_4⟩) ha2_0 h1) ?_
 rintro v0 w1 G1 G2 N0 e1 q0 ⟨rfl, rfl⟩ h3
 refine Jsv (.bool t0) rfl rfl ?_
 refine J0 (Jg ?_)
 have h4 := St.pick 2 rfl h3
 have h5 := St.pick 2 rfl h4
 have h6 := St.takeN 2 h5
 obtain rfl := Option.some.inj hr
 exact ⟨[(.bool t0)], ⟨rfl, trivial⟩, _, _, _, rfl, e1, h6, ⟨sa1__0, sa1__1, sa1__2, rfl, rfl, (SRep.mono e1.ro ha1__0), (SRep.mono e1.ro ha1__1), (SRep.mono e1.ro ha1__2)⟩⟩
def slices_IndexFunc_int_int.l0 (a0 : (List Int)) (a1_c0_0 : (List XInstr)) (s0 : Nat) : Option (Step Nat Unit) :=
 bif decide (((s0 : Nat) : Int) < (a0.length : Int)) then (idx a0 ((s0 : Nat) : Int)).bind fun x0 => (flow_Check_1.f x0 a1_c0_0).bind fun t0 => bif t0 then none else some (.next (s0 + 1)) else some (.done ())
def slices_IndexFunc_int_int.f (a0 : (List Int)) (a1_c0_0 : (List XInstr)) : Option (Unit) :=
 (loop (slices_IndexFunc_int_int.l0 a0 a1_c0_0) 0).bind fun t1 => some ()
def slices_IndexFunc_int_int.K (ba1_c0 : Nat) (va1_c0_0 : Value) (r : Unit) (G0 : GH) (v : Value) (N : List Res) : Prop := v = tup [(vi (-1))] ∧ N = [.blk ba1_c0 [va1_c0_0] 41]
theorem slices_IndexFunc_int_int.ok {va0 : Value} {a0 : (List Int)} {ba1_c0 : Nat} {va1_c0_0 : Value} {a1_c0_0 : (List XInstr)} (st : St B w G [.blk ba1_c0 [va1_c0_0] 41]) (ha0 : SRep 3 (tInt .i64) G va0 a0) (ha1_c0_0 : SRep 54 TInstr G va1_c0_0 a1_c0_0) {r : Unit} (hr : slices_IndexFunc_int_int.f a0 a1_c0_0 = some r) :
 Calls Tryz.prog 167 ([va0, (.func (.func 265) #[] #[(pt ba1_c0 0)])] : List Value).toArray w (Ret B G (slices_IndexFunc_int_int.K ba1_c0 va1_c0_0 r)) := by
 refine Jc [.tmp 4] func167 rfl ntmps167 rfl rfl ?_
 refine J2 (J1 ?_)
 refine Jsv (vi 0) rfl rfl ?_
 refine J0 (J2 (J2 (J1 ?_)))
 refine Jmv va0 rfl rfl ?_
 refine Jd (T := (tInt .i64)) underlying39 ha0 rfl rfl ?_
 refine Jmv (vi 0) rfl rfl ?_
 refine J0 (Jb ?_)
 obtain ⟨t1, h0, hr⟩ := J6 hr
 refine Js 0 h0 (fun s0 ρ w => ∃ (σ0 : Env) (G1 : GH), ρ = En σ0 [(0, va0), (1, (.func (.func 265) #[] #[(pt ba1_c0 0)])), (7, (vi (a0.length : Int))), (8, (vi ((s0 : Nat) : Int)))] ∧ Ext G G1 ∧ St B w G1 [.blk ba1_c0 [va1_c0_0] 41] ∧ InK .i64 ((s0 : Nat) : Int)) (fun t2 ρ w => ∃ (σ1 : Env) (G2 : GH), ρ = En σ1 [] ∧ Ext G G2 ∧ St B w G2 [.blk ba1_c0 [va1_c0_0] 41]) ⟨_, _, (J3 ⟨rfl, rfl, rfl, rfl, trivial⟩), (Ext.refl _), st, (by rfl)⟩ ?_ ?_
 ·rintro s0 x1 _ _ hr ⟨σ0, G1, rfl, e0, h1, f0⟩
  refine J2 (J1 ?_)
  refine Ji rfl rfl rfl ?_
  refine J0 (J2 ?_)
  refine J7 rfl (fun h2 => ?_) (fun h2 => ?_)
  ·replace hr := Jx hr h2
   refine J9 (J2 (Jb (J2 (J1 ?_))))
   refine Jmv (vi ((s0 : Nat) : Int)) rfl rfl ?_
   refine Jsv (vi ((s0 : Nat) : Int)) rfl rfl ?_
   refine J0 (J2 (J1 ?_))
   refine Jmv (.func (.func 265) #[] #[(pt ba1_c0 0)]) rfl rfl ?_
   refine Jmv va0 rfl rfl ?_
   refine Jmv (vi ((s0 : Nat) : Int)) rfl rfl ?_
   obtain ⟨x0, h3, hr⟩ := J6 hr
   refine Jh (T := (tInt .i64)) underlying39 ti3 h1 (SRep.mono e0.ro ha0) rfl rfl rfl h3 ?_
   intro b0 o0 c0 l3 f1
   obtain ⟨rfl, f2⟩ := f1
   refine Y4 (v := (vi x0)) ti3 rfl rfl (LiesG.lies l3 h1) rfl ?_
   obtain ⟨t0, h4, hr⟩ := J6 hr
   refine Jn (f := 265) (av := [(vi x0), (pt ba1_c0 0)]) cf265 rfl rfl h1 rfl (fun G3 e1 h5 => flow_Check_1.ok h5 f2 (SRep.mono (e0.ro.trans e1.ro) ha1_c0_0) h4) ?_
   rintro v0 w0 G4 G5 N0 e2 q0 ⟨rfl, rfl⟩ h6
   refine J0 ?_
   refine J7 rfl (fun h7 => ?_) (fun h7 => ?_)
   ·exact Jk hr h7
   replace hr := Jf hr h7
   refine J9 (J1 ?_)
   refine Y2 rfl rfl rfl (of_decide_eq_true h2) (inK_len (SRep.le ha0)) ?_
   refine Jmv (vi ((s0 + 1 : Nat) : Int)) rfl rfl ?_
   refine J0 ?_
   exact ⟨_, (Option.some.inj hr).symm, _, _, (J3 ⟨rfl, rfl, rfl, rfl, trivial⟩), (e0.trans e2), h6, (inK_inc (of_decide_eq_true h2) (inK_len (SRep.le ha0)))⟩
  replace hr := Jf hr h2
  refine Jr ?_
  exact ⟨_, (Option.some.inj hr).symm, rfl, _, _, rfl, e0, h1⟩
 rintro _ _ ⟨σ1, G2, rfl, e3, h8⟩
 refine J2 (J1 ?_)
 refine Jsv (vi (-1)) rfl rfl ?_
 refine J0 (Jg ?_)
 obtain rfl := Option.some.inj hr
 exact ⟨[(vi (-1))], ⟨rfl, trivial⟩, _, _, _, rfl, e3, h8, ⟨rfl, rfl⟩⟩
def slices_ContainsFunc_int_int.f (a0 : (List Int)) (a1_c0_0 : (List XInstr)) : Option (Unit) :=
 (slices_IndexFunc_int_int.f a0 a1_c0_0).bind fun t0 => some ()
def slices_ContainsFunc_int_int.K (ba1_c0 : Nat) (va1_c0_0 : Value) (r : Unit) (G16 : GH) (v : Value) (N : List Res) : Prop := v = tup [(.bool false)] ∧ N = [.blk ba1_c0 [va1_c0_0] 41]
theorem slices_ContainsFunc_int_int.ok {va0 : Value} {a0 : (List Int)} {ba1_c0 : Nat} {va1_c0_0 : Value} {a1_c0_0 : (List XInstr)} (st : St B w G [.blk ba1_c0 [va1_c0_0] 41]) (ha0 : SRep 3 (tInt .i64) G va0 a0) (ha1_c0_0 : SRep 54 TInstr G va1_c0_0 a1_c0_0) {r : Unit} (hr : slices_ContainsFunc_int_int.f a0 a1_c0_0 = some r) :
 Calls Tryz.prog 106 ([va0, (.func (.func 265) #[] #[(pt ba1_c0 0)])] : List Value).toArray w (Ret B G (slices_ContainsFunc_int_int.K ba1_c0 va1_c0_0 r)) := by
 refine Jc [.tmp 4] func106 rfl ntmps106 rfl rfl ?_
 refine J2 (J1 ?_)
 refine Jsv (.bool false) rfl rfl ?_
 refine J0 (J2 (J1 ?_))
 refine Jmv va0 rfl rfl ?_
 refine Jmv (.func (.func 265) #[] #[(pt ba1_c0 0)]) rfl rfl ?_
 obtain ⟨t0, h0, hr⟩ := J6 hr
 refine Jn (f := 167) (av := [va0, (.func (.func 265) #[] #[(pt ba1_c0 0)])]) cf167 rfl rfl st rfl (fun G0 e0 h1 => slices_IndexFunc_int_int.ok h1 (SRep.mono e0.ro ha0) (SRep.mono e0.ro ha1_c0_0) h0) ?_
 rintro v0 w0 G1 G2 N0 e1 q0 ⟨rfl, rfl⟩ h2
 refine Yk rfl rfl rfl ?_
 change WL _ _ _ _ _ _ (upd _ _ (.bool false)) _
 refine Jsv (.bool false) rfl rfl ?_
 refine J0 (Jg ?_)
 obtain rfl := Option.some.inj hr
 exact ⟨[(.bool false)], ⟨rfl, trivial⟩, _, _, _, rfl, e1, h2, ⟨rfl, rfl⟩⟩
def op_Name.f (a0 : Int) : Option (ByteArray) :=
 (op_names.f).bind fun t0 => (bif decide (a0 < 1) then none else some ()).bind fun t1 => bif decide (a0 > 28) then none else bif (decide (0 ≤ (IntKind.wrap .i64 (a0 - 1))) && decide ((IntKind.wrap .i64 (a0 - 1)) < 28)) then (idx t0 (IntKind.wrap .i64 (a0 - 1))).bind fun x0 => some x0 else none
def op_Name.K (r : ByteArray) (G42 : GH) (v : Value) (N : List Res) : Prop := v = tup [(.string r)] ∧ N = [] ∧ r.size ≤ SB
theorem op_Name.ok {a0 : Int} (st : St B w G []) (ha0 : InK .i64 a0) {r : ByteArray} (hr : op_Name.f a0 = some r) :
 Calls Tryz.prog 208 ([(vi a0)] : List Value).toArray w (Ret B G (op_Name.K r)) := by
 refine Jc [.tmp 2] func208 rfl ntmps208 rfl rfl ?_
 refine J2 (J1 ?_)
 refine Jsv (.string ({data := #[]} : ByteArray)) rfl rfl ?_
 refine J0 (J2 (J1 ?_))
 obtain ⟨t0, h0, hr⟩ := J6 hr
 refine J8 (f := 241) (av := []) cf241 rfl rfl st rfl (fun G0 e0 h1 => op_names.ok h1 h0) ?_
 rintro v0 w0 G1 G2 N0 e1 q0 ⟨c0, rfl, rfl, f0, f1⟩ h2
 refine Jo ti276 h2 rfl ?_
 intro b0 w1 h3
 have f2 : EAll tStr G2 [(.string (⟨#[]⟩ : ByteArray)), (.string (⟨#[]⟩ : ByteArray)), (.string (⟨#[]⟩ : ByteArray)), (.string (⟨#[]⟩ : ByteArray)), (.string (⟨#[]⟩ : ByteArray)), (.string (⟨#[]⟩ : ByteArray)), (.string (⟨#[]⟩ : ByteArray)), (.string (⟨#[]⟩ : ByteArray)), (.string (⟨#[]⟩ : ByteArray)), (.string (⟨#[]⟩ : ByteArray)), (.string (⟨#[]⟩ : ByteArray)), (.string (⟨#[]⟩ : ByteArray)), (.string (⟨#[]⟩ : ByteArray)), (.string (⟨#[]⟩ : ByteArray)), (.string (⟨#[]⟩ : ByteArray)), (.string (⟨#[]⟩ : ByteArray)), (.string (⟨#[]⟩ : ByteArray)), (.string (⟨#[]⟩ : ByteArray)), (.string (⟨#[]⟩ : ByteArray)), (.string (⟨#[]⟩ : ByteArray)), (.string (⟨#[]⟩ : ByteArray)), (.string (⟨#[]⟩ : ByteArray)), (.string (⟨#[]⟩ : ByteArray)), (.string (⟨#[]⟩ : ByteArray)), (.string (⟨#[]⟩ : ByteArray)), (.string (⟨#[]⟩ : ByteArray)), (.string (⟨#[]⟩ : ByteArray)), (.string (⟨#[]⟩ : ByteArray))] [(⟨#[]⟩ : ByteArray), (⟨#[]⟩ : ByteArray), (⟨#[]⟩ : ByteArray), (⟨#[]⟩ : ByteArray), (⟨#[]⟩ : ByteArray), (⟨#[]⟩ : ByteArray), (⟨#[]⟩ : ByteArray), (⟨#[]⟩ : ByteArray), (⟨#[]⟩ : ByteArray), (⟨#[]⟩ : ByteArray), (⟨#[]⟩ : ByteArray), (⟨#[]⟩ : ByteArray), (⟨#[]⟩ : ByteArray), (⟨#[]⟩ : ByteArray), (⟨#[]⟩ : ByteArray), (⟨#[]⟩ : ByteArray), (⟨#[]⟩ : ByteArray), (⟨#[]⟩ : ByteArray), (⟨#[]⟩ : ByteArray), (⟨#[]⟩ : ByteArray), (⟨#[]⟩ : ByteArray), (⟨#[]⟩ : ByteArray), (⟨#[]⟩ : ByteArray), (⟨#[]⟩ : ByteArray), (⟨#[]⟩ : ByteArray), (⟨#[]⟩ : ByteArray), (⟨#[]⟩ : ByteArray), (⟨#[]⟩ : ByteArray)] := ⟨_, _, rfl, ⟨rfl, (Nat.le_of_ble_eq_true rfl)⟩, ⟨_, _, rfl, ⟨rfl, (Nat.le_of_ble_eq_true rfl)⟩, ⟨_, _, rfl, ⟨rfl, (Nat.le_of_ble_eq_true rfl)⟩, ⟨_, _, rfl, ⟨rfl, (Nat.le_of_ble_eq_true rfl)⟩, ⟨_, _, rfl, ⟨rfl, (Nat.le_of_ble_eq_true rfl)⟩, ⟨_, _, rfl, ⟨rfl, (Nat.le_of_ble_eq_true rfl)⟩, ⟨_, _, rfl, ⟨rfl, (Nat.le_of_ble_eq_true rfl)⟩, ⟨_, _, rfl, ⟨rfl, (Nat.le_of_ble_eq_true rfl)⟩, ⟨_, _, rfl, ⟨rfl, (Nat.le_of_ble_eq_true rfl)⟩, ⟨_, _, rfl, ⟨rfl, (Nat.le_of_ble_eq_true rfl)⟩, ⟨_, _, rfl, ⟨rfl, (Nat.le_of_ble_eq_true rfl)⟩, ⟨_, _, rfl, ⟨rfl, (Nat.le_of_ble_eq_true rfl)⟩, ⟨_, _, rfl, ⟨rfl, (Nat.le_of_ble_eq_true rfl)⟩, ⟨_, _, rfl, ⟨rfl, (Nat.le_of_ble_eq_true rfl)⟩, ⟨_, _, rfl, ⟨rfl, (Nat.le_of_ble_eq_true rfl)⟩, ⟨_, _, rfl, ⟨rfl, (Nat.le_of_ble_eq_true rfl)⟩, ⟨_, _, rfl, ⟨rfl, (Nat.le_of_ble_eq_true rfl)⟩, ⟨_, _, rfl, ⟨rfl, (Nat.le_of_ble_eq_true rfl)⟩, ⟨_, _, rfl, ⟨rfl, (Nat.le_of_ble_eq_true rfl)⟩, ⟨_, _, rfl, ⟨rfl, (Nat.le_of_ble_eq_true rfl)⟩, ⟨_, _, rfl, ⟨rfl, (Nat.le_of_ble_eq_true rfl)⟩, ⟨_, _, rfl, ⟨rfl, (Nat.le_of_ble_eq_true rfl)⟩, ⟨_, _, rfl, ⟨rfl, (Nat.le_of_ble_eq_true rfl)⟩, ⟨_, _, rfl, ⟨rfl, (Nat.le_of_ble_eq_true rfl)⟩, ⟨_, _, rfl, ⟨rfl, (Nat.le_of_ble_eq_true rfl)⟩, ⟨_, _, rfl, ⟨rfl, (Nat.le_of_ble_eq_true rfl)⟩, ⟨_, _, rfl, ⟨rfl, (Nat.le_of_ble_eq_true rfl)⟩, ⟨_, _, rfl, ⟨rfl, (Nat.le_of_ble_eq_true rfl)⟩, rfl⟩⟩⟩⟩⟩⟩⟩⟩⟩⟩⟩⟩⟩⟩⟩⟩⟩⟩⟩⟩⟩⟩⟩⟩⟩⟩⟩⟩
 refine WL_storeA (l1 := []) (vs := c0) ti276 h3 rfl rfl f1 rfl (EAll.one (EAll.mono q0 f0)) ?_
 intro w2 h4
 refine J0 (J2 (J2 (J1 ?_)))
 refine Jmv (vi a0) rfl rfl ?_
 refine Ji rfl rfl rfl ?_
 refine Jmv (.bool (decide (a0 < 1))) rfl rfl ?_
 obtain ⟨t1, hr, o0⟩ := J6 hr
 refine Jw 3 (fun ρ w => ∃ (σ0 : Env) (G3 : GH), ρ = En σ0 [(0, (vi a0)), (3, (pt b0 0)), (10, (.bool (decide (a0 > 28))))] ∧ Ext G2 G3 ∧ St B w G3 [.blk b0 c0 276]) ?_ ?_
 ·rcases Y8 (decide (a0 < 1)) with hb_ | hb_
  ·exact Jk hr hb_
  have h5 : (decide (a0 < 1)) = false := hb_
  replace hr := Jf hr h5
  refine Ja rfl rfl rfl rfl h5 ?_
  refine Jmv (vi a0) rfl rfl ?_
  refine Ja rfl rfl rfl rfl h5 ?_
  refine Yh rfl rfl rfl ?_
  refine Jt (v := (.bool (decide (a0 > 28)))) rfl rfl h5 rfl ?_
  refine J0 ?_
  obtain rfl := Option.some.inj hr
  exact ⟨_, _, (J3 ⟨rfl, rfl, rfl, trivial⟩), (Ext.refl _), h4⟩
 rintro _ _ ⟨σ0, G3, rfl, e2, h6⟩
 replace hr := o0
 refine J0 ?_
 refine J7 rfl (fun h7 => ?_) (fun h7 => ?_)
 ·exact Jk hr h7
 replace hr := Jf hr h7
 refine J9 (J2 (J1 ?_))
 refine Jmv (vi a0) rfl rfl ?_
 refine Yn rfl rfl rfl ?_
 obtain ⟨h8, hr⟩ := Ya hr
 refine Yb underlying276 ti9 rfl rfl rfl (of_decide_eq_true (band h8).1) (of_decide_eq_true (band h8).2) ?_
 obtain ⟨x0, h9, hr⟩ := J6 hr
 refine WL_loadArr (l1 := []) (T := tStr) ti9 rfl h6 (EAll.mono e2.ro (EAll.mono q0 f0)) rfl rfl (idx_nat h9) ?_
 intro c1 f3
 obtain ⟨rfl, f4⟩ := one_str f3
 refine Jsv (.string x0) rfl rfl ?_
 refine J0 (Jg ?_)
 have h10 := St.takeN 0 h6
 obtain rfl := Option.some.inj hr
 exact ⟨[(.string x0)], ⟨rfl, trivial⟩, _, _, _, rfl, (e1.trans e2), h10, ⟨rfl, rfl, f4⟩⟩
def op_Shape.f (a0 : Int) : Option (ByteArray) :=
 (op_Own.f a0).bind fun t0 => bif !t0 then none else (op_shapes.f).bind fun t1 => (idx t1 (IntKind.wrap .i64 (a0 - 1))).bind fun x0 => some x0
def op_Shape.K (r : ByteArray) (G39 : GH) (v : Value) (N : List Res) : Prop := v = tup [(.string r)] ∧ N = [] ∧ r.size ≤ SB
theorem op_Shape.ok {a0 : Int} (st : St B w G []) (ha0 : InK .i64 a0) {r : ByteArray} (hr : op_Shape.f a0 = some r) :
 Calls Tryz.prog 209 ([(vi a0)] : List Value).toArray w (Ret B G (op_Shape.K r)) := by
 refine Jc [.tmp 2] func209 rfl ntmps209 rfl rfl ?_
 refine J2 (J1 ?_)
 refine Jsv (.string ({data := #[]} : ByteArray)) rfl rfl ?_
 refine J0 (J2 (J2 (J1 ?_)))
 refine Jmv (vi a0) rfl rfl ?_
 obtain ⟨t0, h0, hr⟩ := J6 hr
 refine J8 (f := 242) (av := [(vi a0)]) cf242 rfl rfl st rfl (fun G0 e0 h1 => op_Own.ok h1 ha0 h0) ?_
 rintro v0 w0 G1 G2 N0 e1 q0 ⟨rfl, rfl⟩ h2
 refine Yc rfl rfl ?_
 refine J0 ?_
 refine J7 rfl (fun h3 => ?_) (fun h3 => ?_)
 ·exact Jk hr h3
 replace hr := Jf hr h3
 refine J9 (J2 (J1 ?_))
 obtain ⟨t1, h4, hr⟩ := J6 hr
 refine J8 (f := 243) (av := []) cf243 rfl rfl h2 rfl (fun G3 e2 h5 => op_shapes.ok h5 h4) ?_
 rintro v1 w1 G4 G5 N1 e3 q1 ⟨c0, rfl, rfl, f0, f1⟩ h6
 refine Jmv (vi a0) rfl rfl ?_
 refine Yn rfl rfl rfl ?_
 obtain ⟨x0, h7, hr⟩ := J6 hr
 refine WL_indexAE (T := tStr) underlying278 ti9 rfl rfl rfl rfl f1 (EAll.mono q1 f0) h7 ?_
 intro c1 f2
 obtain ⟨rfl, f3⟩ := one_str f2
 refine Jsv (.string x0) rfl rfl ?_
 refine J0 (Jg ?_)
 obtain rfl := Option.some.inj hr
 exact ⟨[(.string x0)], ⟨rfl, trivial⟩, _, _, _, rfl, (e1.trans e3), h6, ⟨rfl, rfl, f3⟩⟩
def instr_Check.l0 (t0 : (List Int)) (s0 : Nat) : Option (Step Nat Unit) :=
 bif decide (((s0 : Nat) : Int) < ((List.take (4 - 1) (List.drop 1 t0)).length : Int)) then (idx (List.take (4 - 1) (List.drop 1 t0)) ((s0 : Nat) : Int)).bind fun x0 => (bif decide (x0 < 0) then none else some ()).bind fun t1 => bif decide (x0 > 255) then none else some (.next (s0 + 1)) else some (.done ())
def instr_Check.l1 (t2 : ByteArray) (t0 : (List Int)) (s1 : Nat) : Option (Step Nat Unit) :=
 bif decide (((s1 : Nat) : Int) < (t2.size : Int)) then (bt t2 ((s1 : Nat) : Int)).bind fun c0 => (bif decide (c0 = 45) then bif (decide (0 ≤ (IntKind.wrap .i64 (1 + ((s1 : Nat) : Int)))) && decide ((IntKind.wrap .i64 (1 + ((s1 : Nat) : Int))) < 5)) then (idx t0 (IntKind.wrap .i64 (1 + ((s1 : Nat) : Int)))).bind fun x1 => some (decide (x1 ≠ 0)) else none else some false).bind fun t3 => bif t3 then none else some (.next (s1 + 1)) else some (.done ())
def instr_Check.f (a0 : XInstr) : Option (Unit) :=
 (op_Name.f a0.Op).bind fun t4 => bif seq t4 ({data := #[]} : ByteArray) then none else (instr_numbers.f a0).bind fun t0 => (loop (instr_Check.l0 t0) 0).bind fun t5 => (bif decide (a0.N < (-2147483648)) then none else some ()).bind fun t6 => bif decide (a0.N > 2147483647) then none else (op_Shape.f a0.Op).bind fun t2 => (loop (instr_Check.l1 t2 t0) 0).bind fun t7 => some ()
def instr_Check.K (r : Unit) (G0 : GH) (v : Value) (N : List Res) : Prop := v = tup [(vi 0)] ∧ N = []
theorem instr_Check.ok {ca0 : List Value} {a0 : XInstr} (st : St B w G []) (ha0 : TInstr.rep G ca0 a0) {r : Unit} (hr : instr_Check.f a0 = some r) :
 Calls Tryz.prog 179 ([(.agg ca0.toArray)] : List Value).toArray w (Ret B G (instr_Check.K r)) := by
 obtain ⟨rfl, ha0_0, ha0_1, ha0_2, ha0_3, ha0_4⟩ := ha0
 refine Jc [.tmp 2] func179 rfl ntmps179 rfl rfl ?_
 refine J2 (J1 ?_)
 refine Ju (cs := [(vi a0.Op), (vi a0.A), (vi a0.B), (vi a0.C), (vi a0.N)]) st rfl rfl rfl ?_
 intro b0 w0 h0
 refine Jsv (vi 0) rfl rfl ?_
 refine J0 (J2 (J2 (J1 ?_)))
 refine Jfa 0 0 underlying54 rfl ti3 rfl rfl rfl rfl ?_
 refine Jlb [] (vi a0.Op) ti3 h0 rfl rfl rfl ?_
 obtain ⟨t4, h1, hr⟩ := J6 hr
 refine J8 (f := 208) (av := [(vi a0.Op)]) cf208 rfl rfl h0 rfl (fun G1 e0 h2 => op_Name.ok h2 ha0_0 h1) ?_
 rintro v0 w1 G2 G3 N0 e1 q0 ⟨rfl, rfl, f0⟩ h3
 refine WL_seql rfl rfl rfl ?_
 refine J0 ?_
 refine J7 rfl (fun h4 => ?_) (fun h4 => ?_)
 ·exact Jk hr h4
 replace hr := Jf hr h4
 refine J9 (J2 (J1 ?_))
 refine Jl (l1 := []) (vs := [(vi a0.Op), (vi a0.A), (vi a0.B), (vi a0.C), (vi a0.N)]) ti54 h3 rfl rfl rfl rfl ?_
 obtain ⟨t0, h5, hr⟩ := J6 hr
 refine J8 (f := 185) (av := [(.agg #[(vi a0.Op), (vi a0.A), (vi a0.B), (vi a0.C), (vi a0.N)])]) cf185 rfl rfl h3 rfl (fun G4 e2 h6 => instr_numbers.ok (a0 := a0) h6 (⟨rfl, ha0_0, ha0_1, ha0_2, ha0_3, ha0_4⟩) h5) ?_
 rintro v1 w2 G5 G6 N1 e3 q1 ⟨c1, rfl, rfl, f1, f2⟩ h7
 refine Jo ti238 h7 rfl ?_
 intro b1 w3 h8
 have f3 : EAll (tInt .i64) G6 [(vi 0), (vi 0), (vi 0), (vi 0), (vi 0)] [0, 0, 0, 0, 0] := ⟨_, _, rfl, ⟨rfl, rfl⟩, ⟨_, _, rfl, ⟨rfl, rfl⟩, ⟨_, _, rfl, ⟨rfl, rfl⟩, ⟨_, _, rfl, ⟨rfl, rfl⟩, ⟨_, _, rfl, ⟨rfl, rfl⟩, rfl⟩⟩⟩⟩⟩
 refine WL_storeA (l1 := []) (vs := c1) ti238 h8 rfl rfl f2 rfl (EAll.one (EAll.mono q1 f1)) ?_
 intro w4 h9
 refine J0 (J2 (J2 (J1 ?_)))
 refine WL_sliceArr (l1 := []) (T := (tInt .i64)) (xs := t0) (l := 1) (h := 4) underlying238 ti2 h9 (EAll.mono q1 f1) (arr_len (N := 5) f2 (EAll.mono q1 f1)) rfl rfl (sbLH (by decide) rfl rfl _) (by decide) (by decide) (by decide) ?_
 intro v2 G7 e4 f4 f5 h10
 refine Jd (T := (tInt .i64)) underlying47 f4 rfl rfl ?_
 refine Jmv (vi 0) rfl rfl ?_
 refine J0 (Jb ?_)
 obtain ⟨t5, h11, hr⟩ := J6 hr
 refine Js 0 h11 (fun s0 ρ w => ∃ (σ0 : Env) (G8 : GH), ρ = En σ0 [(1, (pt b0 0)), (3, (pt b1 0)), (14, v2), (15, (vi ((List.take (4 - 1) (List.drop 1 t0)).length : Int))), (16, (vi ((s0 : Nat) : Int)))] ∧ Ext G7 G8 ∧ St B w G8 [.blk b0 [(vi a0.Op), (vi a0.A), (vi a0.B), (vi a0.C), (vi a0.N)] 54] ∧ InK .i64 ((s0 : Nat) : Int)) (fun t8 ρ w => ∃ (σ1 : Env) (G9 : GH), ρ = En σ1 [(1, (pt b0 0)), (3, (pt b1 0))] ∧ Ext G7 G9 ∧ St B w G9 [.blk b0 [(vi a0.Op), (vi a0.A), (vi a0.B), (vi a0.C), (vi a0.N)] 54]) ⟨_, _, (J3 ⟨rfl, rfl, rfl, rfl, rfl, trivial⟩), (Ext.refl _), h10, (by rfl)⟩ ?_ ?_
 ·rintro s0 x2 _ _ hr ⟨σ0, G8, rfl, e5, h12, f6⟩
  refine J2 (J1 ?_)
  refine Ji rfl rfl rfl ?_
  refine J0 (J2 ?_)
  refine J7 rfl (fun h13 => ?_) (fun h13 => ?_)
  ·replace hr := Jx hr h13
   refine J9 (J2 (Jb (J2 (J1 ?_))))
   obtain ⟨x0, h14, hr⟩ := J6 hr
   refine Jh (T := (tInt .i64)) underlying47 ti2 h12 (SRep.mono e5.ro f4) rfl rfl rfl h14 ?_
   intro b2 o0 c2 l3 f7
   obtain ⟨rfl, f8⟩ := f7
   refine Y4 (v := (vi x0)) ti2 rfl rfl (LiesG.lies l3 h12) rfl ?_
   refine Jsv (vi x0) rfl rfl ?_
   refine J0 (J2 (J1 ?_))
   refine Jmv (vi x0) rfl rfl ?_
   refine Ji rfl rfl rfl ?_
   refine Jmv (.bool (decide (x0 < 0))) rfl rfl ?_
   obtain ⟨t1, hr, o1⟩ := J6 hr
   refine Jw 3 (fun ρ w => ∃ (σ2 : Env) (Ga : GH), ρ = En σ2 [(1, (pt b0 0)), (3, (pt b1 0)), (14, v2), (15, (vi ((List.take (4 - 1) (List.drop 1 t0)).length : Int))), (16, (vi ((s0 : Nat) : Int))), (25, (.bool (decide (x0 > 255))))] ∧ Ext G8 Ga ∧ St B w Ga [.blk b0 [(vi a0.Op), (vi a0.A), (vi a0.B), (vi a0.C), (vi a0.N)] 54]) ?_ ?_
   ·rcases Y8 (decide (x0 < 0)) with hb_ | hb_
    ·exact Jk hr hb_
    have h15 : (decide (x0 < 0)) = false := hb_
    replace hr := Jf hr h15
    refine Ja rfl rfl rfl rfl h15 ?_
    refine Jmv (vi x0) rfl rfl ?_
    refine Ja rfl rfl rfl rfl h15 ?_
    refine Yh rfl rfl rfl ?_
    refine Jt (v := (.bool (decide (x0 > 255)))) rfl rfl h15 rfl ?_
    refine J0 ?_
    obtain rfl := Option.some.inj hr
    exact ⟨_, _, (J3 ⟨rfl, rfl, rfl, rfl, rfl, rfl, trivial⟩), (Ext.refl _), h12⟩
   rintro _ _ ⟨σ2, Ga, rfl, e6, h16⟩
   replace hr := o1
   refine J0 ?_
   refine J7 rfl (fun h17 => ?_) (fun h17 => ?_)
   ·exact Jk hr h17
   replace hr := Jf hr h17
   refine J9 (J1 ?_)
   refine Y2 rfl rfl rfl (of_decide_eq_true h13) (inK_len (SRep.le f4)) ?_
   refine Jmv (vi ((s0 + 1 : Nat) : Int)) rfl rfl ?_
   refine J0 ?_
   exact ⟨_, (Option.some.inj hr).symm, _, _, (J3 ⟨rfl, rfl, rfl, rfl, rfl, trivial⟩), (e5.trans e6), h16, (inK_inc (of_decide_eq_true h13) (inK_len (SRep.le f4)))⟩
  replace hr := Jf hr h13
  refine Jr ?_
  exact ⟨_, (Option.some.inj hr).symm, rfl, _, _, (J3 ⟨rfl, rfl, trivial⟩), e5, h12⟩
 rintro _ _ ⟨σ1, G9, rfl, e7, h18⟩
 refine J2 (J2 (J1 ?_))
 refine Jfa 4 4 underlying54 rfl ti2 rfl rfl rfl rfl ?_
 refine Jlb [] (vi a0.N) ti2 h18 rfl rfl rfl ?_
 refine Ji rfl rfl rfl ?_
 refine Jmv (.bool (decide (a0.N < (-2147483648)))) rfl rfl ?_
 obtain ⟨t6, hr, o2⟩ := J6 hr
 refine Jw 4 (fun ρ w => ∃ (σ3 : Env) (Gb : GH), ρ = En σ3 [(1, (pt b0 0)), (3, (pt b1 0)), (34, (.bool (decide (a0.N > 2147483647))))] ∧ Ext G9 Gb ∧ St B w Gb [.blk b0 [(vi a0.Op), (vi a0.A), (vi a0.B), (vi a0.C), (vi a0.N)] 54]) ?_ ?_
 ·rcases Y8 (decide (a0.N < (-2147483648))) with hb_ | hb_
  ·exact Jk hr hb_
  have h19 : (decide (a0.N < (-2147483648))) = false := hb_
  replace hr := Jf hr h19
  refine Ja rfl rfl rfl rfl h19 ?_
  refine Jfa 4 4 underlying54 rfl ti2 rfl rfl rfl rfl ?_
  refine Ja rfl rfl rfl rfl h19 ?_
  refine Jlb [] (vi a0.N) ti2 h18 rfl rfl rfl ?_
  refine Ja rfl rfl rfl rfl h19 ?_
  refine Yh rfl rfl rfl ?_
  refine Jt (v := (.bool (decide (a0.N > 2147483647)))) rfl rfl h19 rfl ?_
  refine J0 ?_
  obtain rfl := Option.some.inj hr
  exact ⟨_, _, (J3 ⟨rfl, rfl, rfl, trivial⟩), (Ext.refl _), h18⟩
 rintro _ _ ⟨σ3, Gb, rfl, e8, h1a⟩
 replace hr := o2
 refine J0 ?_
 refine J7 rfl (fun h1b => ?_) (fun h1b => ?_)
 ·exact Jk hr h1b
 replace hr := Jf hr h1b
 refine J9 (J2 (J1 ?_))
 refine Jfa 0 0 underlying54 rfl ti3 rfl rfl rfl rfl ?_
 refine Jlb [] (vi a0.Op) ti3 h1a rfl rfl rfl ?_
 obtain ⟨t2, h1c, hr⟩ := J6 hr
 refine J8 (f := 209) (av := [(vi a0.Op)]) cf209 rfl rfl h1a rfl (fun Gc e9 h1d => op_Shape.ok h1d ha0_0 h1c) ?_
 rintro v3 w5 Gd Ge N2 ea q2 ⟨rfl, rfl, f9⟩ h1e
 refine Jsv (.string t2) rfl rfl ?_
 refine J0 (J2 (J2 (J1 ?_)))
 refine Jmv (.string t2) rfl rfl ?_
 refine WL_lenS underlying9 rfl rfl ?_
 refine Jmv (vi 0) rfl rfl ?_
 refine J0 (Jb ?_)
 obtain ⟨t7, h1f, hr⟩ := J6 hr
 have h1g := St.takeN 0 h1e
 refine Js 2 h1f (fun s1 ρ w => ∃ (σ4 : Env) (Gf : GH), ρ = En σ4 [(3, (pt b1 0)), (6, (.string t2)), (39, (vi (t2.size : Int))), (40, (vi ((s1 : Nat) : Int)))] ∧ Ext Ge Gf ∧ St B w Gf [] ∧ InK .i64 ((s1 : Nat) : Int)) (fun t9 ρ w => ∃ (σ5 : Env) (Gg : GH), ρ = En σ5 [] ∧ Ext Ge Gg ∧ St B w Gg []) ⟨_, _, (J3 ⟨rfl, rfl, rfl, rfl, trivial⟩), (Ext.refl _), h1g, (by rfl)⟩ ?_ ?_
 ·rintro s1 x3 _ _ hr ⟨σ4, Gf, rfl, eb, h1h, fa⟩
  refine J2 (J1 ?_)
  refine Ji rfl rfl rfl ?_
  refine J0 (J2 ?_)
  refine J7 rfl (fun h1i => ?_) (fun h1i => ?_)
  ·replace hr := Jx hr h1i
   refine J9 (J2 (Jb (J2 (J1 ?_))))
   refine Jmv (vi ((s1 : Nat) : Int)) rfl rfl ?_
   refine Jsv (vi ((s1 : Nat) : Int)) rfl rfl ?_
   refine J0 (J2 (J1 ?_))
   refine Jmv (.string t2) rfl rfl ?_
   refine Jmv (vi ((s1 : Nat) : Int)) rfl rfl ?_
   obtain ⟨c0, h1j, hr⟩ := J6 hr
   refine WL_indexS underlying9 rfl rfl rfl h1j ?_
   refine Y3 rfl rfl rfl ?_
   refine Jmv (.bool (decide (c0 = 45))) rfl rfl ?_
   obtain ⟨t3, hr, o3⟩ := J6 hr
   refine Jw 6 (fun ρ w => ∃ (σ6 : Env) (Gh : GH), ρ = En σ6 [(3, (pt b1 0)), (6, (.string t2)), (39, (vi (t2.size : Int))), (40, (vi ((s1 : Nat) : Int))), (53, (.bool t3))] ∧ Ext Gf Gh ∧ St B w Gh []) ?_ ?_
   ·rcases Y8 (decide (c0 = 45)) with hb_ | hb_
    ·have h1k : (decide (c0 = 45)) = true := hb_
     replace hr := Jx hr h1k
     refine Ja rfl rfl rfl rfl h1k ?_
     refine Jmv (vi ((s1 : Nat) : Int)) rfl rfl ?_
     refine Ja rfl rfl rfl rfl h1k ?_
     refine Yj rfl rfl rfl ?_
     refine Ja rfl rfl rfl rfl h1k ?_
     obtain ⟨h1l, hr⟩ := Ya hr
     refine Yb underlying238 ti2 rfl rfl rfl (of_decide_eq_true (band h1l).1) (of_decide_eq_true (band h1l).2) ?_
     refine Ja rfl rfl rfl rfl h1k ?_
     obtain ⟨x1, h1m, hr⟩ := J6 hr
     refine WL_loadG (T := (tInt .i64)) ti2 rfl h1h (EArr.mono (e7.ro.trans (e8.ro.trans (ea.ro.trans eb.ro))) f5) rfl rfl (idx_nat h1m) ?_
     intro c3 fb
     obtain ⟨rfl, fc⟩ := one_int fb
     refine Ja rfl rfl rfl rfl h1k ?_
     refine Y1 rfl rfl rfl ?_
     refine Y9 (v := (.bool (decide (x1 ≠ 0)))) rfl rfl h1k rfl ?_
     refine J0 ?_
     obtain rfl := Option.some.inj hr
     exact ⟨_, _, (J3 ⟨rfl, rfl, rfl, rfl, rfl, trivial⟩), (Ext.refl _), h1h⟩
    have h1n : (decide (c0 = 45)) = false := hb_
    replace hr := Jf hr h1n
    refine Jv rfl rfl rfl rfl h1n ?_
    refine Jv rfl rfl rfl rfl h1n ?_
    refine Jv rfl rfl rfl rfl h1n ?_
    refine Jv rfl rfl rfl rfl h1n ?_
    refine Jv rfl rfl rfl rfl h1n ?_
    refine Jt (v := (.bool false)) rfl rfl h1n rfl ?_
    refine J0 ?_
    obtain rfl := Option.some.inj hr
    exact ⟨_, _, (J3 ⟨rfl, rfl, rfl, rfl, rfl, trivial⟩), (Ext.refl _), h1h⟩
   rintro _ _ ⟨σ6, Gh, rfl, ec, h1o⟩
   replace hr := o3
   refine J0 ?_
   refine J7 rfl (fun h1p => ?_) (fun h1p => ?_)
   ·exact Jk hr h1p
   replace hr := Jf hr h1p
   refine J9 (J1 ?_)
   refine Y2 rfl rfl rfl (of_decide_eq_true h1i) (inK_size f9) ?_
   refine Jmv (vi ((s1 + 1 : Nat) : Int)) rfl rfl ?_
   refine J0 ?_
   exact ⟨_, (Option.some.inj hr).symm, _, _, (J3 ⟨rfl, rfl, rfl, rfl, trivial⟩), (eb.trans ec), h1o, (inK_inc (of_decide_eq_true h1i) (inK_size f9))⟩
  replace hr := Jf hr h1i
  refine Jr ?_
  exact ⟨_, (Option.some.inj hr).symm, rfl, _, _, rfl, eb, h1h⟩
 rintro _ _ ⟨σ5, Gg, rfl, ed, h1q⟩
 refine J2 (J1 ?_)
 refine Jsv (vi 0) rfl rfl ?_
 refine J0 (Jg ?_)
 obtain rfl := Option.some.inj hr
 exact ⟨[(vi 0)], ⟨rfl, trivial⟩, _, _, _, rfl, (e1.trans (e3.trans (e4.trans (e7.trans (e8.trans (ea.trans ed)))))), h1q, ⟨rfl, rfl⟩⟩
def instr_Operand.f (a0 : XInstr) (a1 : Int) : Option (Int) :=
 (bif decide (a1 < 0) then none else some ()).bind fun t0 => bif decide (a1 > 3) then none else (instr_numbers.f a0).bind fun t1 => (idx t1 (IntKind.wrap .i64 (1 + a1))).bind fun x0 => some x0
def instr_Operand.K (r : Int) (G38 : GH) (v : Value) (N : List Res) : Prop := v = tup [(vi r)] ∧ N = [] ∧ InK .i64 r
theorem instr_Operand.ok {ca0 : List Value} {a0 : XInstr} {a1 : Int} (st : St B w G []) (ha0 : TInstr.rep G ca0 a0) (ha1 : InK .i64 a1) {r : Int} (hr : instr_Operand.f a0 a1 = some r) :
 Calls Tryz.prog 251 ([(.agg ca0.toArray), (vi a1)] : List Value).toArray w (Ret B G (instr_Operand.K r)) := by
 obtain ⟨rfl, ha0_0, ha0_1, ha0_2, ha0_3, ha0_4⟩ := ha0
 refine Jc [.tmp 4] func251 rfl ntmps251 rfl rfl ?_
 refine J2 (J1 ?_)
 refine Ju (cs := [(vi a0.Op), (vi a0.A), (vi a0.B), (vi a0.C), (vi a0.N)]) st rfl rfl rfl ?_
 intro b0 w0 h0
 refine Jsv (vi 0) rfl rfl ?_
 refine J0 (J2 (J2 (J1 ?_)))
 refine Jmv (vi a1) rfl rfl ?_
 refine Ji rfl rfl rfl ?_
 refine Jmv (.bool (decide (a1 < 0))) rfl rfl ?_
 obtain ⟨t0, hr, o0⟩ := J6 hr
 refine Jw 3 (fun ρ w => ∃ (σ0 : Env) (G0 : GH), ρ = En σ0 [(1, (vi a1)), (2, (pt b0 0)), (10, (.bool (decide (a1 > 3))))] ∧ Ext G G0 ∧ St B w G0 [.blk b0 [(vi a0.Op), (vi a0.A), (vi a0.B), (vi a0.C), (vi a0.N)] 54]) ?_ ?_
 ·rcases Y8 (decide (a1 < 0)) with hb_ | hb_
  ·exact Jk hr hb_
  have h1 : (decide (a1 < 0)) = false := hb_
  replace hr := Jf hr h1
  refine Ja rfl rfl rfl rfl h1 ?_
  refine Jmv (vi a1) rfl rfl ?_
  refine Ja rfl rfl rfl rfl h1 ?_
  refine Yh rfl rfl rfl ?_
  refine Jt (v := (.bool (decide (a1 > 3)))) rfl rfl h1 rfl ?_
  refine J0 ?_
  obtain rfl := Option.some.inj hr
  exact ⟨_, _, (J3 ⟨rfl, rfl, rfl, trivial⟩), (Ext.refl _), h0⟩
 rintro _ _ ⟨σ0, G0, rfl, e0, h2⟩
 replace hr := o0
 refine J0 ?_
 refine J7 rfl (fun h3 => ?_) (fun h3 => ?_)
 ·exact Jk hr h3
 replace hr := Jf hr h3
 refine J9 (J2 (J1 ?_))
 refine Jl (l1 := []) (vs := [(vi a0.Op), (vi a0.A), (vi a0.B), (vi a0.C), (vi a0.N)]) ti54 h2 rfl rfl rfl rfl ?_
 obtain ⟨t1, h4, hr⟩ := J6 hr
 refine J8 (f := 185) (av := [(.agg #[(vi a0.Op), (vi a0.A), (vi a0.B), (vi a0.C), (vi a0.N)])]) cf185 rfl rfl h2 rfl (fun G1 e1 h5 => instr_numbers.ok (a0 := a0) h5 (⟨rfl, ha0_0, ha0_1, ha0_2, ha0_3, ha0_4⟩) h4) ?_
 rintro v0 w1 G2 G3 N0 e2 q0 ⟨c0, rfl, rfl, f0, f1⟩ h6
 refine Jmv (vi a1) rfl rfl ?_
 refine Yj rfl rfl rfl ?_
 obtain ⟨x0, h7, hr⟩ := J6 hr
 refine WL_indexAE (T := (tInt .i64)) underlying238 ti2 rfl rfl rfl rfl f1 (EAll.mono q0 f0) h7 ?_
 intro c1 f2
 obtain ⟨rfl, f3⟩ := one_int f2
 refine Jsv (vi x0) rfl rfl ?_
 refine J0 (Jg ?_)
 have h8 := St.takeN 0 h6
 obtain rfl := Option.some.inj hr
 exact ⟨[(vi x0)], ⟨rfl, trivial⟩, _, _, _, rfl, (e0.trans e2), h8, ⟨rfl, rfl, f3⟩⟩
def octet_Text.f (a0 : (List Int)) (a1 : ByteArray) : Option ((List Int)) :=
 (octet_Put.f a0 (if 255 < (a1.size : Int) then 255 else (a1.size : Int)) 1).bind fun t0 => bif (decide (0 ≤ (if 255 < (a1.size : Int) then 255 else (a1.size : Int))) && decide ((if 255 < (a1.size : Int) then 255 else (a1.size : Int)) ≤ (a1.size : Int))) then bif decide (t0.length + (a1.extract 0 (Int.toNat ((if 255 < (a1.size : Int) then 255 else (a1.size : Int))))).size ≤ SB) then some (t0 ++ (bytesTo (a1.extract 0 (Int.toNat ((if 255 < (a1.size : Int) then 255 else (a1.size : Int))))))) else none else none
def octet_Text.K (r : (List Int)) (G0 : GH) (v : Value) (N : List Res) : Prop := ∃ (v0 : Value) (c0 : List Value), v = tup [v0] ∧ N = [.row v0 5 1 r.length c0] ∧ EAll (tInt .u8) G0 c0 r ∧ r.length ≤ SB
theorem octet_Text.ok {va0 : Value} {a0 : (List Int)} {a1 : ByteArray} (st : St B w G []) (ha0 : SRep 5 (tInt .u8) G va0 a0) (ha1 : a1.size ≤ SB) {r : (List Int)} (hr : octet_Text.f a0 a1 = some r) :
 Calls Tryz.prog 71 ([va0, (.string a1)] : List Value).toArray w (Ret B G (octet_Text.K r)) := by
 refine Jc [.tmp 4] func71 rfl ntmps71 rfl rfl ?_
 refine J2 (J1 ?_)
 refine Jsv (.slice none 0 0) rfl rfl ?_
 refine J0 (J2 (J1 ?_))
 refine Jmv (.string a1) rfl rfl ?_
 refine WL_lenS underlying9 rfl rfl ?_
 refine WL_min rfl rfl rfl ?_
 refine Jsv (vi (if 255 < (a1.size : Int) then 255 else (a1.size : Int))) rfl rfl ?_
 refine J0 (J2 ?_)
 obtain ⟨t0, h0, hr⟩ := J6 hr
 obtain ⟨h1, hr⟩ := Ya hr
 refine Ym 6 [some 9, some 10, some 11, some 12, some 13, some 14] [2] [Kind.q, Kind.q, Kind.c 0, Kind.q, Kind.q, Kind.q] (pkT [(fun vs_ G_ M_ => vs_ = [] ∧ M_ = []), (fun vs_ G_ M_ => ∃ (v1 : Value) (c1 : List Value), vs_ = [v1] ∧ M_ = [.row v1 5 1 t0.length c1] ∧ EAll (tInt .u8) G_ c1 t0 ∧ t0.length = t0.length ∧ t0.length ≤ SB)]) (pk [(fun G_ v_ => v_ = va0), (fun G_ v_ => v_ = (vi (if 255 < (a1.size : Int) then 255 else (a1.size : Int)))), (fun _ _ => True), (fun G_ v_ => v_ = (.string a1)), (fun G_ v_ => v_ = (vi (if 255 < (a1.size : Int) then 255 else (a1.size : Int)))), (fun G_ v_ => v_ = (.string (a1.extract 0 (Int.toNat ((if 255 < (a1.size : Int) then 255 else (a1.size : Int)))))))]) rfl (by kernel_rfl) rfl (by kernel_rfl) [] (by kernel_rfl) rfl st (fun _ _ => ⟨rfl, rfl⟩) ?_ ?_
 ·refine Each2.cons ?_ (Each2.cons ?_ (Each2.cons ?_ (Each2.cons ?_ (Each2.cons ?_ (Each2.cons ?_ Each2.nil)))))
  ·intro k0 q0 w0 G1 M0 h2 h3 e0 h4 h5 h6 h7 h8 h9
   have h2_ : k0 ≤ 0 := h8 0 2 [2] rfl (by kernel_rfl) rfl
   obtain rfl : k0 = 0 := by omega
   obtain ⟨hvs_, rfl⟩ := h5 G1 (Ext.refl _)
   rw [J3 (ρ := q0) (l := [(0, va0)]) ⟨(h6.1 0 (by decide)).trans rfl, trivial⟩]
   refine Jmv va0 rfl rfl ?_
   exact J0 (J4 (Ext.refl _) h4 fun G2 e1 => rfl)
  ·intro k0 q0 w0 G1 M0 h2 h3 e0 h4 h5 h6 h7 h8 h9
   have h2_ : k0 ≤ 0 := h8 0 2 [2] rfl (by kernel_rfl) rfl
   obtain rfl : k0 = 0 := by omega
   obtain ⟨hvs_, rfl⟩ := h5 G1 (Ext.refl _)
   rw [J3 (ρ := q0) (l := [(5, (vi (if 255 < (a1.size : Int) then 255 else (a1.size : Int))))]) ⟨(h6.1 5 (by decide)).trans rfl, trivial⟩]
   refine Jmv (vi (if 255 < (a1.size : Int) then 255 else (a1.size : Int))) rfl rfl ?_
   exact J0 (J4 (Ext.refl _) h4 fun G3 e2 => rfl)
  ·intro k0 q0 w0 G1 M0 h2 h3 e0 h4 h5 h6 h7 h8 h9
   obtain rfl : k0 = 0 := h3
   obtain ⟨hvs_, rfl⟩ := h5 G1 (Ext.refl _)
   obtain ⟨hd0_, hd1_, _⟩ := h9
   have hv9 := hd0_
   have hv10 := hd1_
   rw [J3 (ρ := q0) (l := [(9, va0), (10, (vi (if 255 < (a1.size : Int) then 255 else (a1.size : Int))))]) ⟨hv9, hv10, trivial⟩]
   refine J8 (f := 70) (av := [va0, (vi (if 255 < (a1.size : Int) then 255 else (a1.size : Int))), (vi 1)]) cf70 rfl rfl h4 rfl (fun G4 e3 h10 => octet_Put.ok h10 (SRep.mono (e0.ro.trans e3.ro) ha0) (inK_ite (by rfl) (inK_size ha1)) (by rfl) h0) ?_
   rintro v2 w1 G5 G6 N0 e4 q1 ⟨_, c2, rfl, rfl, f0, f1⟩ h11
   exact J0 (Yi e4 h11 fun G7 e5 => ⟨⟨v2, c2, rfl, rfl, (EAll.mono e5.ro (EAll.mono q1 f0)), (by rfl), f1⟩, trivial⟩)
  ·intro k0 q0 w0 G1 M0 h2 h3 e0 h4 h5 h6 h7 h8 h9
   have h2_ : k0 ≤ 1 := h2
   rcases (show k0 = 0 ∨ k0 = 1 from by omega) with rfl | rfl
   ·obtain ⟨hvs_, rfl⟩ := h5 G1 (Ext.refl _)
    rw [J3 (ρ := q0) (l := [(1, (.string a1))]) ⟨(h6.1 1 (by decide)).trans rfl, trivial⟩]
    refine Jmv (.string a1) rfl rfl ?_
    exact J0 (J4 (Ext.refl _) h4 fun G8 e6 => rfl)
   obtain ⟨v1, c1, hvs_, rfl, f2, f3, f4⟩ := h5 G1 (Ext.refl _)
   have hv11 := (List.cons.inj hvs_).1
   rw [J3 (ρ := q0) (l := [(1, (.string a1)), (11, v1)]) ⟨(h6.1 1 (by decide)).trans rfl, hv11, trivial⟩]
   refine Jmv (.string a1) rfl rfl ?_
   exact J0 (J4 (Ext.refl _) h4 fun G8 e6 => rfl)
  ·intro k0 q0 w0 G1 M0 h2 h3 e0 h4 h5 h6 h7 h8 h9
   have h2_ : k0 ≤ 1 := h2
   rcases (show k0 = 0 ∨ k0 = 1 from by omega) with rfl | rfl
   ·obtain ⟨hvs_, rfl⟩ := h5 G1 (Ext.refl _)
    rw [J3 (ρ := q0) (l := [(5, (vi (if 255 < (a1.size : Int) then 255 else (a1.size : Int))))]) ⟨(h6.1 5 (by decide)).trans rfl, trivial⟩]
    refine Jmv (vi (if 255 < (a1.size : Int) then 255 else (a1.size : Int))) rfl rfl ?_
    exact J0 (J4 (Ext.refl _) h4 fun G9 e7 => rfl)
   obtain ⟨v1, c1, hvs_, rfl, f2, f3, f4⟩ := h5 G1 (Ext.refl _)
   have hv11 := (List.cons.inj hvs_).1
   rw [J3 (ρ := q0) (l := [(5, (vi (if 255 < (a1.size : Int) then 255 else (a1.size : Int)))), (11, v1)]) ⟨(h6.1 5 (by decide)).trans rfl, hv11, trivial⟩]
   refine Jmv (vi (if 255 < (a1.size : Int) then 255 else (a1.size : Int))) rfl rfl ?_
   exact J0 (J4 (Ext.refl _) h4 fun G9 e7 => rfl)
  intro k0 q0 w0 G1 M0 h2 h3 e0 h4 h5 h6 h7 h8 h9
  have h2_ : k0 ≤ 1 := h2
  rcases (show k0 = 0 ∨ k0 = 1 from by omega) with rfl | rfl
  ·obtain ⟨hvs_, rfl⟩ := h5 G1 (Ext.refl _)
   obtain ⟨hd0_, hd1_, _⟩ := h9
   have hv12 := hd0_
   have hv13 := hd1_
   rw [J3 (ρ := q0) (l := [(12, (.string a1)), (13, (vi (if 255 < (a1.size : Int) then 255 else (a1.size : Int))))]) ⟨hv12, hv13, trivial⟩]
   refine WL_strH underlying9 rfl rfl rfl (of_decide_eq_true (band h1).1) (of_decide_eq_true (band h1).2) ?_
   exact J0 (J4 (Ext.refl _) h4 fun Ga e8 => rfl)
  obtain ⟨v1, c1, hvs_, rfl, f2, f3, f4⟩ := h5 G1 (Ext.refl _)
  have hv11 := (List.cons.inj hvs_).1
  obtain ⟨hd0_, hd1_, _⟩ := h9
  have hv12 := hd0_
  have hv13 := hd1_
  rw [J3 (ρ := q0) (l := [(11, v1), (12, (.string a1)), (13, (vi (if 255 < (a1.size : Int) then 255 else (a1.size : Int))))]) ⟨hv11, hv12, hv13, trivial⟩]
  refine WL_strH underlying9 rfl rfl rfl (of_decide_eq_true (band h1).1) (of_decide_eq_true (band h1).2) ?_
  exact J0 (J4 (Ext.refl _) h4 fun Ga e8 => rfl)
 intro q0 w0 G1 M0 e0 h4 h5 h6 h9
 obtain ⟨v1, c1, hvs_, rfl, f2, f3, f4⟩ := h5
 have hv11 := (List.cons.inj hvs_).1
 have hv14 := h9 5 (by decide)
 rw [J3 (ρ := q0) (l := [(11, v1), (14, (.string (a1.extract 0 (Int.toNat ((if 255 < (a1.size : Int) then 255 else (a1.size : Int)))))))]) ⟨hv11, hv14, trivial⟩]
 obtain ⟨h12, hr⟩ := Ya hr
 refine WL_appendS (l1 := []) underlying63 underlying9 ti5 rfl h4 rfl rfl rfl (app_str f3 h12) ?_
 intro v3 w2 n0 E0 h13
 have E1 := EAll.append (T := (tInt .u8)) f2 E0
 refine Jsv v3 rfl rfl ?_
 refine J0 (Jg ?_)
 have h14 := St.row_len (l1 := []) (k := (t0 ++ (bytesTo (a1.extract 0 (Int.toNat ((if 255 < (a1.size : Int) then 255 else (a1.size : Int))))))).length) (len_app f3) h13
 obtain rfl := Option.some.inj hr
 exact ⟨[v3], ⟨rfl, trivial⟩, _, _, _, rfl, e0, h14, ⟨v3, (c1 ++ n0), rfl, rfl, E1, (le_eq (m := (t0.length + (bytesTo (a1.extract 0 (Int.toNat ((if 255 < (a1.size : Int) then 255 else (a1.size : Int)))))).length)) (len_app f3) (app_strL f3 h12))⟩⟩
def octet_Reader_take.f (a0_0 : (List Int)) (a0_1 : Int) (a0_2 : Bool) (a0_3 : Bool) (a1 : Int) : Option (((List Int) × (List Int) × Int × Bool)) :=
 (octet_Reader_Bad.f a0_0 a0_1 a0_2 a0_3).bind fun t0 => (bif t0.1 then some true else some (decide (a1 < 0))).bind fun t1 => (bif t1 then some (t0.2, true) else (octet_Reader_Left.f t0.2 a0_1 a0_2 a0_3).bind fun t2 => some (t2.2, decide (a1 > t2.1))).bind fun t3 => bif t3.2 then (octet_Reader_spoil.f t3.1 a0_1 a0_2 a0_3).bind fun t4 => some ([], t4, a0_1, true) else bif (decide (0 ≤ (IntKind.wrap .i64 ((IntKind.wrap .i64 (a0_1 + a1)) - a1))) && (decide ((IntKind.wrap .i64 ((IntKind.wrap .i64 (a0_1 + a1)) - a1)) ≤ (IntKind.wrap .i64 (a0_1 + a1))) && decide ((IntKind.wrap .i64 (a0_1 + a1)) ≤ (t3.1.length : Int)))) then some ((List.take ((Int.toNat ((IntKind.wrap .i64 (a0_1 + a1)))) - (Int.toNat ((IntKind.wrap .i64 ((IntKind.wrap .i64 (a0_1 + a1)) - a1))))) (List.drop (Int.toNat ((IntKind.wrap .i64 ((IntKind.wrap .i64 (a0_1 + a1)) - a1)))) t3.1)), t3.1, (IntKind.wrap .i64 (a0_1 + a1)), a0_3) else none
def octet_Reader_take.K (ba0 : Nat) (a0_2 : Bool) (r : ((List Int) × (List Int) × Int × Bool)) (G0 : GH) (v : Value) (N : List Res) : Prop := ∃ (v0 : Value) (v1 : Value), v = tup [v0] ∧ N = [.blk ba0 [v1, (vi r.2.2.1), (.bool a0_2), (.bool r.2.2.2)] 163] ∧ SRep 5 (tInt .u8) G0 v0 r.1 ∧ SRep 5 (tInt .u8) G0 v1 r.2.1 ∧ InK .i64 r.2.2.1
theorem octet_Reader_take.ok {ba0 : Nat} {va0_0 : Value} {ca0_0 : List Value} {a0_0 : (List Int)} {a0_1 : Int} {a0_2 : Bool} {a0_3 : Bool} {a1 : Int} (st : St B w G [.blk ba0 [va0_0, (vi a0_1), (.bool a0_2), (.bool a0_3)] 163, .row va0_0 5 1 a0_0.length ca0_0]) (ha0_0 : EAll (tInt .u8) G ca0_0 a0_0) (lha0_0 : a0_0.length ≤ SB) (ha0_1 : InK .i64 a0_1) (ha1 : InK .i64 a1) {r : ((List Int) × (List Int) × Int × Bool)} (hr : octet_Reader_take.f a0_0 a0_1 a0_2 a0_3 a1 = some r) :
 Calls Tryz.prog 172 ([(pt ba0 0), (vi a1)] : List Value).toArray w (Ret B G (octet_Reader_take.K ba0 a0_2 r)) := by
 refine Jc [.tmp 4] func172 rfl ntmps172 rfl rfl ?_
 refine J2 (J1 ?_)
 refine Jsv (.slice none 0 0) rfl rfl ?_
 refine J0 (J2 (J2 (J1 ?_)))
 refine Jmv (pt ba0 0) rfl rfl ?_
 have h0 := St.pick 1 rfl st
 have h1 := St.pick 1 rfl h0
 obtain ⟨t0, h2, hr⟩ := J6 hr
 refine Y6 (f := 113) (av := [(pt ba0 0)]) cf113 rfl rfl h1 rfl (fun G1 e0 h3 => octet_Reader_Bad.ok h3 (EAll.mono e0.ro ha0_0) lha0_0 ha0_1 h2) ?_
 rintro v2 w0 G2 G3 N0 e1 q0 ⟨v3, c0, rfl, rfl, f0, f1⟩ h4
 refine Jmv (.bool t0.1) rfl rfl ?_
 obtain ⟨t1, hr, o0⟩ := J6 hr
 refine Jw 3 (fun ρ w => ∃ (σ0 : Env) (G4 : GH), ρ = En σ0 [(0, (pt ba0 0)), (1, (vi a1)), (10, (.bool t1))] ∧ Ext G3 G4 ∧ St B w G4 [.row v3 5 1 t0.2.length c0, .blk ba0 [v3, (vi a0_1), (.bool a0_2), (.bool a0_3)] 163]) ?_ ?_
 ·rcases Y8 (t0.1) with hb_ | hb_
  ·have h5 : (t0.1) = true := hb_
   replace hr := Jx hr h5
   refine Jv rfl rfl rfl rfl h5 ?_
   refine Jv rfl rfl rfl rfl h5 ?_
   refine Y9 (v := (.bool true)) rfl rfl h5 rfl ?_
   refine J0 ?_
   have h6 := St.pick 1 rfl h4
   have h7 := St.pick 1 rfl h6
   obtain rfl := Option.some.inj hr
   exact ⟨_, _, (J3 ⟨rfl, rfl, rfl, trivial⟩), (Ext.refl _), h7⟩
  have h8 : (t0.1) = false := hb_
  replace hr := Jf hr h8
  refine Ja rfl rfl rfl rfl h8 ?_
  refine Jmv (vi a1) rfl rfl ?_
  refine Ja rfl rfl rfl rfl h8 ?_
  refine Ji rfl rfl rfl ?_
  refine Jt (v := (.bool (decide (a1 < 0)))) rfl rfl h8 rfl ?_
  refine J0 ?_
  have h9 := St.pick 1 rfl h4
  have h10 := St.pick 1 rfl h9
  obtain rfl := Option.some.inj hr
  exact ⟨_, _, (J3 ⟨rfl, rfl, rfl, trivial⟩), (Ext.refl _), h10⟩
 rintro _ _ ⟨σ0, G4, rfl, e2, h11⟩
 replace hr := o0
 refine Jmv (.bool t1) rfl rfl ?_
 obtain ⟨t3, hr, o1⟩ := J6 hr
 refine Jw 5 (fun ρ w => ∃ (σ1 : Env) (G5 : GH) (v4 : Value) (c1 : List Value), ρ = En σ1 [(0, (pt ba0 0)), (1, (vi a1)), (16, (.bool t3.2))] ∧ Ext G4 G5 ∧ St B w G5 [.row v4 5 1 t3.1.length c1, .blk ba0 [v4, (vi a0_1), (.bool a0_2), (.bool a0_3)] 163] ∧ EAll (tInt .u8) G5 c1 t3.1 ∧ t3.1.length ≤ SB) ?_ ?_
 ·rcases Y8 (t1) with hb_ | hb_
  ·have h12 : (t1) = true := hb_
   replace hr := Jx hr h12
   refine Jv rfl rfl rfl rfl h12 ?_
   refine Jv rfl rfl rfl rfl h12 ?_
   refine Jv rfl rfl rfl rfl h12 ?_
   refine Jv rfl rfl rfl rfl h12 ?_
   refine Y9 (v := (.bool true)) rfl rfl h12 rfl ?_
   refine J0 ?_
   have h13 := St.pick 1 rfl h11
   have h14 := St.pick 1 rfl h13
   obtain rfl := Option.some.inj hr
   exact ⟨_, _, v3, c0, (J3 ⟨rfl, rfl, rfl, trivial⟩), (Ext.refl _), h14, (EAll.mono e2.ro (EAll.mono q0 f0)), f1⟩
  have h15 : (t1) = false := hb_
  replace hr := Jf hr h15
  refine Ja rfl rfl rfl rfl h15 ?_
  refine Jmv (vi a1) rfl rfl ?_
  refine Ja rfl rfl rfl rfl h15 ?_
  refine Jmv (pt ba0 0) rfl rfl ?_
  refine Ja rfl rfl rfl rfl h15 ?_
  have h16 := St.pick 1 rfl h11
  obtain ⟨t2, h17, hr⟩ := J6 hr
  refine Y6 (f := 67) (av := [(pt ba0 0)]) cf67 rfl rfl h16 rfl (fun G6 e3 h18 => octet_Reader_Left.ok h18 (EAll.mono (e2.ro.trans e3.ro) (EAll.mono q0 f0)) f1 ha0_1 h17) ?_
  rintro v5 w1 G7 G8 N1 e4 q1 ⟨v6, c2, rfl, rfl, f2, f3, f4⟩ h19
  refine Ja rfl rfl rfl rfl h15 ?_
  refine Yh rfl rfl rfl ?_
  refine Jt (v := (.bool (decide (a1 > t2.1)))) rfl rfl h15 rfl ?_
  refine J0 ?_
  have h1a := St.pick 1 rfl h19
  have h1b := St.pick 1 rfl h1a
  obtain rfl := Option.some.inj hr
  exact ⟨_, _, v6, c2, (J3 ⟨rfl, rfl, rfl, trivial⟩), e4, h1b, (EAll.mono q1 f3), f4⟩
 rintro _ _ ⟨σ1, G5, v4, c1, rfl, e5, h1c, f5, f6⟩
 replace hr := o1
 refine J0 ?_
 refine J7 rfl (fun h1d => ?_) (fun h1d => ?_)
 ·replace hr := Jx hr h1d
  refine J2 (J1 ?_)
  refine Jmv (pt ba0 0) rfl rfl ?_
  have h1e := St.pick 1 rfl h1c
  obtain ⟨t4, h1f, hr⟩ := J6 hr
  refine Y6 (f := 177) (av := [(pt ba0 0)]) cf177 rfl rfl h1e rfl (fun G9 e6 h1g => octet_Reader_spoil.ok h1g (EAll.mono e6.ro f5) f6 ha0_1 h1f) ?_
  rintro v7 w2 Ga Gb N2 e7 q2 ⟨v8, c3, rfl, rfl, f7, f8⟩ h1h
  refine J0 (J2 (J1 ?_))
  refine Jsv (.slice none 0 0) rfl rfl ?_
  refine J0 (Jg ?_)
  obtain ⟨Gc, h1i, e8, f9⟩ := St.rowRep (l1 := []) (T := (tInt .u8)) (xs := t4) h1h (EAll.mono q2 f7) rfl f8
  obtain rfl := Option.some.inj hr
  exact ⟨[(.slice none 0 0)], ⟨rfl, trivial⟩, _, _, _, rfl, (e1.trans (e2.trans (e5.trans (e7.trans e8)))), h1i, ⟨(.slice none 0 0), v8, rfl, rfl, SRep.nil, f9, ha0_1⟩⟩
 replace hr := Jf hr h1d
 refine J9 (J2 (J1 ?_))
 refine Jmv (pt ba0 0) rfl rfl ?_
 refine Je rfl rfl ?_
 refine Jfa 1 1 underlying163 rfl ti3 rfl rfl rfl rfl ?_
 refine Jlb [_] (vi a0_1) ti3 h1c rfl rfl rfl ?_
 refine Jmv (vi a1) rfl rfl ?_
 refine Yj rfl rfl rfl ?_
 refine Je rfl rfl ?_
 refine Jfa 1 1 underlying163 rfl ti3 rfl rfl rfl rfl ?_
 refine Y5 (l1 := [_]) (v := (vi (IntKind.wrap .i64 (a0_1 + a1)))) ti3 h1c rfl rfl rfl rfl ?_
 intro w3 (h1j : St B w3 G5 [.row v4 5 1 t3.1.length c1, .blk ba0 [v4, (vi (IntKind.wrap .i64 (a0_1 + a1))), (.bool a0_2), (.bool a0_3)] 163])
 refine J0 (J2 ?_)
 refine Ye 14 [some 27, some 28, some 29, some 30, some 31, some 32, some 33, some 34, some 35, some 36, some 37, some 38, some 39, some 40] (pk [(fun G_ v_ => v_ = (pt ba0 0)), (fun G_ v_ => v_ = (pt ba0 0)), (fun G_ v_ => v_ = (pt ba0 0)), (fun G_ v_ => v_ = v4), (fun G_ v_ => v_ = (pt ba0 0)), (fun G_ v_ => v_ = (pt ba0 0)), (fun G_ v_ => v_ = (pt ba0 1)), (fun G_ v_ => v_ = (vi (IntKind.wrap .i64 (a0_1 + a1)))), (fun G_ v_ => v_ = (vi a1)), (fun G_ v_ => v_ = (vi (IntKind.wrap .i64 ((IntKind.wrap .i64 (a0_1 + a1)) - a1)))), (fun G_ v_ => v_ = (pt ba0 0)), (fun G_ v_ => v_ = (pt ba0 0)), (fun G_ v_ => v_ = (pt ba0 1)), (fun G_ v_ => v_ = (vi (IntKind.wrap .i64 (a0_1 + a1))))]) rfl (by kernel_rfl) rfl h1j ?_ ?_
 ·refine Each.cons ?_ (Each.cons ?_ (Each.cons ?_ (Each.cons ?_ (Each.cons ?_ (Each.cons ?_ (Each.cons ?_ (Each.cons ?_ (Each.cons ?_ (Each.cons ?_ (Each.cons ?_ (Each.cons ?_ (Each.cons ?_ (Each.cons ?_ Each.nil)))))))))))))
  ·intro q3 w4 Gd e9 h1k h1l h1m
   rw [J3 (ρ := q3) (l := [(0, (pt ba0 0))]) ⟨(h1l.1 0 (by decide)).trans rfl, trivial⟩]
   refine Jmv (pt ba0 0) rfl rfl ?_
   exact J0 (J4 (Ext.refl _) h1k fun Ge ea => rfl)
  ·intro q3 w4 Gd e9 h1k h1l h1m
   obtain ⟨hd0_, _⟩ := h1m
   have hv27 := hd0_
   rw [J3 (ρ := q3) (l := [(27, (pt ba0 0))]) ⟨hv27, trivial⟩]
   refine Je rfl rfl ?_
   exact J0 (J4 (Ext.refl _) h1k fun Gf eb => rfl)
  ·intro q3 w4 Gd e9 h1k h1l h1m
   obtain ⟨hd0_, _⟩ := h1m
   have hv28 := hd0_
   rw [J3 (ρ := q3) (l := [(28, (pt ba0 0))]) ⟨hv28, trivial⟩]
   refine Jfa 0 0 underlying163 rfl ti63 rfl rfl rfl rfl ?_
   exact J0 (J4 (Ext.refl _) h1k fun Gg ec => rfl)
  ·intro q3 w4 Gd e9 h1k h1l h1m
   obtain ⟨hd0_, _⟩ := h1m
   have hv29 := hd0_
   rw [J3 (ρ := q3) (l := [(29, (pt ba0 0))]) ⟨hv29, trivial⟩]
   refine Jlb [_] v4 ti63 h1k rfl rfl rfl ?_
   exact J0 (J4 (Ext.refl _) h1k fun Gh ed => rfl)
  ·intro q3 w4 Gd e9 h1k h1l h1m
   rw [J3 (ρ := q3) (l := [(0, (pt ba0 0))]) ⟨(h1l.1 0 (by decide)).trans rfl, trivial⟩]
   refine Jmv (pt ba0 0) rfl rfl ?_
   exact J0 (J4 (Ext.refl _) h1k fun Gi ee => rfl)
  ·intro q3 w4 Gd e9 h1k h1l h1m
   obtain ⟨hd0_, _⟩ := h1m
   have hv31 := hd0_
   rw [J3 (ρ := q3) (l := [(31, (pt ba0 0))]) ⟨hv31, trivial⟩]
   refine Je rfl rfl ?_
   exact J0 (J4 (Ext.refl _) h1k fun Gj ef => rfl)
  ·intro q3 w4 Gd e9 h1k h1l h1m
   obtain ⟨hd0_, _⟩ := h1m
   have hv32 := hd0_
   rw [J3 (ρ := q3) (l := [(32, (pt ba0 0))]) ⟨hv32, trivial⟩]
   refine Jfa 1 1 underlying163 rfl ti3 rfl rfl rfl rfl ?_
   exact J0 (J4 (Ext.refl _) h1k fun Gk eg => rfl)
  ·intro q3 w4 Gd e9 h1k h1l h1m
   obtain ⟨hd0_, _⟩ := h1m
   have hv33 := hd0_
   rw [J3 (ρ := q3) (l := [(33, (pt ba0 1))]) ⟨hv33, trivial⟩]
   refine Jlb [_] (vi (IntKind.wrap .i64 (a0_1 + a1))) ti3 h1k rfl rfl rfl ?_
   exact J0 (J4 (Ext.refl _) h1k fun Gl eh => rfl)
  ·intro q3 w4 Gd e9 h1k h1l h1m
   rw [J3 (ρ := q3) (l := [(1, (vi a1))]) ⟨(h1l.1 1 (by decide)).trans rfl, trivial⟩]
   refine Jmv (vi a1) rfl rfl ?_
   exact J0 (J4 (Ext.refl _) h1k fun Gm ei => rfl)
  ·intro q3 w4 Gd e9 h1k h1l h1m
   obtain ⟨hd0_, hd1_, _⟩ := h1m
   have hv34 := hd0_
   have hv35 := hd1_
   rw [J3 (ρ := q3) (l := [(34, (vi (IntKind.wrap .i64 (a0_1 + a1)))), (35, (vi a1))]) ⟨hv34, hv35, trivial⟩]
   refine Yn rfl rfl rfl ?_
   exact J0 (J4 (Ext.refl _) h1k fun Gn ej => rfl)
  ·intro q3 w4 Gd e9 h1k h1l h1m
   rw [J3 (ρ := q3) (l := [(0, (pt ba0 0))]) ⟨(h1l.1 0 (by decide)).trans rfl, trivial⟩]
   refine Jmv (pt ba0 0) rfl rfl ?_
   exact J0 (J4 (Ext.refl _) h1k fun Go ek => rfl)
  ·intro q3 w4 Gd e9 h1k h1l h1m
   obtain ⟨hd0_, _⟩ := h1m
   have hv37 := hd0_
   rw [J3 (ρ := q3) (l := [(37, (pt ba0 0))]) ⟨hv37, trivial⟩]
   refine Je rfl rfl ?_
   exact J0 (J4 (Ext.refl _) h1k fun Gp el => rfl)
  ·intro q3 w4 Gd e9 h1k h1l h1m
   obtain ⟨hd0_, _⟩ := h1m
   have hv38 := hd0_
   rw [J3 (ρ := q3) (l := [(38, (pt ba0 0))]) ⟨hv38, trivial⟩]
   refine Jfa 1 1 underlying163 rfl ti3 rfl rfl rfl rfl ?_
   exact J0 (J4 (Ext.refl _) h1k fun Gq em => rfl)
  intro q3 w4 Gd e9 h1k h1l h1m
  obtain ⟨hd0_, _⟩ := h1m
  have hv39 := hd0_
  rw [J3 (ρ := q3) (l := [(39, (pt ba0 1))]) ⟨hv39, trivial⟩]
  refine Jlb [_] (vi (IntKind.wrap .i64 (a0_1 + a1))) ti3 h1k rfl rfl rfl ?_
  exact J0 (J4 (Ext.refl _) h1k fun Gr en => rfl)
 intro q3 w4 Gd e9 h1k h1l h1m
 have hv30 := h1m 3 (by decide)
 have hv36 := h1m 9 (by decide)
 have hv40 := h1m 13 (by decide)
 rw [J3 (ρ := q3) (l := [(30, v4), (36, (vi (IntKind.wrap .i64 ((IntKind.wrap .i64 (a0_1 + a1)) - a1)))), (40, (vi (IntKind.wrap .i64 (a0_1 + a1))))]) ⟨hv30, hv36, hv40, trivial⟩]
 obtain ⟨Gs, h1n, eo, fa⟩ := St.rowRep (l1 := []) (T := (tInt .u8)) (xs := t3.1) h1k (EAll.mono e9.ro f5) rfl f6
 obtain ⟨h1o, hr⟩ := Ya hr
 refine WL_sliceLH (T := (tInt .u8)) underlying63 ti5 fa rfl rfl rfl rfl (of_decide_eq_true (band h1o).1) (of_decide_eq_true (band (band h1o).2).1) (of_decide_eq_true (band (band h1o).2).2) ?_
 intro v9 fb
 refine Jsv v9 rfl rfl ?_
 refine J0 (Jg ?_)
 obtain rfl := Option.some.inj hr
 exact ⟨[v9], ⟨rfl, trivial⟩, _, _, _, rfl, (e1.trans (e2.trans (e5.trans (e9.trans eo)))), h1n, ⟨v9, v4, rfl, rfl, fb, fa, (inK_wrap _ _)⟩⟩
def octet_number.l0 (t0 : ((List Int) × (List Int) × Int × Bool)) (s0 : (Int × Nat)) : Option (Step (Int × Nat) Int) :=
 bif decide (((s0.2 : Nat) : Int) < (t0.1.length : Int)) then (idx t0.1 ((s0.2 : Nat) : Int)).bind fun x0 => some (.next (bits .or .i64 (shl .i64 s0.1 8) (IntKind.wrap .i64 (x0)), s0.2 + 1)) else some (.done s0.1)
def octet_number.f (a0_f0_0 : (List Int)) (a0_f0_1 : Int) (a0_f0_2 : Bool) (a0_f0_3 : Bool) (a1 : Int) : Option ((Int × (List Int) × (List Int) × Int × Bool)) :=
 ((bif decide (a1 < 1) then some true else some (decide (a1 > 8))).bind fun t1 => bif t1 then some (-1) else some a1).bind fun t2 => (octet_Reader_take.f a0_f0_0 a0_f0_1 a0_f0_2 a0_f0_3 t2).bind fun t0 => (loop (octet_number.l0 t0) (0, 0)).bind fun t3 => some (t3, t0.1, t0.2.1, t0.2.2.1, t0.2.2.2)
def octet_number.K (ba0_f0 : Nat) (a0_f0_2 : Bool) (r : (Int × (List Int) × (List Int) × Int × Bool)) (G0 : GH) (v : Value) (N : List Res) : Prop := ∃ (v0 : Value) (v1 : Value), v = tup [(vi r.1), v0] ∧ N = [.blk ba0_f0 [v1, (vi r.2.2.2.1), (.bool a0_f0_2), (.bool r.2.2.2.2)] 163] ∧ InK .i64 r.1 ∧ SRep 5 (tInt .u8) G0 v0 r.2.1 ∧ SRep 5 (tInt .u8) G0 v1 r.2.2.1 ∧ InK .i64 r.2.2.2.1
theorem octet_number.ok {ba0_f0 : Nat} {va0_f0_0 : Value} {ca0_f0_0 : List Value} {a0_f0_0 : (List Int)} {a0_f0_1 : Int} {a0_f0_2 : Bool} {a0_f0_3 : Bool} {a1 : Int} (st : St B w G [.blk ba0_f0 [va0_f0_0, (vi a0_f0_1), (.bool a0_f0_2), (.bool a0_f0_3)] 163, .row va0_f0_0 5 1 a0_f0_0.length ca0_f0_0]) (ha0_f0_0 : EAll (tInt .u8) G ca0_f0_0 a0_f0_0) (lha0_f0_0 : a0_f0_0.length ≤ SB) (ha0_f0_1 : InK .i64 a0_f0_1) (ha1 : InK .i64 a1) {r : (Int × (List Int) × (List Int) × Int × Bool)} (hr : octet_number.f a0_f0_0 a0_f0_1 a0_f0_2 a0_f0_3 a1 = some r) :
 Calls Tryz.prog 171 ([(.func (.func 172) #[(pt ba0_f0 0)] #[]), (vi a1)] : List Value).toArray w (Ret B G (octet_number.K ba0_f0 a0_f0_2 r)) := by
 refine Jc [.tmp 4, .tmp 5] func171 rfl ntmps171 rfl rfl ?_
 refine J2 (J1 ?_)
 refine Jsv (vi 0) rfl rfl ?_
 refine Jsv (.slice none 0 0) rfl rfl ?_
 refine J0 (J2 ?_)
 obtain ⟨t2, hr, o0⟩ := J6 hr
 refine W_join (fun ρ w => ∃ (σ0 : Env) (G1 : GH), ρ = En σ0 [(0, (.func (.func 172) #[(pt ba0_f0 0)] #[])), (1, (vi t2))] ∧ Ext G G1 ∧ St B w G1 [.row va0_f0_0 5 1 a0_f0_0.length ca0_f0_0, .blk ba0_f0 [va0_f0_0, (vi a0_f0_1), (.bool a0_f0_2), (.bool a0_f0_3)] 163] ∧ InK .i64 t2) ?_ ?_
 ·refine J2 (J1 ?_)
  refine Jmv (vi a1) rfl rfl ?_
  refine Ji rfl rfl rfl ?_
  refine Jmv (.bool (decide (a1 < 1))) rfl rfl ?_
  obtain ⟨t1, hr, o1⟩ := J6 hr
  refine Jw 3 (fun ρ w => ∃ (σ1 : Env) (G2 : GH), ρ = En σ1 [(0, (.func (.func 172) #[(pt ba0_f0 0)] #[])), (1, (vi a1)), (15, (.bool t1))] ∧ Ext G G2 ∧ St B w G2 [.row va0_f0_0 5 1 a0_f0_0.length ca0_f0_0, .blk ba0_f0 [va0_f0_0, (vi a0_f0_1), (.bool a0_f0_2), (.bool a0_f0_3)] 163]) ?_ ?_
  ·rcases Y8 (decide (a1 < 1)) with hb_ | hb_
   ·have h0 : (decide (a1 < 1)) = true := hb_
    replace hr := Jx hr h0
    refine Jv rfl rfl rfl rfl h0 ?_
    refine Jv rfl rfl rfl rfl h0 ?_
    refine Y9 (v := (.bool true)) rfl rfl h0 rfl ?_
    refine J0 ?_
    have h1 := St.pick 1 rfl st
    obtain rfl := Option.some.inj hr
    exact ⟨_, _, (J3 ⟨rfl, rfl, rfl, trivial⟩), (Ext.refl _), h1⟩
   have h2 : (decide (a1 < 1)) = false := hb_
   replace hr := Jf hr h2
   refine Ja rfl rfl rfl rfl h2 ?_
   refine Jmv (vi a1) rfl rfl ?_
   refine Ja rfl rfl rfl rfl h2 ?_
   refine Yh rfl rfl rfl ?_
   refine Jt (v := (.bool (decide (a1 > 8)))) rfl rfl h2 rfl ?_
   refine J0 ?_
   have h3 := St.pick 1 rfl st
   obtain rfl := Option.some.inj hr
   exact ⟨_, _, (J3 ⟨rfl, rfl, rfl, trivial⟩), (Ext.refl _), h3⟩
  rintro _ _ ⟨σ1, G2, rfl, e0, h4⟩
  replace hr := o1
  refine J0 ?_
  refine J7 rfl (fun h5 => ?_) (fun h5 => ?_)
  ·replace hr := Jx hr h5
   refine J1 ?_
   refine Jsv (vi (-1)) rfl rfl ?_
   refine J0 ?_
   have h6 := St.pick 1 rfl h4
   have h7 := St.pick 1 rfl h6
   obtain rfl := Option.some.inj hr
   exact ⟨_, _, (J3 ⟨rfl, rfl, trivial⟩), e0, h7, (by rfl)⟩
  replace hr := Jf hr h5
  refine J9 ?_
  have h8 := St.pick 1 rfl h4
  have h9 := St.pick 1 rfl h8
  obtain rfl := Option.some.inj hr
  exact ⟨_, _, (J3 ⟨rfl, rfl, trivial⟩), e0, h9, ha1⟩
 rintro _ _ ⟨σ0, G1, rfl, e1, h10, f0⟩
 replace hr := o0
 refine J2 (J1 ?_)
 refine Jsv (vi 0) rfl rfl ?_
 refine J0 (J2 (J1 ?_))
 refine Jmv (.func (.func 172) #[(pt ba0_f0 0)] #[]) rfl rfl ?_
 refine Jmv (vi t2) rfl rfl ?_
 have h11 := St.pick 1 rfl h10
 obtain ⟨t0, h12, hr⟩ := J6 hr
 refine Y6 (f := 172) (av := [(pt ba0_f0 0), (vi t2)]) cf172 rfl rfl h11 rfl (fun G3 e2 h13 => octet_Reader_take.ok h13 (EAll.mono (e1.ro.trans e2.ro) ha0_f0_0) lha0_f0_0 ha0_f0_1 f0 h12) ?_
 rintro v2 w0 G4 G5 N0 e3 q0 ⟨_, v3, rfl, rfl, f1, f2, f3⟩ h14
 refine Jsv v2 rfl rfl ?_
 refine J0 (J2 (J2 (J1 ?_)))
 refine Jmv v2 rfl rfl ?_
 refine Jd (T := (tInt .u8)) underlying63 (SRep.mono q0 f1) rfl rfl ?_
 refine Jmv (vi 0) rfl rfl ?_
 refine J0 (Jb ?_)
 obtain ⟨t3, h15, hr⟩ := J6 hr
 refine Js 0 h15 (fun s0 ρ w => ∃ (σ2 : Env) (G6 : GH), ρ = En σ2 [(6, (vi s0.1)), (7, v2), (19, v2), (20, (vi (t0.1.length : Int))), (21, (vi ((s0.2 : Nat) : Int)))] ∧ Ext G5 G6 ∧ St B w G6 [.blk ba0_f0 [v3, (vi t0.2.2.1), (.bool a0_f0_2), (.bool t0.2.2.2)] 163] ∧ InK .i64 s0.1 ∧ InK .i64 ((s0.2 : Nat) : Int)) (fun t4 ρ w => ∃ (σ3 : Env) (G7 : GH), ρ = En σ3 [(6, (vi t4)), (7, v2)] ∧ Ext G5 G7 ∧ St B w G7 [.blk ba0_f0 [v3, (vi t0.2.2.1), (.bool a0_f0_2), (.bool t0.2.2.2)] 163] ∧ InK .i64 t4) ⟨_, _, (J3 ⟨rfl, rfl, rfl, rfl, rfl, trivial⟩), (Ext.refl _), h14, (by rfl), (by rfl)⟩ ?_ ?_
 ·rintro s0 x1 _ _ hr ⟨σ2, G6, rfl, e4, h16, f4, f5⟩
  refine J2 (J1 ?_)
  refine Ji rfl rfl rfl ?_
  refine J0 (J2 ?_)
  refine J7 rfl (fun h17 => ?_) (fun h17 => ?_)
  ·replace hr := Jx hr h17
   refine J9 (J2 (Jb (J2 (J1 ?_))))
   obtain ⟨x0, h18, hr⟩ := J6 hr
   refine Jh (T := (tInt .u8)) underlying63 ti5 h16 (SRep.mono e4.ro (SRep.mono q0 f1)) rfl rfl rfl h18 ?_
   intro b0 o2 c0 l3 f6
   obtain ⟨rfl, f7⟩ := f6
   refine Y4 (v := (.int .u8 x0)) ti5 rfl rfl (LiesG.lies l3 h16) rfl ?_
   refine Jsv (.int .u8 x0) rfl rfl ?_
   refine J0 (J1 ?_)
   refine Jmv (vi s0.1) rfl rfl ?_
   refine WL_shl rfl rfl rfl (by decide) ?_
   refine Jmv (.int .u8 x0) rfl rfl ?_
   refine WL_conv (by rw [underlying5]; rfl) underlying2 rfl rfl ?_
   refine WL_bits rfl rfl rfl (by simp) ?_
   refine Jsv (vi (bits .or .i64 (shl .i64 s0.1 8) (IntKind.wrap .i64 (x0)))) rfl rfl ?_
   refine J0 (J1 ?_)
   refine Y2 rfl rfl rfl (of_decide_eq_true h17) (inK_len (SRep.le (SRep.mono q0 f1))) ?_
   refine Jmv (vi ((s0.2 + 1 : Nat) : Int)) rfl rfl ?_
   refine J0 ?_
   exact ⟨_, (Option.some.inj hr).symm, _, _, (J3 ⟨rfl, rfl, rfl, rfl, rfl, trivial⟩), e4, h16, (inK_wrap _ _), (inK_inc (of_decide_eq_true h17) (inK_len (SRep.le (SRep.mono q0 f1))))⟩
  replace hr := Jf hr h17
  refine Jr ?_
  exact ⟨_, (Option.some.inj hr).symm, rfl, _, _, (J3 ⟨rfl, rfl, trivial⟩), e4, h16, f4⟩
 rintro _ _ ⟨σ3, G7, rfl, e5, h19, f8⟩
 refine J2 (J1 ?_)
 refine Jmv (vi t3) rfl rfl ?_
 refine Jmv v2 rfl rfl ?_
 refine Jsv (vi t3) rfl rfl ?_
 refine Jsv v2 rfl rfl ?_
 refine J0 (Jg ?_)
 obtain rfl := Option.some.inj hr
 exact ⟨[(vi t3), v2], ⟨rfl, rfl, trivial⟩, _, _, _, rfl, (e1.trans (e3.trans e5)), h19, ⟨v2, v3, rfl, rfl, f8, (SRep.mono e5.ro (SRep.mono q0 f1)), (SRep.mono e5.ro (SRep.mono q0 f2)), f3⟩⟩
end Go.Proofs.YtnglgjgflohkmaaGreat.Sk
