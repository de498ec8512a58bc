/- Walks, printed by gen.py. No condition. -/
import Derived.Test.YtnglgjgflohkmaaGreatSkTy
import Derived.Test.YtnglgjgflohkmaaGreatSkW5
import Derived.Test.YtnglgjgflohkmaaGreatSkW8
import Derived.Test.YtnglgjgflohkmaaGreatSkW12
import Derived.Test.YtnglgjgflohkmaaGreatSkW13
namespace Go.Proofs.YtnglgjgflohkmaaGreat.Sk
open Go Go.Proofs.Tryz
set_option linter.unusedVariables false
set_option linter.unusedSimpArgs false
variable {B w : World} {G : GH}
set_option linter.unusedVariables false
set_option maxHeartbeats 4000000
set_option maxRecDepth 100000
def sheerleglaw20_FileTold.f (a0 : XObject) (a1 : Int) (a2 : Int) : Option (Bool) :=
 (sheerlegref19_Few.f a0).bind fun t0 => bif !t0 then (sheerleglaw20_known.f).bind fun t1 => some t1 else (file_Put.f a0).bind fun t2 => bif decide ((([] : (List Int)).length + t2.length) * 1 ≤ SB) then (bif decide (a1 < 0) then some true else some (decide (a1 ≥ ((([] : (List Int)) ++ t2).length : Int)))).bind fun t3 => (bif t3 then some true else some (decide (a2 = 0))).bind fun t4 => bif t4 then (sheerleglaw20_known.f).bind fun t5 => some t5 else (idx (([] : (List Int)) ++ t2) a1).bind fun x0 => (idx (([] : (List Int)) ++ t2) a1).bind fun x1 => (file_Get.f ((([] : (List Int)) ++ t2).set (Int.toNat (a1)) (IntKind.wrap .u8 (x0 + a2)))).bind fun t6 => (bif decide (t6.2.2.2 = 4) then (sheerlegref19_Same.f ({ Symbols := t6.1, Funcs := t6.2.1, Datas := t6.2.2.1 } : XObject) ({ Symbols := [], Funcs := [], Datas := [] } : XObject)).bind fun t7 => some true else some false).bind fun t8 => (bif t8 then (sheerleglaw20_known.f).bind fun t9 => some t9 else some false).bind fun ta => some ta else none
def sheerleglaw20_FileTold.K (r : Bool) (G0 : GH) (v : Value) (N : List Res) : Prop := v = tup [(.bool r)] ∧ N = []
theorem sheerleglaw20_FileTold.ok {ca0 : List Value} {a0 : XObject} {a1 : Int} {a2 : Int} (st : St B w G []) (ha0 : TObject.rep G ca0 a0) (ha1 : InK .i64 a1) (ha2 : InK .u8 a2) {r : Bool} (hr : sheerleglaw20_FileTold.f a0 a1 a2 = some r) :
 Calls Tryz.prog 8 ([(.agg ca0.toArray), (vi a1), (.int .u8 a2)] : List Value).toArray w (Ret B G (sheerleglaw20_FileTold.K r)) := by
 obtain ⟨sa0_0, sa0_1, sa0_2, rfl, ha0_0, ha0_1, ha0_2⟩ := ha0
 refine Jc [.tmp 6] func8 rfl ntmps8 rfl rfl ?_
 refine J2 (J1 ?_)
 refine Ju (cs := [sa0_0, sa0_1, sa0_2]) st rfl rfl rfl ?_
 intro b0 w0 h0
 refine Jsv (.bool false) rfl rfl ?_
 refine J0 (J2 (J2 (J1 ?_)))
 refine Jl (l1 := []) (vs := [sa0_0, sa0_1, sa0_2]) ti61 h0 rfl rfl rfl rfl ?_
 obtain ⟨t0, h1, hr⟩ := J6 hr
 refine J8 (f := 19) (av := [(.agg #[sa0_0, sa0_1, sa0_2])]) cf19 rfl rfl h0 rfl (fun G1 e0 h2 => sheerlegref19_Few.ok (a0 := a0) h2 (⟨sa0_0, sa0_1, sa0_2, rfl, (SRep.mono e0.ro ha0_0), (SRep.mono e0.ro ha0_1), (SRep.mono e0.ro ha0_2)⟩) h1) ?_
 rintro v0 w1 G2 G3 N0 e1 q0 ⟨rfl, rfl⟩ h3
 refine Yc rfl rfl ?_
 refine J0 ?_
 refine J7 rfl (fun h4 => ?_) (fun h4 => ?_)
 ·replace hr := Jx hr h4
  refine J2 (J1 ?_)
  obtain ⟨t1, h5, hr⟩ := J6 hr
  refine J8 (f := 20) (av := []) cf20 rfl rfl h3 rfl (fun G4 e2 h6 => sheerleglaw20_known.ok h6 h5) ?_
  rintro v1 w2 G5 G6 N1 e3 q1 ⟨rfl, rfl⟩ h7
  refine Jsv (.bool t1) rfl rfl ?_
  refine J0 (Jg ?_)
  have h8 := St.takeN 0 h7
  obtain rfl := Option.some.inj hr
  exact ⟨[(.bool t1)], ⟨rfl, trivial⟩, _, _, _, rfl, (e1.trans e3), h8, ⟨rfl, rfl⟩⟩
 replace hr := Jf hr h4
 refine J9 (J2 (J1 ?_))
 refine Jsv (.slice none 0 0) rfl rfl ?_
 refine J0 (J2 (J1 ?_))
 refine Jmv (.slice none 0 0) rfl rfl ?_
 refine Jl (l1 := []) (vs := [sa0_0, sa0_1, sa0_2]) ti61 h3 rfl rfl rfl rfl ?_
 obtain ⟨t2, h9, hr⟩ := J6 hr
 refine J8 (f := 28) (av := [(.agg #[sa0_0, sa0_1, sa0_2])]) cf28 rfl rfl h3 rfl (fun G7 e4 h10 => file_Put.ok (a0 := a0) h10 (⟨sa0_0, sa0_1, sa0_2, rfl, (SRep.mono (e1.ro.trans e4.ro) ha0_0), (SRep.mono (e1.ro.trans e4.ro) ha0_1), (SRep.mono (e1.ro.trans e4.ro) ha0_2)⟩) h9) ?_
 rintro v2 w3 G8 G9 N2 e5 q2 ⟨_, c0, rfl, rfl, f0, f1⟩ h11
 have h12 := St.nilRow h11 5 1
 obtain ⟨Ga, h13, e6, f2⟩ := St.rowRep (l1 := [_]) (T := (tInt .u8)) (xs := t2) h12 (EAll.mono q2 f0) rfl f1
 obtain ⟨h14, hr⟩ := Ya hr
 refine Yf (l1 := []) (T := (tInt .u8)) (xs := t2) underlying63 ti5 h13 rfl rfl f2 rfl rfl rfl (app_limN rfl h14) (app_leN rfl h14) ?_
 intro v3 w4 n0 E0 h15
 have E1 := EAll.append (T := (tInt .u8)) (EAll.mono e6.ro EAll.nil) E0
 refine Jsv v3 rfl rfl ?_
 refine J0 (J2 (J2 (J1 ?_)))
 refine Jmv (vi a1) rfl rfl ?_
 refine Ji rfl rfl rfl ?_
 refine Jmv (.bool (decide (a1 < 0))) rfl rfl ?_
 obtain ⟨t3, hr, o0⟩ := J6 hr
 refine Jw 5 (fun ρ w => ∃ (σ0 : Env) (Gb : GH), ρ = En σ0 [(1, (vi a1)), (2, (.int .u8 a2)), (7, v3), (25, (.bool t3))] ∧ Ext Ga Gb ∧ St B w Gb [.row v3 5 1 (0 + t2.length) ([] ++ n0)]) ?_ ?_
 ·rcases Y8 (decide (a1 < 0)) with hb_ | hb_
  ·have h16 : (decide (a1 < 0)) = true := hb_
   replace hr := Jx hr h16
   refine Jv rfl rfl rfl rfl h16 ?_
   refine Jv rfl rfl rfl rfl h16 ?_
   refine Jv rfl rfl rfl rfl h16 ?_
   refine Jv rfl rfl rfl rfl h16 ?_
   refine Y9 (v := (.bool true)) rfl rfl h16 rfl ?_
   refine J0 ?_
   have h17 := St.takeN 1 h15
   obtain rfl := Option.some.inj hr
   exact ⟨_, _, (J3 ⟨rfl, rfl, rfl, rfl, trivial⟩), (Ext.refl _), h17⟩
  have h18 : (decide (a1 < 0)) = false := hb_
  replace hr := Jf hr h18
  refine Ja rfl rfl rfl rfl h18 ?_
  refine Jmv (vi a1) rfl rfl ?_
  refine Ja rfl rfl rfl rfl h18 ?_
  refine Jmv v3 rfl rfl ?_
  refine Ja rfl rfl rfl rfl h18 ?_
  refine WL_lenOwn (l1 := []) underlying63 h15 rfl rfl ?_
  rw [show (((0 + t2.length) : Nat) : Int) = ((([] : (List Int)) ++ t2).length : Int) from congrArg Int.ofNat (Eq.symm (len_app rfl))]
  refine Ja rfl rfl rfl rfl h18 ?_
  refine Yk rfl rfl rfl ?_
  refine Jt (v := (.bool (decide (a1 ≥ ((([] : (List Int)) ++ t2).length : Int))))) rfl rfl h18 rfl ?_
  refine J0 ?_
  have h19 := St.takeN 1 h15
  obtain rfl := Option.some.inj hr
  exact ⟨_, _, (J3 ⟨rfl, rfl, rfl, rfl, trivial⟩), (Ext.refl _), h19⟩
 rintro _ _ ⟨σ0, Gb, rfl, e7, h1a⟩
 replace hr := o0
 refine Jmv (.bool t3) rfl rfl ?_
 obtain ⟨t4, hr, o1⟩ := J6 hr
 refine Jw 3 (fun ρ w => ∃ (σ1 : Env) (Gc : GH), ρ = En σ1 [(1, (vi a1)), (2, (.int .u8 a2)), (7, v3), (29, (.bool t4))] ∧ Ext Gb Gc ∧ St B w Gc [.row v3 5 1 (0 + t2.length) ([] ++ n0)]) ?_ ?_
 ·rcases Y8 (t3) with hb_ | hb_
  ·have h1b : (t3) = true := hb_
   replace hr := Jx hr h1b
   refine Jv rfl rfl rfl rfl h1b ?_
   refine Jv rfl rfl rfl rfl h1b ?_
   refine Y9 (v := (.bool true)) rfl rfl h1b rfl ?_
   refine J0 ?_
   obtain rfl := Option.some.inj hr
   exact ⟨_, _, (J3 ⟨rfl, rfl, rfl, rfl, trivial⟩), (Ext.refl _), h1a⟩
  have h1c : (t3) = false := hb_
  replace hr := Jf hr h1c
  refine Ja rfl rfl rfl rfl h1c ?_
  refine Jmv (.int .u8 a2) rfl rfl ?_
  refine Ja rfl rfl rfl rfl h1c ?_
  refine Y3 rfl rfl rfl ?_
  refine Jt (v := (.bool (decide (a2 = 0)))) rfl rfl h1c rfl ?_
  refine J0 ?_
  obtain rfl := Option.some.inj hr
  exact ⟨_, _, (J3 ⟨rfl, rfl, rfl, rfl, trivial⟩), (Ext.refl _), h1a⟩
 rintro _ _ ⟨σ1, Gc, rfl, e8, h1d⟩
 replace hr := o1
 refine J0 ?_
 refine J7 rfl (fun h1e => ?_) (fun h1e => ?_)
 ·replace hr := Jx hr h1e
  refine J2 (J1 ?_)
  obtain ⟨t5, h1f, hr⟩ := J6 hr
  refine J8 (f := 20) (av := []) cf20 rfl rfl h1d rfl (fun Gd e9 h1g => sheerleglaw20_known.ok h1g h1f) ?_
  rintro v4 w5 Ge Gf N3 ea q3 ⟨rfl, rfl⟩ h1h
  refine Jsv (.bool t5) rfl rfl ?_
  refine J0 (Jg ?_)
  have h1i := St.takeN 0 h1h
  obtain rfl := Option.some.inj hr
  exact ⟨[(.bool t5)], ⟨rfl, trivial⟩, _, _, _, rfl, (e1.trans (e5.trans (e6.trans (e7.trans (e8.trans ea))))), h1i, ⟨rfl, rfl⟩⟩
 replace hr := Jf hr h1e
 refine J9 (J2 (J1 ?_))
 refine Jmv v3 rfl rfl ?_
 refine Jmv (vi a1) rfl rfl ?_
 refine Jmv v3 rfl rfl ?_
 refine Jmv (vi a1) rfl rfl ?_
 obtain ⟨x0, h1j, hr⟩ := J6 hr
 refine Y7 (l1 := []) underlying63 ti5 h1d rfl rfl rfl (idx_some h1j).1 (idx_m h1j (len_app rfl)) ?_
 intro g0 k0 l0
 refine WL_loadOwn1 (l1 := []) (T := (tInt .u8)) ti5 rfl h1d k0 (EAll.mono (e7.ro.trans e8.ro) E1) rfl rfl h1j ?_
 intro c1 f3
 obtain ⟨rfl, f4⟩ := one_int f3
 refine Jmv (.int .u8 a2) rfl rfl ?_
 refine Yj rfl rfl rfl ?_
 obtain ⟨x1, h1k, hr⟩ := J6 hr
 refine Y7 (l1 := []) underlying63 ti5 h1d rfl rfl rfl (idx_some h1k).1 (idx_m h1k (len_app rfl)) ?_
 intro g1 k1 l3
 refine WL_storeOwn (l1 := []) (vs := [(.int .u8 (IntKind.wrap .u8 (x0 + a2)))]) ti5 h1d k1 rfl rfl rfl rfl (J5 rfl (fun _ h => nomatch h)) (EAll.fits (EAll.mono (e7.ro.trans e8.ro) E1) h1k) ?_
 intro w6 h1l
 have E2 := EAll.set (T := (tInt .u8)) (x := (IntKind.wrap .u8 (x0 + a2))) (d := [(.int .u8 (IntKind.wrap .u8 (x0 + a2)))]) (EAll.mono (e7.ro.trans e8.ro) E1) (idx_lt h1k) ⟨rfl, (inK_wrap _ _)⟩
 refine J0 (J2 (J1 ?_))
 refine Jmv v3 rfl rfl ?_
 obtain ⟨Gg, h1m, eb, f5⟩ := St.rowRep (l1 := []) (T := (tInt .u8)) (xs := ((([] : (List Int)) ++ t2).set (Int.toNat (a1)) (IntKind.wrap .u8 (x0 + a2)))) h1l E2 ((List.length_set ..).trans (len_app rfl)) (app_leN rfl h14)
 obtain ⟨t6, h1n, hr⟩ := J6 hr
 refine J8 (f := 21) (av := [v3]) cf21 rfl rfl h1m rfl (fun Gh ec h1o => file_Get.ok h1o (SRep.mono ec.ro f5) h1n) ?_
 rintro v5 w7 Gi Gj N4 ed q4 ⟨v6, v7, v8, c2, c3, c4, rfl, rfl, f6, f7, f8, f9, fa, fb, fc⟩ h1p
 refine Jmv (.tuple #[(.agg #[v6, v7, v8]), (vi t6.2.2.2)]) rfl rfl ?_
 refine Jm rfl rfl rfl ?_
 refine Jm rfl rfl rfl ?_
 refine Jo ti61 h1p rfl ?_
 intro b1 w8 h1q
 refine Jp (l1 := []) (vs := [v6, v7, v8]) ti61 h1q rfl rfl rfl (J5 (row_one (St.mid (l1 := [_]) h1q)) (J5 (row_one (St.mid (l1 := [_, _]) h1q)) (J5 (row_one (St.mid (l1 := [_, _, _]) h1q)) (fun _ h => nomatch h)))) rfl ?_
 intro w9 (h1r : St B w9 Gj [.blk b1 [v6, v7, v8] 61, .row v6 82 5 t6.1.length c2, .row v7 44 9 t6.2.1.length c3, .row v8 49 3 t6.2.2.1.length c4])
 refine Jsv (vi t6.2.2.2) rfl rfl ?_
 refine J0 (J2 (J1 ?_))
 refine Jmv (vi t6.2.2.2) rfl rfl ?_
 refine Y3 rfl rfl rfl ?_
 refine Jmv (.bool (decide (t6.2.2.2 = 4))) rfl rfl ?_
 obtain ⟨t8, hr, o2⟩ := J6 hr
 refine Jw 4 (fun ρ w => ∃ (σ2 : Env) (Gk : GH), ρ = En σ2 [(51, (.bool t8))] ∧ Ext Gj Gk ∧ St B w Gk []) ?_ ?_
 ·rcases Y8 (decide (t6.2.2.2 = 4)) with hb_ | hb_
  ·have h1s : (decide (t6.2.2.2 = 4)) = true := hb_
   replace hr := Jx hr h1s
   refine Ja rfl rfl rfl rfl h1s ?_
   refine Jl (l1 := []) (vs := [v6, v7, v8]) ti61 h1r rfl rfl rfl rfl ?_
   refine Ja rfl rfl rfl rfl h1s ?_
   refine Y0 (cells := #[(.slice none 0 0), (.slice none 0 0), (.slice none 0 0)]) rfl (by kernel_rfl) ?_
   refine Ja rfl rfl rfl rfl h1s ?_
   obtain ⟨Gl, h1t, ee, fd⟩ := St.rowRep (l1 := [_]) (T := TSymbol) (xs := t6.1) h1r (EAll.mono q4 f6) rfl f7
   obtain ⟨Gm, h1u, ef, fe⟩ := St.rowRep (l1 := [_]) (T := TFunc) (xs := t6.2.1) h1t (EAll.mono ee.ro (EAll.mono q4 f8)) rfl f9
   obtain ⟨Gn, h1v, eg, ff⟩ := St.rowRep (l1 := [_]) (T := TData) (xs := t6.2.2.1) h1u (EAll.mono (ee.ro.trans ef.ro) (EAll.mono q4 fa)) rfl fb
   obtain ⟨t7, h1w, hr⟩ := J6 hr
   refine J8 (f := 25) (av := [(.agg #[v6, v7, v8]), (.agg #[(.slice none 0 0), (.slice none 0 0), (.slice none 0 0)])]) cf25 rfl rfl h1v rfl (fun Go eh h1x => sheerlegref19_Same.ok (a0 := ({ Symbols := t6.1, Funcs := t6.2.1, Datas := t6.2.2.1 } : XObject)) (a1 := ({ Symbols := [], Funcs := [], Datas := [] } : XObject)) h1x (⟨v6, v7, v8, rfl, (SRep.mono ((ef.ro.trans eg.ro).trans eh.ro) fd), (SRep.mono (eg.ro.trans eh.ro) fe), (SRep.mono eh.ro ff)⟩) (⟨(.slice none 0 0), (.slice none 0 0), (.slice none 0 0), rfl, SRep.nil, SRep.nil, SRep.nil⟩) h1w) ?_
   rintro v9 wa Gp Gq N5 ei q5 ⟨rfl, rfl⟩ h1y
   refine Y9 (v := (.bool true)) rfl rfl h1s rfl ?_
   refine J0 ?_
   have h1z := St.takeN 0 h1y
   obtain rfl := Option.some.inj hr
   exact ⟨_, _, (J3 ⟨rfl, trivial⟩), (ee.trans (ef.trans (eg.trans ei))), h1z⟩
  have h20 : (decide (t6.2.2.2 = 4)) = false := hb_
  replace hr := Jf hr h20
  refine Jv rfl rfl rfl rfl h20 ?_
  refine Jv rfl rfl rfl rfl h20 ?_
  refine Jv rfl rfl rfl rfl h20 ?_
  refine Jt (v := (.bool false)) rfl rfl h20 rfl ?_
  refine J0 ?_
  have h21 := St.takeN 0 h1r
  obtain rfl := Option.some.inj hr
  exact ⟨_, _, (J3 ⟨rfl, trivial⟩), (Ext.refl _), h21⟩
 rintro _ _ ⟨σ2, Gk, rfl, ej, h22⟩
 replace hr := o2
 refine Jmv (.bool t8) rfl rfl ?_
 obtain ⟨ta, hr, o3⟩ := J6 hr
 refine Jw 2 (fun ρ w => ∃ (σ3 : Env) (Gr : GH), ρ = En σ3 [(54, (.bool ta))] ∧ Ext Gk Gr ∧ St B w Gr []) ?_ ?_
 ·rcases Y8 (t8) with hb_ | hb_
  ·have h23 : (t8) = true := hb_
   replace hr := Jx hr h23
   refine Ja rfl rfl rfl rfl h23 ?_
   obtain ⟨t9, h24, hr⟩ := J6 hr
   refine J8 (f := 20) (av := []) cf20 rfl rfl h22 rfl (fun Gs ek h25 => sheerleglaw20_known.ok h25 h24) ?_
   rintro va wb Gt Gu N6 el q6 ⟨rfl, rfl⟩ h26
   refine Y9 (v := (.bool t9)) rfl rfl h23 rfl ?_
   refine J0 ?_
   obtain rfl := Option.some.inj hr
   exact ⟨_, _, (J3 ⟨rfl, trivial⟩), el, h26⟩
  have h27 : (t8) = false := hb_
  replace hr := Jf hr h27
  refine Jv rfl rfl rfl rfl h27 ?_
  refine Jt (v := (.bool false)) rfl rfl h27 rfl ?_
  refine J0 ?_
  obtain rfl := Option.some.inj hr
  exact ⟨_, _, (J3 ⟨rfl, trivial⟩), (Ext.refl _), h22⟩
 rintro _ _ ⟨σ3, Gr, rfl, em, h28⟩
 replace hr := o3
 refine Jsv (.bool ta) rfl rfl ?_
 refine J0 (Jg ?_)
 obtain rfl := Option.some.inj hr
 exact ⟨[(.bool ta)], ⟨rfl, trivial⟩, _, _, _, rfl, (e1.trans (e5.trans (e6.trans (e7.trans (e8.trans (eb.trans (ed.trans (ej.trans em)))))))), h28, ⟨rfl, rfl⟩⟩
end Go.Proofs.YtnglgjgflohkmaaGreat.Sk
