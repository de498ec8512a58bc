/- Walks, printed by gen.py. No condition. -/
import Derived.Test.YtnglgjgflohkmaaGreatSkTy
import Derived.Test.YtnglgjgflohkmaaGreatSkW3
import Derived.Test.YtnglgjgflohkmaaGreatSkW4
import Derived.Test.YtnglgjgflohkmaaGreatSkW5
import Derived.Test.YtnglgjgflohkmaaGreatSkW6
import Derived.Test.YtnglgjgflohkmaaGreatSkW7
import Derived.Test.YtnglgjgflohkmaaGreatSkW8
namespace Go.Proofs.YtnglgjgflohkmaaGreat.Sk
open Go Go.Proofs.Tryz
set_option linter.unusedVariables false
set_option linter.unusedSimpArgs false
variable {B w : World} {G : GH}
set_option linter.unusedVariables false
set_option maxHeartbeats 4000000
set_option maxRecDepth 100000
def data_Check.l0 (a0 : XData) (s0 : Unit) : Option (Step Unit Unit) :=
 bif decide (0 < (a0.Relocs.length : Int)) then none else some (.done ())
def data_Check.f (a0 : XData) (a1 : (List XSymbol)) : Option (Unit) :=
 (sig_Text.f a0.Kind).bind fun t0 => bif seq t0 ({data := #[]} : ByteArray) then none else bif decide ((a0.Words.length : Int) > 32) then none else (bif decide (a0.Kind ≠ 0) then none else some ()).bind fun t1 => (data_rules.f a0 a1).bind fun t2 => (loop (data_Check.l0 a0) ()).bind fun t3 => some ()
def data_Check.K (r : Unit) (G89 : GH) (v : Value) (N : List Res) : Prop := v = tup [(vi 0)] ∧ N = []
theorem data_Check.ok {ca0 : List Value} {a0 : XData} {va1 : Value} {a1 : (List XSymbol)} (st : St B w G []) (ha0 : TData.rep G ca0 a0) (ha1 : SRep 82 TSymbol G va1 a1) {r : Unit} (hr : data_Check.f a0 a1 = some r) :
 Calls Tryz.prog 146 ([(.agg ca0.toArray), va1] : List Value).toArray w (Ret B G (data_Check.K r)) := by
 obtain ⟨sa0_1, sa0_2, rfl, ha0_0, ha0_1, ha0_2⟩ := ha0
 refine Jc [.tmp 4] func146 rfl ntmps146 rfl rfl ?_
 refine J2 (J1 ?_)
 refine Ju (cs := [(vi a0.Kind), sa0_1, sa0_2]) st rfl rfl rfl ?_
 intro b0 w0 h0
 refine Jsv (vi 0) rfl rfl ?_
 refine J0 (J2 (Jb (J2 (J1 ?_))))
 refine Jfa 0 0 underlying49 rfl ti3 rfl rfl rfl rfl ?_
 refine Jlb [] (vi a0.Kind) ti3 h0 rfl rfl rfl ?_
 obtain ⟨t0, h1, hr⟩ := J6 hr
 refine J8 (f := 186) (av := [(vi a0.Kind)]) cf186 rfl rfl h0 rfl (fun G0 e0 h2 => sig_Text.ok h2 ha0_0 h1) ?_
 rintro v0 w1 G1 G2 N0 e1 q0 ⟨rfl, rfl, f0⟩ h3
 refine WL_seql rfl rfl rfl ?_
 refine Jsv (.bool (seq t0 ({data := #[]} : ByteArray))) rfl rfl ?_
 refine J0 ?_
 refine J7 rfl (fun h4 => ?_) (fun h4 => ?_)
 ·exact Jk hr h4
 replace hr := Jf hr h4
 refine J2 (J1 ?_)
 refine Jfa 1 1 underlying49 rfl ti47 rfl rfl rfl rfl ?_
 refine Jlb [] sa0_1 ti47 h3 rfl rfl rfl ?_
 refine Jd (T := (tInt .i64)) underlying47 (SRep.mono e1.ro ha0_1) rfl rfl ?_
 refine Yh rfl rfl rfl ?_
 refine Jsv (.bool (decide ((a0.Words.length : Int) > 32))) rfl rfl ?_
 refine J0 ?_
 refine J7 rfl (fun h5 => ?_) (fun h5 => ?_)
 ·exact Jk hr h5
 replace hr := Jf hr h5
 refine J2 (J1 ?_)
 refine Jfa 0 0 underlying49 rfl ti3 rfl rfl rfl rfl ?_
 refine Jlb [] (vi a0.Kind) ti3 h3 rfl rfl rfl ?_
 refine Y1 rfl rfl rfl ?_
 refine Jmv (.bool (decide (a0.Kind ≠ 0))) rfl rfl ?_
 obtain ⟨t1, hr, o0⟩ := J6 hr
 refine Jw 4 (fun ρ w => ∃ (σ0 : Env) (G3 : GH), ρ = En σ0 [(1, va1), (2, (pt b0 0)), (28, (.bool false))] ∧ Ext G2 G3 ∧ St B w G3 [.blk b0 [(vi a0.Kind), sa0_1, sa0_2] 49]) ?_ ?_
 ·rcases Y8 (decide (a0.Kind ≠ 0)) with hb_ | hb_
  ·exact Jk hr hb_
  have h6 : (decide (a0.Kind ≠ 0)) = false := hb_
  replace hr := Jf hr h6
  refine Jv rfl rfl rfl rfl h6 ?_
  refine Jv rfl rfl rfl rfl h6 ?_
  refine Jv rfl rfl rfl rfl h6 ?_
  refine Jt (v := (.bool false)) rfl rfl h6 rfl ?_
  refine J0 ?_
  obtain rfl := Option.some.inj hr
  exact ⟨_, _, (J3 ⟨rfl, rfl, rfl, trivial⟩), (Ext.refl _), h3⟩
 rintro _ _ ⟨σ0, G3, rfl, e2, h7⟩
 replace hr := o0
 refine Jsv (.bool false) rfl rfl ?_
 refine J0 ?_
 refine J7 rfl (fun h => nomatch h) (fun _ => ?_)
 refine J9 (J2 (J1 ?_))
 refine Jl (l1 := []) (vs := [(vi a0.Kind), sa0_1, sa0_2]) ti49 h7 rfl rfl rfl rfl ?_
 refine Jmv va1 rfl rfl ?_
 obtain ⟨t2, h8, hr⟩ := J6 hr
 refine J8 (f := 192) (av := [(.agg #[(vi a0.Kind), sa0_1, sa0_2]), va1]) cf192 rfl rfl h7 rfl (fun G4 e3 h9 => data_rules.ok (a0 := a0) h9 (⟨sa0_1, sa0_2, rfl, ha0_0, (SRep.mono ((e1.ro.trans e2.ro).trans e3.ro) ha0_1), (SRep.mono ((e1.ro.trans e2.ro).trans e3.ro) ha0_2)⟩) (SRep.mono ((e1.ro.trans e2.ro).trans e3.ro) ha1) h8) ?_
 rintro v1 w2 G5 G6 N1 e4 q1 ⟨_, v2, v3, b1, b2, b3, rfl, rfl, f1, f2⟩ h10
 refine Jsv v1 rfl rfl ?_
 refine J0 (J2 (J2 (J1 ?_)))
 refine Jfa 2 2 underlying49 rfl ti42 rfl rfl rfl rfl ?_
 refine Jlb [_, _, _, _] sa0_2 ti42 h10 rfl rfl rfl ?_
 refine Jd (T := TReloc) underlying42 (SRep.mono (e1.ro.trans (e2.ro.trans e4.ro)) ha0_2) rfl rfl ?_
 refine Jmv (vi 0) rfl rfl ?_
 refine J0 (Jb ?_)
 obtain ⟨t3, h11, hr⟩ := J6 hr
 have h12 := St.pick 3 rfl h10
 have h13 := St.pick 3 rfl h12
 have h14 := St.pick 3 rfl h13
 have h15 := St.pick 3 rfl h14
 have h16 := St.takeN 4 h15
 refine Js 1 h11 (fun s0 ρ w => ∃ (σ1 : Env) (G7 : GH), ρ = En σ1 [(5, v1), (33, sa0_2), (34, (vi (a0.Relocs.length : Int))), (35, (vi 0))] ∧ Ext G6 G7 ∧ St B w G7 [.blk b1 [(vi a0.Kind), v2, v3] 49, .blk b2 [va1] 57, .blk b3 [(vi 0)] 3, .row v1 249 2 5 [(.func (.func 215) #[] #[(pt b1 0)]), (vi 11), (.func (.func 216) #[] #[(pt b1 0)]), (vi 11), (.func (.func 217) #[] #[(pt b1 0)]), (vi 11), (.func (.func 218) #[] #[(pt b2 0)]), (vi 11), (.func (.func 219) #[] #[(pt b2 0), (pt b3 0)]), (vi 8)]]) (fun t4 ρ w => ∃ (σ2 : Env) (G8 : GH), ρ = En σ2 [] ∧ Ext G6 G8 ∧ St B w G8 []) ⟨_, _, (J3 ⟨rfl, rfl, rfl, rfl, trivial⟩), (Ext.refl _), h16⟩ ?_ ?_
 ·rintro s0 x0 _ _ hr ⟨σ1, G7, rfl, e5, h17⟩
  refine J2 (J1 ?_)
  refine Ji rfl rfl rfl ?_
  refine J0 (J2 ?_)
  refine J7 rfl (fun h18 => ?_) (fun h18 => ?_)
  ·exact Jk hr h18
  replace hr := Jf hr h18
  refine Jr ?_
  have h19 := St.takeN 0 h17
  exact ⟨_, (Option.some.inj hr).symm, rfl, _, _, rfl, e5, h19⟩
 rintro _ _ ⟨σ2, G8, rfl, e6, h1a⟩
 refine J2 (J1 ?_)
 refine Jsv (vi 0) rfl rfl ?_
 refine J0 (Jg ?_)
 obtain rfl := Option.some.inj hr
 exact ⟨[(vi 0)], ⟨rfl, trivial⟩, _, _, _, rfl, (e1.trans (e2.trans (e4.trans e6))), h1a, ⟨rfl, rfl⟩⟩
def flow_Check.l0 (t0 : (List (List Int))) (a0 : (List XInstr)) (s0 : Nat) : Option (Step Nat Unit) :=
 bif decide (((s0 : Nat) : Int) < (t0.length : Int)) then (idx t0 ((s0 : Nat) : Int)).bind fun x0 => (slices_ContainsFunc_int_int.f x0 a0).bind fun t1 => some (.next (s0 + 1)) else some (.done ())
def flow_Check.f (a0 : (List XInstr)) : Option (Unit) :=
 bif decide ((a0.length : Int) = 0) then none else bif decide ((a0.length : Int) > 64) then none else (flow_graph.f a0).bind fun t0 => (loop (flow_Check.l0 t0 a0) 0).bind fun t2 => some ()
def flow_Check.K (r : Unit) (G0 : GH) (v : Value) (N : List Res) : Prop := v = tup [(vi 0)] ∧ N = []
theorem flow_Check.ok {va0 : Value} {a0 : (List XInstr)} (st : St B w G []) (ha0 : SRep 54 TInstr G va0 a0) {r : Unit} (hr : flow_Check.f a0 = some r) :
 Calls Tryz.prog 245 ([va0] : List Value).toArray w (Ret B G (flow_Check.K r)) := by
 refine Jc [.tmp 2] func245 rfl ntmps245 rfl rfl ?_
 refine J2 (J1 ?_)
 refine Ju (cs := [va0]) st rfl rfl (cells_one (SRep.one ha0)) ?_
 intro b0 w0 h0
 refine Jsv (vi 0) rfl rfl ?_
 refine J0 (J2 (Jb (J2 (J1 ?_))))
 refine Jlb [] va0 ti41 h0 rfl rfl rfl ?_
 refine Jd (T := TInstr) underlying41 ha0 rfl rfl ?_
 refine Y3 rfl rfl rfl ?_
 refine Jsv (.bool (decide ((a0.length : Int) = 0))) rfl rfl ?_
 refine J0 ?_
 refine J7 rfl (fun h1 => ?_) (fun h1 => ?_)
 ·exact Jk hr h1
 replace hr := Jf hr h1
 refine J2 (J1 ?_)
 refine Jlb [] va0 ti41 h0 rfl rfl rfl ?_
 refine Jd (T := TInstr) underlying41 ha0 rfl rfl ?_
 refine Yh rfl rfl rfl ?_
 refine Jsv (.bool (decide ((a0.length : Int) > 64))) rfl rfl ?_
 refine J0 ?_
 refine J7 rfl (fun h2 => ?_) (fun h2 => ?_)
 ·exact Jk hr h2
 replace hr := Jf hr h2
 refine J9 (J2 (J2 (J1 ?_)))
 refine Jlb [] va0 ti41 h0 rfl rfl rfl ?_
 obtain ⟨t0, h3, hr⟩ := J6 hr
 refine J8 (f := 254) (av := [va0]) cf254 rfl rfl h0 rfl (fun G1 e0 h4 => flow_graph.ok h4 (SRep.mono e0.ro ha0) h3) ?_
 rintro v0 w1 G2 G3 N0 e1 q0 ⟨_, c0, rfl, rfl, f0, f1⟩ h5
 refine WL_lenOwn (l1 := []) underlying274 h5 rfl rfl ?_
 refine Jmv (vi 0) rfl rfl ?_
 refine J0 (Jb ?_)
 obtain ⟨t2, h6, hr⟩ := J6 hr
 have h7 := St.pick 1 rfl h5
 refine Js 1 h6 (fun s0 ρ w => ∃ (σ0 : Env) (G4 : GH), ρ = En σ0 [(1, (pt b0 0)), (14, v0), (15, (vi (t0.length : Int))), (16, (vi ((s0 : Nat) : Int)))] ∧ Ext G3 G4 ∧ St B w G4 [.blk b0 [va0] 41, .row v0 39 1 t0.length c0] ∧ InK .i64 ((s0 : Nat) : Int)) (fun t3 ρ w => ∃ (σ1 : Env) (G5 : GH), ρ = En σ1 [] ∧ Ext G3 G5 ∧ St B w G5 []) ⟨_, _, (J3 ⟨rfl, rfl, rfl, rfl, trivial⟩), (Ext.refl _), h7, (by rfl)⟩ ?_ ?_
 ·rintro s0 x1 _ _ hr ⟨σ0, G4, rfl, e2, h8, f2⟩
  refine J2 (J1 ?_)
  refine Ji rfl rfl rfl ?_
  refine J0 (J2 ?_)
  refine J7 rfl (fun h9 => ?_) (fun h9 => ?_)
  ·replace hr := Jx hr h9
   refine J9 (J2 (Jb (J2 (J1 ?_))))
   obtain ⟨x0, h10, hr⟩ := J6 hr
   refine Y7 (l1 := [_]) underlying274 ti39 h8 rfl rfl rfl (idx_some h10).1 (idx_m h10 rfl) ?_
   intro g0 k0 l3
   refine WL_loadOwn1 (l1 := [_]) (T := (tSlice 3 (tInt .i64))) ti39 rfl h8 k0 (EAll.mono e2.ro (EAll.mono q0 f0)) rfl rfl h10 ?_
   intro c1 f3
   have f4 := one_sl f3
   refine Jsv c1 rfl rfl ?_
   refine J0 (J2 (J1 ?_))
   refine Jmv c1 rfl rfl ?_
   refine Yg (fs := []) (cs := [(pt b0 0)]) rfl rfl rfl ?_
   obtain ⟨t1, h11, hr⟩ := J6 hr
   refine Jn (f := 106) (av := [c1, (.func (.func 265) #[] #[(pt b0 0)])]) cf106 rfl rfl h8 rfl (fun G6 e3 h12 => slices_ContainsFunc_int_int.ok h12 (SRep.mono e3.ro f4) (SRep.mono ((e1.ro.trans e2.ro).trans e3.ro) ha0) h11) ?_
   rintro v1 w2 G7 G8 N1 e4 q1 ⟨rfl, rfl⟩ h13
   refine J0 ?_
   refine J7 rfl (fun h => nomatch h) (fun _ => ?_)
   refine J9 (J1 ?_)
   refine Y2 rfl rfl rfl (of_decide_eq_true h9) (inK_row rfl f1) ?_
   refine Jmv (vi ((s0 + 1 : Nat) : Int)) rfl rfl ?_
   refine J0 ?_
   have h14 := St.pick 1 rfl h13
   have h15 := St.pick 1 rfl h14
   exact ⟨_, (Option.some.inj hr).symm, _, _, (J3 ⟨rfl, rfl, rfl, rfl, trivial⟩), (e2.trans e4), h15, (inK_inc (of_decide_eq_true h9) (inK_row rfl f1))⟩
  replace hr := Jf hr h9
  refine Jr ?_
  have h16 := St.takeN 0 h8
  exact ⟨_, (Option.some.inj hr).symm, rfl, _, _, rfl, e2, h16⟩
 rintro _ _ ⟨σ1, G5, rfl, e5, h17⟩
 refine J2 (J1 ?_)
 refine Jsv (vi 0) rfl rfl ?_
 refine J0 (Jg ?_)
 obtain rfl := Option.some.inj hr
 exact ⟨[(vi 0)], ⟨rfl, trivial⟩, _, _, _, rfl, (e1.trans e5), h17, ⟨rfl, rfl⟩⟩
def fun_code.l0 (a0 : XFunc) (s0 : Nat) : Option (Step Nat Unit) :=
 bif decide (((s0 : Nat) : Int) < (a0.Code.length : Int)) then (idx a0.Code ((s0 : Nat) : Int)).bind fun x0 => (instr_Check.f x0).bind fun t0 => (op_Own.f x0.Op).bind fun t1 => bif !t1 then none else some (.next (s0 + 1)) else some (.done ())
def fun_code.f (a0 : XFunc) : Option (Unit) :=
 (flow_Check.f a0.Code).bind fun t2 => (loop (fun_code.l0 a0) 0).bind fun t3 => some ()
def fun_code.K (r : Unit) (G0 : GH) (v : Value) (N : List Res) : Prop := v = tup [(vi 0)] ∧ N = []
theorem fun_code.ok {ca0 : List Value} {a0 : XFunc} (st : St B w G []) (ha0 : TFunc.rep G ca0 a0) {r : Unit} (hr : fun_code.f a0 = some r) :
 Calls Tryz.prog 221 ([(.agg ca0.toArray)] : List Value).toArray w (Ret B G (fun_code.K r)) := by
 obtain ⟨sa0_1, sa0_6, sa0_7, sa0_8, rfl, ha0_0, ha0_1, ha0_2, ha0_4, ha0_5, ha0_6, ha0_7, ha0_8⟩ := ha0
 refine Jc [.tmp 2] func221 rfl ntmps221 rfl rfl ?_
 refine J2 (J1 ?_)
 refine Ju (cs := [(vi a0.Class), sa0_1, (vi a0.Pad), (.bool a0.Nosplit), (vi a0.From), (vi a0.To), sa0_6, sa0_7, sa0_8]) st rfl rfl rfl ?_
 intro b0 w0 h0
 refine Jsv (vi 0) rfl rfl ?_
 refine J0 (J2 (J2 (J1 ?_)))
 refine Jfa 7 7 underlying44 rfl ti41 rfl rfl rfl rfl ?_
 refine Jlb [] sa0_7 ti41 h0 rfl rfl rfl ?_
 obtain ⟨t2, h1, hr⟩ := J6 hr
 refine J8 (f := 245) (av := [sa0_7]) cf245 rfl rfl h0 rfl (fun G1 e0 h2 => flow_Check.ok h2 (SRep.mono e0.ro ha0_7) h1) ?_
 rintro v0 w1 G2 G3 N0 e1 q0 ⟨rfl, rfl⟩ h3
 refine Jsv (vi 0) rfl rfl ?_
 refine J0 (J2 (J1 ?_))
 refine Jmv (vi 0) rfl rfl ?_
 refine Y1 rfl rfl rfl ?_
 change WL _ _ _ _ _ _ (upd _ _ (.bool false)) _
 refine J0 ?_
 refine J7 rfl (fun h => nomatch h) (fun _ => ?_)
 refine J9 (J2 (J2 (J1 ?_)))
 refine Jfa 7 7 underlying44 rfl ti41 rfl rfl rfl rfl ?_
 refine Jlb [] sa0_7 ti41 h3 rfl rfl rfl ?_
 refine Jd (T := TInstr) underlying41 (SRep.mono e1.ro ha0_7) rfl rfl ?_
 refine Jmv (vi 0) rfl rfl ?_
 refine J0 (Jb ?_)
 obtain ⟨t3, h4, hr⟩ := J6 hr
 have h5 := St.takeN 0 h3
 refine Js 0 h4 (fun s0 ρ w => ∃ (σ0 : Env) (G4 : GH), ρ = En σ0 [(14, sa0_7), (15, (vi (a0.Code.length : Int))), (16, (vi ((s0 : Nat) : Int)))] ∧ Ext G3 G4 ∧ St B w G4 [] ∧ InK .i64 ((s0 : Nat) : Int)) (fun t4 ρ w => ∃ (σ1 : Env) (G5 : GH), ρ = En σ1 [] ∧ Ext G3 G5 ∧ St B w G5 []) ⟨_, _, (J3 ⟨rfl, rfl, rfl, trivial⟩), (Ext.refl _), h5, (by rfl)⟩ ?_ ?_
 ·rintro s0 x1 _ _ hr ⟨σ0, G4, rfl, e2, h6, f0⟩
  refine J2 (J1 ?_)
  refine Ji rfl rfl rfl ?_
  refine J0 (J2 ?_)
  refine J7 rfl (fun h7 => ?_) (fun h7 => ?_)
  ·replace hr := Jx hr h7
   refine J9 (J2 (Jb (J2 (J1 ?_))))
   obtain ⟨x0, h8, hr⟩ := J6 hr
   refine Jh (T := TInstr) underlying41 ti54 h6 (SRep.mono (e1.ro.trans e2.ro) ha0_7) rfl rfl rfl h8 ?_
   intro b1 o0 c0 l3 f1
   obtain ⟨rfl, f2, f3, f4, f5, f6⟩ := f1
   refine Jy ti54 rfl rfl (LiesG.lies l3 h6) (Nat.le_of_ble_eq_true rfl) ?_
   change WL _ _ _ _ _ _ (upd _ _ (.agg #[(vi x0.Op), (vi x0.A), (vi x0.B), (vi x0.C), (vi x0.N)])) _
   refine Jo ti54 h6 rfl ?_
   intro b2 w2 h9
   refine Jp (l1 := []) (vs := [(vi x0.Op), (vi x0.A), (vi x0.B), (vi x0.C), (vi x0.N)]) ti54 h9 rfl rfl rfl (J5 rfl (J5 rfl (J5 rfl (J5 rfl (J5 rfl (fun _ h => nomatch h)))))) rfl ?_
   intro w3 (h10 : St B w3 G4 [.blk b2 [(vi x0.Op), (vi x0.A), (vi x0.B), (vi x0.C), (vi x0.N)] 54])
   refine J0 (J2 (J2 (J1 ?_)))
   refine Jl (l1 := []) (vs := [(vi x0.Op), (vi x0.A), (vi x0.B), (vi x0.C), (vi x0.N)]) ti54 h10 rfl rfl rfl rfl ?_
   obtain ⟨t0, h11, hr⟩ := J6 hr
   refine J8 (f := 179) (av := [(.agg #[(vi x0.Op), (vi x0.A), (vi x0.B), (vi x0.C), (vi x0.N)])]) cf179 rfl rfl h10 rfl (fun G6 e3 h12 => instr_Check.ok (a0 := x0) h12 (⟨rfl, f2, f3, f4, f5, f6⟩) h11) ?_
   rintro v1 w4 G7 G8 N1 e4 q1 ⟨rfl, rfl⟩ h13
   refine Jsv (vi 0) rfl rfl ?_
   refine J0 (J2 (J1 ?_))
   refine Jmv (vi 0) rfl rfl ?_
   refine Y1 rfl rfl rfl ?_
   change WL _ _ _ _ _ _ (upd _ _ (.bool false)) _
   refine J0 ?_
   refine J7 rfl (fun h => nomatch h) (fun _ => ?_)
   refine J9 (J2 (J1 ?_))
   refine Jfa 0 0 underlying54 rfl ti3 rfl rfl rfl rfl ?_
   refine Jlb [] (vi x0.Op) ti3 h13 rfl rfl rfl ?_
   obtain ⟨t1, h14, hr⟩ := J6 hr
   refine J8 (f := 242) (av := [(vi x0.Op)]) cf242 rfl rfl h13 rfl (fun G9 e5 h15 => op_Own.ok h15 f2 h14) ?_
   rintro v2 w5 Ga Gb N2 e6 q2 ⟨rfl, rfl⟩ h16
   refine Yc rfl rfl ?_
   refine J0 ?_
   refine J7 rfl (fun h17 => ?_) (fun h17 => ?_)
   ·exact Jk hr h17
   replace hr := Jf hr h17
   refine J9 (J1 ?_)
   refine Y2 rfl rfl rfl (of_decide_eq_true h7) (inK_len (SRep.le (SRep.mono e1.ro ha0_7))) ?_
   refine Jmv (vi ((s0 + 1 : Nat) : Int)) rfl rfl ?_
   refine J0 ?_
   have h18 := St.takeN 0 h16
   exact ⟨_, (Option.some.inj hr).symm, _, _, (J3 ⟨rfl, rfl, rfl, trivial⟩), (e2.trans (e4.trans e6)), h18, (inK_inc (of_decide_eq_true h7) (inK_len (SRep.le (SRep.mono e1.ro ha0_7))))⟩
  replace hr := Jf hr h7
  refine Jr ?_
  exact ⟨_, (Option.some.inj hr).symm, rfl, _, _, rfl, e2, h6⟩
 rintro _ _ ⟨σ1, G5, rfl, e7, h19⟩
 refine J2 (J1 ?_)
 refine Jsv (vi 0) rfl rfl ?_
 refine J0 (Jg ?_)
 obtain rfl := Option.some.inj hr
 exact ⟨[(vi 0)], ⟨rfl, trivial⟩, _, _, _, rfl, (e1.trans e7), h19, ⟨rfl, rfl⟩⟩
def fun_Check.f (a0 : XFunc) : Option (Unit) :=
 (fun_slots.f a0).bind fun t0 => (bif decide (a0.Pad < 0) then none else some ()).bind fun t1 => bif decide (a0.Pad > 4096) then none else (fun_code.f a0).bind fun t2 => (bif decide (a0.From < 0) then none else some ()).bind fun t3 => (bif decide (a0.To < a0.From) then none else some ()).bind fun t4 => bif decide (a0.To > (a0.Code.length : Int)) then none else (fun_lines.f a0).bind fun t5 => (fun_relocs.f a0).bind fun t6 => some ()
def fun_Check.K (r : Unit) (G91 : GH) (v : Value) (N : List Res) : Prop := v = tup [(vi 0)] ∧ N = []
theorem fun_Check.ok {ca0 : List Value} {a0 : XFunc} (st : St B w G []) (ha0 : TFunc.rep G ca0 a0) {r : Unit} (hr : fun_Check.f a0 = some r) :
 Calls Tryz.prog 193 ([(.agg ca0.toArray)] : List Value).toArray w (Ret B G (fun_Check.K r)) := by
 obtain ⟨sa0_1, sa0_6, sa0_7, sa0_8, rfl, ha0_0, ha0_1, ha0_2, ha0_4, ha0_5, ha0_6, ha0_7, ha0_8⟩ := ha0
 refine Jc [.tmp 2] func193 rfl ntmps193 rfl rfl ?_
 refine J2 (J1 ?_)
 refine Ju (cs := [(vi a0.Class), sa0_1, (vi a0.Pad), (.bool a0.Nosplit), (vi a0.From), (vi a0.To), sa0_6, sa0_7, sa0_8]) st rfl rfl rfl ?_
 intro b0 w0 h0
 refine Jsv (vi 0) rfl rfl ?_
 refine J0 (J2 (J2 (J1 ?_)))
 refine Jl (l1 := []) (vs := [(vi a0.Class), sa0_1, (vi a0.Pad), (.bool a0.Nosplit), (vi a0.From), (vi a0.To), sa0_6, sa0_7, sa0_8]) ti44 h0 rfl rfl rfl rfl ?_
 obtain ⟨t0, h1, hr⟩ := J6 hr
 refine J8 (f := 220) (av := [(.agg #[(vi a0.Class), sa0_1, (vi a0.Pad), (.bool a0.Nosplit), (vi a0.From), (vi a0.To), sa0_6, sa0_7, sa0_8])]) cf220 rfl rfl h0 rfl (fun G0 e0 h2 => fun_slots.ok (a0 := a0) h2 (⟨sa0_1, sa0_6, sa0_7, sa0_8, rfl, ha0_0, (SRep.mono e0.ro ha0_1), ha0_2, ha0_4, ha0_5, (SRep.mono e0.ro ha0_6), (SRep.mono e0.ro ha0_7), (SRep.mono e0.ro ha0_8)⟩) h1) ?_
 rintro v0 w1 G1 G2 N0 e1 q0 ⟨rfl, rfl⟩ h3
 refine Jsv (vi 0) rfl rfl ?_
 refine J0 (J2 (J1 ?_))
 refine Jmv (vi 0) rfl rfl ?_
 refine Y1 rfl rfl rfl ?_
 change WL _ _ _ _ _ _ (upd _ _ (.bool false)) _
 refine J0 ?_
 refine J7 rfl (fun h => nomatch h) (fun _ => ?_)
 refine J9 (J2 (J2 (J1 ?_)))
 refine Jfa 2 2 underlying44 rfl ti3 rfl rfl rfl rfl ?_
 refine Jlb [] (vi a0.Pad) ti3 h3 rfl rfl rfl ?_
 refine Ji rfl rfl rfl ?_
 refine Jmv (.bool (decide (a0.Pad < 0))) rfl rfl ?_
 obtain ⟨t1, hr, o0⟩ := J6 hr
 refine Jw 4 (fun ρ w => ∃ (σ0 : Env) (G3 : GH), ρ = En σ0 [(1, (pt b0 0)), (18, (.bool (decide (a0.Pad > 4096))))] ∧ Ext G2 G3 ∧ St B w G3 [.blk b0 [(vi a0.Class), sa0_1, (vi a0.Pad), (.bool a0.Nosplit), (vi a0.From), (vi a0.To), sa0_6, sa0_7, sa0_8] 44]) ?_ ?_
 ·rcases Y8 (decide (a0.Pad < 0)) with hb_ | hb_
  ·exact Jk hr hb_
  have h4 : (decide (a0.Pad < 0)) = false := hb_
  replace hr := Jf hr h4
  refine Ja rfl rfl rfl rfl h4 ?_
  refine Jfa 2 2 underlying44 rfl ti3 rfl rfl rfl rfl ?_
  refine Ja rfl rfl rfl rfl h4 ?_
  refine Jlb [] (vi a0.Pad) ti3 h3 rfl rfl rfl ?_
  refine Ja rfl rfl rfl rfl h4 ?_
  refine Yh rfl rfl rfl ?_
  refine Jt (v := (.bool (decide (a0.Pad > 4096)))) rfl rfl h4 rfl ?_
  refine J0 ?_
  obtain rfl := Option.some.inj hr
  exact ⟨_, _, (J3 ⟨rfl, rfl, trivial⟩), (Ext.refl _), h3⟩
 rintro _ _ ⟨σ0, G3, rfl, e2, h5⟩
 replace hr := o0
 refine J0 ?_
 refine J7 rfl (fun h6 => ?_) (fun h6 => ?_)
 ·exact Jk hr h6
 replace hr := Jf hr h6
 refine J9 (J2 (J2 (J1 ?_)))
 refine Jl (l1 := []) (vs := [(vi a0.Class), sa0_1, (vi a0.Pad), (.bool a0.Nosplit), (vi a0.From), (vi a0.To), sa0_6, sa0_7, sa0_8]) ti44 h5 rfl rfl rfl rfl ?_
 obtain ⟨t2, h7, hr⟩ := J6 hr
 refine J8 (f := 221) (av := [(.agg #[(vi a0.Class), sa0_1, (vi a0.Pad), (.bool a0.Nosplit), (vi a0.From), (vi a0.To), sa0_6, sa0_7, sa0_8])]) cf221 rfl rfl h5 rfl (fun G4 e3 h8 => fun_code.ok (a0 := a0) h8 (⟨sa0_1, sa0_6, sa0_7, sa0_8, rfl, ha0_0, (SRep.mono ((e1.ro.trans e2.ro).trans e3.ro) ha0_1), ha0_2, ha0_4, ha0_5, (SRep.mono ((e1.ro.trans e2.ro).trans e3.ro) ha0_6), (SRep.mono ((e1.ro.trans e2.ro).trans e3.ro) ha0_7), (SRep.mono ((e1.ro.trans e2.ro).trans e3.ro) ha0_8)⟩) h7) ?_
 rintro v1 w2 G5 G6 N1 e4 q1 ⟨rfl, rfl⟩ h9
 refine Jsv (vi 0) rfl rfl ?_
 refine J0 (J2 (J1 ?_))
 refine Jmv (vi 0) rfl rfl ?_
 refine Y1 rfl rfl rfl ?_
 change WL _ _ _ _ _ _ (upd _ _ (.bool false)) _
 refine J0 ?_
 refine J7 rfl (fun h => nomatch h) (fun _ => ?_)
 refine J9 (J2 (J2 (J1 ?_)))
 refine Jfa 4 4 underlying44 rfl ti3 rfl rfl rfl rfl ?_
 refine Jlb [] (vi a0.From) ti3 h9 rfl rfl rfl ?_
 refine Ji rfl rfl rfl ?_
 refine Jmv (.bool (decide (a0.From < 0))) rfl rfl ?_
 obtain ⟨t3, hr, o1⟩ := J6 hr
 refine Jw 6 (fun ρ w => ∃ (σ1 : Env) (G7 : GH), ρ = En σ1 [(1, (pt b0 0)), (33, (.bool (decide (a0.To < a0.From))))] ∧ Ext G6 G7 ∧ St B w G7 [.blk b0 [(vi a0.Class), sa0_1, (vi a0.Pad), (.bool a0.Nosplit), (vi a0.From), (vi a0.To), sa0_6, sa0_7, sa0_8] 44]) ?_ ?_
 ·rcases Y8 (decide (a0.From < 0)) with hb_ | hb_
  ·exact Jk hr hb_
  have h10 : (decide (a0.From < 0)) = false := hb_
  replace hr := Jf hr h10
  refine Ja rfl rfl rfl rfl h10 ?_
  refine Jfa 5 5 underlying44 rfl ti3 rfl rfl rfl rfl ?_
  refine Ja rfl rfl rfl rfl h10 ?_
  refine Jlb [] (vi a0.To) ti3 h9 rfl rfl rfl ?_
  refine Ja rfl rfl rfl rfl h10 ?_
  refine Jfa 4 4 underlying44 rfl ti3 rfl rfl rfl rfl ?_
  refine Ja rfl rfl rfl rfl h10 ?_
  refine Jlb [] (vi a0.From) ti3 h9 rfl rfl rfl ?_
  refine Ja rfl rfl rfl rfl h10 ?_
  refine Ji rfl rfl rfl ?_
  refine Jt (v := (.bool (decide (a0.To < a0.From)))) rfl rfl h10 rfl ?_
  refine J0 ?_
  obtain rfl := Option.some.inj hr
  exact ⟨_, _, (J3 ⟨rfl, rfl, trivial⟩), (Ext.refl _), h9⟩
 rintro _ _ ⟨σ1, G7, rfl, e5, h11⟩
 replace hr := o1
 refine Jmv (.bool (decide (a0.To < a0.From))) rfl rfl ?_
 obtain ⟨t4, hr, o2⟩ := J6 hr
 refine Jw 7 (fun ρ w => ∃ (σ2 : Env) (G8 : GH), ρ = En σ2 [(1, (pt b0 0)), (41, (.bool (decide (a0.To > (a0.Code.length : Int)))))] ∧ Ext G7 G8 ∧ St B w G8 [.blk b0 [(vi a0.Class), sa0_1, (vi a0.Pad), (.bool a0.Nosplit), (vi a0.From), (vi a0.To), sa0_6, sa0_7, sa0_8] 44]) ?_ ?_
 ·rcases Y8 (decide (a0.To < a0.From)) with hb_ | hb_
  ·exact Jk hr hb_
  have h12 : (decide (a0.To < a0.From)) = false := hb_
  replace hr := Jf hr h12
  refine Ja rfl rfl rfl rfl h12 ?_
  refine Jfa 5 5 underlying44 rfl ti3 rfl rfl rfl rfl ?_
  refine Ja rfl rfl rfl rfl h12 ?_
  refine Jlb [] (vi a0.To) ti3 h11 rfl rfl rfl ?_
  refine Ja rfl rfl rfl rfl h12 ?_
  refine Jfa 7 7 underlying44 rfl ti41 rfl rfl rfl rfl ?_
  refine Ja rfl rfl rfl rfl h12 ?_
  refine Jlb [] sa0_7 ti41 h11 rfl rfl rfl ?_
  refine Ja rfl rfl rfl rfl h12 ?_
  refine Jd (T := TInstr) underlying41 (SRep.mono (e1.ro.trans (e2.ro.trans (e4.ro.trans e5.ro))) ha0_7) rfl rfl ?_
  refine Ja rfl rfl rfl rfl h12 ?_
  refine Yh rfl rfl rfl ?_
  refine Jt (v := (.bool (decide (a0.To > (a0.Code.length : Int))))) rfl rfl h12 rfl ?_
  refine J0 ?_
  obtain rfl := Option.some.inj hr
  exact ⟨_, _, (J3 ⟨rfl, rfl, trivial⟩), (Ext.refl _), h11⟩
 rintro _ _ ⟨σ2, G8, rfl, e6, h13⟩
 replace hr := o2
 refine J0 ?_
 refine J7 rfl (fun h14 => ?_) (fun h14 => ?_)
 ·exact Jk hr h14
 replace hr := Jf hr h14
 refine J9 (J2 (J2 (J1 ?_)))
 refine Jl (l1 := []) (vs := [(vi a0.Class), sa0_1, (vi a0.Pad), (.bool a0.Nosplit), (vi a0.From), (vi a0.To), sa0_6, sa0_7, sa0_8]) ti44 h13 rfl rfl rfl rfl ?_
 obtain ⟨t5, h15, hr⟩ := J6 hr
 refine J8 (f := 222) (av := [(.agg #[(vi a0.Class), sa0_1, (vi a0.Pad), (.bool a0.Nosplit), (vi a0.From), (vi a0.To), sa0_6, sa0_7, sa0_8])]) cf222 rfl rfl h13 rfl (fun G9 e7 h16 => fun_lines.ok (a0 := a0) h16 (⟨sa0_1, sa0_6, sa0_7, sa0_8, rfl, ha0_0, (SRep.mono ((e1.ro.trans (e2.ro.trans (e4.ro.trans (e5.ro.trans e6.ro)))).trans e7.ro) ha0_1), ha0_2, ha0_4, ha0_5, (SRep.mono ((e1.ro.trans (e2.ro.trans (e4.ro.trans (e5.ro.trans e6.ro)))).trans e7.ro) ha0_6), (SRep.mono ((e1.ro.trans (e2.ro.trans (e4.ro.trans (e5.ro.trans e6.ro)))).trans e7.ro) ha0_7), (SRep.mono ((e1.ro.trans (e2.ro.trans (e4.ro.trans (e5.ro.trans e6.ro)))).trans e7.ro) ha0_8)⟩) h15) ?_
 rintro v2 w3 Ga Gb N2 e8 q2 ⟨rfl, rfl⟩ h17
 refine Jsv (vi 0) rfl rfl ?_
 refine J0 (J2 (J1 ?_))
 refine Jmv (vi 0) rfl rfl ?_
 refine Y1 rfl rfl rfl ?_
 change WL _ _ _ _ _ _ (upd _ _ (.bool false)) _
 refine J0 ?_
 refine J7 rfl (fun h => nomatch h) (fun _ => ?_)
 refine J9 (J2 (J1 ?_))
 refine Jl (l1 := []) (vs := [(vi a0.Class), sa0_1, (vi a0.Pad), (.bool a0.Nosplit), (vi a0.From), (vi a0.To), sa0_6, sa0_7, sa0_8]) ti44 h17 rfl rfl rfl rfl ?_
 obtain ⟨t6, h18, hr⟩ := J6 hr
 refine J8 (f := 223) (av := [(.agg #[(vi a0.Class), sa0_1, (vi a0.Pad), (.bool a0.Nosplit), (vi a0.From), (vi a0.To), sa0_6, sa0_7, sa0_8])]) cf223 rfl rfl h17 rfl (fun Gc e9 h19 => fun_relocs.ok (a0 := a0) h19 (⟨sa0_1, sa0_6, sa0_7, sa0_8, rfl, ha0_0, (SRep.mono ((e1.ro.trans (e2.ro.trans (e4.ro.trans (e5.ro.trans (e6.ro.trans e8.ro))))).trans e9.ro) ha0_1), ha0_2, ha0_4, ha0_5, (SRep.mono ((e1.ro.trans (e2.ro.trans (e4.ro.trans (e5.ro.trans (e6.ro.trans e8.ro))))).trans e9.ro) ha0_6), (SRep.mono ((e1.ro.trans (e2.ro.trans (e4.ro.trans (e5.ro.trans (e6.ro.trans e8.ro))))).trans e9.ro) ha0_7), (SRep.mono ((e1.ro.trans (e2.ro.trans (e4.ro.trans (e5.ro.trans (e6.ro.trans e8.ro))))).trans e9.ro) ha0_8)⟩) h18) ?_
 rintro v3 w4 Gd Ge N3 ea q3 ⟨rfl, rfl⟩ h1a
 refine Jsv (vi 0) rfl rfl ?_
 refine J0 (Jg ?_)
 have h1b := St.takeN 0 h1a
 obtain rfl := Option.some.inj hr
 exact ⟨[(vi 0)], ⟨rfl, trivial⟩, _, _, _, rfl, (e1.trans (e2.trans (e4.trans (e5.trans (e6.trans (e8.trans ea)))))), h1b, ⟨rfl, rfl⟩⟩
def sum_Seal.f (a0 : (List Int)) : Option ((List Int)) :=
 (sum_Of.f a0).bind fun t0 => (octet_Put.f a0 t0 4).bind fun t1 => some t1
def sum_Seal.K (r : (List Int)) (G36 : GH) (v : Value) (N : List Res) : Prop := ∃ (v40 : Value) (c41 : List Value), v = tup [v40] ∧ N = [.row v40 5 1 r.length c41] ∧ EAll (tInt .u8) G36 c41 r ∧ r.length ≤ SB
theorem sum_Seal.ok {va0 : Value} {a0 : (List Int)} (st : St B w G []) (ha0 : SRep 5 (tInt .u8) G va0 a0) {r : (List Int)} (hr : sum_Seal.f a0 = some r) :
 Calls Tryz.prog 75 ([va0] : List Value).toArray w (Ret B G (sum_Seal.K r)) := by
 refine Jc [.tmp 2] func75 rfl ntmps75 rfl rfl ?_
 refine J2 (J1 ?_)
 refine Jsv (.slice none 0 0) rfl rfl ?_
 refine J0 (J2 (J1 ?_))
 refine Jmv va0 rfl rfl ?_
 refine Jmv va0 rfl rfl ?_
 obtain ⟨t0, h0, hr⟩ := J6 hr
 refine J8 (f := 111) (av := [va0]) cf111 rfl rfl st rfl (fun G0 e0 h1 => sum_Of.ok h1 (SRep.mono e0.ro ha0) h0) ?_
 rintro v0 w0 G1 G2 N0 e1 q0 ⟨rfl, rfl, f0⟩ h2
 obtain ⟨t1, h3, hr⟩ := J6 hr
 refine J8 (f := 70) (av := [va0, (vi t0), (vi 4)]) cf70 rfl rfl h2 rfl (fun G3 e2 h4 => octet_Put.ok h4 (SRep.mono (e1.ro.trans e2.ro) ha0) f0 (by rfl) h3) ?_
 rintro v1 w1 G4 G5 N1 e3 q1 ⟨_, c0, rfl, rfl, f1, f2⟩ h5
 refine Jsv v1 rfl rfl ?_
 refine J0 (Jg ?_)
 obtain rfl := Option.some.inj hr
 exact ⟨[v1], ⟨rfl, trivial⟩, _, _, _, rfl, (e1.trans e3), h5, ⟨v1, c0, rfl, rfl, (EAll.mono q1 f1), f2⟩⟩
def file_Put.l4 (t0 : Int) (x0 : XSymbol) (s0 : ((List Int) × Nat)) : Option (Step ((List Int) × Nat) (List Int)) :=
 bif decide (((s0.2 : Nat) : Int) < 4) then (idx [t0, x0.Sort_, x0.Kind, x0.Def] ((s0.2 : Nat) : Int)).bind fun x1 => (octet_Put.f s0.1 x1 1).bind fun t1 => some (.next (t1, s0.2 + 1)) else some (.done s0.1)
def file_Put.l3 (a0 : XObject) (s1 : ((List Int) × Nat)) : Option (Step ((List Int) × Nat) (List Int)) :=
 bif decide (((s1.2 : Nat) : Int) < (a0.Symbols.length : Int)) then (idx a0.Symbols ((s1.2 : Nat) : Int)).bind fun x0 => (octet_Text.f s1.1 x0.Name).bind fun t2 => (file_flag.f x0.Local).bind fun t0 => (loop (file_Put.l4 t0 x0) (t2, 0)).bind fun t3 => some (.next (t3, s1.2 + 1)) else some (.done s1.1)
def file_Put.l5 (a0 : XObject) (s2 : ((List Int) × Nat)) : Option (Step ((List Int) × Nat) (List Int)) :=
 bif decide (((s2.2 : Nat) : Int) < (a0.Funcs.length : Int)) then (idx a0.Funcs ((s2.2 : Nat) : Int)).bind fun x2 => (fun_Put.f s2.1 x2).bind fun t4 => some (.next (t4, s2.2 + 1)) else some (.done s2.1)
def file_Put.l6 (a0 : XObject) (s3 : ((List Int) × Nat)) : Option (Step ((List Int) × Nat) (List Int)) :=
 bif decide (((s3.2 : Nat) : Int) < (a0.Datas.length : Int)) then (idx a0.Datas ((s3.2 : Nat) : Int)).bind fun x3 => (data_Put.f s3.1 x3).bind fun t5 => some (.next (t5, s3.2 + 1)) else some (.done s3.1)
def file_Put.f (a0 : XObject) : Option ((List Int)) :=
 (octet_Put.f [83, 72, 76, 49] (a0.Symbols.length : Int) 1).bind fun t6 => (loop (file_Put.l3 a0) (t6, 0)).bind fun t7 => (octet_Put.f t7 (a0.Funcs.length : Int) 1).bind fun t8 => (loop (file_Put.l5 a0) (t8, 0)).bind fun t9 => (octet_Put.f t9 (a0.Datas.length : Int) 1).bind fun ta => (loop (file_Put.l6 a0) (ta, 0)).bind fun tb => (sum_Seal.f tb).bind fun tc => some tc
def file_Put.K (r : (List Int)) (G0 : GH) (v : Value) (N : List Res) : Prop := ∃ (v0 : Value) (c0 : List Value), v = tup [v0] ∧ N = [.row v0 5 1 r.length c0] ∧ EAll (tInt .u8) G0 c0 r ∧ r.length ≤ SB
theorem file_Put.ok {ca0 : List Value} {a0 : XObject} (st : St B w G []) (ha0 : TObject.rep G ca0 a0) {r : (List Int)} (hr : file_Put.f a0 = some r) :
 Calls Tryz.prog 28 ([(.agg ca0.toArray)] : List Value).toArray w (Ret B G (file_Put.K r)) := by
 obtain ⟨sa0_0, sa0_1, sa0_2, rfl, ha0_0, ha0_1, ha0_2⟩ := ha0
 refine Jc [.tmp 2] func28 rfl ntmps28 rfl rfl ?_
 refine J2 (J1 ?_)
 refine Ju (cs := [sa0_0, sa0_1, sa0_2]) st rfl rfl rfl ?_
 intro b0 w0 h0
 refine Jsv (.slice none 0 0) rfl rfl ?_
 refine J0 (J2 (J1 ?_))
 refine Jj (cells := [(.int .u8 83), (.int .u8 72), (.int .u8 76), (.int .u8 49)]) underlying63 ti5 h0 rfl rfl rfl rfl rfl (by kernel_rfl) ?_
 intro v1 w1 h1 f0
 have E0 : EAll (tInt .u8) G [(.int .u8 83), (.int .u8 72), (.int .u8 76), (.int .u8 49)] [83, 72, 76, 49] := ⟨_, _, rfl, ⟨rfl, rfl⟩, ⟨_, _, rfl, ⟨rfl, rfl⟩, ⟨_, _, rfl, ⟨rfl, rfl⟩, ⟨_, _, rfl, ⟨rfl, rfl⟩, rfl⟩⟩⟩⟩
 refine WL_convMark (l1 := []) underlying63 underlying5 h1 ⟨_, ((f0).choose_spec).1⟩ E0 rfl (by decide) rfl rfl ?_
 intro w2 G1 e0 f1 h2
 refine Jfa 0 0 underlying61 rfl ti57 rfl rfl rfl rfl ?_
 refine Jlb [] sa0_0 ti57 h2 rfl rfl rfl ?_
 refine Jd (T := TSymbol) underlying57 (SRep.mono e0.ro ha0_0) rfl rfl ?_
 obtain ⟨t6, h3, hr⟩ := J6 hr
 refine J8 (f := 70) (av := [v1, (vi (a0.Symbols.length : Int)), (vi 1)]) cf70 rfl rfl h2 rfl (fun G2 e1 h4 => octet_Put.ok h4 (SRep.mono e1.ro f1) (inK_len (SRep.le (SRep.mono e0.ro ha0_0))) (by rfl) h3) ?_
 rintro v2 w3 G3 G4 N0 e2 q0 ⟨_, c1, rfl, rfl, f2, f3⟩ h5
 refine Jsv v2 rfl rfl ?_
 refine J0 (J2 (J2 (J1 ?_)))
 refine Jfa 0 0 underlying61 rfl ti57 rfl rfl rfl rfl ?_
 refine Jlb [_] sa0_0 ti57 h5 rfl rfl rfl ?_
 refine Jd (T := TSymbol) underlying57 (SRep.mono (e0.ro.trans e2.ro) ha0_0) rfl rfl ?_
 refine Jmv (vi 0) rfl rfl ?_
 refine J0 (Jb ?_)
 obtain ⟨t7, h6, hr⟩ := J6 hr
 have h7 := St.pick 1 rfl h5
 refine Js 0 h6 (fun s1 ρ w => ∃ (σ0 : Env) (G5 : GH) (v3 : Value) (c2 : List Value), ρ = En σ0 [(1, (pt b0 0)), (3, v3), (19, sa0_0), (20, (vi (a0.Symbols.length : Int))), (21, (vi ((s1.2 : Nat) : Int)))] ∧ Ext G4 G5 ∧ St B w G5 [.blk b0 [sa0_0, sa0_1, sa0_2] 61, .row v3 5 1 s1.1.length c2] ∧ EAll (tInt .u8) G5 c2 s1.1 ∧ s1.1.length ≤ SB ∧ InK .i64 ((s1.2 : Nat) : Int)) (fun td ρ w => ∃ (σ1 : Env) (G6 : GH) (v4 : Value) (c3 : List Value), ρ = En σ1 [(1, (pt b0 0)), (3, v4)] ∧ Ext G4 G6 ∧ St B w G6 [.blk b0 [sa0_0, sa0_1, sa0_2] 61, .row v4 5 1 td.length c3] ∧ EAll (tInt .u8) G6 c3 td ∧ td.length ≤ SB) ⟨_, _, v2, c1, (J3 ⟨rfl, rfl, rfl, rfl, rfl, trivial⟩), (Ext.refl _), h7, (EAll.mono q0 f2), f3, (by rfl)⟩ ?_ ?_
 ·rintro s1 x4 _ _ hr ⟨σ0, G5, v3, c2, rfl, e3, h8, f4, f5, f6⟩
  refine J2 (J1 ?_)
  refine Ji rfl rfl rfl ?_
  refine J0 (J2 ?_)
  refine J7 rfl (fun h9 => ?_) (fun h9 => ?_)
  ·replace hr := Jx hr h9
   refine J9 (J2 (Jb (J2 (J1 ?_))))
   obtain ⟨x0, h10, hr⟩ := J6 hr
   refine Jh (T := TSymbol) underlying57 ti82 h8 (SRep.mono (e0.ro.trans (e2.ro.trans e3.ro)) ha0_0) rfl rfl rfl h10 ?_
   intro b1 o0 c4 l0 f7
   obtain ⟨rfl, f8, f9, fa, fb⟩ := f7
   refine Jy ti82 rfl rfl (LiesG.lies l0 h8) (Nat.le_of_ble_eq_true rfl) ?_
   change WL _ _ _ _ _ _ (upd _ _ (.agg #[(.string x0.Name), (.bool x0.Local), (vi x0.Sort_), (vi x0.Kind), (vi x0.Def)])) _
   refine Jo ti82 h8 rfl ?_
   intro b2 w4 h11
   refine Jp (l1 := []) (vs := [(.string x0.Name), (.bool x0.Local), (vi x0.Sort_), (vi x0.Kind), (vi x0.Def)]) ti82 h11 rfl rfl rfl (J5 rfl (J5 rfl (J5 rfl (J5 rfl (J5 rfl (fun _ h => nomatch h)))))) rfl ?_
   intro w5 (h12 : St B w5 G5 [.blk b2 [(.string x0.Name), (.bool x0.Local), (vi x0.Sort_), (vi x0.Kind), (vi x0.Def)] 82, .blk b0 [sa0_0, sa0_1, sa0_2] 61, .row v3 5 1 s1.1.length c2])
   refine J0 (J2 (J1 ?_))
   refine Jmv v3 rfl rfl ?_
   refine Jfa 0 0 underlying82 rfl ti9 rfl rfl rfl rfl ?_
   refine Jlb [] (.string x0.Name) ti9 h12 rfl rfl rfl ?_
   obtain ⟨G7, h13, e4, fc⟩ := St.rowRep (l1 := [_, _]) (T := (tInt .u8)) (xs := s1.1) h12 f4 rfl f5
   obtain ⟨t2, h14, hr⟩ := J6 hr
   refine J8 (f := 71) (av := [v3, (.string x0.Name)]) cf71 rfl rfl h13 rfl (fun G8 e5 h15 => octet_Text.ok h15 (SRep.mono e5.ro fc) f8 h14) ?_
   rintro v5 w6 G9 Ga N1 e6 q1 ⟨_, c5, rfl, rfl, fd, fe⟩ h16
   refine Jsv v5 rfl rfl ?_
   refine J0 (J2 ?_)
   obtain ⟨t0, h17, hr⟩ := J6 hr
   refine Ye 11 [some 29, some 30, some 31, some 32, some 33, some 34, some 35, some 36, some 37, some 38, some 39] (pk [(fun G_ v_ => v_ = (pt b2 1)), (fun G_ v_ => v_ = (.bool x0.Local)), (fun G_ v_ => v_ = (vi t0) ∧ InK .i64 t0), (fun G_ v_ => v_ = (pt b2 2)), (fun G_ v_ => v_ = (vi x0.Sort_)), (fun G_ v_ => v_ = (pt b2 3)), (fun G_ v_ => v_ = (vi x0.Kind)), (fun G_ v_ => v_ = (pt b2 4)), (fun G_ v_ => v_ = (vi x0.Def)), (fun G_ v_ => v_ = (.agg #[(vi t0), (vi x0.Sort_), (vi x0.Kind), (vi x0.Def)]) ∧ EAll (tInt .i64) G_ [(vi t0), (vi x0.Sort_), (vi x0.Kind), (vi x0.Def)] [t0, x0.Sort_, x0.Kind, x0.Def] ∧ ([(vi t0), (vi x0.Sort_), (vi x0.Kind), (vi x0.Def)] : List Value).length = 4), (fun G_ v_ => v_ = (vi 0))]) rfl (by kernel_rfl) rfl h16 ?_ ?_
   ·refine Each.cons ?_ (Each.cons ?_ (Each.cons ?_ (Each.cons ?_ (Each.cons ?_ (Each.cons ?_ (Each.cons ?_ (Each.cons ?_ (Each.cons ?_ (Each.cons ?_ (Each.cons ?_ Each.nil))))))))))
    ·intro q2 w7 Gb e7 h18 h19 h1a
     rw [J3 (ρ := q2) (l := [(5, (pt b2 0))]) ⟨(h19.1 5 (by decide)).trans rfl, trivial⟩]
     refine Jfa 1 1 underlying82 rfl ti4 rfl rfl rfl rfl ?_
     exact J0 (J4 (Ext.refl _) h18 fun Gc e8 => rfl)
    ·intro q2 w7 Gb e7 h18 h19 h1a
     obtain ⟨hd0_, _⟩ := h1a
     have hv29 := hd0_
     rw [J3 (ρ := q2) (l := [(29, (pt b2 1))]) ⟨hv29, trivial⟩]
     refine Jlb [_] (.bool x0.Local) ti4 h18 rfl rfl rfl ?_
     exact J0 (J4 (Ext.refl _) h18 fun Gd e9 => rfl)
    ·intro q2 w7 Gb e7 h18 h19 h1a
     obtain ⟨hd0_, _⟩ := h1a
     have hv30 := hd0_
     rw [J3 (ρ := q2) (l := [(30, (.bool x0.Local))]) ⟨hv30, trivial⟩]
     refine J8 (f := 72) (av := [(.bool x0.Local)]) cf72 rfl rfl h18 rfl (fun Ge ea h1b => file_flag.ok h1b h17) ?_
     rintro v6 w8 Gf Gg N2 eb q3 ⟨rfl, rfl, ff⟩ h1c
     exact J0 (J4 eb h1c fun Gh ec => ⟨rfl, ff⟩)
    ·intro q2 w7 Gb e7 h18 h19 h1a
     rw [J3 (ρ := q2) (l := [(5, (pt b2 0))]) ⟨(h19.1 5 (by decide)).trans rfl, trivial⟩]
     refine Jfa 2 2 underlying82 rfl ti3 rfl rfl rfl rfl ?_
     exact J0 (J4 (Ext.refl _) h18 fun Gi ed => rfl)
    ·intro q2 w7 Gb e7 h18 h19 h1a
     obtain ⟨hd0_, _⟩ := h1a
     have hv32 := hd0_
     rw [J3 (ρ := q2) (l := [(32, (pt b2 2))]) ⟨hv32, trivial⟩]
     refine Jlb [_] (vi x0.Sort_) ti3 h18 rfl rfl rfl ?_
     exact J0 (J4 (Ext.refl _) h18 fun Gj ee => rfl)
    ·intro q2 w7 Gb e7 h18 h19 h1a
     rw [J3 (ρ := q2) (l := [(5, (pt b2 0))]) ⟨(h19.1 5 (by decide)).trans rfl, trivial⟩]
     refine Jfa 3 3 underlying82 rfl ti3 rfl rfl rfl rfl ?_
     exact J0 (J4 (Ext.refl _) h18 fun Gk ef => rfl)
    ·intro q2 w7 Gb e7 h18 h19 h1a
     obtain ⟨hd0_, _⟩ := h1a
     have hv34 := hd0_
     rw [J3 (ρ := q2) (l := [(34, (pt b2 3))]) ⟨hv34, trivial⟩]
     refine Jlb [_] (vi x0.Kind) ti3 h18 rfl rfl rfl ?_
     exact J0 (J4 (Ext.refl _) h18 fun Gl eg => rfl)
    ·intro q2 w7 Gb e7 h18 h19 h1a
     rw [J3 (ρ := q2) (l := [(5, (pt b2 0))]) ⟨(h19.1 5 (by decide)).trans rfl, trivial⟩]
     refine Jfa 4 4 underlying82 rfl ti3 rfl rfl rfl rfl ?_
     exact J0 (J4 (Ext.refl _) h18 fun Gm eh => rfl)
    ·intro q2 w7 Gb e7 h18 h19 h1a
     obtain ⟨hd0_, _⟩ := h1a
     have hv36 := hd0_
     rw [J3 (ρ := q2) (l := [(36, (pt b2 4))]) ⟨hv36, trivial⟩]
     refine Jlb [_] (vi x0.Def) ti3 h18 rfl rfl rfl ?_
     exact J0 (J4 (Ext.refl _) h18 fun Gn ei => rfl)
    ·intro q2 w7 Gb e7 h18 h19 h1a
     obtain ⟨hd0_, hd1_, hd2_, hd3_, _⟩ := h1a
     obtain ⟨hv31, fg⟩ := hd0_
     have hv33 := hd1_
     have hv35 := hd2_
     have hv37 := hd3_
     rw [J3 (ρ := q2) (l := [(31, (vi t0)), (33, (vi x0.Sort_)), (35, (vi x0.Kind)), (37, (vi x0.Def))]) ⟨hv31, hv33, hv35, hv37, trivial⟩]
     refine Y0 (cells := [(vi t0), (vi x0.Sort_), (vi x0.Kind), (vi x0.Def)].toArray) rfl (by kernel_rfl) ?_
     have fh : EAll (tInt .i64) Gb [(vi t0), (vi x0.Sort_), (vi x0.Kind), (vi x0.Def)] [t0, x0.Sort_, x0.Kind, x0.Def] := ⟨_, _, rfl, ⟨rfl, fg⟩, ⟨_, _, rfl, ⟨rfl, f9⟩, ⟨_, _, rfl, ⟨rfl, fa⟩, ⟨_, _, rfl, ⟨rfl, fb⟩, rfl⟩⟩⟩⟩
     exact J0 (J4 (Ext.refl _) h18 fun Go ej => ⟨rfl, (EAll.mono ej.ro fh), (by rfl)⟩)
    intro q2 w7 Gb e7 h18 h19 h1a
    refine Jmv (vi 0) rfl rfl ?_
    exact J0 (J4 (Ext.refl _) h18 fun Gp ek => rfl)
   intro q2 w7 Gb e7 h18 h19 h1a
   obtain ⟨hv38, fj, fk⟩ := h1a 9 (by decide)
   have hv39 := h1a 10 (by decide)
   rw [J3 (ρ := q2) (l := [(1, (pt b0 0)), (3, v5), (19, sa0_0), (20, (vi (a0.Symbols.length : Int))), (21, (vi ((s1.2 : Nat) : Int))), (38, (.agg #[(vi t0), (vi x0.Sort_), (vi x0.Kind), (vi x0.Def)])), (39, (vi 0))]) ⟨(h19.1 1 (by decide)).trans rfl, (h19.1 3 (by decide)).trans rfl, (h19.1 19 (by decide)).trans rfl, (h19.1 20 (by decide)).trans rfl, (h19.1 21 (by decide)).trans rfl, hv38, hv39, trivial⟩]
   refine J0 (Jb ?_)
   obtain ⟨t3, h1d, hr⟩ := J6 hr
   have h1e := St.pick 2 rfl h18
   have h1f := St.takeN 2 h1e
   refine Js 2 h1d (fun s0 ρ w => ∃ (σ2 : Env) (Gq : GH) (v7 : Value) (c6 : List Value), ρ = En σ2 [(1, (pt b0 0)), (3, v7), (19, sa0_0), (20, (vi (a0.Symbols.length : Int))), (21, (vi ((s1.2 : Nat) : Int))), (38, (.agg #[(vi t0), (vi x0.Sort_), (vi x0.Kind), (vi x0.Def)])), (39, (vi ((s0.2 : Nat) : Int)))] ∧ Ext Gb Gq ∧ St B w Gq [.blk b0 [sa0_0, sa0_1, sa0_2] 61, .row v7 5 1 s0.1.length c6] ∧ EAll (tInt .u8) Gq c6 s0.1 ∧ s0.1.length ≤ SB ∧ InK .i64 ((s0.2 : Nat) : Int)) (fun te ρ w => ∃ (σ3 : Env) (Gr : GH) (v8 : Value) (c7 : List Value), ρ = En σ3 [(1, (pt b0 0)), (3, v8), (19, sa0_0), (20, (vi (a0.Symbols.length : Int))), (21, (vi ((s1.2 : Nat) : Int)))] ∧ Ext Gb Gr ∧ St B w Gr [.blk b0 [sa0_0, sa0_1, sa0_2] 61, .row v8 5 1 te.length c7] ∧ EAll (tInt .u8) Gr c7 te ∧ te.length ≤ SB) ⟨_, _, v5, c5, (J3 ⟨rfl, rfl, rfl, rfl, rfl, rfl, rfl, trivial⟩), (Ext.refl _), h1f, (EAll.mono e7.ro (EAll.mono q1 fd)), fe, (by rfl)⟩ ?_ ?_
   ·rintro s0 x5 _ _ hr ⟨σ2, Gq, v7, c6, rfl, el, h1g, fl, fm, fn⟩
    refine J2 (J1 ?_)
    refine Ji rfl rfl rfl ?_
    refine J0 (J2 ?_)
    refine J7 rfl (fun h1h => ?_) (fun h1h => ?_)
    ·replace hr := Jx hr h1h
     refine J9 (J2 (Jb (J2 (J1 ?_))))
     obtain ⟨x1, h1i, hr⟩ := J6 hr
     refine WL_indexAE (T := (tInt .i64)) underlying122 ti2 rfl rfl rfl rfl fk (EAll.mono el.ro fj) h1i ?_
     intro c8 fo
     obtain ⟨rfl, fp⟩ := one_int fo
     refine Jsv (vi x1) rfl rfl ?_
     refine J0 (J1 ?_)
     refine Jmv v7 rfl rfl ?_
     refine Jmv (vi x1) rfl rfl ?_
     obtain ⟨Gs, h1j, em, fq⟩ := St.rowRep (l1 := [_]) (T := (tInt .u8)) (xs := s0.1) h1g fl rfl fm
     obtain ⟨t1, h1k, hr⟩ := J6 hr
     refine J8 (f := 70) (av := [v7, (vi x1), (vi 1)]) cf70 rfl rfl h1j rfl (fun Gt en h1l => octet_Put.ok h1l (SRep.mono en.ro fq) fp (by rfl) h1k) ?_
     rintro v9 w9 Gu Gv N3 eo q4 ⟨_, c9, rfl, rfl, fr, fs⟩ h1m
     refine Jsv v9 rfl rfl ?_
     refine J0 (J1 ?_)
     refine Y2 rfl rfl rfl (of_decide_eq_true h1h) rfl ?_
     refine Jmv (vi ((s0.2 + 1 : Nat) : Int)) rfl rfl ?_
     refine J0 ?_
     have h1n := St.pick 1 rfl h1m
     exact ⟨_, (Option.some.inj hr).symm, _, _, v9, c9, (J3 ⟨rfl, rfl, rfl, rfl, rfl, rfl, rfl, trivial⟩), (el.trans (em.trans eo)), h1n, (EAll.mono q4 fr), fs, (inK_inc (of_decide_eq_true h1h) rfl)⟩
    replace hr := Jf hr h1h
    refine Jr ?_
    have h1o := St.pick 1 rfl h1g
    have h1p := St.pick 1 rfl h1o
    exact ⟨_, (Option.some.inj hr).symm, rfl, _, _, v7, c6, (J3 ⟨rfl, rfl, rfl, rfl, rfl, trivial⟩), el, h1p, fl, fm⟩
   rintro _ _ ⟨σ3, Gr, v8, c7, rfl, ep, h1q, ft, fu⟩
   refine J1 ?_
   refine Y2 rfl rfl rfl (of_decide_eq_true h9) (inK_len (SRep.le (SRep.mono (e0.ro.trans e2.ro) ha0_0))) ?_
   refine Jmv (vi ((s1.2 + 1 : Nat) : Int)) rfl rfl ?_
   refine J0 ?_
   have h1r := St.pick 1 rfl h1q
   have h1s := St.pick 1 rfl h1r
   exact ⟨_, (Option.some.inj hr).symm, _, _, v8, c7, (J3 ⟨rfl, rfl, rfl, rfl, rfl, trivial⟩), (e3.trans (e4.trans (e6.trans (e7.trans ep)))), h1s, ft, fu, (inK_inc (of_decide_eq_true h9) (inK_len (SRep.le (SRep.mono (e0.ro.trans e2.ro) ha0_0))))⟩
  replace hr := Jf hr h9
  refine Jr ?_
  have h1t := St.pick 1 rfl h8
  have h1u := St.pick 1 rfl h1t
  exact ⟨_, (Option.some.inj hr).symm, rfl, _, _, v3, c2, (J3 ⟨rfl, rfl, trivial⟩), e3, h1u, f4, f5⟩
 rintro _ _ ⟨σ1, G6, v4, c3, rfl, er, h1v, fv, fw⟩
 refine J2 (J1 ?_)
 refine Jmv v4 rfl rfl ?_
 refine Jfa 1 1 underlying61 rfl ti58 rfl rfl rfl rfl ?_
 refine Jlb [] sa0_1 ti58 h1v rfl rfl rfl ?_
 refine Jd (T := TFunc) underlying58 (SRep.mono (e0.ro.trans (e2.ro.trans er.ro)) ha0_1) rfl rfl ?_
 obtain ⟨Gw, h1w, es, fx⟩ := St.rowRep (l1 := [_]) (T := (tInt .u8)) (xs := t7) h1v fv rfl fw
 obtain ⟨t8, h1x, hr⟩ := J6 hr
 refine J8 (f := 70) (av := [v4, (vi (a0.Funcs.length : Int)), (vi 1)]) cf70 rfl rfl h1w rfl (fun Gx et h1y => octet_Put.ok h1y (SRep.mono et.ro fx) (inK_len (SRep.le (SRep.mono (e0.ro.trans (e2.ro.trans er.ro)) ha0_1))) (by rfl) h1x) ?_
 rintro va wa Gy Gz N4 eu q5 ⟨_, ca, rfl, rfl, fy, fz⟩ h1z
 refine Jsv va rfl rfl ?_
 refine J0 (J2 (J2 (J1 ?_)))
 refine Jfa 1 1 underlying61 rfl ti58 rfl rfl rfl rfl ?_
 refine Jlb [_] sa0_1 ti58 h1z rfl rfl rfl ?_
 refine Jd (T := TFunc) underlying58 (SRep.mono (e0.ro.trans (e2.ro.trans (er.ro.trans (es.ro.trans eu.ro)))) ha0_1) rfl rfl ?_
 refine Jmv (vi 0) rfl rfl ?_
 refine J0 (Jb ?_)
 obtain ⟨t9, h20, hr⟩ := J6 hr
 obtain ⟨G10, h21, ev, f10⟩ := St.rowRep (l1 := []) (T := (tInt .u8)) (xs := t8) h1z (EAll.mono q5 fy) rfl fz
 refine Js 4 h20 (fun s2 ρ w => ∃ (σ4 : Env) (G11 : GH) (vc : Value), ρ = En σ4 [(1, (pt b0 0)), (3, vc), (53, sa0_1), (54, (vi (a0.Funcs.length : Int))), (55, (vi ((s2.2 : Nat) : Int)))] ∧ Ext Gz G11 ∧ St B w G11 [.blk b0 [sa0_0, sa0_1, sa0_2] 61] ∧ SRep 5 (tInt .u8) G11 vc s2.1 ∧ InK .i64 ((s2.2 : Nat) : Int)) (fun tf ρ w => ∃ (σ5 : Env) (G12 : GH) (vd : Value), ρ = En σ5 [(1, (pt b0 0)), (3, vd)] ∧ Ext Gz G12 ∧ St B w G12 [.blk b0 [sa0_0, sa0_1, sa0_2] 61] ∧ SRep 5 (tInt .u8) G12 vd tf) ⟨_, _, va, (J3 ⟨rfl, rfl, rfl, rfl, rfl, trivial⟩), ev, h21, f10, (by rfl)⟩ ?_ ?_
 ·rintro s2 x6 _ _ hr ⟨σ4, G11, vc, rfl, ew, h22, f11, f12⟩
  refine J2 (J1 ?_)
  refine Ji rfl rfl rfl ?_
  refine J0 (J2 ?_)
  refine J7 rfl (fun h23 => ?_) (fun h23 => ?_)
  ·replace hr := Jx hr h23
   refine J9 (J2 (Jb (J2 (J1 ?_))))
   obtain ⟨x2, h24, hr⟩ := J6 hr
   refine Jh (T := TFunc) underlying58 ti44 h22 (SRep.mono (e0.ro.trans (e2.ro.trans (er.ro.trans (es.ro.trans (eu.ro.trans ew.ro))))) ha0_1) rfl rfl rfl h24 ?_
   intro b3 o1 cb l7 f13
   obtain ⟨ve, vf, vg, vh, rfl, f14, f15, f16, f17, f18, f19, f1a, f1b⟩ := f13
   refine Jy ti44 rfl rfl (LiesG.lies l7 h22) (Nat.le_of_ble_eq_true rfl) ?_
   change WL _ _ _ _ _ _ (upd _ _ (.agg #[(vi x2.Class), ve, (vi x2.Pad), (.bool x2.Nosplit), (vi x2.From), (vi x2.To), vf, vg, vh])) _
   refine Jo ti44 h22 rfl ?_
   intro b4 wb h25
   refine Jp (l1 := []) (vs := [(vi x2.Class), ve, (vi x2.Pad), (.bool x2.Nosplit), (vi x2.From), (vi x2.To), vf, vg, vh]) ti44 h25 rfl rfl rfl (J5 rfl (J5 (SRep.one f15) (J5 rfl (J5 rfl (J5 rfl (J5 rfl (J5 (SRep.one f19) (J5 (SRep.one f1a) (J5 (SRep.one f1b) (fun _ h => nomatch h)))))))))) rfl ?_
   intro wc (h26 : St B wc G11 [.blk b4 [(vi x2.Class), ve, (vi x2.Pad), (.bool x2.Nosplit), (vi x2.From), (vi x2.To), vf, vg, vh] 44, .blk b0 [sa0_0, sa0_1, sa0_2] 61])
   refine J0 (J1 ?_)
   refine Jmv vc rfl rfl ?_
   refine Jl (l1 := []) (vs := [(vi x2.Class), ve, (vi x2.Pad), (.bool x2.Nosplit), (vi x2.From), (vi x2.To), vf, vg, vh]) ti44 h26 rfl rfl rfl rfl ?_
   obtain ⟨t4, h27, hr⟩ := J6 hr
   refine J8 (f := 73) (av := [vc, (.agg #[(vi x2.Class), ve, (vi x2.Pad), (.bool x2.Nosplit), (vi x2.From), (vi x2.To), vf, vg, vh])]) cf73 rfl rfl h26 rfl (fun G13 ex h28 => fun_Put.ok (a1 := x2) h28 (SRep.mono ex.ro f11) (⟨ve, vf, vg, vh, rfl, f14, (SRep.mono ex.ro f15), f16, f17, f18, (SRep.mono ex.ro f19), (SRep.mono ex.ro f1a), (SRep.mono ex.ro f1b)⟩) h27) ?_
   rintro vj wd G14 G15 N5 ey q6 ⟨_, rfl, rfl, f1c⟩ h29
   refine Jsv vj rfl rfl ?_
   refine J0 (J1 ?_)
   refine Y2 rfl rfl rfl (of_decide_eq_true h23) (inK_len (SRep.le (SRep.mono (e0.ro.trans (e2.ro.trans (er.ro.trans (es.ro.trans eu.ro)))) ha0_1))) ?_
   refine Jmv (vi ((s2.2 + 1 : Nat) : Int)) rfl rfl ?_
   refine J0 ?_
   have h2a := St.pick 1 rfl h29
   have h2b := St.takeN 1 h2a
   exact ⟨_, (Option.some.inj hr).symm, _, _, vj, (J3 ⟨rfl, rfl, rfl, rfl, rfl, trivial⟩), (ew.trans ey), h2b, (SRep.mono q6 f1c), (inK_inc (of_decide_eq_true h23) (inK_len (SRep.le (SRep.mono (e0.ro.trans (e2.ro.trans (er.ro.trans (es.ro.trans eu.ro)))) ha0_1))))⟩
  replace hr := Jf hr h23
  refine Jr ?_
  exact ⟨_, (Option.some.inj hr).symm, rfl, _, _, vc, (J3 ⟨rfl, rfl, trivial⟩), ew, h22, f11⟩
 rintro _ _ ⟨σ5, G12, vd, rfl, ez, h2c, f1d⟩
 refine J2 (J1 ?_)
 refine Jmv vd rfl rfl ?_
 refine Jfa 2 2 underlying61 rfl ti59 rfl rfl rfl rfl ?_
 refine Jlb [] sa0_2 ti59 h2c rfl rfl rfl ?_
 refine Jd (T := TData) underlying59 (SRep.mono (e0.ro.trans (e2.ro.trans (er.ro.trans (es.ro.trans (eu.ro.trans ez.ro))))) ha0_2) rfl rfl ?_
 obtain ⟨ta, h2d, hr⟩ := J6 hr
 refine J8 (f := 70) (av := [vd, (vi (a0.Datas.length : Int)), (vi 1)]) cf70 rfl rfl h2c rfl (fun G16 e10 h2e => octet_Put.ok h2e (SRep.mono e10.ro f1d) (inK_len (SRep.le (SRep.mono (e0.ro.trans (e2.ro.trans (er.ro.trans (es.ro.trans (eu.ro.trans ez.ro))))) ha0_2))) (by rfl) h2d) ?_
 rintro vk we G17 G18 N6 e11 q7 ⟨_, cc, rfl, rfl, f1e, f1f⟩ h2f
 refine Jsv vk rfl rfl ?_
 refine J0 (J2 (J2 (J1 ?_)))
 refine Jfa 2 2 underlying61 rfl ti59 rfl rfl rfl rfl ?_
 refine Jlb [_] sa0_2 ti59 h2f rfl rfl rfl ?_
 refine Jd (T := TData) underlying59 (SRep.mono (e0.ro.trans (e2.ro.trans (er.ro.trans (es.ro.trans (eu.ro.trans (ez.ro.trans e11.ro)))))) ha0_2) rfl rfl ?_
 refine Jmv (vi 0) rfl rfl ?_
 refine J0 (Jb ?_)
 obtain ⟨tb, h2g, hr⟩ := J6 hr
 have h2h := St.takeN 1 h2f
 refine Js 6 h2g (fun s3 ρ w => ∃ (σ6 : Env) (G19 : GH) (vl : Value) (cd : List Value), ρ = En σ6 [(3, vl), (69, sa0_2), (70, (vi (a0.Datas.length : Int))), (71, (vi ((s3.2 : Nat) : Int)))] ∧ Ext G18 G19 ∧ St B w G19 [.row vl 5 1 s3.1.length cd] ∧ EAll (tInt .u8) G19 cd s3.1 ∧ s3.1.length ≤ SB ∧ InK .i64 ((s3.2 : Nat) : Int)) (fun tg ρ w => ∃ (σ7 : Env) (G1a : GH) (vm : Value) (ce : List Value), ρ = En σ7 [(3, vm)] ∧ Ext G18 G1a ∧ St B w G1a [.row vm 5 1 tg.length ce] ∧ EAll (tInt .u8) G1a ce tg ∧ tg.length ≤ SB) ⟨_, _, vk, cc, (J3 ⟨rfl, rfl, rfl, rfl, trivial⟩), (Ext.refl _), h2h, (EAll.mono q7 f1e), f1f, (by rfl)⟩ ?_ ?_
 ·rintro s3 x7 _ _ hr ⟨σ6, G19, vl, cd, rfl, e12, h2i, f1g, f1h, f1i⟩
  refine J2 (J1 ?_)
  refine Ji rfl rfl rfl ?_
  refine J0 (J2 ?_)
  refine J7 rfl (fun h2j => ?_) (fun h2j => ?_)
  ·replace hr := Jx hr h2j
   refine J9 (J2 (Jb (J2 (J1 ?_))))
   obtain ⟨x3, h2k, hr⟩ := J6 hr
   refine Jh (T := TData) underlying59 ti49 h2i (SRep.mono (e0.ro.trans (e2.ro.trans (er.ro.trans (es.ro.trans (eu.ro.trans (ez.ro.trans (e11.ro.trans e12.ro))))))) ha0_2) rfl rfl rfl h2k ?_
   intro b5 o2 cf l8 f1j
   obtain ⟨vn, vo, rfl, f1k, f1l, f1m⟩ := f1j
   refine Jy ti49 rfl rfl (LiesG.lies l8 h2i) (Nat.le_of_ble_eq_true rfl) ?_
   change WL _ _ _ _ _ _ (upd _ _ (.agg #[(vi x3.Kind), vn, vo])) _
   refine Jo ti49 h2i rfl ?_
   intro b6 wf h2l
   refine Jp (l1 := []) (vs := [(vi x3.Kind), vn, vo]) ti49 h2l rfl rfl rfl (J5 rfl (J5 (SRep.one f1l) (J5 (SRep.one f1m) (fun _ h => nomatch h)))) rfl ?_
   intro wg (h2m : St B wg G19 [.blk b6 [(vi x3.Kind), vn, vo] 49, .row vl 5 1 s3.1.length cd])
   refine J0 (J1 ?_)
   refine Jmv vl rfl rfl ?_
   refine Jl (l1 := []) (vs := [(vi x3.Kind), vn, vo]) ti49 h2m rfl rfl rfl rfl ?_
   obtain ⟨G1b, h2n, e13, f1n⟩ := St.rowRep (l1 := [_]) (T := (tInt .u8)) (xs := s3.1) h2m f1g rfl f1h
   obtain ⟨t5, h2o, hr⟩ := J6 hr
   refine J8 (f := 74) (av := [vl, (.agg #[(vi x3.Kind), vn, vo])]) cf74 rfl rfl h2n rfl (fun G1c e14 h2p => data_Put.ok (a1 := x3) h2p (SRep.mono e14.ro f1n) (⟨vn, vo, rfl, f1k, (SRep.mono (e13.ro.trans e14.ro) f1l), (SRep.mono (e13.ro.trans e14.ro) f1m)⟩) h2o) ?_
   rintro vp wh G1d G1e N7 e15 q8 ⟨_, cg, rfl, rfl, f1o, f1p⟩ h2q
   refine Jsv vp rfl rfl ?_
   refine J0 (J1 ?_)
   refine Y2 rfl rfl rfl (of_decide_eq_true h2j) (inK_len (SRep.le (SRep.mono (e0.ro.trans (e2.ro.trans (er.ro.trans (es.ro.trans (eu.ro.trans (ez.ro.trans e11.ro)))))) ha0_2))) ?_
   refine Jmv (vi ((s3.2 + 1 : Nat) : Int)) rfl rfl ?_
   refine J0 ?_
   have h2r := St.takeN 1 h2q
   exact ⟨_, (Option.some.inj hr).symm, _, _, vp, cg, (J3 ⟨rfl, rfl, rfl, rfl, trivial⟩), (e12.trans (e13.trans e15)), h2r, (EAll.mono q8 f1o), f1p, (inK_inc (of_decide_eq_true h2j) (inK_len (SRep.le (SRep.mono (e0.ro.trans (e2.ro.trans (er.ro.trans (es.ro.trans (eu.ro.trans (ez.ro.trans e11.ro)))))) ha0_2))))⟩
  replace hr := Jf hr h2j
  refine Jr ?_
  exact ⟨_, (Option.some.inj hr).symm, rfl, _, _, vl, cd, (J3 ⟨rfl, trivial⟩), e12, h2i, f1g, f1h⟩
 rintro _ _ ⟨σ7, G1a, vm, ce, rfl, e16, h2s, f1q, f1r⟩
 refine J2 (J1 ?_)
 refine Jmv vm rfl rfl ?_
 obtain ⟨G1f, h2t, e17, f1s⟩ := St.rowRep (l1 := []) (T := (tInt .u8)) (xs := tb) h2s f1q rfl f1r
 obtain ⟨tc, h2u, hr⟩ := J6 hr
 refine J8 (f := 75) (av := [vm]) cf75 rfl rfl h2t rfl (fun G1g e18 h2v => sum_Seal.ok h2v (SRep.mono e18.ro f1s) h2u) ?_
 rintro vq wi G1h G1i N8 e19 q9 ⟨_, ch, rfl, rfl, f1t, f1u⟩ h2w
 refine Jsv vq rfl rfl ?_
 refine J0 (Jg ?_)
 obtain rfl := Option.some.inj hr
 exact ⟨[vq], ⟨rfl, trivial⟩, _, _, _, rfl, (e0.trans (e2.trans (er.trans (es.trans (eu.trans (ez.trans (e11.trans (e16.trans (e17.trans e19))))))))), h2w, ⟨vq, ch, rfl, rfl, (EAll.mono q9 f1t), f1u⟩⟩
def octet_Reader_Num.f (a0_0 : (List Int)) (a0_1 : Int) (a0_2 : Bool) (a0_3 : Bool) (a1 : Int) : Option ((Int × (List Int) × Int × Bool)) :=
 (octet_number.f a0_0 a0_1 a0_2 a0_3 a1).bind fun t0 => some (t0.1, t0.2.2.1, t0.2.2.2.1, t0.2.2.2.2)
def octet_Reader_Num.K (ba0 : Nat) (a0_2 : Bool) (r : (Int × (List Int) × Int × Bool)) (G24 : GH) (v : Value) (N : List Res) : Prop := ∃ (v29 : Value), v = tup [(vi r.1)] ∧ N = [.blk ba0 [v29, (vi r.2.2.1), (.bool a0_2), (.bool r.2.2.2)] 163] ∧ InK .i64 r.1 ∧ SRep 5 (tInt .u8) G24 v29 r.2.1 ∧ InK .i64 r.2.2.1
theorem octet_Reader_Num.ok {ba0 : Nat} {va0_0 : Value} {ca0_0 : List Value} {a0_0 : (List Int)} {a0_1 : Int} {a0_2 : Bool} {a0_3 : Bool} {a1 : Int} (st : St B w G [.blk ba0 [va0_0, (vi a0_1), (.bool a0_2), (.bool a0_3)] 163, .row va0_0 5 1 a0_0.length ca0_0]) (ha0_0 : EAll (tInt .u8) G ca0_0 a0_0) (lha0_0 : a0_0.length ≤ SB) (ha0_1 : InK .i64 a0_1) (ha1 : InK .i64 a1) {r : (Int × (List Int) × Int × Bool)} (hr : octet_Reader_Num.f a0_0 a0_1 a0_2 a0_3 a1 = some r) :
 Calls Tryz.prog 110 ([(pt ba0 0), (vi a1)] : List Value).toArray w (Ret B G (octet_Reader_Num.K ba0 a0_2 r)) := by
 refine Jc [.tmp 4] func110 rfl ntmps110 rfl rfl ?_
 refine J2 (J1 ?_)
 refine Jsv (vi 0) rfl rfl ?_
 refine J0 (J2 (J1 ?_))
 refine Jmv (pt ba0 0) rfl rfl ?_
 refine Yg (fs := [(pt ba0 0)]) (cs := []) rfl rfl rfl ?_
 refine Jmv (vi a1) rfl rfl ?_
 have h0 := St.pick 1 rfl st
 have h1 := St.pick 1 rfl h0
 obtain ⟨t0, h2, hr⟩ := J6 hr
 refine Y6 (f := 171) (av := [(.func (.func 172) #[(pt ba0 0)] #[]), (vi a1)]) cf171 rfl rfl h1 rfl (fun G0 e0 h3 => octet_number.ok h3 (EAll.mono e0.ro ha0_0) lha0_0 ha0_1 ha1 h2) ?_
 rintro v0 w0 G1 G2 N0 e1 q0 ⟨v1, v2, rfl, rfl, f0, f1, f2, f3⟩ h4
 refine Jmv (.tuple #[(vi t0.1), v1]) rfl rfl ?_
 refine Jm rfl rfl rfl ?_
 refine Jm rfl rfl rfl ?_
 refine Jsv (vi t0.1) rfl rfl ?_
 refine Jsv v1 rfl rfl ?_
 refine J0 (J2 (J1 ?_))
 refine Jmv (vi t0.1) rfl rfl ?_
 refine Jsv (vi t0.1) rfl rfl ?_
 refine J0 (Jg ?_)
 obtain rfl := Option.some.inj hr
 exact ⟨[(vi t0.1)], ⟨rfl, trivial⟩, _, _, _, rfl, e1, h4, ⟨v2, rfl, rfl, f0, (SRep.mono q0 f2), f3⟩⟩
def sum_Open.f (a0 : (List Int)) : Option (((List Int) × Int)) :=
 bif decide ((IntKind.wrap .i64 ((a0.length : Int) - 4)) < 0) then some ([], 5) else bif (decide (0 ≤ (IntKind.wrap .i64 ((a0.length : Int) - 4))) && decide ((IntKind.wrap .i64 ((a0.length : Int) - 4)) ≤ (a0.length : Int))) then (octet_New.f (List.drop (Int.toNat ((IntKind.wrap .i64 ((a0.length : Int) - 4)))) a0)).bind fun t0 => (octet_Reader_Num.f t0 0 true false 4).bind fun t1 => bif (decide (0 ≤ (IntKind.wrap .i64 ((a0.length : Int) - 4))) && decide ((IntKind.wrap .i64 ((a0.length : Int) - 4)) ≤ (a0.length : Int))) then (sum_Of.f (List.take (Int.toNat ((IntKind.wrap .i64 ((a0.length : Int) - 4)))) a0)).bind fun t2 => bif decide (t1.1 ≠ t2) then some ([], 4) else bif (decide (0 ≤ (IntKind.wrap .i64 ((a0.length : Int) - 4))) && decide ((IntKind.wrap .i64 ((a0.length : Int) - 4)) ≤ (a0.length : Int))) then bif decide ((([] : (List Int)).length + (List.take (Int.toNat ((IntKind.wrap .i64 ((a0.length : Int) - 4)))) a0).length) * 1 ≤ SB) then some ((([] : (List Int)) ++ (List.take (Int.toNat ((IntKind.wrap .i64 ((a0.length : Int) - 4)))) a0)), 0) else none else none else none else none
def sum_Open.K (r : ((List Int) × Int)) (G0 : GH) (v : Value) (N : List Res) : Prop := ∃ (v0 : Value) (c0 : List Value), v = tup [v0, (vi r.2)] ∧ N = [.row v0 5 1 r.1.length c0] ∧ EAll (tInt .u8) G0 c0 r.1 ∧ r.1.length ≤ SB ∧ InK .i64 r.2
theorem sum_Open.ok {va0 : Value} {a0 : (List Int)} (st : St B w G []) (ha0 : SRep 5 (tInt .u8) G va0 a0) {r : ((List Int) × Int)} (hr : sum_Open.f a0 = some r) :
 Calls Tryz.prog 57 ([va0] : List Value).toArray w (Ret B G (sum_Open.K r)) := by
 refine Jc [.tmp 2, .tmp 3] func57 rfl ntmps57 rfl rfl ?_
 refine J2 (J1 ?_)
 refine Jsv (.slice none 0 0) rfl rfl ?_
 refine Jsv (vi 0) rfl rfl ?_
 refine J0 (J2 (J1 ?_))
 refine Jmv va0 rfl rfl ?_
 refine Jd (T := (tInt .u8)) underlying63 ha0 rfl rfl ?_
 refine Yn rfl rfl rfl ?_
 refine Jsv (vi (IntKind.wrap .i64 ((a0.length : Int) - 4))) rfl rfl ?_
 refine J0 (J2 (J2 (J1 ?_)))
 refine Jmv (vi (IntKind.wrap .i64 ((a0.length : Int) - 4))) rfl rfl ?_
 refine Ji rfl rfl rfl ?_
 refine J0 ?_
 refine J7 rfl (fun h0 => ?_) (fun h0 => ?_)
 ·replace hr := Jx hr h0
  refine J2 (J1 ?_)
  refine Jsv (.slice none 0 0) rfl rfl ?_
  refine Jsv (vi 5) rfl rfl ?_
  refine J0 (Jg ?_)
  have h1 := St.nilRow st 5 1
  have h2 := St.row_len (l1 := []) (k := ([] : List Int).length) rfl h1
  obtain rfl := Option.some.inj hr
  exact ⟨[(.slice none 0 0), (vi 5)], ⟨rfl, rfl, trivial⟩, _, _, _, rfl, (Ext.refl _), h2, ⟨(.slice none 0 0), [], rfl, rfl, EAll.nil, (le_eq (m := 0) rfl (Nat.zero_le _)), (by rfl)⟩⟩
 replace hr := Jf hr h0
 refine J9 (J2 (J1 ?_))
 refine Jmv va0 rfl rfl ?_
 refine Jmv (vi (IntKind.wrap .i64 ((a0.length : Int) - 4))) rfl rfl ?_
 obtain ⟨h3, hr⟩ := Ya hr
 refine WL_sliceL (T := (tInt .u8)) underlying63 ti5 ha0 rfl rfl rfl (of_decide_eq_true (band h3).1) (of_decide_eq_true (band h3).2) ?_
 intro v1 f0
 obtain ⟨t0, h4, hr⟩ := J6 hr
 refine J8 (f := 58) (av := [v1]) cf58 rfl rfl st rfl (fun G1 e0 h5 => octet_New.ok h5 (SRep.mono e0.ro f0) h4) ?_
 rintro v2 w0 G2 G3 N0 e1 q0 ⟨v3, c1, b0, rfl, rfl, f1, f2⟩ h6
 refine Jsv (pt b0 0) rfl rfl ?_
 refine J0 (J2 (J2 ?_))
 obtain ⟨t1, h7, hr⟩ := J6 hr
 obtain ⟨h8, hr⟩ := Ya hr
 refine Ym 5 [some 15, some 16, some 17, some 18, some 19] [1] [Kind.q, Kind.c 0, Kind.q, Kind.q, Kind.q] (pkT [(fun vs_ G_ M_ => vs_ = [] ∧ M_ = [.row v3 5 1 t0.length c1, .blk b0 [v3, (vi 0), (.bool true), (.bool false)] 163]), (fun vs_ G_ M_ => ∃ (v4 : Value), vs_ = [(vi t1.1)] ∧ M_ = [.blk b0 [v4, (vi t1.2.2.1), (.bool true), (.bool t1.2.2.2)] 163] ∧ SRep 5 (tInt .u8) G_ v4 t1.2.1 ∧ InK .i64 t1.2.2.1 ∧ InK .i64 t1.1)]) (pk [(fun G_ v_ => v_ = (pt b0 0)), (fun _ _ => True), (fun G_ v_ => v_ = va0), (fun G_ v_ => v_ = (vi (IntKind.wrap .i64 ((a0.length : Int) - 4)))), (fun G_ v_ => ∃ (v5 : Value), v_ = v5 ∧ SRep 5 (tInt .u8) G_ v5 (List.take (Int.toNat ((IntKind.wrap .i64 ((a0.length : Int) - 4)))) a0))]) rfl (by kernel_rfl) rfl (by kernel_rfl) [] (by kernel_rfl) rfl h6 (fun _ _ => ⟨rfl, rfl⟩) ?_ ?_
 ·refine Each2.cons ?_ (Each2.cons ?_ (Each2.cons ?_ (Each2.cons ?_ (Each2.cons ?_ Each2.nil))))
  ·intro k0 q1 w1 G4 M0 h9 h10 e2 h11 h12 h13 h14 h15 h16
   have h2_ : k0 ≤ 0 := h15 0 1 [1] rfl (by kernel_rfl) rfl
   obtain rfl : k0 = 0 := by omega
   obtain ⟨hvs_, rfl⟩ := h12 G4 (Ext.refl _)
   rw [J3 (ρ := q1) (l := [(5, (pt b0 0))]) ⟨(h13.1 5 (by decide)).trans rfl, trivial⟩]
   refine Jmv (pt b0 0) rfl rfl ?_
   exact J0 (J4 (Ext.refl _) h11 fun G5 e3 => rfl)
  ·intro k0 q1 w1 G4 M0 h9 h10 e2 h11 h12 h13 h14 h15 h16
   obtain rfl : k0 = 0 := h10
   obtain ⟨hvs_, rfl⟩ := h12 G4 (Ext.refl _)
   obtain ⟨hd0_, _⟩ := h16
   have hv15 := hd0_
   rw [J3 (ρ := q1) (l := [(15, (pt b0 0))]) ⟨hv15, trivial⟩]
   have h17 := St.pick 1 rfl h11
   refine Y6 (f := 110) (av := [(pt b0 0), (vi 4)]) cf110 rfl rfl h17 rfl (fun G6 e4 h18 => octet_Reader_Num.ok h18 (EAll.mono (e2.ro.trans e4.ro) (EAll.mono q0 f1)) f2 (by rfl) (by rfl) h7) ?_
   rintro v6 w2 G7 G8 N1 e5 q2 ⟨v7, rfl, rfl, f3, f4, f5⟩ h19
   exact J0 (Yi e5 h19 fun G9 e6 => ⟨⟨v7, rfl, rfl, (SRep.mono e6.ro (SRep.mono q2 f4)), f5, f3⟩, trivial⟩)
  ·intro k0 q1 w1 G4 M0 h9 h10 e2 h11 h12 h13 h14 h15 h16
   have h2_ : k0 ≤ 1 := h9
   rcases (show k0 = 0 ∨ k0 = 1 from by omega) with rfl | rfl
   ·obtain ⟨hvs_, rfl⟩ := h12 G4 (Ext.refl _)
    rw [J3 (ρ := q1) (l := [(0, va0)]) ⟨(h13.1 0 (by decide)).trans rfl, trivial⟩]
    refine Jmv va0 rfl rfl ?_
    exact J0 (J4 (Ext.refl _) h11 fun Ga e7 => rfl)
   obtain ⟨v4, hvs_, rfl, f6, f7, f8⟩ := h12 G4 (Ext.refl _)
   have hv16 := (List.cons.inj hvs_).1
   rw [J3 (ρ := q1) (l := [(0, va0), (16, (vi t1.1))]) ⟨(h13.1 0 (by decide)).trans rfl, hv16, trivial⟩]
   refine Jmv va0 rfl rfl ?_
   exact J0 (J4 (Ext.refl _) h11 fun Ga e7 => rfl)
  ·intro k0 q1 w1 G4 M0 h9 h10 e2 h11 h12 h13 h14 h15 h16
   have h2_ : k0 ≤ 1 := h9
   rcases (show k0 = 0 ∨ k0 = 1 from by omega) with rfl | rfl
   ·obtain ⟨hvs_, rfl⟩ := h12 G4 (Ext.refl _)
    rw [J3 (ρ := q1) (l := [(4, (vi (IntKind.wrap .i64 ((a0.length : Int) - 4))))]) ⟨(h13.1 4 (by decide)).trans rfl, trivial⟩]
    refine Jmv (vi (IntKind.wrap .i64 ((a0.length : Int) - 4))) rfl rfl ?_
    exact J0 (J4 (Ext.refl _) h11 fun Gb e8 => rfl)
   obtain ⟨v4, hvs_, rfl, f6, f7, f8⟩ := h12 G4 (Ext.refl _)
   have hv16 := (List.cons.inj hvs_).1
   rw [J3 (ρ := q1) (l := [(4, (vi (IntKind.wrap .i64 ((a0.length : Int) - 4)))), (16, (vi t1.1))]) ⟨(h13.1 4 (by decide)).trans rfl, hv16, trivial⟩]
   refine Jmv (vi (IntKind.wrap .i64 ((a0.length : Int) - 4))) rfl rfl ?_
   exact J0 (J4 (Ext.refl _) h11 fun Gb e8 => rfl)
  intro k0 q1 w1 G4 M0 h9 h10 e2 h11 h12 h13 h14 h15 h16
  have h2_ : k0 ≤ 1 := h9
  rcases (show k0 = 0 ∨ k0 = 1 from by omega) with rfl | rfl
  ·obtain ⟨hvs_, rfl⟩ := h12 G4 (Ext.refl _)
   obtain ⟨hd0_, hd1_, _⟩ := h16
   have hv17 := hd0_
   have hv18 := hd1_
   rw [J3 (ρ := q1) (l := [(17, va0), (18, (vi (IntKind.wrap .i64 ((a0.length : Int) - 4))))]) ⟨hv17, hv18, trivial⟩]
   refine WL_sliceH (T := (tInt .u8)) underlying63 ti5 (SRep.mono (e1.ro.trans e2.ro) ha0) rfl rfl rfl (of_decide_eq_true (band h8).1) (of_decide_eq_true (band h8).2) ?_
   intro v8 f9
   exact J0 (J4 (Ext.refl _) h11 fun Gc e9 => ⟨v8, rfl, (SRep.mono e9.ro f9)⟩)
  obtain ⟨v4, hvs_, rfl, f6, f7, f8⟩ := h12 G4 (Ext.refl _)
  have hv16 := (List.cons.inj hvs_).1
  obtain ⟨hd0_, hd1_, _⟩ := h16
  have hv17 := hd0_
  have hv18 := hd1_
  rw [J3 (ρ := q1) (l := [(16, (vi t1.1)), (17, va0), (18, (vi (IntKind.wrap .i64 ((a0.length : Int) - 4))))]) ⟨hv16, hv17, hv18, trivial⟩]
  refine WL_sliceH (T := (tInt .u8)) underlying63 ti5 (SRep.mono (e1.ro.trans e2.ro) ha0) rfl rfl rfl (of_decide_eq_true (band h8).1) (of_decide_eq_true (band h8).2) ?_
  intro v8 f9
  exact J0 (J4 (Ext.refl _) h11 fun Gc e9 => ⟨v8, rfl, (SRep.mono e9.ro f9)⟩)
 intro q1 w1 G4 M0 e2 h11 h12 h13 h16
 obtain ⟨v4, hvs_, rfl, f6, f7, f8⟩ := h12
 have hv16 := (List.cons.inj hvs_).1
 obtain ⟨v5, hv19, fa⟩ := h16 4 (by decide)
 rw [J3 (ρ := q1) (l := [(0, va0), (4, (vi (IntKind.wrap .i64 ((a0.length : Int) - 4)))), (16, (vi t1.1)), (19, v5)]) ⟨(h13.1 0 (by decide)).trans rfl, (h13.1 4 (by decide)).trans rfl, hv16, hv19, trivial⟩]
 obtain ⟨t2, h1a, hr⟩ := J6 hr
 refine J8 (f := 111) (av := [v5]) cf111 rfl rfl h11 rfl (fun Gd ea h1b => sum_Of.ok h1b (SRep.mono ea.ro fa) h1a) ?_
 rintro v9 w3 Ge Gf N2 eb q3 ⟨rfl, rfl, fb⟩ h1c
 refine Y1 rfl rfl rfl ?_
 refine J0 ?_
 refine J7 rfl (fun h1d => ?_) (fun h1d => ?_)
 ·replace hr := Jx hr h1d
  refine J2 (J1 ?_)
  refine Jsv (.slice none 0 0) rfl rfl ?_
  refine Jsv (vi 4) rfl rfl ?_
  refine J0 (Jg ?_)
  have h1e := St.nilRow h1c 5 1
  have h1f := St.row_len (l1 := []) (k := ([] : List Int).length) rfl h1e
  have h1g := St.takeN 1 h1f
  obtain rfl := Option.some.inj hr
  exact ⟨[(.slice none 0 0), (vi 4)], ⟨rfl, rfl, trivial⟩, _, _, _, rfl, (e1.trans (e2.trans eb)), h1g, ⟨(.slice none 0 0), [], rfl, rfl, EAll.nil, (le_eq (m := 0) rfl (Nat.zero_le _)), (by rfl)⟩⟩
 replace hr := Jf hr h1d
 refine J9 (J2 (J1 ?_))
 refine WL_buildNone underlying63 ti5 h1c rfl ?_
 intro va w4 h1h
 refine Jmv va0 rfl rfl ?_
 refine Jmv (vi (IntKind.wrap .i64 ((a0.length : Int) - 4))) rfl rfl ?_
 obtain ⟨h1i, hr⟩ := Ya hr
 refine WL_sliceH (T := (tInt .u8)) underlying63 ti5 (SRep.mono (e1.ro.trans (e2.ro.trans eb.ro)) ha0) rfl rfl rfl (of_decide_eq_true (band h1i).1) (of_decide_eq_true (band h1i).2) ?_
 intro vc fc
 obtain ⟨h1j, hr⟩ := Ya hr
 refine Yf (l1 := []) (T := (tInt .u8)) (xs := (List.take (Int.toNat ((IntKind.wrap .i64 ((a0.length : Int) - 4)))) a0)) underlying63 ti5 h1h rfl rfl fc rfl rfl rfl (app_limN rfl h1j) (app_leN rfl h1j) ?_
 intro vd w5 n0 E0 h1k
 have E1 := EAll.append (T := (tInt .u8)) EAll.nil E0
 refine Jsv vd rfl rfl ?_
 refine Jsv (vi 0) rfl rfl ?_
 refine J0 (Jg ?_)
 have h1l := St.row_len (l1 := []) (k := (([] : (List Int)) ++ (List.take (Int.toNat ((IntKind.wrap .i64 ((a0.length : Int) - 4)))) a0)).length) (len_app rfl) h1k
 have h1m := St.takeN 1 h1l
 obtain rfl := Option.some.inj hr
 exact ⟨[vd, (vi 0)], ⟨rfl, rfl, trivial⟩, _, _, _, rfl, (e1.trans (e2.trans eb)), h1m, ⟨vd, ([] ++ n0), rfl, rfl, E1, (le_eq (m := (0 + (List.take (Int.toNat ((IntKind.wrap .i64 ((a0.length : Int) - 4)))) a0).length)) (len_app rfl) (app_leN rfl h1j)), (by rfl)⟩⟩
end Go.Proofs.YtnglgjgflohkmaaGreat.Sk
