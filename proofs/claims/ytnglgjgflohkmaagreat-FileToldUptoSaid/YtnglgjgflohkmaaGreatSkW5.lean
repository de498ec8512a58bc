/- Walks, printed by gen.py. No condition. -/
import Derived.Test.YtnglgjgflohkmaaGreatSkTy
import Derived.Test.YtnglgjgflohkmaaGreatSkW2
import Derived.Test.YtnglgjgflohkmaaGreatSkW3
import Derived.Test.YtnglgjgflohkmaaGreatSkW4
namespace Go.Proofs.YtnglgjgflohkmaaGreat.Sk
open Go Go.Proofs.Tryz
set_option linter.unusedVariables false
set_option linter.unusedSimpArgs false
variable {B w : World} {G : GH}
set_option linter.unusedVariables false
set_option maxHeartbeats 4000000
set_option maxRecDepth 100000
def api_Reloc_169.l0 (a0 : (List XReloc)) (a1_c0_0 : Int) (s0 : Nat) : Option (Step Nat (Unit ⊕ Int)) :=
 bif decide (((s0 : Nat) : Int) < (a0.length : Int)) then (idx a0 ((s0 : Nat) : Int)).bind fun x0 => (verify_mark_1.f x0 a1_c0_0).bind fun t0 => bif t0 then some (.done (.inr ((s0 : Nat) : Int))) else some (.next (s0 + 1)) else some (.done (.inl ()))
def api_Reloc_169.f (a0 : (List XReloc)) (a1_c0_0 : Int) : Option (Int) :=
 (loop (api_Reloc_169.l0 a0 a1_c0_0) 0).bind fun t1 => cont t1 fun t2 => some (-1)
def api_Reloc_169.K (ba1_c0 : Nat) (a1_c0_0 : Int) (r : Int) (G0 : GH) (v : Value) (N : List Res) : Prop := v = tup [(vi r)] ∧ N = [.blk ba1_c0 [(vi a1_c0_0)] 3] ∧ InK .i64 r
theorem api_Reloc_169.ok {va0 : Value} {a0 : (List XReloc)} {ba1_c0 : Nat} {a1_c0_0 : Int} (st : St B w G [.blk ba1_c0 [(vi a1_c0_0)] 3]) (ha0 : SRep 133 TReloc G va0 a0) (ha1_c0_0 : InK .i64 a1_c0_0) {r : Int} (hr : api_Reloc_169.f a0 a1_c0_0 = some r) :
 Calls Tryz.prog 169 ([va0, (.func (.func 170) #[] #[(pt ba1_c0 0)])] : List Value).toArray w (Ret B G (api_Reloc_169.K ba1_c0 a1_c0_0 r)) := by
 refine Jc [.tmp 4] func169 rfl ntmps169 rfl rfl ?_
 refine J2 (J1 ?_)
 refine Jsv (vi 0) rfl rfl ?_
 refine J0 (J2 (J2 (J1 ?_)))
 refine Jmv va0 rfl rfl ?_
 refine Jd (T := TReloc) underlying42 ha0 rfl rfl ?_
 refine Jmv (vi 0) rfl rfl ?_
 refine J0 (Jb ?_)
 obtain ⟨t1, h0, hr⟩ := J6 hr
 refine W_loopS (a0 := r) 0 h0 (fun s0 ρ w => ∃ (σ0 : Env) (G1 : GH), ρ = En σ0 [(0, va0), (1, (.func (.func 170) #[] #[(pt ba1_c0 0)])), (7, (vi (a0.length : Int))), (8, (vi ((s0 : Nat) : Int)))] ∧ Ext G G1 ∧ St B w G1 [.blk ba1_c0 [(vi a1_c0_0)] 3] ∧ InK .i64 ((s0 : Nat) : Int)) (fun t2 ρ w => ∃ (σ1 : Env) (G2 : GH), ρ = En σ1 [] ∧ Ext G G2 ∧ St B w G2 [.blk ba1_c0 [(vi a1_c0_0)] 3]) ⟨_, _, (J3 ⟨rfl, rfl, rfl, rfl, trivial⟩), (Ext.refl _), st, (by rfl)⟩ ?_ ?_ ?_
 ·rintro s0 x1 _ _ hr ⟨σ0, G1, rfl, e0, h1, f0⟩
  refine J2 (J1 ?_)
  refine Ji rfl rfl rfl ?_
  refine J0 (J2 ?_)
  refine J7 rfl (fun h2 => ?_) (fun h2 => ?_)
  ·replace hr := Jx hr h2
   refine J9 (J2 (Jb (J2 (J1 ?_))))
   refine Jmv (vi ((s0 : Nat) : Int)) rfl rfl ?_
   refine Jsv (vi ((s0 : Nat) : Int)) rfl rfl ?_
   refine J0 (J2 (J1 ?_))
   refine Jmv (.func (.func 170) #[] #[(pt ba1_c0 0)]) rfl rfl ?_
   refine Jmv va0 rfl rfl ?_
   refine Jmv (vi ((s0 : Nat) : Int)) rfl rfl ?_
   obtain ⟨x0, h3, hr⟩ := J6 hr
   refine Jh (T := TReloc) underlying42 ti133 h1 (SRep.mono e0.ro ha0) rfl rfl rfl h3 ?_
   intro b0 o0 c0 l3 f1
   obtain ⟨rfl, f2, f3⟩ := f1
   refine Jy ti133 rfl rfl (LiesG.lies l3 h1) (Nat.le_of_ble_eq_true rfl) ?_
   change WL _ _ _ _ _ _ (upd _ _ (.agg #[(vi x0.At), (vi x0.Sym), (.bool x0.Wide)])) _
   obtain ⟨t0, h4, hr⟩ := J6 hr
   refine Jn (f := 170) (av := [(.agg #[(vi x0.At), (vi x0.Sym), (.bool x0.Wide)]), (pt ba1_c0 0)]) cf170 rfl rfl h1 rfl (fun G3 e1 h5 => verify_mark_1.ok (a0 := x0) h5 (⟨rfl, f2, f3⟩) ha1_c0_0 h4) ?_
   rintro v0 w0 G4 G5 N0 e2 q0 ⟨rfl, rfl⟩ h6
   refine J0 ?_
   refine J7 rfl (fun h7 => ?_) (fun h7 => ?_)
   ·replace hr := Jx hr h7
    refine J2 (J1 ?_)
    refine Jmv (vi ((s0 : Nat) : Int)) rfl rfl ?_
    refine Jsv (vi ((s0 : Nat) : Int)) rfl rfl ?_
    refine J0 (Jg ?_)
    refine ⟨_, (Option.some.inj hr).symm, fun h8 => ?_⟩
    replace hr := congrArg some h8
    obtain rfl := Option.some.inj hr
    exact ⟨[(vi ((s0 : Nat) : Int))], ⟨rfl, trivial⟩, _, _, _, rfl, (e0.trans e2), h6, ⟨rfl, rfl, f0⟩⟩
   replace hr := Jf hr h7
   refine J9 (J1 ?_)
   refine Y2 rfl rfl rfl (of_decide_eq_true h2) (inK_len (SRep.le ha0)) ?_
   refine Jmv (vi ((s0 + 1 : Nat) : Int)) rfl rfl ?_
   refine J0 ?_
   exact ⟨_, (Option.some.inj hr).symm, _, _, (J3 ⟨rfl, rfl, rfl, rfl, trivial⟩), (e0.trans e2), h6, (inK_inc (of_decide_eq_true h2) (inK_len (SRep.le ha0)))⟩
  replace hr := Jf hr h2
  refine Jr ?_
  exact ⟨_, (Option.some.inj hr).symm, rfl, _, _, rfl, e0, h1⟩
 ·rintro t2 _ _ rfl ⟨σ1, G2, rfl, e3, h9⟩
  replace hr := cont_inl hr
  refine J2 (J1 ?_)
  refine Jsv (vi (-1)) rfl rfl ?_
  refine J0 (Jg ?_)
  obtain rfl := Option.some.inj hr
  exact ⟨[(vi (-1))], ⟨rfl, trivial⟩, _, _, _, rfl, e3, h9, ⟨rfl, rfl, (by rfl)⟩⟩
 rintro a rfl; exact Option.some.inj hr
def verify_mark.f (a0 : XFunc) (a1 : Int) : Option (Int) :=
 (api_Reloc_169.f a0.Relocs a1).bind fun t0 => some t0
def verify_mark.K (r : Int) (G25 : GH) (v : Value) (N : List Res) : Prop := v = tup [(vi r)] ∧ N = [] ∧ InK .i64 r
theorem verify_mark.ok {ca0 : List Value} {a0 : XFunc} {a1 : Int} (st : St B w G []) (ha0 : TFunc.rep G ca0 a0) (ha1 : InK .i64 a1) {r : Int} (hr : verify_mark.f a0 a1 = some r) :
 Calls Tryz.prog 109 ([(.agg ca0.toArray), (vi a1)] : List Value).toArray w (Ret B G (verify_mark.K r)) := by
 obtain ⟨sa0_1, sa0_6, sa0_7, sa0_8, rfl, ha0_0, ha0_1, ha0_2, ha0_4, ha0_5, ha0_6, ha0_7, ha0_8⟩ := ha0
 refine Jc [.tmp 4] func109 rfl ntmps109 rfl rfl ?_
 refine J2 (J1 ?_)
 refine Ju (cs := [(vi a0.Class), sa0_1, (vi a0.Pad), (.bool a0.Nosplit), (vi a0.From), (vi a0.To), sa0_6, sa0_7, sa0_8]) st rfl rfl rfl ?_
 intro b0 w0 h0
 refine Ju (cs := [(vi a1)]) h0 rfl rfl rfl ?_
 intro b1 w1 h1
 refine Jsv (vi 0) rfl rfl ?_
 refine J0 (J2 (J1 ?_))
 refine Jfa 8 8 underlying44 rfl ti42 rfl rfl rfl rfl ?_
 refine Jlb [_] sa0_8 ti42 h1 rfl rfl rfl ?_
 refine Yg (fs := []) (cs := [(pt b1 0)]) rfl rfl rfl ?_
 obtain ⟨t0, h2, hr⟩ := J6 hr
 refine Jn (f := 169) (av := [sa0_8, (.func (.func 170) #[] #[(pt b1 0)])]) cf169 rfl rfl h1 rfl (fun G0 e0 h3 => api_Reloc_169.ok h3 (SRep.mono e0.ro ha0_8) ha1 h2) ?_
 rintro v0 w2 G1 G2 N0 e1 q0 ⟨rfl, rfl, f0⟩ h4
 refine Jsv (vi t0) rfl rfl ?_
 refine J0 (Jg ?_)
 have h5 := St.takeN 0 h4
 obtain rfl := Option.some.inj hr
 exact ⟨[(vi t0)], ⟨rfl, trivial⟩, _, _, _, rfl, e1, h5, ⟨rfl, rfl, f0⟩⟩
def sum_feed.f (a0_f0_ : Xsum_Adder) (a1 : (List Int)) : Option ((Int × Int)) :=
 (sum_Adder_Add.f a0_f0_ a1).bind fun t0 => some (t0.1, t0.2)
def sum_feed.K (ba0_f0 : Nat) (a0_f0_ : Xsum_Adder) (r : (Int × Int)) (G18 : GH) (v : Value) (N : List Res) : Prop := v = tup [] ∧ N = [.blk ba0_f0 [(vi r.1), (vi r.2), (.bool a0_f0_.live)] 263] ∧ InK .i64 r.1 ∧ InK .i64 r.2
theorem sum_feed.ok {ba0_f0 : Nat} {ca0_f0_ : List Value} {a0_f0_ : Xsum_Adder} {va1 : Value} {a1 : (List Int)} (st : St B w G [.blk ba0_f0 ca0_f0_ 263]) (ha0_f0_ : Tsum_Adder.rep G ca0_f0_ a0_f0_) (ha1 : SRep 5 (tInt .u8) G va1 a1) {r : (Int × Int)} (hr : sum_feed.f a0_f0_ a1 = some r) :
 Calls Tryz.prog 174 ([(.func (.func 175) #[(pt ba0_f0 0)] #[]), va1] : List Value).toArray w (Ret B G (sum_feed.K ba0_f0 a0_f0_ r)) := by
 obtain ⟨rfl, ha0_f0__0, ha0_f0__1⟩ := ha0_f0_
 refine Jc [] func174 rfl ntmps174 rfl rfl ?_
 refine J1 ?_
 refine Jmv (.func (.func 175) #[(pt ba0_f0 0)] #[]) rfl rfl ?_
 refine Jmv va1 rfl rfl ?_
 obtain ⟨t0, h0, hr⟩ := J6 hr
 refine Jn (f := 175) (av := [(pt ba0_f0 0), va1]) cf175 rfl rfl st rfl (fun G0 e0 h1 => sum_Adder_Add.ok (a0_ := a0_f0_) h1 (⟨rfl, ha0_f0__0, ha0_f0__1⟩) (SRep.mono e0.ro ha1) h0) ?_
 rintro v0 w0 G1 G2 N0 e1 q0 ⟨rfl, rfl, f0, f1⟩ h2
 refine J0 ?_
 obtain rfl := Option.some.inj hr
 exact ⟨[], trivial, _, _, _, rfl, e1, h2, ⟨rfl, rfl, f0, f1⟩⟩
def sum_Of.f (a0 : (List Int)) : Option (Int) :=
 (sum_New.f).bind fun t0 => (sum_feed.f ({ a := 1, b := 0, live := true } : Xsum_Adder) a0).bind fun t1 => (sum_Adder_Sum.f ({ a := t1.1, b := t1.2, live := true } : Xsum_Adder)).bind fun t2 => some t2
def sum_Of.K (r : Int) (G49 : GH) (v : Value) (N : List Res) : Prop := v = tup [(vi r)] ∧ N = [] ∧ InK .i64 r
theorem sum_Of.ok {va0 : Value} {a0 : (List Int)} (st : St B w G []) (ha0 : SRep 5 (tInt .u8) G va0 a0) {r : Int} (hr : sum_Of.f a0 = some r) :
 Calls Tryz.prog 111 ([va0] : List Value).toArray w (Ret B G (sum_Of.K r)) := by
 refine Jc [.tmp 2] func111 rfl ntmps111 rfl rfl ?_
 refine J2 (J1 ?_)
 refine Jsv (vi 0) rfl rfl ?_
 refine J0 (J2 (J1 ?_))
 obtain ⟨t0, h0, hr⟩ := J6 hr
 refine J8 (f := 173) (av := []) cf173 rfl rfl st rfl (fun G0 e0 h1 => sum_New.ok h1 h0) ?_
 rintro v0 w0 G1 G2 N0 e1 q0 ⟨b0, rfl, rfl⟩ h2
 refine Jsv (pt b0 0) rfl rfl ?_
 refine J0 (J2 (J1 ?_))
 refine Jmv (pt b0 0) rfl rfl ?_
 refine Yg (fs := [(pt b0 0)]) (cs := []) rfl rfl rfl ?_
 refine Jmv va0 rfl rfl ?_
 obtain ⟨t1, h3, hr⟩ := J6 hr
 refine Jn (f := 174) (av := [(.func (.func 175) #[(pt b0 0)] #[]), va0]) cf174 rfl rfl h2 rfl (fun G3 e2 h4 => sum_feed.ok (a0_f0_ := ({ a := 1, b := 0, live := true } : Xsum_Adder)) h4 (⟨rfl, (by rfl), (by rfl)⟩) (SRep.mono (e1.ro.trans e2.ro) ha0) h3) ?_
 rintro v1 w1 G4 G5 N1 e3 q1 ⟨rfl, rfl, f0, f1⟩ h5
 refine J0 (J2 (J1 ?_))
 refine Jmv (pt b0 0) rfl rfl ?_
 obtain ⟨t2, h6, hr⟩ := J6 hr
 refine Jn (f := 176) (av := [(pt b0 0)]) cf176 rfl rfl h5 rfl (fun G6 e4 h7 => sum_Adder_Sum.ok (a0_ := ({ a := t1.1, b := t1.2, live := true } : Xsum_Adder)) h7 (⟨rfl, f0, f1⟩) h6) ?_
 rintro v2 w2 G7 G8 N2 e5 q2 ⟨rfl, rfl, f2⟩ h8
 refine Jsv (vi t2) rfl rfl ?_
 refine J0 (Jg ?_)
 have h9 := St.takeN 0 h8
 obtain rfl := Option.some.inj hr
 exact ⟨[(vi t2)], ⟨rfl, trivial⟩, _, _, _, rfl, (e1.trans (e3.trans e5)), h9, ⟨rfl, rfl, f2⟩⟩
def sheerlegref16_Same.l0 (a0 : XFunc) (s0 : Unit) : Option (Step Unit Unit) :=
 bif decide (0 < (a0.Lines.length : Int)) then none else some (.done ())
def sheerlegref16_Same.l1 (a0 : XFunc) (a1 : XFunc) (s1 : Nat) : Option (Step Nat Unit) :=
 bif decide (((s1 : Nat) : Int) < (a0.Code.length : Int)) then (idx a0.Code ((s1 : Nat) : Int)).bind fun x0 => (idx a1.Code ((s1 : Nat) : Int)).bind fun x1 => bif !(decide (x0.Op = x1.Op) && (decide (x0.A = x1.A) && (decide (x0.B = x1.B) && (decide (x0.C = x1.C) && (decide (x0.N = x1.N) && true))))) then none else some (.next (s1 + 1)) else some (.done ())
def sheerlegref16_Same.f (a0 : XFunc) (a1 : XFunc) : Option (Unit) :=
 (bif decide (a0.Class ≠ a1.Class) then none else (sheerlegref01_Ints.f a0.Kinds a1.Kinds).bind fun t0 => some ()).bind fun t1 => (bif decide (a0.Pad ≠ a1.Pad) then none else some ()).bind fun t2 => (bif !(a0.Nosplit == a1.Nosplit) then none else some ()).bind fun t3 => (bif decide (a0.From ≠ a1.From) then none else some ()).bind fun t4 => (bif decide (a0.To ≠ a1.To) then none else some ()).bind fun t5 => (bif decide ((a0.Lines.length : Int) ≠ (a1.Lines.length : Int)) then none else some ()).bind fun t6 => (bif decide ((a0.Code.length : Int) ≠ (a1.Code.length : Int)) then none else (sheerlegref15_SameRelocs.f a0.Relocs a1.Relocs).bind fun t7 => some ()).bind fun t8 => (loop (sheerlegref16_Same.l0 a0) ()).bind fun t9 => (loop (sheerlegref16_Same.l1 a0 a1) 0).bind fun ta => some ()
def sheerlegref16_Same.K (r : Unit) (G0 : GH) (v : Value) (N : List Res) : Prop := v = tup [(.bool true)] ∧ N = []
theorem sheerlegref16_Same.ok {ca0 : List Value} {a0 : XFunc} {ca1 : List Value} {a1 : XFunc} (st : St B w G []) (ha0 : TFunc.rep G ca0 a0) (ha1 : TFunc.rep G ca1 a1) {r : Unit} (hr : sheerlegref16_Same.f a0 a1 = some r) :
 Calls Tryz.prog 42 ([(.agg ca0.toArray), (.agg ca1.toArray)] : List Value).toArray w (Ret B G (sheerlegref16_Same.K r)) := by
 obtain ⟨sa0_1, sa0_6, sa0_7, sa0_8, rfl, ha0_0, ha0_1, ha0_2, ha0_4, ha0_5, ha0_6, ha0_7, ha0_8⟩ := ha0
 obtain ⟨sa1_1, sa1_6, sa1_7, sa1_8, rfl, ha1_0, ha1_1, ha1_2, ha1_4, ha1_5, ha1_6, ha1_7, ha1_8⟩ := ha1
 refine Jc [.tmp 4] func42 rfl ntmps42 rfl rfl ?_
 refine J2 (J1 ?_)
 refine Ju (cs := [(vi a0.Class), sa0_1, (vi a0.Pad), (.bool a0.Nosplit), (vi a0.From), (vi a0.To), sa0_6, sa0_7, sa0_8]) st rfl rfl rfl ?_
 intro b0 w0 h0
 refine Ju (cs := [(vi a1.Class), sa1_1, (vi a1.Pad), (.bool a1.Nosplit), (vi a1.From), (vi a1.To), sa1_6, sa1_7, sa1_8]) h0 rfl rfl rfl ?_
 intro b1 w1 h1
 refine Jsv (.bool false) rfl rfl ?_
 refine J0 (J2 (J2 (J1 ?_)))
 refine Jfa 0 0 underlying44 rfl ti3 rfl rfl rfl rfl ?_
 refine Jlb [_] (vi a0.Class) ti3 h1 rfl rfl rfl ?_
 refine Jfa 0 0 underlying44 rfl ti3 rfl rfl rfl rfl ?_
 refine Jlb [] (vi a1.Class) ti3 h1 rfl rfl rfl ?_
 refine Y1 rfl rfl rfl ?_
 refine Jmv (.bool (decide (a0.Class ≠ a1.Class))) rfl rfl ?_
 obtain ⟨t1, hr, o0⟩ := J6 hr
 refine Jw 7 (fun ρ w => ∃ (σ0 : Env) (G1 : GH), ρ = En σ0 [(2, (pt b0 0)), (3, (pt b1 0)), (19, (.bool false))] ∧ Ext G G1 ∧ St B w G1 [.blk b0 [(vi a0.Class), sa0_1, (vi a0.Pad), (.bool a0.Nosplit), (vi a0.From), (vi a0.To), sa0_6, sa0_7, sa0_8] 44, .blk b1 [(vi a1.Class), sa1_1, (vi a1.Pad), (.bool a1.Nosplit), (vi a1.From), (vi a1.To), sa1_6, sa1_7, sa1_8] 44]) ?_ ?_
 ·rcases Y8 (decide (a0.Class ≠ a1.Class)) with hb_ | hb_
  ·exact Jk hr hb_
  have h2 : (decide (a0.Class ≠ a1.Class)) = false := hb_
  replace hr := Jf hr h2
  refine Ja rfl rfl rfl rfl h2 ?_
  refine Jfa 1 1 underlying44 rfl ti39 rfl rfl rfl rfl ?_
  refine Ja rfl rfl rfl rfl h2 ?_
  refine Jlb [_] sa0_1 ti39 h1 rfl rfl rfl ?_
  refine Ja rfl rfl rfl rfl h2 ?_
  refine Jfa 1 1 underlying44 rfl ti39 rfl rfl rfl rfl ?_
  refine Ja rfl rfl rfl rfl h2 ?_
  refine Jlb [] sa1_1 ti39 h1 rfl rfl rfl ?_
  refine Ja rfl rfl rfl rfl h2 ?_
  obtain ⟨t0, h3, hr⟩ := J6 hr
  refine J8 (f := 43) (av := [sa0_1, sa1_1]) cf43 rfl rfl h1 rfl (fun G2 e0 h4 => sheerlegref01_Ints.ok h4 (SRep.mono e0.ro ha0_1) (SRep.mono e0.ro ha1_1) h3) ?_
  rintro v0 w2 G3 G4 N0 e1 q0 ⟨rfl, rfl⟩ h5
  refine Ja rfl rfl rfl rfl h2 ?_
  refine Yc rfl rfl ?_
  refine Jt (v := (.bool false)) rfl rfl h2 rfl ?_
  refine J0 ?_
  have h6 := St.pick 1 rfl h5
  obtain rfl := Option.some.inj hr
  exact ⟨_, _, (J3 ⟨rfl, rfl, rfl, trivial⟩), e1, h6⟩
 rintro _ _ ⟨σ0, G1, rfl, e2, h7⟩
 replace hr := o0
 refine Jmv (.bool false) rfl rfl ?_
 refine Jq rfl rfl rfl rfl (fun _ => ?_) (fun h => nomatch h)
 refine Jfa 2 2 underlying44 rfl ti3 rfl rfl rfl rfl ?_
 refine Jq rfl rfl rfl rfl (fun _ => ?_) (fun h => nomatch h)
 refine Jlb [] (vi a0.Pad) ti3 h7 rfl rfl rfl ?_
 refine Jq rfl rfl rfl rfl (fun _ => ?_) (fun h => nomatch h)
 refine Jfa 2 2 underlying44 rfl ti3 rfl rfl rfl rfl ?_
 refine Jq rfl rfl rfl rfl (fun _ => ?_) (fun h => nomatch h)
 refine Jlb [_] (vi a1.Pad) ti3 h7 rfl rfl rfl ?_
 refine Jq rfl rfl rfl rfl (fun _ => ?_) (fun h => nomatch h)
 refine Y1 rfl rfl rfl ?_
 refine Jt (v := (.bool (decide (a0.Pad ≠ a1.Pad)))) rfl rfl rfl rfl ?_
 refine Jmv (.bool (decide (a0.Pad ≠ a1.Pad))) rfl rfl ?_
 obtain ⟨t2, hr, o1⟩ := J6 hr
 refine Jw 6 (fun ρ w => ∃ (σ1 : Env) (G5 : GH), ρ = En σ1 [(2, (pt b0 0)), (3, (pt b1 0)), (33, (.bool (!(a0.Nosplit == a1.Nosplit))))] ∧ Ext G1 G5 ∧ St B w G5 [.blk b0 [(vi a0.Class), sa0_1, (vi a0.Pad), (.bool a0.Nosplit), (vi a0.From), (vi a0.To), sa0_6, sa0_7, sa0_8] 44, .blk b1 [(vi a1.Class), sa1_1, (vi a1.Pad), (.bool a1.Nosplit), (vi a1.From), (vi a1.To), sa1_6, sa1_7, sa1_8] 44]) ?_ ?_
 ·rcases Y8 (decide (a0.Pad ≠ a1.Pad)) with hb_ | hb_
  ·exact Jk hr hb_
  have h8 : (decide (a0.Pad ≠ a1.Pad)) = false := hb_
  replace hr := Jf hr h8
  refine Ja rfl rfl rfl rfl h8 ?_
  refine Jfa 3 3 underlying44 rfl ti4 rfl rfl rfl rfl ?_
  refine Ja rfl rfl rfl rfl h8 ?_
  refine Jlb [] (.bool a0.Nosplit) ti4 h7 rfl rfl rfl ?_
  refine Ja rfl rfl rfl rfl h8 ?_
  refine Jfa 3 3 underlying44 rfl ti4 rfl rfl rfl rfl ?_
  refine Ja rfl rfl rfl rfl h8 ?_
  refine Jlb [_] (.bool a1.Nosplit) ti4 h7 rfl rfl rfl ?_
  refine Ja rfl rfl rfl rfl h8 ?_
  refine WL_bneq underlying4 rfl rfl rfl ?_
  refine Jt (v := (.bool (!(a0.Nosplit == a1.Nosplit)))) rfl rfl h8 rfl ?_
  refine J0 ?_
  have h9 := St.pick 1 rfl h7
  have h10 := St.pick 1 rfl h9
  obtain rfl := Option.some.inj hr
  exact ⟨_, _, (J3 ⟨rfl, rfl, rfl, trivial⟩), (Ext.refl _), h10⟩
 rintro _ _ ⟨σ1, G5, rfl, e3, h11⟩
 replace hr := o1
 refine Jmv (.bool (!(a0.Nosplit == a1.Nosplit))) rfl rfl ?_
 obtain ⟨t3, hr, o2⟩ := J6 hr
 refine Jw 6 (fun ρ w => ∃ (σ2 : Env) (G6 : GH), ρ = En σ2 [(2, (pt b0 0)), (3, (pt b1 0)), (40, (.bool (decide (a0.From ≠ a1.From))))] ∧ Ext G5 G6 ∧ St B w G6 [.blk b0 [(vi a0.Class), sa0_1, (vi a0.Pad), (.bool a0.Nosplit), (vi a0.From), (vi a0.To), sa0_6, sa0_7, sa0_8] 44, .blk b1 [(vi a1.Class), sa1_1, (vi a1.Pad), (.bool a1.Nosplit), (vi a1.From), (vi a1.To), sa1_6, sa1_7, sa1_8] 44]) ?_ ?_
 ·rcases Y8 (!(a0.Nosplit == a1.Nosplit)) with hb_ | hb_
  ·exact Jk hr hb_
  have h12 : (!(a0.Nosplit == a1.Nosplit)) = false := hb_
  replace hr := Jf hr h12
  refine Ja rfl rfl rfl rfl h12 ?_
  refine Jfa 4 4 underlying44 rfl ti3 rfl rfl rfl rfl ?_
  refine Ja rfl rfl rfl rfl h12 ?_
  refine Jlb [] (vi a0.From) ti3 h11 rfl rfl rfl ?_
  refine Ja rfl rfl rfl rfl h12 ?_
  refine Jfa 4 4 underlying44 rfl ti3 rfl rfl rfl rfl ?_
  refine Ja rfl rfl rfl rfl h12 ?_
  refine Jlb [_] (vi a1.From) ti3 h11 rfl rfl rfl ?_
  refine Ja rfl rfl rfl rfl h12 ?_
  refine Y1 rfl rfl rfl ?_
  refine Jt (v := (.bool (decide (a0.From ≠ a1.From)))) rfl rfl h12 rfl ?_
  refine J0 ?_
  have h13 := St.pick 1 rfl h11
  have h14 := St.pick 1 rfl h13
  obtain rfl := Option.some.inj hr
  exact ⟨_, _, (J3 ⟨rfl, rfl, rfl, trivial⟩), (Ext.refl _), h14⟩
 rintro _ _ ⟨σ2, G6, rfl, e4, h15⟩
 replace hr := o2
 refine Jmv (.bool (decide (a0.From ≠ a1.From))) rfl rfl ?_
 obtain ⟨t4, hr, o3⟩ := J6 hr
 refine Jw 6 (fun ρ w => ∃ (σ3 : Env) (G7 : GH), ρ = En σ3 [(2, (pt b0 0)), (3, (pt b1 0)), (47, (.bool (decide (a0.To ≠ a1.To))))] ∧ Ext G6 G7 ∧ St B w G7 [.blk b0 [(vi a0.Class), sa0_1, (vi a0.Pad), (.bool a0.Nosplit), (vi a0.From), (vi a0.To), sa0_6, sa0_7, sa0_8] 44, .blk b1 [(vi a1.Class), sa1_1, (vi a1.Pad), (.bool a1.Nosplit), (vi a1.From), (vi a1.To), sa1_6, sa1_7, sa1_8] 44]) ?_ ?_
 ·rcases Y8 (decide (a0.From ≠ a1.From)) with hb_ | hb_
  ·exact Jk hr hb_
  have h16 : (decide (a0.From ≠ a1.From)) = false := hb_
  replace hr := Jf hr h16
  refine Ja rfl rfl rfl rfl h16 ?_
  refine Jfa 5 5 underlying44 rfl ti3 rfl rfl rfl rfl ?_
  refine Ja rfl rfl rfl rfl h16 ?_
  refine Jlb [] (vi a0.To) ti3 h15 rfl rfl rfl ?_
  refine Ja rfl rfl rfl rfl h16 ?_
  refine Jfa 5 5 underlying44 rfl ti3 rfl rfl rfl rfl ?_
  refine Ja rfl rfl rfl rfl h16 ?_
  refine Jlb [_] (vi a1.To) ti3 h15 rfl rfl rfl ?_
  refine Ja rfl rfl rfl rfl h16 ?_
  refine Y1 rfl rfl rfl ?_
  refine Jt (v := (.bool (decide (a0.To ≠ a1.To)))) rfl rfl h16 rfl ?_
  refine J0 ?_
  have h17 := St.pick 1 rfl h15
  have h18 := St.pick 1 rfl h17
  obtain rfl := Option.some.inj hr
  exact ⟨_, _, (J3 ⟨rfl, rfl, rfl, trivial⟩), (Ext.refl _), h18⟩
 rintro _ _ ⟨σ3, G7, rfl, e5, h19⟩
 replace hr := o3
 refine Jmv (.bool (decide (a0.To ≠ a1.To))) rfl rfl ?_
 obtain ⟨t5, hr, o4⟩ := J6 hr
 refine Jw 8 (fun ρ w => ∃ (σ4 : Env) (G8 : GH), ρ = En σ4 [(2, (pt b0 0)), (3, (pt b1 0)), (56, (.bool (decide ((a0.Lines.length : Int) ≠ (a1.Lines.length : Int)))))] ∧ Ext G7 G8 ∧ St B w G8 [.blk b0 [(vi a0.Class), sa0_1, (vi a0.Pad), (.bool a0.Nosplit), (vi a0.From), (vi a0.To), sa0_6, sa0_7, sa0_8] 44, .blk b1 [(vi a1.Class), sa1_1, (vi a1.Pad), (.bool a1.Nosplit), (vi a1.From), (vi a1.To), sa1_6, sa1_7, sa1_8] 44]) ?_ ?_
 ·rcases Y8 (decide (a0.To ≠ a1.To)) with hb_ | hb_
  ·exact Jk hr hb_
  have h1a : (decide (a0.To ≠ a1.To)) = false := hb_
  replace hr := Jf hr h1a
  refine Ja rfl rfl rfl rfl h1a ?_
  refine Jfa 6 6 underlying44 rfl ti40 rfl rfl rfl rfl ?_
  refine Ja rfl rfl rfl rfl h1a ?_
  refine Jlb [] sa0_6 ti40 h19 rfl rfl rfl ?_
  refine Ja rfl rfl rfl rfl h1a ?_
  refine Jd (T := TLine) underlying40 (SRep.mono (e2.ro.trans (e3.ro.trans (e4.ro.trans e5.ro))) ha0_6) rfl rfl ?_
  refine Ja rfl rfl rfl rfl h1a ?_
  refine Jfa 6 6 underlying44 rfl ti40 rfl rfl rfl rfl ?_
  refine Ja rfl rfl rfl rfl h1a ?_
  refine Jlb [_] sa1_6 ti40 h19 rfl rfl rfl ?_
  refine Ja rfl rfl rfl rfl h1a ?_
  refine Jd (T := TLine) underlying40 (SRep.mono (e2.ro.trans (e3.ro.trans (e4.ro.trans e5.ro))) ha1_6) rfl rfl ?_
  refine Ja rfl rfl rfl rfl h1a ?_
  refine Y1 rfl rfl rfl ?_
  refine Jt (v := (.bool (decide ((a0.Lines.length : Int) ≠ (a1.Lines.length : Int))))) rfl rfl h1a rfl ?_
  refine J0 ?_
  have h1b := St.pick 1 rfl h19
  have h1c := St.pick 1 rfl h1b
  obtain rfl := Option.some.inj hr
  exact ⟨_, _, (J3 ⟨rfl, rfl, rfl, trivial⟩), (Ext.refl _), h1c⟩
 rintro _ _ ⟨σ4, G8, rfl, e6, h1d⟩
 replace hr := o4
 refine Jmv (.bool (decide ((a0.Lines.length : Int) ≠ (a1.Lines.length : Int)))) rfl rfl ?_
 obtain ⟨t6, hr, o5⟩ := J6 hr
 refine Jw 8 (fun ρ w => ∃ (σ5 : Env) (G9 : GH), ρ = En σ5 [(2, (pt b0 0)), (3, (pt b1 0)), (65, (.bool (decide ((a0.Code.length : Int) ≠ (a1.Code.length : Int)))))] ∧ Ext G8 G9 ∧ St B w G9 [.blk b0 [(vi a0.Class), sa0_1, (vi a0.Pad), (.bool a0.Nosplit), (vi a0.From), (vi a0.To), sa0_6, sa0_7, sa0_8] 44, .blk b1 [(vi a1.Class), sa1_1, (vi a1.Pad), (.bool a1.Nosplit), (vi a1.From), (vi a1.To), sa1_6, sa1_7, sa1_8] 44]) ?_ ?_
 ·rcases Y8 (decide ((a0.Lines.length : Int) ≠ (a1.Lines.length : Int))) with hb_ | hb_
  ·exact Jk hr hb_
  have h1e : (decide ((a0.Lines.length : Int) ≠ (a1.Lines.length : Int))) = false := hb_
  replace hr := Jf hr h1e
  refine Ja rfl rfl rfl rfl h1e ?_
  refine Jfa 7 7 underlying44 rfl ti41 rfl rfl rfl rfl ?_
  refine Ja rfl rfl rfl rfl h1e ?_
  refine Jlb [] sa0_7 ti41 h1d rfl rfl rfl ?_
  refine Ja rfl rfl rfl rfl h1e ?_
  refine Jd (T := TInstr) underlying41 (SRep.mono (e2.ro.trans (e3.ro.trans (e4.ro.trans (e5.ro.trans e6.ro)))) ha0_7) rfl rfl ?_
  refine Ja rfl rfl rfl rfl h1e ?_
  refine Jfa 7 7 underlying44 rfl ti41 rfl rfl rfl rfl ?_
  refine Ja rfl rfl rfl rfl h1e ?_
  refine Jlb [_] sa1_7 ti41 h1d rfl rfl rfl ?_
  refine Ja rfl rfl rfl rfl h1e ?_
  refine Jd (T := TInstr) underlying41 (SRep.mono (e2.ro.trans (e3.ro.trans (e4.ro.trans (e5.ro.trans e6.ro)))) ha1_7) rfl rfl ?_
  refine Ja rfl rfl rfl rfl h1e ?_
  refine Y1 rfl rfl rfl ?_
  refine Jt (v := (.bool (decide ((a0.Code.length : Int) ≠ (a1.Code.length : Int))))) rfl rfl h1e rfl ?_
  refine J0 ?_
  have h1f := St.pick 1 rfl h1d
  have h1g := St.pick 1 rfl h1f
  obtain rfl := Option.some.inj hr
  exact ⟨_, _, (J3 ⟨rfl, rfl, rfl, trivial⟩), (Ext.refl _), h1g⟩
 rintro _ _ ⟨σ5, G9, rfl, e7, h1h⟩
 replace hr := o5
 refine Jmv (.bool (decide ((a0.Code.length : Int) ≠ (a1.Code.length : Int)))) rfl rfl ?_
 obtain ⟨t8, hr, o6⟩ := J6 hr
 refine Jw 7 (fun ρ w => ∃ (σ6 : Env) (Ga : GH), ρ = En σ6 [(2, (pt b0 0)), (3, (pt b1 0)), (73, (.bool false))] ∧ Ext G9 Ga ∧ St B w Ga [.blk b0 [(vi a0.Class), sa0_1, (vi a0.Pad), (.bool a0.Nosplit), (vi a0.From), (vi a0.To), sa0_6, sa0_7, sa0_8] 44, .blk b1 [(vi a1.Class), sa1_1, (vi a1.Pad), (.bool a1.Nosplit), (vi a1.From), (vi a1.To), sa1_6, sa1_7, sa1_8] 44]) ?_ ?_
 ·rcases Y8 (decide ((a0.Code.length : Int) ≠ (a1.Code.length : Int))) with hb_ | hb_
  ·exact Jk hr hb_
  have h1i : (decide ((a0.Code.length : Int) ≠ (a1.Code.length : Int))) = false := hb_
  replace hr := Jf hr h1i
  refine Ja rfl rfl rfl rfl h1i ?_
  refine Jfa 8 8 underlying44 rfl ti42 rfl rfl rfl rfl ?_
  refine Ja rfl rfl rfl rfl h1i ?_
  refine Jlb [] sa0_8 ti42 h1h rfl rfl rfl ?_
  refine Ja rfl rfl rfl rfl h1i ?_
  refine Jfa 8 8 underlying44 rfl ti42 rfl rfl rfl rfl ?_
  refine Ja rfl rfl rfl rfl h1i ?_
  refine Jlb [_] sa1_8 ti42 h1h rfl rfl rfl ?_
  refine Ja rfl rfl rfl rfl h1i ?_
  obtain ⟨t7, h1j, hr⟩ := J6 hr
  refine J8 (f := 105) (av := [sa0_8, sa1_8]) cf105 rfl rfl h1h rfl (fun Gb e8 h1k => sheerlegref15_SameRelocs.ok h1k (SRep.mono ((e2.ro.trans (e3.ro.trans (e4.ro.trans (e5.ro.trans (e6.ro.trans e7.ro))))).trans e8.ro) ha0_8) (SRep.mono ((e2.ro.trans (e3.ro.trans (e4.ro.trans (e5.ro.trans (e6.ro.trans e7.ro))))).trans e8.ro) ha1_8) h1j) ?_
  rintro v1 w3 Gc Gd N1 e9 q1 ⟨rfl, rfl⟩ h1l
  refine Ja rfl rfl rfl rfl h1i ?_
  refine Yc rfl rfl ?_
  refine Jt (v := (.bool false)) rfl rfl h1i rfl ?_
  refine J0 ?_
  have h1m := St.pick 1 rfl h1l
  have h1n := St.pick 1 rfl h1m
  obtain rfl := Option.some.inj hr
  exact ⟨_, _, (J3 ⟨rfl, rfl, rfl, trivial⟩), e9, h1n⟩
 rintro _ _ ⟨σ6, Ga, rfl, ea, h1o⟩
 replace hr := o6
 refine J0 ?_
 refine J7 rfl (fun h => nomatch h) (fun _ => ?_)
 refine J9 (J2 (J2 (J1 ?_)))
 refine Jsv (vi 0) rfl rfl ?_
 refine J0 (Jb ?_)
 obtain ⟨t9, h1p, hr⟩ := J6 hr
 have h1q := St.pick 1 rfl h1o
 have h1r := St.pick 1 rfl h1q
 refine Js 0 h1p (fun s0 ρ w => ∃ (σ7 : Env) (Ge : GH), ρ = En σ7 [(2, (pt b0 0)), (3, (pt b1 0)), (5, (vi 0))] ∧ Ext Ga Ge ∧ St B w Ge [.blk b0 [(vi a0.Class), sa0_1, (vi a0.Pad), (.bool a0.Nosplit), (vi a0.From), (vi a0.To), sa0_6, sa0_7, sa0_8] 44, .blk b1 [(vi a1.Class), sa1_1, (vi a1.Pad), (.bool a1.Nosplit), (vi a1.From), (vi a1.To), sa1_6, sa1_7, sa1_8] 44]) (fun tb ρ w => ∃ (σ8 : Env) (Gf : GH), ρ = En σ8 [(2, (pt b0 0)), (3, (pt b1 0))] ∧ Ext Ga Gf ∧ St B w Gf [.blk b0 [(vi a0.Class), sa0_1, (vi a0.Pad), (.bool a0.Nosplit), (vi a0.From), (vi a0.To), sa0_6, sa0_7, sa0_8] 44, .blk b1 [(vi a1.Class), sa1_1, (vi a1.Pad), (.bool a1.Nosplit), (vi a1.From), (vi a1.To), sa1_6, sa1_7, sa1_8] 44]) ⟨_, _, (J3 ⟨rfl, rfl, rfl, trivial⟩), (Ext.refl _), h1r⟩ ?_ ?_
 ·rintro s0 x2 _ _ hr ⟨σ7, Ge, rfl, eb, h1s⟩
  refine J2 (J2 (J1 ?_))
  refine Jmv (vi 0) rfl rfl ?_
  refine Jfa 6 6 underlying44 rfl ti40 rfl rfl rfl rfl ?_
  refine Jlb [] sa0_6 ti40 h1s rfl rfl rfl ?_
  refine Jd (T := TLine) underlying40 (SRep.mono (e2.ro.trans (e3.ro.trans (e4.ro.trans (e5.ro.trans (e6.ro.trans (e7.ro.trans (ea.ro.trans eb.ro))))))) ha0_6) rfl rfl ?_
  refine Ji rfl rfl rfl ?_
  refine J0 ?_
  refine J7 rfl (fun h1t => ?_) (fun h1t => ?_)
  ·exact Jk hr h1t
  replace hr := Jf hr h1t
  refine Jr ?_
  have h1u := St.pick 1 rfl h1s
  have h1v := St.pick 1 rfl h1u
  exact ⟨_, (Option.some.inj hr).symm, rfl, _, _, (J3 ⟨rfl, rfl, trivial⟩), eb, h1v⟩
 rintro _ _ ⟨σ8, Gf, rfl, ec, h1w⟩
 refine J2 (J2 (J1 ?_))
 refine Jsv (vi 0) rfl rfl ?_
 refine J0 (Jb ?_)
 obtain ⟨ta, h1x, hr⟩ := J6 hr
 have h1y := St.pick 1 rfl h1w
 have h1z := St.pick 1 rfl h1y
 refine Js 2 h1x (fun s1 ρ w => ∃ (σ9 : Env) (Gg : GH), ρ = En σ9 [(2, (pt b0 0)), (3, (pt b1 0)), (6, (vi ((s1 : Nat) : Int)))] ∧ Ext Gf Gg ∧ St B w Gg [.blk b0 [(vi a0.Class), sa0_1, (vi a0.Pad), (.bool a0.Nosplit), (vi a0.From), (vi a0.To), sa0_6, sa0_7, sa0_8] 44, .blk b1 [(vi a1.Class), sa1_1, (vi a1.Pad), (.bool a1.Nosplit), (vi a1.From), (vi a1.To), sa1_6, sa1_7, sa1_8] 44] ∧ InK .i64 ((s1 : Nat) : Int)) (fun tc ρ w => ∃ (σa : Env) (Gh : GH), ρ = En σa [] ∧ Ext Gf Gh ∧ St B w Gh []) ⟨_, _, (J3 ⟨rfl, rfl, rfl, trivial⟩), (Ext.refl _), h1z, (by rfl)⟩ ?_ ?_
 ·rintro s1 x3 _ _ hr ⟨σ9, Gg, rfl, ed, h20, f0⟩
  refine J2 (J2 (J1 ?_))
  refine Jmv (vi ((s1 : Nat) : Int)) rfl rfl ?_
  refine Jfa 7 7 underlying44 rfl ti41 rfl rfl rfl rfl ?_
  refine Jlb [] sa0_7 ti41 h20 rfl rfl rfl ?_
  refine Jd (T := TInstr) underlying41 (SRep.mono (e2.ro.trans (e3.ro.trans (e4.ro.trans (e5.ro.trans (e6.ro.trans (e7.ro.trans (ea.ro.trans (ec.ro.trans ed.ro)))))))) ha0_7) rfl rfl ?_
  refine Ji rfl rfl rfl ?_
  refine J0 ?_
  refine J7 rfl (fun h21 => ?_) (fun h21 => ?_)
  ·replace hr := Jx hr h21
   refine J9 (J2 (Jb (J2 ?_)))
   obtain ⟨x0, h22, hr⟩ := J6 hr
   obtain ⟨x1, h23, hr⟩ := J6 hr
   refine Ye 10 [some 99, some 100, some 101, some 102, some 103, some 104, some 105, some 106, some 107, some 108] (pk [(fun G_ v_ => v_ = (pt b0 7)), (fun G_ v_ => v_ = sa0_7), (fun G_ v_ => v_ = (vi ((s1 : Nat) : Int))), (fun G_ v_ => ∃ (b2 : Nat) (b3 : Nat), v_ = (pt b2 b3) ∧ InK .i64 x0.Op ∧ InK .i64 x0.A ∧ InK .i64 x0.B ∧ InK .i64 x0.C ∧ InK .i64 x0.N ∧ LiesG G_ b2 b3 [(vi x0.Op), (vi x0.A), (vi x0.B), (vi x0.C), (vi x0.N)]), (fun G_ v_ => v_ = (.agg #[(vi x0.Op), (vi x0.A), (vi x0.B), (vi x0.C), (vi x0.N)]) ∧ InK .i64 x0.Op ∧ InK .i64 x0.A ∧ InK .i64 x0.B ∧ InK .i64 x0.C ∧ InK .i64 x0.N), (fun G_ v_ => v_ = (pt b1 7)), (fun G_ v_ => v_ = sa1_7), (fun G_ v_ => v_ = (vi ((s1 : Nat) : Int))), (fun G_ v_ => ∃ (b4 : Nat) (b5 : Nat), v_ = (pt b4 b5) ∧ InK .i64 x1.Op ∧ InK .i64 x1.A ∧ InK .i64 x1.B ∧ InK .i64 x1.C ∧ InK .i64 x1.N ∧ LiesG G_ b4 b5 [(vi x1.Op), (vi x1.A), (vi x1.B), (vi x1.C), (vi x1.N)]), (fun G_ v_ => v_ = (.agg #[(vi x1.Op), (vi x1.A), (vi x1.B), (vi x1.C), (vi x1.N)]) ∧ InK .i64 x1.Op ∧ InK .i64 x1.A ∧ InK .i64 x1.B ∧ InK .i64 x1.C ∧ InK .i64 x1.N)]) rfl (by kernel_rfl) rfl h20 ?_ ?_
   ·refine Each.cons ?_ (Each.cons ?_ (Each.cons ?_ (Each.cons ?_ (Each.cons ?_ (Each.cons ?_ (Each.cons ?_ (Each.cons ?_ (Each.cons ?_ (Each.cons ?_ Each.nil)))))))))
    ·intro q2 w4 Gi ee h24 h25 h26
     rw [J3 (ρ := q2) (l := [(2, (pt b0 0))]) ⟨(h25.1 2 (by decide)).trans rfl, trivial⟩]
     refine Jfa 7 7 underlying44 rfl ti41 rfl rfl rfl rfl ?_
     exact J0 (J4 (Ext.refl _) h24 fun Gj ef => rfl)
    ·intro q2 w4 Gi ee h24 h25 h26
     obtain ⟨hd0_, _⟩ := h26
     have hv99 := hd0_
     rw [J3 (ρ := q2) (l := [(99, (pt b0 7))]) ⟨hv99, trivial⟩]
     refine Jlb [] sa0_7 ti41 h24 rfl rfl rfl ?_
     exact J0 (J4 (Ext.refl _) h24 fun Gk eg => rfl)
    ·intro q2 w4 Gi ee h24 h25 h26
     rw [J3 (ρ := q2) (l := [(6, (vi ((s1 : Nat) : Int)))]) ⟨(h25.1 6 (by decide)).trans rfl, trivial⟩]
     refine Jmv (vi ((s1 : Nat) : Int)) rfl rfl ?_
     exact J0 (J4 (Ext.refl _) h24 fun Gl eh => rfl)
    ·intro q2 w4 Gi ee h24 h25 h26
     obtain ⟨hd0_, hd1_, _⟩ := h26
     have hv100 := hd0_
     have hv101 := hd1_
     rw [J3 (ρ := q2) (l := [(100, sa0_7), (101, (vi ((s1 : Nat) : Int)))]) ⟨hv100, hv101, trivial⟩]
     refine Jh (T := TInstr) underlying41 ti54 h24 (SRep.mono (e2.ro.trans (e3.ro.trans (e4.ro.trans (e5.ro.trans (e6.ro.trans (e7.ro.trans (ea.ro.trans (ec.ro.trans (ed.ro.trans ee.ro))))))))) ha0_7) rfl rfl rfl h22 ?_
     intro b6 o7 c0 l3 f1
     obtain ⟨rfl, f2, f3, f4, f5, f6⟩ := f1
     exact J0 (J4 (Ext.refl _) h24 fun Gm ei => ⟨b6, o7, rfl, f2, f3, f4, f5, f6, (LiesG.mono ei.ro l3)⟩)
    ·intro q2 w4 Gi ee h24 h25 h26
     obtain ⟨hd0_, _⟩ := h26
     obtain ⟨b2, b3, hv102, f7, f8, f9, fa, fb, fc⟩ := hd0_
     rw [J3 (ρ := q2) (l := [(102, (pt b2 b3))]) ⟨hv102, trivial⟩]
     refine Jy ti54 rfl rfl (LiesG.lies fc h24) (Nat.le_of_ble_eq_true rfl) ?_
     change WL _ _ _ _ _ _ (upd _ _ (.agg #[(vi x0.Op), (vi x0.A), (vi x0.B), (vi x0.C), (vi x0.N)])) _
     exact J0 (J4 (Ext.refl _) h24 fun Gn ej => ⟨rfl, f7, f8, f9, fa, fb⟩)
    ·intro q2 w4 Gi ee h24 h25 h26
     rw [J3 (ρ := q2) (l := [(3, (pt b1 0))]) ⟨(h25.1 3 (by decide)).trans rfl, trivial⟩]
     refine Jfa 7 7 underlying44 rfl ti41 rfl rfl rfl rfl ?_
     exact J0 (J4 (Ext.refl _) h24 fun Go ek => rfl)
    ·intro q2 w4 Gi ee h24 h25 h26
     obtain ⟨hd0_, _⟩ := h26
     have hv104 := hd0_
     rw [J3 (ρ := q2) (l := [(104, (pt b1 7))]) ⟨hv104, trivial⟩]
     refine Jlb [_] sa1_7 ti41 h24 rfl rfl rfl ?_
     exact J0 (J4 (Ext.refl _) h24 fun Gp el => rfl)
    ·intro q2 w4 Gi ee h24 h25 h26
     rw [J3 (ρ := q2) (l := [(6, (vi ((s1 : Nat) : Int)))]) ⟨(h25.1 6 (by decide)).trans rfl, trivial⟩]
     refine Jmv (vi ((s1 : Nat) : Int)) rfl rfl ?_
     exact J0 (J4 (Ext.refl _) h24 fun Gq em => rfl)
    ·intro q2 w4 Gi ee h24 h25 h26
     obtain ⟨hd0_, hd1_, _⟩ := h26
     have hv105 := hd0_
     have hv106 := hd1_
     rw [J3 (ρ := q2) (l := [(105, sa1_7), (106, (vi ((s1 : Nat) : Int)))]) ⟨hv105, hv106, trivial⟩]
     refine Jh (T := TInstr) underlying41 ti54 h24 (SRep.mono (e2.ro.trans (e3.ro.trans (e4.ro.trans (e5.ro.trans (e6.ro.trans (e7.ro.trans (ea.ro.trans (ec.ro.trans (ed.ro.trans ee.ro))))))))) ha1_7) rfl rfl rfl h23 ?_
     intro b7 o8 c1 l4 fd
     obtain ⟨rfl, fe, ff, fg, fh, fj⟩ := fd
     exact J0 (J4 (Ext.refl _) h24 fun Gr en => ⟨b7, o8, rfl, fe, ff, fg, fh, fj, (LiesG.mono en.ro l4)⟩)
    intro q2 w4 Gi ee h24 h25 h26
    obtain ⟨hd0_, _⟩ := h26
    obtain ⟨b4, b5, hv107, fk, fl, fm, fn, fo, fp⟩ := hd0_
    rw [J3 (ρ := q2) (l := [(107, (pt b4 b5))]) ⟨hv107, trivial⟩]
    refine Jy ti54 rfl rfl (LiesG.lies fp h24) (Nat.le_of_ble_eq_true rfl) ?_
    change WL _ _ _ _ _ _ (upd _ _ (.agg #[(vi x1.Op), (vi x1.A), (vi x1.B), (vi x1.C), (vi x1.N)])) _
    exact J0 (J4 (Ext.refl _) h24 fun Gs eo => ⟨rfl, fk, fl, fm, fn, fo⟩)
   intro q2 w4 Gi ee h24 h25 h26
   obtain ⟨hv103, fq, fr, fs, ft, fu⟩ := h26 4 (by decide)
   obtain ⟨hv108, fv, fw, fx, fy, fz⟩ := h26 9 (by decide)
   rw [J3 (ρ := q2) (l := [(2, (pt b0 0)), (3, (pt b1 0)), (6, (vi ((s1 : Nat) : Int))), (103, (.agg #[(vi x0.Op), (vi x0.A), (vi x0.B), (vi x0.C), (vi x0.N)])), (108, (.agg #[(vi x1.Op), (vi x1.A), (vi x1.B), (vi x1.C), (vi x1.N)]))]) ⟨(h25.1 2 (by decide)).trans rfl, (h25.1 3 (by decide)).trans rfl, (h25.1 6 (by decide)).trans rfl, hv103, hv108, trivial⟩]
   refine WL_aneq (b := (decide (x0.Op = x1.Op) && (decide (x0.A = x1.A) && (decide (x0.B = x1.B) && (decide (x0.C = x1.C) && (decide (x0.N = x1.N) && true)))))) underlying54 (by kernel_rfl) (by kernel_rfl) rfl rfl rfl (FlatEq.cons (by decide) rfl rfl (CellEq.int underlying3) (FlatEq.cons (by decide) rfl rfl (CellEq.int underlying3) (FlatEq.cons (by decide) rfl rfl (CellEq.int underlying3) (FlatEq.cons (by decide) rfl rfl (CellEq.int underlying3) (FlatEq.cons (by decide) rfl rfl (CellEq.int underlying2) (FlatEq.nil)))))) ?_
   refine J0 ?_
   refine J7 rfl (fun h27 => ?_) (fun h27 => ?_)
   ·exact Jk hr h27
   replace hr := Jf hr h27
   refine J9 (J1 ?_)
   refine Jmv (vi ((s1 : Nat) : Int)) rfl rfl ?_
   refine Y2 rfl rfl rfl (of_decide_eq_true h21) (inK_len (SRep.le (SRep.mono (e2.ro.trans (e3.ro.trans (e4.ro.trans (e5.ro.trans (e6.ro.trans (e7.ro.trans (ea.ro.trans (ec.ro.trans ed.ro)))))))) ha0_7))) ?_
   refine Jsv (vi ((s1 + 1 : Nat) : Int)) rfl rfl ?_
   refine J0 ?_
   have h28 := St.pick 1 rfl h24
   have h29 := St.pick 1 rfl h28
   exact ⟨_, (Option.some.inj hr).symm, _, _, (J3 ⟨rfl, rfl, rfl, trivial⟩), (ed.trans ee), h29, (inK_inc (of_decide_eq_true h21) (inK_len (SRep.le (SRep.mono (e2.ro.trans (e3.ro.trans (e4.ro.trans (e5.ro.trans (e6.ro.trans (e7.ro.trans (ea.ro.trans (ec.ro.trans ed.ro)))))))) ha0_7))))⟩
  replace hr := Jf hr h21
  refine Jr ?_
  have h2a := St.takeN 0 h20
  exact ⟨_, (Option.some.inj hr).symm, rfl, _, _, rfl, ed, h2a⟩
 rintro _ _ ⟨σa, Gh, rfl, ep, h2b⟩
 refine J2 (J1 ?_)
 refine Jsv (.bool true) rfl rfl ?_
 refine J0 (Jg ?_)
 obtain rfl := Option.some.inj hr
 exact ⟨[(.bool true)], ⟨rfl, trivial⟩, _, _, _, rfl, (e2.trans (e3.trans (e4.trans (e5.trans (e6.trans (e7.trans (ea.trans (ec.trans ep)))))))), h2b, ⟨rfl, rfl⟩⟩
def sheerlegref15_Same.l0 (a0 : XData) (a1 : XData) (s0 : Nat) : Option (Step Nat Unit) :=
 bif decide (((s0 : Nat) : Int) < (a0.Words.length : Int)) then (idx a0.Words ((s0 : Nat) : Int)).bind fun x0 => (idx a1.Words ((s0 : Nat) : Int)).bind fun x1 => bif decide (x0 ≠ x1) then none else some (.next (s0 + 1)) else some (.done ())
def sheerlegref15_Same.f (a0 : XData) (a1 : XData) : Option (Unit) :=
 (bif decide (a0.Kind ≠ a1.Kind) then none else some ()).bind fun t0 => (bif decide ((a0.Words.length : Int) ≠ (a1.Words.length : Int)) then none else (sheerlegref15_SameRelocs.f a0.Relocs a1.Relocs).bind fun t1 => some ()).bind fun t2 => (loop (sheerlegref15_Same.l0 a0 a1) 0).bind fun t3 => some ()
def sheerlegref15_Same.K (r : Unit) (G0 : GH) (v : Value) (N : List Res) : Prop := v = tup [(.bool true)] ∧ N = []
theorem sheerlegref15_Same.ok {ca0 : List Value} {a0 : XData} {ca1 : List Value} {a1 : XData} (st : St B w G []) (ha0 : TData.rep G ca0 a0) (ha1 : TData.rep G ca1 a1) {r : Unit} (hr : sheerlegref15_Same.f a0 a1 = some r) :
 Calls Tryz.prog 44 ([(.agg ca0.toArray), (.agg ca1.toArray)] : List Value).toArray w (Ret B G (sheerlegref15_Same.K r)) := by
 obtain ⟨sa0_1, sa0_2, rfl, ha0_0, ha0_1, ha0_2⟩ := ha0
 obtain ⟨sa1_1, sa1_2, rfl, ha1_0, ha1_1, ha1_2⟩ := ha1
 refine Jc [.tmp 4] func44 rfl ntmps44 rfl rfl ?_
 refine J2 (J1 ?_)
 refine Ju (cs := [(vi a0.Kind), sa0_1, sa0_2]) st rfl rfl rfl ?_
 intro b0 w0 h0
 refine Ju (cs := [(vi a1.Kind), sa1_1, sa1_2]) h0 rfl rfl rfl ?_
 intro b1 w1 h1
 refine Jsv (.bool false) rfl rfl ?_
 refine J0 (J2 (J2 (J1 ?_)))
 refine Jfa 0 0 underlying49 rfl ti3 rfl rfl rfl rfl ?_
 refine Jlb [_] (vi a0.Kind) ti3 h1 rfl rfl rfl ?_
 refine Jfa 0 0 underlying49 rfl ti3 rfl rfl rfl rfl ?_
 refine Jlb [] (vi a1.Kind) ti3 h1 rfl rfl rfl ?_
 refine Y1 rfl rfl rfl ?_
 refine Jmv (.bool (decide (a0.Kind ≠ a1.Kind))) rfl rfl ?_
 obtain ⟨t0, hr, o0⟩ := J6 hr
 refine Jw 8 (fun ρ w => ∃ (σ0 : Env) (G1 : GH), ρ = En σ0 [(2, (pt b0 0)), (3, (pt b1 0)), (19, (.bool (decide ((a0.Words.length : Int) ≠ (a1.Words.length : Int)))))] ∧ Ext G G1 ∧ St B w G1 [.blk b0 [(vi a0.Kind), sa0_1, sa0_2] 49, .blk b1 [(vi a1.Kind), sa1_1, sa1_2] 49]) ?_ ?_
 ·rcases Y8 (decide (a0.Kind ≠ a1.Kind)) with hb_ | hb_
  ·exact Jk hr hb_
  have h2 : (decide (a0.Kind ≠ a1.Kind)) = false := hb_
  replace hr := Jf hr h2
  refine Ja rfl rfl rfl rfl h2 ?_
  refine Jfa 1 1 underlying49 rfl ti47 rfl rfl rfl rfl ?_
  refine Ja rfl rfl rfl rfl h2 ?_
  refine Jlb [_] sa0_1 ti47 h1 rfl rfl rfl ?_
  refine Ja rfl rfl rfl rfl h2 ?_
  refine Jd (T := (tInt .i64)) underlying47 ha0_1 rfl rfl ?_
  refine Ja rfl rfl rfl rfl h2 ?_
  refine Jfa 1 1 underlying49 rfl ti47 rfl rfl rfl rfl ?_
  refine Ja rfl rfl rfl rfl h2 ?_
  refine Jlb [] sa1_1 ti47 h1 rfl rfl rfl ?_
  refine Ja rfl rfl rfl rfl h2 ?_
  refine Jd (T := (tInt .i64)) underlying47 ha1_1 rfl rfl ?_
  refine Ja rfl rfl rfl rfl h2 ?_
  refine Y1 rfl rfl rfl ?_
  refine Jt (v := (.bool (decide ((a0.Words.length : Int) ≠ (a1.Words.length : Int))))) rfl rfl h2 rfl ?_
  refine J0 ?_
  have h3 := St.pick 1 rfl h1
  obtain rfl := Option.some.inj hr
  exact ⟨_, _, (J3 ⟨rfl, rfl, rfl, trivial⟩), (Ext.refl _), h3⟩
 rintro _ _ ⟨σ0, G1, rfl, e0, h4⟩
 replace hr := o0
 refine Jmv (.bool (decide ((a0.Words.length : Int) ≠ (a1.Words.length : Int)))) rfl rfl ?_
 obtain ⟨t2, hr, o1⟩ := J6 hr
 refine Jw 7 (fun ρ w => ∃ (σ1 : Env) (G2 : GH), ρ = En σ1 [(2, (pt b0 0)), (3, (pt b1 0)), (27, (.bool false))] ∧ Ext G1 G2 ∧ St B w G2 [.blk b0 [(vi a0.Kind), sa0_1, sa0_2] 49, .blk b1 [(vi a1.Kind), sa1_1, sa1_2] 49]) ?_ ?_
 ·rcases Y8 (decide ((a0.Words.length : Int) ≠ (a1.Words.length : Int))) with hb_ | hb_
  ·exact Jk hr hb_
  have h5 : (decide ((a0.Words.length : Int) ≠ (a1.Words.length : Int))) = false := hb_
  replace hr := Jf hr h5
  refine Ja rfl rfl rfl rfl h5 ?_
  refine Jfa 2 2 underlying49 rfl ti42 rfl rfl rfl rfl ?_
  refine Ja rfl rfl rfl rfl h5 ?_
  refine Jlb [] sa0_2 ti42 h4 rfl rfl rfl ?_
  refine Ja rfl rfl rfl rfl h5 ?_
  refine Jfa 2 2 underlying49 rfl ti42 rfl rfl rfl rfl ?_
  refine Ja rfl rfl rfl rfl h5 ?_
  refine Jlb [_] sa1_2 ti42 h4 rfl rfl rfl ?_
  refine Ja rfl rfl rfl rfl h5 ?_
  obtain ⟨t1, h6, hr⟩ := J6 hr
  refine J8 (f := 105) (av := [sa0_2, sa1_2]) cf105 rfl rfl h4 rfl (fun G3 e1 h7 => sheerlegref15_SameRelocs.ok h7 (SRep.mono (e0.ro.trans e1.ro) ha0_2) (SRep.mono (e0.ro.trans e1.ro) ha1_2) h6) ?_
  rintro v0 w2 G4 G5 N0 e2 q0 ⟨rfl, rfl⟩ h8
  refine Ja rfl rfl rfl rfl h5 ?_
  refine Yc rfl rfl ?_
  refine Jt (v := (.bool false)) rfl rfl h5 rfl ?_
  refine J0 ?_
  have h9 := St.pick 1 rfl h8
  have h10 := St.pick 1 rfl h9
  obtain rfl := Option.some.inj hr
  exact ⟨_, _, (J3 ⟨rfl, rfl, rfl, trivial⟩), e2, h10⟩
 rintro _ _ ⟨σ1, G2, rfl, e3, h11⟩
 replace hr := o1
 refine J0 ?_
 refine J7 rfl (fun h => nomatch h) (fun _ => ?_)
 refine J9 (J2 (J2 (J1 ?_)))
 refine Jsv (vi 0) rfl rfl ?_
 refine J0 (Jb ?_)
 obtain ⟨t3, h12, hr⟩ := J6 hr
 have h13 := St.pick 1 rfl h11
 have h14 := St.pick 1 rfl h13
 refine Js 0 h12 (fun s0 ρ w => ∃ (σ2 : Env) (G6 : GH), ρ = En σ2 [(2, (pt b0 0)), (3, (pt b1 0)), (5, (vi ((s0 : Nat) : Int)))] ∧ Ext G2 G6 ∧ St B w G6 [.blk b0 [(vi a0.Kind), sa0_1, sa0_2] 49, .blk b1 [(vi a1.Kind), sa1_1, sa1_2] 49] ∧ InK .i64 ((s0 : Nat) : Int)) (fun t4 ρ w => ∃ (σ3 : Env) (G7 : GH), ρ = En σ3 [] ∧ Ext G2 G7 ∧ St B w G7 []) ⟨_, _, (J3 ⟨rfl, rfl, rfl, trivial⟩), (Ext.refl _), h14, (by rfl)⟩ ?_ ?_
 ·rintro s0 x2 _ _ hr ⟨σ2, G6, rfl, e4, h15, f0⟩
  refine J2 (J2 (J1 ?_))
  refine Jmv (vi ((s0 : Nat) : Int)) rfl rfl ?_
  refine Jfa 1 1 underlying49 rfl ti47 rfl rfl rfl rfl ?_
  refine Jlb [] sa0_1 ti47 h15 rfl rfl rfl ?_
  refine Jd (T := (tInt .i64)) underlying47 (SRep.mono (e0.ro.trans (e3.ro.trans e4.ro)) ha0_1) rfl rfl ?_
  refine Ji rfl rfl rfl ?_
  refine J0 ?_
  refine J7 rfl (fun h16 => ?_) (fun h16 => ?_)
  ·replace hr := Jx hr h16
   refine J9 (J2 (Jb (J2 ?_)))
   obtain ⟨x0, h17, hr⟩ := J6 hr
   obtain ⟨x1, h18, hr⟩ := J6 hr
   refine Ye 10 [some 35, some 36, some 37, some 38, some 39, some 40, some 41, some 42, some 43, some 44] (pk [(fun G_ v_ => v_ = (pt b0 1)), (fun G_ v_ => v_ = sa0_1), (fun G_ v_ => v_ = (vi ((s0 : Nat) : Int))), (fun G_ v_ => ∃ (b2 : Nat) (b3 : Nat), v_ = (pt b2 b3) ∧ InK .i64 x0 ∧ LiesG G_ b2 b3 [(vi x0)]), (fun G_ v_ => v_ = (vi x0) ∧ InK .i64 x0), (fun G_ v_ => v_ = (pt b1 1)), (fun G_ v_ => v_ = sa1_1), (fun G_ v_ => v_ = (vi ((s0 : Nat) : Int))), (fun G_ v_ => ∃ (b4 : Nat) (b5 : Nat), v_ = (pt b4 b5) ∧ InK .i64 x1 ∧ LiesG G_ b4 b5 [(vi x1)]), (fun G_ v_ => v_ = (vi x1) ∧ InK .i64 x1)]) rfl (by kernel_rfl) rfl h15 ?_ ?_
   ·refine Each.cons ?_ (Each.cons ?_ (Each.cons ?_ (Each.cons ?_ (Each.cons ?_ (Each.cons ?_ (Each.cons ?_ (Each.cons ?_ (Each.cons ?_ (Each.cons ?_ Each.nil)))))))))
    ·intro q1 w3 G8 e5 h19 h1a h1b
     rw [J3 (ρ := q1) (l := [(2, (pt b0 0))]) ⟨(h1a.1 2 (by decide)).trans rfl, trivial⟩]
     refine Jfa 1 1 underlying49 rfl ti47 rfl rfl rfl rfl ?_
     exact J0 (J4 (Ext.refl _) h19 fun G9 e6 => rfl)
    ·intro q1 w3 G8 e5 h19 h1a h1b
     obtain ⟨hd0_, _⟩ := h1b
     have hv35 := hd0_
     rw [J3 (ρ := q1) (l := [(35, (pt b0 1))]) ⟨hv35, trivial⟩]
     refine Jlb [] sa0_1 ti47 h19 rfl rfl rfl ?_
     exact J0 (J4 (Ext.refl _) h19 fun Ga e7 => rfl)
    ·intro q1 w3 G8 e5 h19 h1a h1b
     rw [J3 (ρ := q1) (l := [(5, (vi ((s0 : Nat) : Int)))]) ⟨(h1a.1 5 (by decide)).trans rfl, trivial⟩]
     refine Jmv (vi ((s0 : Nat) : Int)) rfl rfl ?_
     exact J0 (J4 (Ext.refl _) h19 fun Gb e8 => rfl)
    ·intro q1 w3 G8 e5 h19 h1a h1b
     obtain ⟨hd0_, hd1_, _⟩ := h1b
     have hv36 := hd0_
     have hv37 := hd1_
     rw [J3 (ρ := q1) (l := [(36, sa0_1), (37, (vi ((s0 : Nat) : Int)))]) ⟨hv36, hv37, trivial⟩]
     refine Jh (T := (tInt .i64)) underlying47 ti2 h19 (SRep.mono (e0.ro.trans (e3.ro.trans (e4.ro.trans e5.ro))) ha0_1) rfl rfl rfl h17 ?_
     intro b6 o2 c0 l3 f1
     obtain ⟨rfl, f2⟩ := f1
     exact J0 (J4 (Ext.refl _) h19 fun Gc e9 => ⟨b6, o2, rfl, f2, (LiesG.mono e9.ro l3)⟩)
    ·intro q1 w3 G8 e5 h19 h1a h1b
     obtain ⟨hd0_, _⟩ := h1b
     obtain ⟨b2, b3, hv38, f3, f4⟩ := hd0_
     rw [J3 (ρ := q1) (l := [(38, (pt b2 b3))]) ⟨hv38, trivial⟩]
     refine Y4 (v := (vi x0)) ti2 rfl rfl (LiesG.lies f4 h19) rfl ?_
     exact J0 (J4 (Ext.refl _) h19 fun Gd ea => ⟨rfl, f3⟩)
    ·intro q1 w3 G8 e5 h19 h1a h1b
     rw [J3 (ρ := q1) (l := [(3, (pt b1 0))]) ⟨(h1a.1 3 (by decide)).trans rfl, trivial⟩]
     refine Jfa 1 1 underlying49 rfl ti47 rfl rfl rfl rfl ?_
     exact J0 (J4 (Ext.refl _) h19 fun Ge eb => rfl)
    ·intro q1 w3 G8 e5 h19 h1a h1b
     obtain ⟨hd0_, _⟩ := h1b
     have hv40 := hd0_
     rw [J3 (ρ := q1) (l := [(40, (pt b1 1))]) ⟨hv40, trivial⟩]
     refine Jlb [_] sa1_1 ti47 h19 rfl rfl rfl ?_
     exact J0 (J4 (Ext.refl _) h19 fun Gf ec => rfl)
    ·intro q1 w3 G8 e5 h19 h1a h1b
     rw [J3 (ρ := q1) (l := [(5, (vi ((s0 : Nat) : Int)))]) ⟨(h1a.1 5 (by decide)).trans rfl, trivial⟩]
     refine Jmv (vi ((s0 : Nat) : Int)) rfl rfl ?_
     exact J0 (J4 (Ext.refl _) h19 fun Gg ed => rfl)
    ·intro q1 w3 G8 e5 h19 h1a h1b
     obtain ⟨hd0_, hd1_, _⟩ := h1b
     have hv41 := hd0_
     have hv42 := hd1_
     rw [J3 (ρ := q1) (l := [(41, sa1_1), (42, (vi ((s0 : Nat) : Int)))]) ⟨hv41, hv42, trivial⟩]
     refine Jh (T := (tInt .i64)) underlying47 ti2 h19 (SRep.mono (e0.ro.trans (e3.ro.trans (e4.ro.trans e5.ro))) ha1_1) rfl rfl rfl h18 ?_
     intro b7 o3 c1 l4 f5
     obtain ⟨rfl, f6⟩ := f5
     exact J0 (J4 (Ext.refl _) h19 fun Gh ee => ⟨b7, o3, rfl, f6, (LiesG.mono ee.ro l4)⟩)
    intro q1 w3 G8 e5 h19 h1a h1b
    obtain ⟨hd0_, _⟩ := h1b
    obtain ⟨b4, b5, hv43, f7, f8⟩ := hd0_
    rw [J3 (ρ := q1) (l := [(43, (pt b4 b5))]) ⟨hv43, trivial⟩]
    refine Y4 (v := (vi x1)) ti2 rfl rfl (LiesG.lies f8 h19) rfl ?_
    exact J0 (J4 (Ext.refl _) h19 fun Gi ef => ⟨rfl, f7⟩)
   intro q1 w3 G8 e5 h19 h1a h1b
   obtain ⟨hv39, f9⟩ := h1b 4 (by decide)
   obtain ⟨hv44, fa⟩ := h1b 9 (by decide)
   rw [J3 (ρ := q1) (l := [(2, (pt b0 0)), (3, (pt b1 0)), (5, (vi ((s0 : Nat) : Int))), (39, (vi x0)), (44, (vi x1))]) ⟨(h1a.1 2 (by decide)).trans rfl, (h1a.1 3 (by decide)).trans rfl, (h1a.1 5 (by decide)).trans rfl, hv39, hv44, trivial⟩]
   refine Y1 rfl rfl rfl ?_
   refine J0 ?_
   refine J7 rfl (fun h1c => ?_) (fun h1c => ?_)
   ·exact Jk hr h1c
   replace hr := Jf hr h1c
   refine J9 (J1 ?_)
   refine Jmv (vi ((s0 : Nat) : Int)) rfl rfl ?_
   refine Y2 rfl rfl rfl (of_decide_eq_true h16) (inK_len (SRep.le (SRep.mono (e0.ro.trans (e3.ro.trans e4.ro)) ha0_1))) ?_
   refine Jsv (vi ((s0 + 1 : Nat) : Int)) rfl rfl ?_
   refine J0 ?_
   have h1d := St.pick 1 rfl h19
   have h1e := St.pick 1 rfl h1d
   exact ⟨_, (Option.some.inj hr).symm, _, _, (J3 ⟨rfl, rfl, rfl, trivial⟩), (e4.trans e5), h1e, (inK_inc (of_decide_eq_true h16) (inK_len (SRep.le (SRep.mono (e0.ro.trans (e3.ro.trans e4.ro)) ha0_1))))⟩
  replace hr := Jf hr h16
  refine Jr ?_
  have h1f := St.takeN 0 h15
  exact ⟨_, (Option.some.inj hr).symm, rfl, _, _, rfl, e4, h1f⟩
 rintro _ _ ⟨σ3, G7, rfl, eg, h1g⟩
 refine J2 (J1 ?_)
 refine Jsv (.bool true) rfl rfl ?_
 refine J0 (Jg ?_)
 obtain rfl := Option.some.inj hr
 exact ⟨[(.bool true)], ⟨rfl, trivial⟩, _, _, _, rfl, (e0.trans (e3.trans eg)), h1g, ⟨rfl, rfl⟩⟩
def sheerlegref19_Same.l0 (a0 : XObject) (a1 : XObject) (s0 : Nat) : Option (Step Nat Unit) :=
 bif decide (((s0 : Nat) : Int) < (a0.Symbols.length : Int)) then (idx a0.Symbols ((s0 : Nat) : Int)).bind fun x0 => (idx a1.Symbols ((s0 : Nat) : Int)).bind fun x1 => bif !(seq x0.Name x1.Name && ((x0.Local == x1.Local) && (decide (x0.Sort_ = x1.Sort_) && (decide (x0.Kind = x1.Kind) && (decide (x0.Def = x1.Def) && true))))) then none else some (.next (s0 + 1)) else some (.done ())
def sheerlegref19_Same.l1 (a0 : XObject) (a1 : XObject) (s1 : Nat) : Option (Step Nat Unit) :=
 bif decide (((s1 : Nat) : Int) < (a0.Funcs.length : Int)) then (idx a0.Funcs ((s1 : Nat) : Int)).bind fun x2 => (idx a1.Funcs ((s1 : Nat) : Int)).bind fun x3 => (sheerlegref16_Same.f x2 x3).bind fun t0 => some (.next (s1 + 1)) else some (.done ())
def sheerlegref19_Same.l2 (a0 : XObject) (a1 : XObject) (s2 : Nat) : Option (Step Nat Unit) :=
 bif decide (((s2 : Nat) : Int) < (a0.Datas.length : Int)) then (idx a0.Datas ((s2 : Nat) : Int)).bind fun x4 => (idx a1.Datas ((s2 : Nat) : Int)).bind fun x5 => (sheerlegref15_Same.f x4 x5).bind fun t1 => some (.next (s2 + 1)) else some (.done ())
def sheerlegref19_Same.f (a0 : XObject) (a1 : XObject) : Option (Unit) :=
 (bif decide ((a0.Symbols.length : Int) ≠ (a1.Symbols.length : Int)) then none else some ()).bind fun t2 => (bif decide ((a0.Funcs.length : Int) ≠ (a1.Funcs.length : Int)) then none else some ()).bind fun t3 => bif decide ((a0.Datas.length : Int) ≠ (a1.Datas.length : Int)) then none else (loop (sheerlegref19_Same.l0 a0 a1) 0).bind fun t4 => (loop (sheerlegref19_Same.l1 a0 a1) 0).bind fun t5 => (loop (sheerlegref19_Same.l2 a0 a1) 0).bind fun t6 => some ()
def sheerlegref19_Same.K (r : Unit) (G0 : GH) (v : Value) (N : List Res) : Prop := v = tup [(.bool true)] ∧ N = []
theorem sheerlegref19_Same.ok {ca0 : List Value} {a0 : XObject} {ca1 : List Value} {a1 : XObject} (st : St B w G []) (ha0 : TObject.rep G ca0 a0) (ha1 : TObject.rep G ca1 a1) {r : Unit} (hr : sheerlegref19_Same.f a0 a1 = some r) :
 Calls Tryz.prog 25 ([(.agg ca0.toArray), (.agg ca1.toArray)] : List Value).toArray w (Ret B G (sheerlegref19_Same.K r)) := by
 obtain ⟨sa0_0, sa0_1, sa0_2, rfl, ha0_0, ha0_1, ha0_2⟩ := ha0
 obtain ⟨sa1_0, sa1_1, sa1_2, rfl, ha1_0, ha1_1, ha1_2⟩ := ha1
 refine Jc [.tmp 4] func25 rfl ntmps25 rfl rfl ?_
 refine J2 (J1 ?_)
 refine Ju (cs := [sa0_0, sa0_1, sa0_2]) st rfl rfl rfl ?_
 intro b0 w0 h0
 refine Ju (cs := [sa1_0, sa1_1, sa1_2]) h0 rfl rfl rfl ?_
 intro b1 w1 h1
 refine Jsv (.bool false) rfl rfl ?_
 refine J0 (J2 (J2 (J1 ?_)))
 refine Jfa 0 0 underlying61 rfl ti57 rfl rfl rfl rfl ?_
 refine Jlb [_] sa0_0 ti57 h1 rfl rfl rfl ?_
 refine Jd (T := TSymbol) underlying57 ha0_0 rfl rfl ?_
 refine Jfa 0 0 underlying61 rfl ti57 rfl rfl rfl rfl ?_
 refine Jlb [] sa1_0 ti57 h1 rfl rfl rfl ?_
 refine Jd (T := TSymbol) underlying57 ha1_0 rfl rfl ?_
 refine Y1 rfl rfl rfl ?_
 refine Jmv (.bool (decide ((a0.Symbols.length : Int) ≠ (a1.Symbols.length : Int)))) rfl rfl ?_
 obtain ⟨t2, hr, o0⟩ := J6 hr
 refine Jw 8 (fun ρ w => ∃ (σ0 : Env) (G1 : GH), ρ = En σ0 [(2, (pt b0 0)), (3, (pt b1 0)), (23, (.bool (decide ((a0.Funcs.length : Int) ≠ (a1.Funcs.length : Int)))))] ∧ Ext G G1 ∧ St B w G1 [.blk b0 [sa0_0, sa0_1, sa0_2] 61, .blk b1 [sa1_0, sa1_1, sa1_2] 61]) ?_ ?_
 ·rcases Y8 (decide ((a0.Symbols.length : Int) ≠ (a1.Symbols.length : Int))) with hb_ | hb_
  ·exact Jk hr hb_
  have h2 : (decide ((a0.Symbols.length : Int) ≠ (a1.Symbols.length : Int))) = false := hb_
  replace hr := Jf hr h2
  refine Ja rfl rfl rfl rfl h2 ?_
  refine Jfa 1 1 underlying61 rfl ti58 rfl rfl rfl rfl ?_
  refine Ja rfl rfl rfl rfl h2 ?_
  refine Jlb [_] sa0_1 ti58 h1 rfl rfl rfl ?_
  refine Ja rfl rfl rfl rfl h2 ?_
  refine Jd (T := TFunc) underlying58 ha0_1 rfl rfl ?_
  refine Ja rfl rfl rfl rfl h2 ?_
  refine Jfa 1 1 underlying61 rfl ti58 rfl rfl rfl rfl ?_
  refine Ja rfl rfl rfl rfl h2 ?_
  refine Jlb [] sa1_1 ti58 h1 rfl rfl rfl ?_
  refine Ja rfl rfl rfl rfl h2 ?_
  refine Jd (T := TFunc) underlying58 ha1_1 rfl rfl ?_
  refine Ja rfl rfl rfl rfl h2 ?_
  refine Y1 rfl rfl rfl ?_
  refine Jt (v := (.bool (decide ((a0.Funcs.length : Int) ≠ (a1.Funcs.length : Int))))) rfl rfl h2 rfl ?_
  refine J0 ?_
  have h3 := St.pick 1 rfl h1
  obtain rfl := Option.some.inj hr
  exact ⟨_, _, (J3 ⟨rfl, rfl, rfl, trivial⟩), (Ext.refl _), h3⟩
 rintro _ _ ⟨σ0, G1, rfl, e0, h4⟩
 replace hr := o0
 refine Jmv (.bool (decide ((a0.Funcs.length : Int) ≠ (a1.Funcs.length : Int)))) rfl rfl ?_
 obtain ⟨t3, hr, o1⟩ := J6 hr
 refine Jw 8 (fun ρ w => ∃ (σ1 : Env) (G2 : GH), ρ = En σ1 [(2, (pt b0 0)), (3, (pt b1 0)), (32, (.bool (decide ((a0.Datas.length : Int) ≠ (a1.Datas.length : Int)))))] ∧ Ext G1 G2 ∧ St B w G2 [.blk b0 [sa0_0, sa0_1, sa0_2] 61, .blk b1 [sa1_0, sa1_1, sa1_2] 61]) ?_ ?_
 ·rcases Y8 (decide ((a0.Funcs.length : Int) ≠ (a1.Funcs.length : Int))) with hb_ | hb_
  ·exact Jk hr hb_
  have h5 : (decide ((a0.Funcs.length : Int) ≠ (a1.Funcs.length : Int))) = false := hb_
  replace hr := Jf hr h5
  refine Ja rfl rfl rfl rfl h5 ?_
  refine Jfa 2 2 underlying61 rfl ti59 rfl rfl rfl rfl ?_
  refine Ja rfl rfl rfl rfl h5 ?_
  refine Jlb [] sa0_2 ti59 h4 rfl rfl rfl ?_
  refine Ja rfl rfl rfl rfl h5 ?_
  refine Jd (T := TData) underlying59 (SRep.mono e0.ro ha0_2) rfl rfl ?_
  refine Ja rfl rfl rfl rfl h5 ?_
  refine Jfa 2 2 underlying61 rfl ti59 rfl rfl rfl rfl ?_
  refine Ja rfl rfl rfl rfl h5 ?_
  refine Jlb [_] sa1_2 ti59 h4 rfl rfl rfl ?_
  refine Ja rfl rfl rfl rfl h5 ?_
  refine Jd (T := TData) underlying59 (SRep.mono e0.ro ha1_2) rfl rfl ?_
  refine Ja rfl rfl rfl rfl h5 ?_
  refine Y1 rfl rfl rfl ?_
  refine Jt (v := (.bool (decide ((a0.Datas.length : Int) ≠ (a1.Datas.length : Int))))) rfl rfl h5 rfl ?_
  refine J0 ?_
  have h6 := St.pick 1 rfl h4
  have h7 := St.pick 1 rfl h6
  obtain rfl := Option.some.inj hr
  exact ⟨_, _, (J3 ⟨rfl, rfl, rfl, trivial⟩), (Ext.refl _), h7⟩
 rintro _ _ ⟨σ1, G2, rfl, e1, h8⟩
 replace hr := o1
 refine J0 ?_
 refine J7 rfl (fun h9 => ?_) (fun h9 => ?_)
 ·exact Jk hr h9
 replace hr := Jf hr h9
 refine J9 (J2 (J2 (J1 ?_)))
 refine Jsv (vi 0) rfl rfl ?_
 refine J0 (Jb ?_)
 obtain ⟨t4, h10, hr⟩ := J6 hr
 have h11 := St.pick 1 rfl h8
 have h12 := St.pick 1 rfl h11
 refine Js 0 h10 (fun s0 ρ w => ∃ (σ2 : Env) (G3 : GH), ρ = En σ2 [(2, (pt b0 0)), (3, (pt b1 0)), (5, (vi ((s0 : Nat) : Int)))] ∧ Ext G2 G3 ∧ St B w G3 [.blk b0 [sa0_0, sa0_1, sa0_2] 61, .blk b1 [sa1_0, sa1_1, sa1_2] 61] ∧ InK .i64 ((s0 : Nat) : Int)) (fun t7 ρ w => ∃ (σ3 : Env) (G4 : GH), ρ = En σ3 [(2, (pt b0 0)), (3, (pt b1 0))] ∧ Ext G2 G4 ∧ St B w G4 [.blk b0 [sa0_0, sa0_1, sa0_2] 61, .blk b1 [sa1_0, sa1_1, sa1_2] 61]) ⟨_, _, (J3 ⟨rfl, rfl, rfl, trivial⟩), (Ext.refl _), h12, (by rfl)⟩ ?_ ?_
 ·rintro s0 x6 _ _ hr ⟨σ2, G3, rfl, e2, h13, f0⟩
  refine J2 (J2 (J1 ?_))
  refine Jmv (vi ((s0 : Nat) : Int)) rfl rfl ?_
  refine Jfa 0 0 underlying61 rfl ti57 rfl rfl rfl rfl ?_
  refine Jlb [] sa0_0 ti57 h13 rfl rfl rfl ?_
  refine Jd (T := TSymbol) underlying57 (SRep.mono (e0.ro.trans (e1.ro.trans e2.ro)) ha0_0) rfl rfl ?_
  refine Ji rfl rfl rfl ?_
  refine J0 ?_
  refine J7 rfl (fun h14 => ?_) (fun h14 => ?_)
  ·replace hr := Jx hr h14
   refine J9 (J2 (Jb (J2 ?_)))
   obtain ⟨x0, h15, hr⟩ := J6 hr
   obtain ⟨x1, h16, hr⟩ := J6 hr
   refine Ye 10 [some 40, some 41, some 42, some 43, some 44, some 45, some 46, some 47, some 48, some 49] (pk [(fun G_ v_ => v_ = (pt b0 0)), (fun G_ v_ => v_ = sa0_0), (fun G_ v_ => v_ = (vi ((s0 : Nat) : Int))), (fun G_ v_ => ∃ (b2 : Nat) (b3 : Nat), v_ = (pt b2 b3) ∧ x0.Name.size ≤ SB ∧ InK .i64 x0.Sort_ ∧ InK .i64 x0.Kind ∧ InK .i64 x0.Def ∧ LiesG G_ b2 b3 [(.string x0.Name), (.bool x0.Local), (vi x0.Sort_), (vi x0.Kind), (vi x0.Def)]), (fun G_ v_ => v_ = (.agg #[(.string x0.Name), (.bool x0.Local), (vi x0.Sort_), (vi x0.Kind), (vi x0.Def)]) ∧ x0.Name.size ≤ SB ∧ InK .i64 x0.Sort_ ∧ InK .i64 x0.Kind ∧ InK .i64 x0.Def), (fun G_ v_ => v_ = (pt b1 0)), (fun G_ v_ => v_ = sa1_0), (fun G_ v_ => v_ = (vi ((s0 : Nat) : Int))), (fun G_ v_ => ∃ (b4 : Nat) (b5 : Nat), v_ = (pt b4 b5) ∧ x1.Name.size ≤ SB ∧ InK .i64 x1.Sort_ ∧ InK .i64 x1.Kind ∧ InK .i64 x1.Def ∧ LiesG G_ b4 b5 [(.string x1.Name), (.bool x1.Local), (vi x1.Sort_), (vi x1.Kind), (vi x1.Def)]), (fun G_ v_ => v_ = (.agg #[(.string x1.Name), (.bool x1.Local), (vi x1.Sort_), (vi x1.Kind), (vi x1.Def)]) ∧ x1.Name.size ≤ SB ∧ InK .i64 x1.Sort_ ∧ InK .i64 x1.Kind ∧ InK .i64 x1.Def)]) rfl (by kernel_rfl) rfl h13 ?_ ?_
   ·refine Each.cons ?_ (Each.cons ?_ (Each.cons ?_ (Each.cons ?_ (Each.cons ?_ (Each.cons ?_ (Each.cons ?_ (Each.cons ?_ (Each.cons ?_ (Each.cons ?_ Each.nil)))))))))
    ·intro q0 w2 G5 e3 h17 h18 h19
     rw [J3 (ρ := q0) (l := [(2, (pt b0 0))]) ⟨(h18.1 2 (by decide)).trans rfl, trivial⟩]
     refine Jfa 0 0 underlying61 rfl ti57 rfl rfl rfl rfl ?_
     exact J0 (J4 (Ext.refl _) h17 fun G6 e4 => rfl)
    ·intro q0 w2 G5 e3 h17 h18 h19
     obtain ⟨hd0_, _⟩ := h19
     have hv40 := hd0_
     rw [J3 (ρ := q0) (l := [(40, (pt b0 0))]) ⟨hv40, trivial⟩]
     refine Jlb [] sa0_0 ti57 h17 rfl rfl rfl ?_
     exact J0 (J4 (Ext.refl _) h17 fun G7 e5 => rfl)
    ·intro q0 w2 G5 e3 h17 h18 h19
     rw [J3 (ρ := q0) (l := [(5, (vi ((s0 : Nat) : Int)))]) ⟨(h18.1 5 (by decide)).trans rfl, trivial⟩]
     refine Jmv (vi ((s0 : Nat) : Int)) rfl rfl ?_
     exact J0 (J4 (Ext.refl _) h17 fun G8 e6 => rfl)
    ·intro q0 w2 G5 e3 h17 h18 h19
     obtain ⟨hd0_, hd1_, _⟩ := h19
     have hv41 := hd0_
     have hv42 := hd1_
     rw [J3 (ρ := q0) (l := [(41, sa0_0), (42, (vi ((s0 : Nat) : Int)))]) ⟨hv41, hv42, trivial⟩]
     refine Jh (T := TSymbol) underlying57 ti82 h17 (SRep.mono (e0.ro.trans (e1.ro.trans (e2.ro.trans e3.ro))) ha0_0) rfl rfl rfl h15 ?_
     intro b6 o2 c0 l3 f1
     obtain ⟨rfl, f2, f3, f4, f5⟩ := f1
     exact J0 (J4 (Ext.refl _) h17 fun G9 e7 => ⟨b6, o2, rfl, f2, f3, f4, f5, (LiesG.mono e7.ro l3)⟩)
    ·intro q0 w2 G5 e3 h17 h18 h19
     obtain ⟨hd0_, _⟩ := h19
     obtain ⟨b2, b3, hv43, f6, f7, f8, f9, fa⟩ := hd0_
     rw [J3 (ρ := q0) (l := [(43, (pt b2 b3))]) ⟨hv43, trivial⟩]
     refine Jy ti82 rfl rfl (LiesG.lies fa h17) (Nat.le_of_ble_eq_true rfl) ?_
     change WL _ _ _ _ _ _ (upd _ _ (.agg #[(.string x0.Name), (.bool x0.Local), (vi x0.Sort_), (vi x0.Kind), (vi x0.Def)])) _
     exact J0 (J4 (Ext.refl _) h17 fun Ga e8 => ⟨rfl, f6, f7, f8, f9⟩)
    ·intro q0 w2 G5 e3 h17 h18 h19
     rw [J3 (ρ := q0) (l := [(3, (pt b1 0))]) ⟨(h18.1 3 (by decide)).trans rfl, trivial⟩]
     refine Jfa 0 0 underlying61 rfl ti57 rfl rfl rfl rfl ?_
     exact J0 (J4 (Ext.refl _) h17 fun Gb e9 => rfl)
    ·intro q0 w2 G5 e3 h17 h18 h19
     obtain ⟨hd0_, _⟩ := h19
     have hv45 := hd0_
     rw [J3 (ρ := q0) (l := [(45, (pt b1 0))]) ⟨hv45, trivial⟩]
     refine Jlb [_] sa1_0 ti57 h17 rfl rfl rfl ?_
     exact J0 (J4 (Ext.refl _) h17 fun Gc ea => rfl)
    ·intro q0 w2 G5 e3 h17 h18 h19
     rw [J3 (ρ := q0) (l := [(5, (vi ((s0 : Nat) : Int)))]) ⟨(h18.1 5 (by decide)).trans rfl, trivial⟩]
     refine Jmv (vi ((s0 : Nat) : Int)) rfl rfl ?_
     exact J0 (J4 (Ext.refl _) h17 fun Gd eb => rfl)
    ·intro q0 w2 G5 e3 h17 h18 h19
     obtain ⟨hd0_, hd1_, _⟩ := h19
     have hv46 := hd0_
     have hv47 := hd1_
     rw [J3 (ρ := q0) (l := [(46, sa1_0), (47, (vi ((s0 : Nat) : Int)))]) ⟨hv46, hv47, trivial⟩]
     refine Jh (T := TSymbol) underlying57 ti82 h17 (SRep.mono (e0.ro.trans (e1.ro.trans (e2.ro.trans e3.ro))) ha1_0) rfl rfl rfl h16 ?_
     intro b7 o3 c1 l4 fb
     obtain ⟨rfl, fc, fd, fe, ff⟩ := fb
     exact J0 (J4 (Ext.refl _) h17 fun Ge ec => ⟨b7, o3, rfl, fc, fd, fe, ff, (LiesG.mono ec.ro l4)⟩)
    intro q0 w2 G5 e3 h17 h18 h19
    obtain ⟨hd0_, _⟩ := h19
    obtain ⟨b4, b5, hv48, fg, fh, fj, fk, fl⟩ := hd0_
    rw [J3 (ρ := q0) (l := [(48, (pt b4 b5))]) ⟨hv48, trivial⟩]
    refine Jy ti82 rfl rfl (LiesG.lies fl h17) (Nat.le_of_ble_eq_true rfl) ?_
    change WL _ _ _ _ _ _ (upd _ _ (.agg #[(.string x1.Name), (.bool x1.Local), (vi x1.Sort_), (vi x1.Kind), (vi x1.Def)])) _
    exact J0 (J4 (Ext.refl _) h17 fun Gf ed => ⟨rfl, fg, fh, fj, fk⟩)
   intro q0 w2 G5 e3 h17 h18 h19
   obtain ⟨hv44, fm, fn, fo, fp⟩ := h19 4 (by decide)
   obtain ⟨hv49, fq, fr, fs, ft⟩ := h19 9 (by decide)
   rw [J3 (ρ := q0) (l := [(2, (pt b0 0)), (3, (pt b1 0)), (5, (vi ((s0 : Nat) : Int))), (44, (.agg #[(.string x0.Name), (.bool x0.Local), (vi x0.Sort_), (vi x0.Kind), (vi x0.Def)])), (49, (.agg #[(.string x1.Name), (.bool x1.Local), (vi x1.Sort_), (vi x1.Kind), (vi x1.Def)]))]) ⟨(h18.1 2 (by decide)).trans rfl, (h18.1 3 (by decide)).trans rfl, (h18.1 5 (by decide)).trans rfl, hv44, hv49, trivial⟩]
   refine WL_aneq (b := (seq x0.Name x1.Name && ((x0.Local == x1.Local) && (decide (x0.Sort_ = x1.Sort_) && (decide (x0.Kind = x1.Kind) && (decide (x0.Def = x1.Def) && true)))))) underlying82 (by kernel_rfl) (by kernel_rfl) rfl rfl rfl (FlatEq.cons (by decide) rfl rfl (CellEq.str underlying9) (FlatEq.cons (by decide) rfl rfl (CellEq.bool underlying4) (FlatEq.cons (by decide) rfl rfl (CellEq.int underlying3) (FlatEq.cons (by decide) rfl rfl (CellEq.int underlying3) (FlatEq.cons (by decide) rfl rfl (CellEq.int underlying3) (FlatEq.nil)))))) ?_
   refine J0 ?_
   refine J7 rfl (fun h1a => ?_) (fun h1a => ?_)
   ·exact Jk hr h1a
   replace hr := Jf hr h1a
   refine J9 (J1 ?_)
   refine Jmv (vi ((s0 : Nat) : Int)) rfl rfl ?_
   refine Y2 rfl rfl rfl (of_decide_eq_true h14) (inK_len (SRep.le (SRep.mono (e0.ro.trans (e1.ro.trans e2.ro)) ha0_0))) ?_
   refine Jsv (vi ((s0 + 1 : Nat) : Int)) rfl rfl ?_
   refine J0 ?_
   have h1b := St.pick 1 rfl h17
   have h1c := St.pick 1 rfl h1b
   exact ⟨_, (Option.some.inj hr).symm, _, _, (J3 ⟨rfl, rfl, rfl, trivial⟩), (e2.trans e3), h1c, (inK_inc (of_decide_eq_true h14) (inK_len (SRep.le (SRep.mono (e0.ro.trans (e1.ro.trans e2.ro)) ha0_0))))⟩
  replace hr := Jf hr h14
  refine Jr ?_
  have h1d := St.pick 1 rfl h13
  have h1e := St.pick 1 rfl h1d
  exact ⟨_, (Option.some.inj hr).symm, rfl, _, _, (J3 ⟨rfl, rfl, trivial⟩), e2, h1e⟩
 rintro _ _ ⟨σ3, G4, rfl, ee, h1f⟩
 refine J2 (J2 (J1 ?_))
 refine Jsv (vi 0) rfl rfl ?_
 refine J0 (Jb ?_)
 obtain ⟨t5, h1g, hr⟩ := J6 hr
 have h1h := St.pick 1 rfl h1f
 have h1i := St.pick 1 rfl h1h
 refine Js 2 h1g (fun s1 ρ w => ∃ (σ4 : Env) (Gg : GH), ρ = En σ4 [(2, (pt b0 0)), (3, (pt b1 0)), (6, (vi ((s1 : Nat) : Int)))] ∧ Ext G4 Gg ∧ St B w Gg [.blk b0 [sa0_0, sa0_1, sa0_2] 61, .blk b1 [sa1_0, sa1_1, sa1_2] 61] ∧ InK .i64 ((s1 : Nat) : Int)) (fun t8 ρ w => ∃ (σ5 : Env) (Gh : GH), ρ = En σ5 [(2, (pt b0 0)), (3, (pt b1 0))] ∧ Ext G4 Gh ∧ St B w Gh [.blk b0 [sa0_0, sa0_1, sa0_2] 61, .blk b1 [sa1_0, sa1_1, sa1_2] 61]) ⟨_, _, (J3 ⟨rfl, rfl, rfl, trivial⟩), (Ext.refl _), h1i, (by rfl)⟩ ?_ ?_
 ·rintro s1 x7 _ _ hr ⟨σ4, Gg, rfl, ef, h1j, fu⟩
  refine J2 (J2 (J1 ?_))
  refine Jmv (vi ((s1 : Nat) : Int)) rfl rfl ?_
  refine Jfa 1 1 underlying61 rfl ti58 rfl rfl rfl rfl ?_
  refine Jlb [] sa0_1 ti58 h1j rfl rfl rfl ?_
  refine Jd (T := TFunc) underlying58 (SRep.mono (e0.ro.trans (e1.ro.trans (ee.ro.trans ef.ro))) ha0_1) rfl rfl ?_
  refine Ji rfl rfl rfl ?_
  refine J0 ?_
  refine J7 rfl (fun h1k => ?_) (fun h1k => ?_)
  ·replace hr := Jx hr h1k
   refine J9 (J2 (Jb (J2 ?_)))
   obtain ⟨x2, h1l, hr⟩ := J6 hr
   obtain ⟨x3, h1m, hr⟩ := J6 hr
   refine Ye 10 [some 58, some 59, some 60, some 61, some 62, some 63, some 64, some 65, some 66, some 67] (pk [(fun G_ v_ => v_ = (pt b0 1)), (fun G_ v_ => v_ = sa0_1), (fun G_ v_ => v_ = (vi ((s1 : Nat) : Int))), (fun G_ v_ => ∃ (b8 : Nat) (b9 : Nat) (v0 : Value) (v1 : Value) (v2 : Value) (v3 : Value), v_ = (pt b8 b9) ∧ InK .i64 x2.Class ∧ SRep 3 (tInt .i64) G_ v0 x2.Kinds ∧ InK .i64 x2.Pad ∧ InK .i64 x2.From ∧ InK .i64 x2.To ∧ SRep 157 TLine G_ v1 x2.Lines ∧ SRep 54 TInstr G_ v2 x2.Code ∧ SRep 133 TReloc G_ v3 x2.Relocs ∧ LiesG G_ b8 b9 [(vi x2.Class), v0, (vi x2.Pad), (.bool x2.Nosplit), (vi x2.From), (vi x2.To), v1, v2, v3]), (fun G_ v_ => ∃ (v4 : Value) (v5 : Value) (v6 : Value) (v7 : Value), v_ = (.agg #[(vi x2.Class), v4, (vi x2.Pad), (.bool x2.Nosplit), (vi x2.From), (vi x2.To), v5, v6, v7]) ∧ InK .i64 x2.Class ∧ SRep 3 (tInt .i64) G_ v4 x2.Kinds ∧ InK .i64 x2.Pad ∧ InK .i64 x2.From ∧ InK .i64 x2.To ∧ SRep 157 TLine G_ v5 x2.Lines ∧ SRep 54 TInstr G_ v6 x2.Code ∧ SRep 133 TReloc G_ v7 x2.Relocs), (fun G_ v_ => v_ = (pt b1 1)), (fun G_ v_ => v_ = sa1_1), (fun G_ v_ => v_ = (vi ((s1 : Nat) : Int))), (fun G_ v_ => ∃ (ba : Nat) (bb : Nat) (v8 : Value) (v9 : Value) (va : Value) (vc : Value), v_ = (pt ba bb) ∧ InK .i64 x3.Class ∧ SRep 3 (tInt .i64) G_ v8 x3.Kinds ∧ InK .i64 x3.Pad ∧ InK .i64 x3.From ∧ InK .i64 x3.To ∧ SRep 157 TLine G_ v9 x3.Lines ∧ SRep 54 TInstr G_ va x3.Code ∧ SRep 133 TReloc G_ vc x3.Relocs ∧ LiesG G_ ba bb [(vi x3.Class), v8, (vi x3.Pad), (.bool x3.Nosplit), (vi x3.From), (vi x3.To), v9, va, vc]), (fun G_ v_ => ∃ (vd : Value) (ve : Value) (vf : Value) (vg : Value), v_ = (.agg #[(vi x3.Class), vd, (vi x3.Pad), (.bool x3.Nosplit), (vi x3.From), (vi x3.To), ve, vf, vg]) ∧ InK .i64 x3.Class ∧ SRep 3 (tInt .i64) G_ vd x3.Kinds ∧ InK .i64 x3.Pad ∧ InK .i64 x3.From ∧ InK .i64 x3.To ∧ SRep 157 TLine G_ ve x3.Lines ∧ SRep 54 TInstr G_ vf x3.Code ∧ SRep 133 TReloc G_ vg x3.Relocs)]) rfl (by kernel_rfl) rfl h1j ?_ ?_
   ·refine Each.cons ?_ (Each.cons ?_ (Each.cons ?_ (Each.cons ?_ (Each.cons ?_ (Each.cons ?_ (Each.cons ?_ (Each.cons ?_ (Each.cons ?_ (Each.cons ?_ Each.nil)))))))))
    ·intro q1 w3 Gi eg h1n h1o h1p
     rw [J3 (ρ := q1) (l := [(2, (pt b0 0))]) ⟨(h1o.1 2 (by decide)).trans rfl, trivial⟩]
     refine Jfa 1 1 underlying61 rfl ti58 rfl rfl rfl rfl ?_
     exact J0 (J4 (Ext.refl _) h1n fun Gj eh => rfl)
    ·intro q1 w3 Gi eg h1n h1o h1p
     obtain ⟨hd0_, _⟩ := h1p
     have hv58 := hd0_
     rw [J3 (ρ := q1) (l := [(58, (pt b0 1))]) ⟨hv58, trivial⟩]
     refine Jlb [] sa0_1 ti58 h1n rfl rfl rfl ?_
     exact J0 (J4 (Ext.refl _) h1n fun Gk ei => rfl)
    ·intro q1 w3 Gi eg h1n h1o h1p
     rw [J3 (ρ := q1) (l := [(6, (vi ((s1 : Nat) : Int)))]) ⟨(h1o.1 6 (by decide)).trans rfl, trivial⟩]
     refine Jmv (vi ((s1 : Nat) : Int)) rfl rfl ?_
     exact J0 (J4 (Ext.refl _) h1n fun Gl ej => rfl)
    ·intro q1 w3 Gi eg h1n h1o h1p
     obtain ⟨hd0_, hd1_, _⟩ := h1p
     have hv59 := hd0_
     have hv60 := hd1_
     rw [J3 (ρ := q1) (l := [(59, sa0_1), (60, (vi ((s1 : Nat) : Int)))]) ⟨hv59, hv60, trivial⟩]
     refine Jh (T := TFunc) underlying58 ti44 h1n (SRep.mono (e0.ro.trans (e1.ro.trans (ee.ro.trans (ef.ro.trans eg.ro)))) ha0_1) rfl rfl rfl h1l ?_
     intro bc o4 c2 l5 fv
     obtain ⟨vh, vj, vk, vl, rfl, fw, fx, fy, fz, f10, f11, f12, f13⟩ := fv
     exact J0 (J4 (Ext.refl _) h1n fun Gm ek => ⟨bc, o4, vh, vj, vk, vl, rfl, fw, (SRep.mono ek.ro fx), fy, fz, f10, (SRep.mono ek.ro f11), (SRep.mono ek.ro f12), (SRep.mono ek.ro f13), (LiesG.mono ek.ro l5)⟩)
    ·intro q1 w3 Gi eg h1n h1o h1p
     obtain ⟨hd0_, _⟩ := h1p
     obtain ⟨b8, b9, v0, v1, v2, v3, hv61, f14, f15, f16, f17, f18, f19, f1a, f1b, f1c⟩ := hd0_
     rw [J3 (ρ := q1) (l := [(61, (pt b8 b9))]) ⟨hv61, trivial⟩]
     refine Jy ti44 rfl rfl (LiesG.lies f1c h1n) (Nat.le_of_ble_eq_true rfl) ?_
     change WL _ _ _ _ _ _ (upd _ _ (.agg #[(vi x2.Class), v0, (vi x2.Pad), (.bool x2.Nosplit), (vi x2.From), (vi x2.To), v1, v2, v3])) _
     exact J0 (J4 (Ext.refl _) h1n fun Gn el => ⟨v0, v1, v2, v3, rfl, f14, (SRep.mono el.ro f15), f16, f17, f18, (SRep.mono el.ro f19), (SRep.mono el.ro f1a), (SRep.mono el.ro f1b)⟩)
    ·intro q1 w3 Gi eg h1n h1o h1p
     rw [J3 (ρ := q1) (l := [(3, (pt b1 0))]) ⟨(h1o.1 3 (by decide)).trans rfl, trivial⟩]
     refine Jfa 1 1 underlying61 rfl ti58 rfl rfl rfl rfl ?_
     exact J0 (J4 (Ext.refl _) h1n fun Go em => rfl)
    ·intro q1 w3 Gi eg h1n h1o h1p
     obtain ⟨hd0_, _⟩ := h1p
     have hv63 := hd0_
     rw [J3 (ρ := q1) (l := [(63, (pt b1 1))]) ⟨hv63, trivial⟩]
     refine Jlb [_] sa1_1 ti58 h1n rfl rfl rfl ?_
     exact J0 (J4 (Ext.refl _) h1n fun Gp en => rfl)
    ·intro q1 w3 Gi eg h1n h1o h1p
     rw [J3 (ρ := q1) (l := [(6, (vi ((s1 : Nat) : Int)))]) ⟨(h1o.1 6 (by decide)).trans rfl, trivial⟩]
     refine Jmv (vi ((s1 : Nat) : Int)) rfl rfl ?_
     exact J0 (J4 (Ext.refl _) h1n fun Gq eo => rfl)
    ·intro q1 w3 Gi eg h1n h1o h1p
     obtain ⟨hd0_, hd1_, _⟩ := h1p
     have hv64 := hd0_
     have hv65 := hd1_
     rw [J3 (ρ := q1) (l := [(64, sa1_1), (65, (vi ((s1 : Nat) : Int)))]) ⟨hv64, hv65, trivial⟩]
     refine Jh (T := TFunc) underlying58 ti44 h1n (SRep.mono (e0.ro.trans (e1.ro.trans (ee.ro.trans (ef.ro.trans eg.ro)))) ha1_1) rfl rfl rfl h1m ?_
     intro bd o5 c3 l6 f1d
     obtain ⟨vm, vn, vo, vp, rfl, f1e, f1f, f1g, f1h, f1i, f1j, f1k, f1l⟩ := f1d
     exact J0 (J4 (Ext.refl _) h1n fun Gr ep => ⟨bd, o5, vm, vn, vo, vp, rfl, f1e, (SRep.mono ep.ro f1f), f1g, f1h, f1i, (SRep.mono ep.ro f1j), (SRep.mono ep.ro f1k), (SRep.mono ep.ro f1l), (LiesG.mono ep.ro l6)⟩)
    intro q1 w3 Gi eg h1n h1o h1p
    obtain ⟨hd0_, _⟩ := h1p
    obtain ⟨ba, bb, v8, v9, va, vc, hv66, f1m, f1n, f1o, f1p, f1q, f1r, f1s, f1t, f1u⟩ := hd0_
    rw [J3 (ρ := q1) (l := [(66, (pt ba bb))]) ⟨hv66, trivial⟩]
    refine Jy ti44 rfl rfl (LiesG.lies f1u h1n) (Nat.le_of_ble_eq_true rfl) ?_
    change WL _ _ _ _ _ _ (upd _ _ (.agg #[(vi x3.Class), v8, (vi x3.Pad), (.bool x3.Nosplit), (vi x3.From), (vi x3.To), v9, va, vc])) _
    exact J0 (J4 (Ext.refl _) h1n fun Gs er => ⟨v8, v9, va, vc, rfl, f1m, (SRep.mono er.ro f1n), f1o, f1p, f1q, (SRep.mono er.ro f1r), (SRep.mono er.ro f1s), (SRep.mono er.ro f1t)⟩)
   intro q1 w3 Gi eg h1n h1o h1p
   obtain ⟨v4, v5, v6, v7, hv62, f1v, f1w, f1x, f1y, f1z, f20, f21, f22⟩ := h1p 4 (by decide)
   obtain ⟨vd, ve, vf, vg, hv67, f23, f24, f25, f26, f27, f28, f29, f2a⟩ := h1p 9 (by decide)
   rw [J3 (ρ := q1) (l := [(2, (pt b0 0)), (3, (pt b1 0)), (6, (vi ((s1 : Nat) : Int))), (62, (.agg #[(vi x2.Class), v4, (vi x2.Pad), (.bool x2.Nosplit), (vi x2.From), (vi x2.To), v5, v6, v7])), (67, (.agg #[(vi x3.Class), vd, (vi x3.Pad), (.bool x3.Nosplit), (vi x3.From), (vi x3.To), ve, vf, vg]))]) ⟨(h1o.1 2 (by decide)).trans rfl, (h1o.1 3 (by decide)).trans rfl, (h1o.1 6 (by decide)).trans rfl, hv62, hv67, trivial⟩]
   obtain ⟨t0, h1q, hr⟩ := J6 hr
   refine J8 (f := 42) (av := [(.agg #[(vi x2.Class), v4, (vi x2.Pad), (.bool x2.Nosplit), (vi x2.From), (vi x2.To), v5, v6, v7]), (.agg #[(vi x3.Class), vd, (vi x3.Pad), (.bool x3.Nosplit), (vi x3.From), (vi x3.To), ve, vf, vg])]) cf42 rfl rfl h1n rfl (fun Gt es h1r => sheerlegref16_Same.ok (a0 := x2) (a1 := x3) h1r (⟨v4, v5, v6, v7, rfl, f1v, (SRep.mono es.ro f1w), f1x, f1y, f1z, (SRep.mono es.ro f20), (SRep.mono es.ro f21), (SRep.mono es.ro f22)⟩) (⟨vd, ve, vf, vg, rfl, f23, (SRep.mono es.ro f24), f25, f26, f27, (SRep.mono es.ro f28), (SRep.mono es.ro f29), (SRep.mono es.ro f2a)⟩) h1q) ?_
   rintro vq w4 Gu Gv N0 et q2 ⟨rfl, rfl⟩ h1s
   refine Yc rfl rfl ?_
   refine J0 ?_
   refine J7 rfl (fun h => nomatch h) (fun _ => ?_)
   refine J9 (J1 ?_)
   refine Jmv (vi ((s1 : Nat) : Int)) rfl rfl ?_
   refine Y2 rfl rfl rfl (of_decide_eq_true h1k) (inK_len (SRep.le (SRep.mono (e0.ro.trans (e1.ro.trans (ee.ro.trans ef.ro))) ha0_1))) ?_
   refine Jsv (vi ((s1 + 1 : Nat) : Int)) rfl rfl ?_
   refine J0 ?_
   have h1t := St.pick 1 rfl h1s
   have h1u := St.pick 1 rfl h1t
   exact ⟨_, (Option.some.inj hr).symm, _, _, (J3 ⟨rfl, rfl, rfl, trivial⟩), (ef.trans (eg.trans et)), h1u, (inK_inc (of_decide_eq_true h1k) (inK_len (SRep.le (SRep.mono (e0.ro.trans (e1.ro.trans (ee.ro.trans ef.ro))) ha0_1))))⟩
  replace hr := Jf hr h1k
  refine Jr ?_
  have h1v := St.pick 1 rfl h1j
  have h1w := St.pick 1 rfl h1v
  exact ⟨_, (Option.some.inj hr).symm, rfl, _, _, (J3 ⟨rfl, rfl, trivial⟩), ef, h1w⟩
 rintro _ _ ⟨σ5, Gh, rfl, eu, h1x⟩
 refine J2 (J2 (J1 ?_))
 refine Jsv (vi 0) rfl rfl ?_
 refine J0 (Jb ?_)
 obtain ⟨t6, h1y, hr⟩ := J6 hr
 have h1z := St.pick 1 rfl h1x
 have h20 := St.pick 1 rfl h1z
 refine Js 4 h1y (fun s2 ρ w => ∃ (σ6 : Env) (Gw : GH), ρ = En σ6 [(2, (pt b0 0)), (3, (pt b1 0)), (7, (vi ((s2 : Nat) : Int)))] ∧ Ext Gh Gw ∧ St B w Gw [.blk b0 [sa0_0, sa0_1, sa0_2] 61, .blk b1 [sa1_0, sa1_1, sa1_2] 61] ∧ InK .i64 ((s2 : Nat) : Int)) (fun t9 ρ w => ∃ (σ7 : Env) (Gx : GH), ρ = En σ7 [] ∧ Ext Gh Gx ∧ St B w Gx []) ⟨_, _, (J3 ⟨rfl, rfl, rfl, trivial⟩), (Ext.refl _), h20, (by rfl)⟩ ?_ ?_
 ·rintro s2 x8 _ _ hr ⟨σ6, Gw, rfl, ev, h21, f2b⟩
  refine J2 (J2 (J1 ?_))
  refine Jmv (vi ((s2 : Nat) : Int)) rfl rfl ?_
  refine Jfa 2 2 underlying61 rfl ti59 rfl rfl rfl rfl ?_
  refine Jlb [] sa0_2 ti59 h21 rfl rfl rfl ?_
  refine Jd (T := TData) underlying59 (SRep.mono (e0.ro.trans (e1.ro.trans (ee.ro.trans (eu.ro.trans ev.ro)))) ha0_2) rfl rfl ?_
  refine Ji rfl rfl rfl ?_
  refine J0 ?_
  refine J7 rfl (fun h22 => ?_) (fun h22 => ?_)
  ·replace hr := Jx hr h22
   refine J9 (J2 (Jb (J2 ?_)))
   obtain ⟨x4, h23, hr⟩ := J6 hr
   obtain ⟨x5, h24, hr⟩ := J6 hr
   refine Ye 10 [some 77, some 78, some 79, some 80, some 81, some 82, some 83, some 84, some 85, some 86] (pk [(fun G_ v_ => v_ = (pt b0 2)), (fun G_ v_ => v_ = sa0_2), (fun G_ v_ => v_ = (vi ((s2 : Nat) : Int))), (fun G_ v_ => ∃ (be : Nat) (bf : Nat) (vr : Value) (vt : Value), v_ = (pt be bf) ∧ InK .i64 x4.Kind ∧ SRep 2 (tInt .i64) G_ vr x4.Words ∧ SRep 133 TReloc G_ vt x4.Relocs ∧ LiesG G_ be bf [(vi x4.Kind), vr, vt]), (fun G_ v_ => ∃ (vu : Value) (vv : Value), v_ = (.agg #[(vi x4.Kind), vu, vv]) ∧ InK .i64 x4.Kind ∧ SRep 2 (tInt .i64) G_ vu x4.Words ∧ SRep 133 TReloc G_ vv x4.Relocs), (fun G_ v_ => v_ = (pt b1 2)), (fun G_ v_ => v_ = sa1_2), (fun G_ v_ => v_ = (vi ((s2 : Nat) : Int))), (fun G_ v_ => ∃ (bg : Nat) (bh : Nat) (vw : Value) (vx : Value), v_ = (pt bg bh) ∧ InK .i64 x5.Kind ∧ SRep 2 (tInt .i64) G_ vw x5.Words ∧ SRep 133 TReloc G_ vx x5.Relocs ∧ LiesG G_ bg bh [(vi x5.Kind), vw, vx]), (fun G_ v_ => ∃ (vy : Value) (vz : Value), v_ = (.agg #[(vi x5.Kind), vy, vz]) ∧ InK .i64 x5.Kind ∧ SRep 2 (tInt .i64) G_ vy x5.Words ∧ SRep 133 TReloc G_ vz x5.Relocs)]) rfl (by kernel_rfl) rfl h21 ?_ ?_
   ·refine Each.cons ?_ (Each.cons ?_ (Each.cons ?_ (Each.cons ?_ (Each.cons ?_ (Each.cons ?_ (Each.cons ?_ (Each.cons ?_ (Each.cons ?_ (Each.cons ?_ Each.nil)))))))))
    ·intro q3 w5 Gy ew h25 h26 h27
     rw [J3 (ρ := q3) (l := [(2, (pt b0 0))]) ⟨(h26.1 2 (by decide)).trans rfl, trivial⟩]
     refine Jfa 2 2 underlying61 rfl ti59 rfl rfl rfl rfl ?_
     exact J0 (J4 (Ext.refl _) h25 fun Gz ex => rfl)
    ·intro q3 w5 Gy ew h25 h26 h27
     obtain ⟨hd0_, _⟩ := h27
     have hv77 := hd0_
     rw [J3 (ρ := q3) (l := [(77, (pt b0 2))]) ⟨hv77, trivial⟩]
     refine Jlb [] sa0_2 ti59 h25 rfl rfl rfl ?_
     exact J0 (J4 (Ext.refl _) h25 fun G10 ey => rfl)
    ·intro q3 w5 Gy ew h25 h26 h27
     rw [J3 (ρ := q3) (l := [(7, (vi ((s2 : Nat) : Int)))]) ⟨(h26.1 7 (by decide)).trans rfl, trivial⟩]
     refine Jmv (vi ((s2 : Nat) : Int)) rfl rfl ?_
     exact J0 (J4 (Ext.refl _) h25 fun G11 ez => rfl)
    ·intro q3 w5 Gy ew h25 h26 h27
     obtain ⟨hd0_, hd1_, _⟩ := h27
     have hv78 := hd0_
     have hv79 := hd1_
     rw [J3 (ρ := q3) (l := [(78, sa0_2), (79, (vi ((s2 : Nat) : Int)))]) ⟨hv78, hv79, trivial⟩]
     refine Jh (T := TData) underlying59 ti49 h25 (SRep.mono (e0.ro.trans (e1.ro.trans (ee.ro.trans (eu.ro.trans (ev.ro.trans ew.ro))))) ha0_2) rfl rfl rfl h23 ?_
     intro bi o6 c4 l7 f2c
     obtain ⟨v10, v11, rfl, f2d, f2e, f2f⟩ := f2c
     exact J0 (J4 (Ext.refl _) h25 fun G12 e10 => ⟨bi, o6, v10, v11, rfl, f2d, (SRep.mono e10.ro f2e), (SRep.mono e10.ro f2f), (LiesG.mono e10.ro l7)⟩)
    ·intro q3 w5 Gy ew h25 h26 h27
     obtain ⟨hd0_, _⟩ := h27
     obtain ⟨be, bf, vr, vt, hv80, f2g, f2h, f2i, f2j⟩ := hd0_
     rw [J3 (ρ := q3) (l := [(80, (pt be bf))]) ⟨hv80, trivial⟩]
     refine Jy ti49 rfl rfl (LiesG.lies f2j h25) (Nat.le_of_ble_eq_true rfl) ?_
     change WL _ _ _ _ _ _ (upd _ _ (.agg #[(vi x4.Kind), vr, vt])) _
     exact J0 (J4 (Ext.refl _) h25 fun G13 e11 => ⟨vr, vt, rfl, f2g, (SRep.mono e11.ro f2h), (SRep.mono e11.ro f2i)⟩)
    ·intro q3 w5 Gy ew h25 h26 h27
     rw [J3 (ρ := q3) (l := [(3, (pt b1 0))]) ⟨(h26.1 3 (by decide)).trans rfl, trivial⟩]
     refine Jfa 2 2 underlying61 rfl ti59 rfl rfl rfl rfl ?_
     exact J0 (J4 (Ext.refl _) h25 fun G14 e12 => rfl)
    ·intro q3 w5 Gy ew h25 h26 h27
     obtain ⟨hd0_, _⟩ := h27
     have hv82 := hd0_
     rw [J3 (ρ := q3) (l := [(82, (pt b1 2))]) ⟨hv82, trivial⟩]
     refine Jlb [_] sa1_2 ti59 h25 rfl rfl rfl ?_
     exact J0 (J4 (Ext.refl _) h25 fun G15 e13 => rfl)
    ·intro q3 w5 Gy ew h25 h26 h27
     rw [J3 (ρ := q3) (l := [(7, (vi ((s2 : Nat) : Int)))]) ⟨(h26.1 7 (by decide)).trans rfl, trivial⟩]
     refine Jmv (vi ((s2 : Nat) : Int)) rfl rfl ?_
     exact J0 (J4 (Ext.refl _) h25 fun G16 e14 => rfl)
    ·intro q3 w5 Gy ew h25 h26 h27
     obtain ⟨hd0_, hd1_, _⟩ := h27
     have hv83 := hd0_
     have hv84 := hd1_
     rw [J3 (ρ := q3) (l := [(83, sa1_2), (84, (vi ((s2 : Nat) : Int)))]) ⟨hv83, hv84, trivial⟩]
     refine Jh (T := TData) underlying59 ti49 h25 (SRep.mono (e0.ro.trans (e1.ro.trans (ee.ro.trans (eu.ro.trans (ev.ro.trans ew.ro))))) ha1_2) rfl rfl rfl h24 ?_
     intro bj o7 c5 l8 f2k
     obtain ⟨v12, v13, rfl, f2l, f2m, f2n⟩ := f2k
     exact J0 (J4 (Ext.refl _) h25 fun G17 e15 => ⟨bj, o7, v12, v13, rfl, f2l, (SRep.mono e15.ro f2m), (SRep.mono e15.ro f2n), (LiesG.mono e15.ro l8)⟩)
    intro q3 w5 Gy ew h25 h26 h27
    obtain ⟨hd0_, _⟩ := h27
    obtain ⟨bg, bh, vw, vx, hv85, f2o, f2p, f2q, f2r⟩ := hd0_
    rw [J3 (ρ := q3) (l := [(85, (pt bg bh))]) ⟨hv85, trivial⟩]
    refine Jy ti49 rfl rfl (LiesG.lies f2r h25) (Nat.le_of_ble_eq_true rfl) ?_
    change WL _ _ _ _ _ _ (upd _ _ (.agg #[(vi x5.Kind), vw, vx])) _
    exact J0 (J4 (Ext.refl _) h25 fun G18 e16 => ⟨vw, vx, rfl, f2o, (SRep.mono e16.ro f2p), (SRep.mono e16.ro f2q)⟩)
   intro q3 w5 Gy ew h25 h26 h27
   obtain ⟨vu, vv, hv81, f2s, f2t, f2u⟩ := h27 4 (by decide)
   obtain ⟨vy, vz, hv86, f2v, f2w, f2x⟩ := h27 9 (by decide)
   rw [J3 (ρ := q3) (l := [(2, (pt b0 0)), (3, (pt b1 0)), (7, (vi ((s2 : Nat) : Int))), (81, (.agg #[(vi x4.Kind), vu, vv])), (86, (.agg #[(vi x5.Kind), vy, vz]))]) ⟨(h26.1 2 (by decide)).trans rfl, (h26.1 3 (by decide)).trans rfl, (h26.1 7 (by decide)).trans rfl, hv81, hv86, trivial⟩]
   obtain ⟨t1, h28, hr⟩ := J6 hr
   refine J8 (f := 44) (av := [(.agg #[(vi x4.Kind), vu, vv]), (.agg #[(vi x5.Kind), vy, vz])]) cf44 rfl rfl h25 rfl (fun G19 e17 h29 => sheerlegref15_Same.ok (a0 := x4) (a1 := x5) h29 (⟨vu, vv, rfl, f2s, (SRep.mono e17.ro f2t), (SRep.mono e17.ro f2u)⟩) (⟨vy, vz, rfl, f2v, (SRep.mono e17.ro f2w), (SRep.mono e17.ro f2x)⟩) h28) ?_
   rintro v14 w6 G1a G1b N1 e18 q4 ⟨rfl, rfl⟩ h2a
   refine Yc rfl rfl ?_
   refine J0 ?_
   refine J7 rfl (fun h => nomatch h) (fun _ => ?_)
   refine J9 (J1 ?_)
   refine Jmv (vi ((s2 : Nat) : Int)) rfl rfl ?_
   refine Y2 rfl rfl rfl (of_decide_eq_true h22) (inK_len (SRep.le (SRep.mono (e0.ro.trans (e1.ro.trans (ee.ro.trans (eu.ro.trans ev.ro)))) ha0_2))) ?_
   refine Jsv (vi ((s2 + 1 : Nat) : Int)) rfl rfl ?_
   refine J0 ?_
   have h2b := St.pick 1 rfl h2a
   have h2c := St.pick 1 rfl h2b
   exact ⟨_, (Option.some.inj hr).symm, _, _, (J3 ⟨rfl, rfl, rfl, trivial⟩), (ev.trans (ew.trans e18)), h2c, (inK_inc (of_decide_eq_true h22) (inK_len (SRep.le (SRep.mono (e0.ro.trans (e1.ro.trans (ee.ro.trans (eu.ro.trans ev.ro)))) ha0_2))))⟩
  replace hr := Jf hr h22
  refine Jr ?_
  have h2d := St.takeN 0 h21
  exact ⟨_, (Option.some.inj hr).symm, rfl, _, _, rfl, ev, h2d⟩
 rintro _ _ ⟨σ7, Gx, rfl, e19, h2e⟩
 refine J2 (J1 ?_)
 refine Jsv (.bool true) rfl rfl ?_
 refine J0 (Jg ?_)
 obtain rfl := Option.some.inj hr
 exact ⟨[(.bool true)], ⟨rfl, trivial⟩, _, _, _, rfl, (e0.trans (e1.trans (ee.trans (eu.trans e19)))), h2e, ⟨rfl, rfl⟩⟩
end Go.Proofs.YtnglgjgflohkmaaGreat.Sk
