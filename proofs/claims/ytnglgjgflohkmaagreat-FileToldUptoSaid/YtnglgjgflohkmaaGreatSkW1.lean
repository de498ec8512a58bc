/- Walks, printed by gen.py. No condition. -/
import Derived.Test.YtnglgjgflohkmaaGreatSkTy
namespace Go.Proofs.YtnglgjgflohkmaaGreat.Sk
open Go Go.Proofs.Tryz
set_option linter.unusedVariables false
set_option linter.unusedSimpArgs false
variable {B w : World} {G : GH}
set_option linter.unusedVariables false
set_option maxHeartbeats 4000000
set_option maxRecDepth 100000
def sheerlegref16_Few.f (a0 : XFunc) : Option (Bool) :=
 (bif decide ((a0.Kinds.length : Int) ≤ 100) then some (decide ((a0.Lines.length : Int) ≤ 100)) else some false).bind fun t0 => (bif t0 then some (decide ((a0.Code.length : Int) ≤ 100)) else some false).bind fun t1 => (bif t1 then some (decide ((a0.Relocs.length : Int) ≤ 100)) else some false).bind fun t2 => some t2
def sheerlegref16_Few.K (r : Bool) (G41 : GH) (v : Value) (N : List Res) : Prop := v = tup [(.bool r)] ∧ N = []
theorem sheerlegref16_Few.ok {ca0 : List Value} {a0 : XFunc} (st : St B w G []) (ha0 : TFunc.rep G ca0 a0) {r : Bool} (hr : sheerlegref16_Few.f a0 = some r) :
 Calls Tryz.prog 55 ([(.agg ca0.toArray)] : List Value).toArray w (Ret B G (sheerlegref16_Few.K r)) := by
 obtain ⟨sa0_1, sa0_6, sa0_7, sa0_8, rfl, ha0_0, ha0_1, ha0_2, ha0_4, ha0_5, ha0_6, ha0_7, ha0_8⟩ := ha0
 refine Jc [.tmp 2] func55 rfl ntmps55 rfl rfl ?_
 refine J2 (J1 ?_)
 refine Ju (cs := [(vi a0.Class), sa0_1, (vi a0.Pad), (.bool a0.Nosplit), (vi a0.From), (vi a0.To), sa0_6, sa0_7, sa0_8]) st rfl rfl rfl ?_
 intro b0 w0 h0
 refine Jsv (.bool false) rfl rfl ?_
 refine J0 (J2 (J1 ?_))
 refine Jfa 1 1 underlying44 rfl ti39 rfl rfl rfl rfl ?_
 refine Jlb [] sa0_1 ti39 h0 rfl rfl rfl ?_
 refine Jd (T := (tInt .i64)) underlying39 ha0_1 rfl rfl ?_
 refine WL_leq rfl rfl rfl ?_
 refine Jmv (.bool (decide ((a0.Kinds.length : Int) ≤ 100))) rfl rfl ?_
 obtain ⟨t0, hr, o0⟩ := J6 hr
 refine Jw 5 (fun ρ w => ∃ (σ0 : Env) (G0 : GH), ρ = En σ0 [(1, (pt b0 0)), (2, (.bool false)), (12, (.bool t0))] ∧ Ext G G0 ∧ St B w G0 [.blk b0 [(vi a0.Class), sa0_1, (vi a0.Pad), (.bool a0.Nosplit), (vi a0.From), (vi a0.To), sa0_6, sa0_7, sa0_8] 44]) ?_ ?_
 ·rcases Y8 (decide ((a0.Kinds.length : Int) ≤ 100)) with hb_ | hb_
  ·have h1 : (decide ((a0.Kinds.length : Int) ≤ 100)) = true := hb_
   replace hr := Jx hr h1
   refine Ja rfl rfl rfl rfl h1 ?_
   refine Jfa 6 6 underlying44 rfl ti40 rfl rfl rfl rfl ?_
   refine Ja rfl rfl rfl rfl h1 ?_
   refine Jlb [] sa0_6 ti40 h0 rfl rfl rfl ?_
   refine Ja rfl rfl rfl rfl h1 ?_
   refine Jd (T := TLine) underlying40 ha0_6 rfl rfl ?_
   refine Ja rfl rfl rfl rfl h1 ?_
   refine WL_leq rfl rfl rfl ?_
   refine Y9 (v := (.bool (decide ((a0.Lines.length : Int) ≤ 100)))) rfl rfl h1 rfl ?_
   refine J0 ?_
   obtain rfl := Option.some.inj hr
   exact ⟨_, _, (J3 ⟨rfl, rfl, rfl, trivial⟩), (Ext.refl _), h0⟩
  have h2 : (decide ((a0.Kinds.length : Int) ≤ 100)) = false := hb_
  replace hr := Jf hr h2
  refine Jv rfl rfl rfl rfl h2 ?_
  refine Jv rfl rfl rfl rfl h2 ?_
  refine Jv rfl rfl rfl rfl h2 ?_
  refine Jv rfl rfl rfl rfl h2 ?_
  refine Jt (v := (.bool false)) rfl rfl h2 rfl ?_
  refine J0 ?_
  obtain rfl := Option.some.inj hr
  exact ⟨_, _, (J3 ⟨rfl, rfl, rfl, trivial⟩), (Ext.refl _), h0⟩
 rintro _ _ ⟨σ0, G0, rfl, e0, h3⟩
 replace hr := o0
 refine Jmv (.bool t0) rfl rfl ?_
 obtain ⟨t1, hr, o1⟩ := J6 hr
 refine Jw 5 (fun ρ w => ∃ (σ1 : Env) (G1 : GH), ρ = En σ1 [(1, (pt b0 0)), (2, (.bool false)), (18, (.bool t1))] ∧ Ext G0 G1 ∧ St B w G1 [.blk b0 [(vi a0.Class), sa0_1, (vi a0.Pad), (.bool a0.Nosplit), (vi a0.From), (vi a0.To), sa0_6, sa0_7, sa0_8] 44]) ?_ ?_
 ·rcases Y8 (t0) with hb_ | hb_
  ·have h4 : (t0) = true := hb_
   replace hr := Jx hr h4
   refine Ja rfl rfl rfl rfl h4 ?_
   refine Jfa 7 7 underlying44 rfl ti41 rfl rfl rfl rfl ?_
   refine Ja rfl rfl rfl rfl h4 ?_
   refine Jlb [] sa0_7 ti41 h3 rfl rfl rfl ?_
   refine Ja rfl rfl rfl rfl h4 ?_
   refine Jd (T := TInstr) underlying41 (SRep.mono e0.ro ha0_7) rfl rfl ?_
   refine Ja rfl rfl rfl rfl h4 ?_
   refine WL_leq rfl rfl rfl ?_
   refine Y9 (v := (.bool (decide ((a0.Code.length : Int) ≤ 100)))) rfl rfl h4 rfl ?_
   refine J0 ?_
   obtain rfl := Option.some.inj hr
   exact ⟨_, _, (J3 ⟨rfl, rfl, rfl, trivial⟩), (Ext.refl _), h3⟩
  have h5 : (t0) = false := hb_
  replace hr := Jf hr h5
  refine Jv rfl rfl rfl rfl h5 ?_
  refine Jv rfl rfl rfl rfl h5 ?_
  refine Jv rfl rfl rfl rfl h5 ?_
  refine Jv rfl rfl rfl rfl h5 ?_
  refine Jt (v := (.bool false)) rfl rfl h5 rfl ?_
  refine J0 ?_
  obtain rfl := Option.some.inj hr
  exact ⟨_, _, (J3 ⟨rfl, rfl, rfl, trivial⟩), (Ext.refl _), h3⟩
 rintro _ _ ⟨σ1, G1, rfl, e1, h6⟩
 replace hr := o1
 refine Jmv (.bool t1) rfl rfl ?_
 obtain ⟨t2, hr, o2⟩ := J6 hr
 refine Jw 5 (fun ρ w => ∃ (σ2 : Env) (G2 : GH), ρ = En σ2 [(2, (.bool false)), (24, (.bool t2))] ∧ Ext G1 G2 ∧ St B w G2 []) ?_ ?_
 ·rcases Y8 (t1) with hb_ | hb_
  ·have h7 : (t1) = true := hb_
   replace hr := Jx hr h7
   refine Ja rfl rfl rfl rfl h7 ?_
   refine Jfa 8 8 underlying44 rfl ti42 rfl rfl rfl rfl ?_
   refine Ja rfl rfl rfl rfl h7 ?_
   refine Jlb [] sa0_8 ti42 h6 rfl rfl rfl ?_
   refine Ja rfl rfl rfl rfl h7 ?_
   refine Jd (T := TReloc) underlying42 (SRep.mono (e0.ro.trans e1.ro) ha0_8) rfl rfl ?_
   refine Ja rfl rfl rfl rfl h7 ?_
   refine WL_leq rfl rfl rfl ?_
   refine Y9 (v := (.bool (decide ((a0.Relocs.length : Int) ≤ 100)))) rfl rfl h7 rfl ?_
   refine J0 ?_
   have h8 := St.takeN 0 h6
   obtain rfl := Option.some.inj hr
   exact ⟨_, _, (J3 ⟨rfl, rfl, trivial⟩), (Ext.refl _), h8⟩
  have h9 : (t1) = false := hb_
  replace hr := Jf hr h9
  refine Jv rfl rfl rfl rfl h9 ?_
  refine Jv rfl rfl rfl rfl h9 ?_
  refine Jv rfl rfl rfl rfl h9 ?_
  refine Jv rfl rfl rfl rfl h9 ?_
  refine Jt (v := (.bool false)) rfl rfl h9 rfl ?_
  refine J0 ?_
  have h10 := St.takeN 0 h6
  obtain rfl := Option.some.inj hr
  exact ⟨_, _, (J3 ⟨rfl, rfl, trivial⟩), (Ext.refl _), h10⟩
 rintro _ _ ⟨σ2, G2, rfl, e2, h11⟩
 replace hr := o2
 refine Jsv (.bool t2) rfl rfl ?_
 refine J0 (Jg ?_)
 obtain rfl := Option.some.inj hr
 exact ⟨[(.bool t2)], ⟨rfl, trivial⟩, _, _, _, rfl, (e0.trans (e1.trans e2)), h11, ⟨rfl, rfl⟩⟩
def sig_Is.f (a0 : Int) : Option (Bool) :=
 (bif decide (a0 ≥ 0) then some (decide (a0 < 8)) else some false).bind fun t0 => some t0
def sig_Is.K (r : Bool) (G13 : GH) (v : Value) (N : List Res) : Prop := v = tup [(.bool r)] ∧ N = []
theorem sig_Is.ok {a0 : Int} (st : St B w G []) (ha0 : InK .i64 a0) {r : Bool} (hr : sig_Is.f a0 = some r) :
 Calls Tryz.prog 54 ([(vi a0)] : List Value).toArray w (Ret B G (sig_Is.K r)) := by
 refine Jc [.tmp 2] func54 rfl ntmps54 rfl rfl ?_
 refine J2 (J1 ?_)
 refine Jsv (.bool false) rfl rfl ?_
 refine J0 (J2 (J1 ?_))
 refine Jmv (vi a0) rfl rfl ?_
 refine Yk rfl rfl rfl ?_
 refine Jmv (.bool (decide (a0 ≥ 0))) rfl rfl ?_
 obtain ⟨t0, hr, o0⟩ := J6 hr
 refine Jw 3 (fun ρ w => ∃ (σ0 : Env) (G0 : GH), ρ = En σ0 [(2, (.bool false)), (8, (.bool t0))] ∧ Ext G G0 ∧ St B w G0 []) ?_ ?_
 ·rcases Y8 (decide (a0 ≥ 0)) with hb_ | hb_
  ·have h0 : (decide (a0 ≥ 0)) = true := hb_
   replace hr := Jx hr h0
   refine Ja rfl rfl rfl rfl h0 ?_
   refine Jmv (vi a0) rfl rfl ?_
   refine Ja rfl rfl rfl rfl h0 ?_
   refine Ji rfl rfl rfl ?_
   refine Y9 (v := (.bool (decide (a0 < 8)))) rfl rfl h0 rfl ?_
   refine J0 ?_
   obtain rfl := Option.some.inj hr
   exact ⟨_, _, (J3 ⟨rfl, rfl, trivial⟩), (Ext.refl _), st⟩
  have h1 : (decide (a0 ≥ 0)) = false := hb_
  replace hr := Jf hr h1
  refine Jv rfl rfl rfl rfl h1 ?_
  refine Jv rfl rfl rfl rfl h1 ?_
  refine Jt (v := (.bool false)) rfl rfl h1 rfl ?_
  refine J0 ?_
  obtain rfl := Option.some.inj hr
  exact ⟨_, _, (J3 ⟨rfl, rfl, trivial⟩), (Ext.refl _), st⟩
 rintro _ _ ⟨σ0, G0, rfl, e0, h2⟩
 replace hr := o0
 refine Jsv (.bool t0) rfl rfl ?_
 refine J0 (Jg ?_)
 obtain rfl := Option.some.inj hr
 exact ⟨[(.bool t0)], ⟨rfl, trivial⟩, _, _, _, rfl, e0, h2, ⟨rfl, rfl⟩⟩
def object_when.f (a0 : Bool) (a1 : Int) : Option (Unit) :=
 bif a0 then none else some ()
def object_when.K (r : Unit) (G3 : GH) (v : Value) (N : List Res) : Prop := v = tup [(vi 0)] ∧ N = []
theorem object_when.ok {a0 : Bool} {a1 : Int} (st : St B w G []) (ha1 : InK .i64 a1) {r : Unit} (hr : object_when.f a0 a1 = some r) :
 Calls Tryz.prog 142 ([(.bool a0), (vi a1)] : List Value).toArray w (Ret B G (object_when.K r)) := by
 refine Jc [.tmp 4] func142 rfl ntmps142 rfl rfl ?_
 refine J2 (J1 ?_)
 refine Jsv (vi 0) rfl rfl ?_
 refine J0 (J2 (J2 (J1 ?_)))
 refine Jmv (.bool a0) rfl rfl ?_
 refine J0 ?_
 refine J7 rfl (fun h0 => ?_) (fun h0 => ?_)
 ·exact Jk hr h0
 replace hr := Jf hr h0
 refine J9 (J2 (J1 ?_))
 refine Jsv (vi 0) rfl rfl ?_
 refine J0 (Jg ?_)
 obtain rfl := Option.some.inj hr
 exact ⟨[(vi 0)], ⟨rfl, trivial⟩, _, _, _, rfl, (Ext.refl _), st, ⟨rfl, rfl⟩⟩
def object_symbol_1.f (a0 : XSymbol) (a1_ : XSymbol) : Option (Bool) :=
 some (seq a0.Name a1_.Name)
def object_symbol_1.K (ba1 : Nat) (a1_ : XSymbol) (r : Bool) (G6 : GH) (v : Value) (N : List Res) : Prop := v = tup [(.bool r)] ∧ N = [.blk ba1 [(.string a1_.Name), (.bool a1_.Local), (vi a1_.Sort_), (vi a1_.Kind), (vi a1_.Def)] 82]
theorem object_symbol_1.ok {ca0 : List Value} {a0 : XSymbol} {ba1 : Nat} {ca1_ : List Value} {a1_ : XSymbol} (st : St B w G [.blk ba1 ca1_ 82]) (ha0 : TSymbol.rep G ca0 a0) (ha1_ : TSymbol.rep G ca1_ a1_) {r : Bool} (hr : object_symbol_1.f a0 a1_ = some r) :
 Calls Tryz.prog 139 ([(.agg ca0.toArray), (pt ba1 0)] : List Value).toArray w (Ret B G (object_symbol_1.K ba1 a1_ r)) := by
 obtain ⟨rfl, ha0_0, ha0_2, ha0_3, ha0_4⟩ := ha0
 obtain ⟨rfl, ha1__0, ha1__2, ha1__3, ha1__4⟩ := ha1_
 refine Jc [.tmp 3] func139 rfl ntmps139 rfl rfl ?_
 refine J2 (J1 ?_)
 refine Ju (cs := [(.string a0.Name), (.bool a0.Local), (vi a0.Sort_), (vi a0.Kind), (vi a0.Def)]) st rfl rfl rfl ?_
 intro b0 w0 h0
 refine Jsv (.bool false) rfl rfl ?_
 refine J0 (J2 (J1 ?_))
 refine Jfa 0 0 underlying82 rfl ti9 rfl rfl rfl rfl ?_
 refine Jlb [] (.string a0.Name) ti9 h0 rfl rfl rfl ?_
 refine Jfa 0 0 underlying82 rfl ti9 rfl rfl rfl rfl ?_
 refine Jlb [_] (.string a1_.Name) ti9 h0 rfl rfl rfl ?_
 refine WL_seql rfl rfl rfl ?_
 refine Jsv (.bool (seq a0.Name a1_.Name)) rfl rfl ?_
 refine J0 (Jg ?_)
 have h1 := St.pick 1 rfl h0
 have h2 := St.takeN 1 h1
 obtain rfl := Option.some.inj hr
 exact ⟨[(.bool (seq a0.Name a1_.Name))], ⟨rfl, trivial⟩, _, _, _, rfl, (Ext.refl _), h2, ⟨rfl, rfl⟩⟩
def object_first.l0 (a0 : (List Int)) (s0 : Nat) : Option (Step Nat Unit) :=
 bif decide (((s0 : Nat) : Int) < (a0.length : Int)) then (idx a0 ((s0 : Nat) : Int)).bind fun x0 => bif decide (x0 ≠ 0) then none else some (.next (s0 + 1)) else some (.done ())
def object_first.f (a0 : (List Int)) : Option (Unit) :=
 (loop (object_first.l0 a0) 0).bind fun t0 => some ()
def object_first.K (r : Unit) (G72 : GH) (v : Value) (N : List Res) : Prop := v = tup [(vi 0)] ∧ N = []
theorem object_first.ok {va0 : Value} {a0 : (List Int)} (st : St B w G []) (ha0 : SRep 29 (tInt .i64) G va0 a0) {r : Unit} (hr : object_first.f a0 = some r) :
 Calls Tryz.prog 140 ([va0] : List Value).toArray w (Ret B G (object_first.K r)) := by
 refine Jc [.tmp 2] func140 rfl ntmps140 rfl rfl ?_
 refine J2 (J1 ?_)
 refine Jsv (vi 0) rfl rfl ?_
 refine J0 (J2 (J2 (J1 ?_)))
 refine Jmv va0 rfl rfl ?_
 refine Jd (T := (tInt .i64)) underlying240 ha0 rfl rfl ?_
 refine Jmv (vi 0) rfl rfl ?_
 refine J0 (Jb ?_)
 obtain ⟨t0, h0, hr⟩ := J6 hr
 refine Js 0 h0 (fun s0 ρ w => ∃ (σ0 : Env) (G0 : GH), ρ = En σ0 [(5, va0), (6, (vi (a0.length : Int))), (7, (vi ((s0 : Nat) : Int)))] ∧ Ext G G0 ∧ St B w G0 [] ∧ InK .i64 ((s0 : Nat) : Int)) (fun t1 ρ w => ∃ (σ1 : Env) (G1 : GH), ρ = En σ1 [] ∧ Ext G G1 ∧ St B w G1 []) ⟨_, _, (J3 ⟨rfl, rfl, rfl, trivial⟩), (Ext.refl _), st, (by rfl)⟩ ?_ ?_
 ·rintro s0 x1 _ _ hr ⟨σ0, G0, rfl, e0, h1, f0⟩
  refine J2 (J1 ?_)
  refine Ji rfl rfl rfl ?_
  refine J0 (J2 ?_)
  refine J7 rfl (fun h2 => ?_) (fun h2 => ?_)
  ·replace hr := Jx hr h2
   refine J9 (J2 (Jb (J2 (J1 ?_))))
   obtain ⟨x0, h3, hr⟩ := J6 hr
   refine Jh (T := (tInt .i64)) underlying240 ti29 h1 (SRep.mono e0.ro ha0) rfl rfl rfl h3 ?_
   intro b0 o0 c0 l3 f1
   obtain ⟨rfl, f2⟩ := f1
   refine Y4 (v := (vi x0)) ti29 rfl rfl (LiesG.lies l3 h1) rfl ?_
   refine Jsv (vi x0) rfl rfl ?_
   refine J0 (J2 (J1 ?_))
   refine Jmv (vi x0) rfl rfl ?_
   refine Y1 rfl rfl rfl ?_
   refine J0 ?_
   refine J7 rfl (fun h4 => ?_) (fun h4 => ?_)
   ·exact Jk hr h4
   replace hr := Jf hr h4
   refine J9 (J1 ?_)
   refine Y2 rfl rfl rfl (of_decide_eq_true h2) (inK_len (SRep.le ha0)) ?_
   refine Jmv (vi ((s0 + 1 : Nat) : Int)) rfl rfl ?_
   refine J0 ?_
   exact ⟨_, (Option.some.inj hr).symm, _, _, (J3 ⟨rfl, rfl, rfl, trivial⟩), e0, h1, (inK_inc (of_decide_eq_true h2) (inK_len (SRep.le ha0)))⟩
  replace hr := Jf hr h2
  refine Jr ?_
  exact ⟨_, (Option.some.inj hr).symm, rfl, _, _, rfl, e0, h1⟩
 rintro _ _ ⟨σ1, G1, rfl, e1, h5⟩
 refine J2 (J1 ?_)
 refine Jsv (vi 0) rfl rfl ?_
 refine J0 (Jg ?_)
 obtain rfl := Option.some.inj hr
 exact ⟨[(vi 0)], ⟨rfl, trivial⟩, _, _, _, rfl, e1, h5, ⟨rfl, rfl⟩⟩
def op_names.f : Option ((List ByteArray)) :=
 some [({data := #[110, 111, 112]} : ByteArray), ({data := #[115, 101, 116]} : ByteArray), ({data := #[109, 111, 118, 101]} : ByteArray), ({data := #[97, 100, 100]} : ByteArray), ({data := #[115, 117, 98]} : ByteArray), ({data := #[109, 117, 108]} : ByteArray), ({data := #[100, 105, 118]} : ByteArray), ({data := #[109, 111, 100]} : ByteArray), ({data := #[108, 101, 115, 115]} : ByteArray), ({data := #[115, 97, 109, 101]} : ByteArray), ({data := #[106, 117, 109, 112]} : ByteArray), ({data := #[122, 101, 114, 111]} : ByteArray), ({data := #[105, 110]} : ByteArray), ({data := #[111, 117, 116]} : ByteArray), ({data := #[108, 111, 97, 100]} : ByteArray), ({data := #[115, 116, 111, 114, 101]} : ByteArray), ({data := #[102, 117, 110, 99]} : ByteArray), ({data := #[112, 105, 99, 107]} : ByteArray), ({data := #[99, 97, 108, 108]} : ByteArray), ({data := #[118, 105, 97]} : ByteArray), ({data := #[100, 101, 102, 101, 114]} : ByteArray), ({data := #[112, 97, 110, 105, 99]} : ByteArray), ({data := #[114, 101, 99, 111, 118, 101, 114]} : ByteArray), ({data := #[114, 101, 116, 117, 114, 110]} : ByteArray), ({data := #[99, 104, 101, 99, 107]} : ByteArray), ({data := #[101, 110, 116, 101, 114]} : ByteArray), ({data := #[98, 111, 116, 116, 111, 109]} : ByteArray), ({data := #[100, 114, 105, 118, 101, 114]} : ByteArray)]
def op_names.K (r : (List ByteArray)) (G10 : GH) (v : Value) (N : List Res) : Prop := ∃ (c14 : List Value), v = tup [(.agg c14.toArray)] ∧ N = [] ∧ EAll tStr G10 c14 r ∧ c14.length = 28
theorem op_names.ok (st : St B w G []) {r : (List ByteArray)} (hr : op_names.f = some r) :
 Calls Tryz.prog 241 ([] : List Value).toArray w (Ret B G (op_names.K r)) := by
 refine Jc [.cell 0 276] func241 rfl ntmps241 rfl rfl ?_
 refine J2 (J1 ?_)
 refine Jo ti276 st rfl ?_
 intro b0 w0 h0
 have f0 : EAll tStr G [(.string (⟨#[]⟩ : ByteArray)), (.string (⟨#[]⟩ : ByteArray)), (.string (⟨#[]⟩ : ByteArray)), (.string (⟨#[]⟩ : ByteArray)), (.string (⟨#[]⟩ : ByteArray)), (.string (⟨#[]⟩ : ByteArray)), (.string (⟨#[]⟩ : ByteArray)), (.string (⟨#[]⟩ : ByteArray)), (.string (⟨#[]⟩ : ByteArray)), (.string (⟨#[]⟩ : ByteArray)), (.string (⟨#[]⟩ : ByteArray)), (.string (⟨#[]⟩ : ByteArray)), (.string (⟨#[]⟩ : ByteArray)), (.string (⟨#[]⟩ : ByteArray)), (.string (⟨#[]⟩ : ByteArray)), (.string (⟨#[]⟩ : ByteArray)), (.string (⟨#[]⟩ : ByteArray)), (.string (⟨#[]⟩ : ByteArray)), (.string (⟨#[]⟩ : ByteArray)), (.string (⟨#[]⟩ : ByteArray)), (.string (⟨#[]⟩ : ByteArray)), (.string (⟨#[]⟩ : ByteArray)), (.string (⟨#[]⟩ : ByteArray)), (.string (⟨#[]⟩ : ByteArray)), (.string (⟨#[]⟩ : ByteArray)), (.string (⟨#[]⟩ : ByteArray)), (.string (⟨#[]⟩ : ByteArray)), (.string (⟨#[]⟩ : ByteArray))] [(⟨#[]⟩ : ByteArray), (⟨#[]⟩ : ByteArray), (⟨#[]⟩ : ByteArray), (⟨#[]⟩ : ByteArray), (⟨#[]⟩ : ByteArray), (⟨#[]⟩ : ByteArray), (⟨#[]⟩ : ByteArray), (⟨#[]⟩ : ByteArray), (⟨#[]⟩ : ByteArray), (⟨#[]⟩ : ByteArray), (⟨#[]⟩ : ByteArray), (⟨#[]⟩ : ByteArray), (⟨#[]⟩ : ByteArray), (⟨#[]⟩ : ByteArray), (⟨#[]⟩ : ByteArray), (⟨#[]⟩ : ByteArray), (⟨#[]⟩ : ByteArray), (⟨#[]⟩ : ByteArray), (⟨#[]⟩ : ByteArray), (⟨#[]⟩ : ByteArray), (⟨#[]⟩ : ByteArray), (⟨#[]⟩ : ByteArray), (⟨#[]⟩ : ByteArray), (⟨#[]⟩ : ByteArray), (⟨#[]⟩ : ByteArray), (⟨#[]⟩ : ByteArray), (⟨#[]⟩ : ByteArray), (⟨#[]⟩ : ByteArray)] := ⟨_, _, rfl, ⟨rfl, (Nat.le_of_ble_eq_true rfl)⟩, ⟨_, _, rfl, ⟨rfl, (Nat.le_of_ble_eq_true rfl)⟩, ⟨_, _, rfl, ⟨rfl, (Nat.le_of_ble_eq_true rfl)⟩, ⟨_, _, rfl, ⟨rfl, (Nat.le_of_ble_eq_true rfl)⟩, ⟨_, _, rfl, ⟨rfl, (Nat.le_of_ble_eq_true rfl)⟩, ⟨_, _, rfl, ⟨rfl, (Nat.le_of_ble_eq_true rfl)⟩, ⟨_, _, rfl, ⟨rfl, (Nat.le_of_ble_eq_true rfl)⟩, ⟨_, _, rfl, ⟨rfl, (Nat.le_of_ble_eq_true rfl)⟩, ⟨_, _, rfl, ⟨rfl, (Nat.le_of_ble_eq_true rfl)⟩, ⟨_, _, rfl, ⟨rfl, (Nat.le_of_ble_eq_true rfl)⟩, ⟨_, _, rfl, ⟨rfl, (Nat.le_of_ble_eq_true rfl)⟩, ⟨_, _, rfl, ⟨rfl, (Nat.le_of_ble_eq_true rfl)⟩, ⟨_, _, rfl, ⟨rfl, (Nat.le_of_ble_eq_true rfl)⟩, ⟨_, _, rfl, ⟨rfl, (Nat.le_of_ble_eq_true rfl)⟩, ⟨_, _, rfl, ⟨rfl, (Nat.le_of_ble_eq_true rfl)⟩, ⟨_, _, rfl, ⟨rfl, (Nat.le_of_ble_eq_true rfl)⟩, ⟨_, _, rfl, ⟨rfl, (Nat.le_of_ble_eq_true rfl)⟩, ⟨_, _, rfl, ⟨rfl, (Nat.le_of_ble_eq_true rfl)⟩, ⟨_, _, rfl, ⟨rfl, (Nat.le_of_ble_eq_true rfl)⟩, ⟨_, _, rfl, ⟨rfl, (Nat.le_of_ble_eq_true rfl)⟩, ⟨_, _, rfl, ⟨rfl, (Nat.le_of_ble_eq_true rfl)⟩, ⟨_, _, rfl, ⟨rfl, (Nat.le_of_ble_eq_true rfl)⟩, ⟨_, _, rfl, ⟨rfl, (Nat.le_of_ble_eq_true rfl)⟩, ⟨_, _, rfl, ⟨rfl, (Nat.le_of_ble_eq_true rfl)⟩, ⟨_, _, rfl, ⟨rfl, (Nat.le_of_ble_eq_true rfl)⟩, ⟨_, _, rfl, ⟨rfl, (Nat.le_of_ble_eq_true rfl)⟩, ⟨_, _, rfl, ⟨rfl, (Nat.le_of_ble_eq_true rfl)⟩, ⟨_, _, rfl, ⟨rfl, (Nat.le_of_ble_eq_true rfl)⟩, rfl⟩⟩⟩⟩⟩⟩⟩⟩⟩⟩⟩⟩⟩⟩⟩⟩⟩⟩⟩⟩⟩⟩⟩⟩⟩⟩⟩⟩
 refine J0 (J2 (J1 ?_))
 refine Y0 (cells := [(.string ({data := #[110, 111, 112]} : ByteArray)), (.string ({data := #[115, 101, 116]} : ByteArray)), (.string ({data := #[109, 111, 118, 101]} : ByteArray)), (.string ({data := #[97, 100, 100]} : ByteArray)), (.string ({data := #[115, 117, 98]} : ByteArray)), (.string ({data := #[109, 117, 108]} : ByteArray)), (.string ({data := #[100, 105, 118]} : ByteArray)), (.string ({data := #[109, 111, 100]} : ByteArray)), (.string ({data := #[108, 101, 115, 115]} : ByteArray)), (.string ({data := #[115, 97, 109, 101]} : ByteArray)), (.string ({data := #[106, 117, 109, 112]} : ByteArray)), (.string ({data := #[122, 101, 114, 111]} : ByteArray)), (.string ({data := #[105, 110]} : ByteArray)), (.string ({data := #[111, 117, 116]} : ByteArray)), (.string ({data := #[108, 111, 97, 100]} : ByteArray)), (.string ({data := #[115, 116, 111, 114, 101]} : ByteArray)), (.string ({data := #[102, 117, 110, 99]} : ByteArray)), (.string ({data := #[112, 105, 99, 107]} : ByteArray)), (.string ({data := #[99, 97, 108, 108]} : ByteArray)), (.string ({data := #[118, 105, 97]} : ByteArray)), (.string ({data := #[100, 101, 102, 101, 114]} : ByteArray)), (.string ({data := #[112, 97, 110, 105, 99]} : ByteArray)), (.string ({data := #[114, 101, 99, 111, 118, 101, 114]} : ByteArray)), (.string ({data := #[114, 101, 116, 117, 114, 110]} : ByteArray)), (.string ({data := #[99, 104, 101, 99, 107]} : ByteArray)), (.string ({data := #[101, 110, 116, 101, 114]} : ByteArray)), (.string ({data := #[98, 111, 116, 116, 111, 109]} : ByteArray)), (.string ({data := #[100, 114, 105, 118, 101, 114]} : ByteArray))].toArray) rfl (by kernel_rfl) ?_
 have f1 : EAll tStr G [(.string ({data := #[110, 111, 112]} : ByteArray)), (.string ({data := #[115, 101, 116]} : ByteArray)), (.string ({data := #[109, 111, 118, 101]} : ByteArray)), (.string ({data := #[97, 100, 100]} : ByteArray)), (.string ({data := #[115, 117, 98]} : ByteArray)), (.string ({data := #[109, 117, 108]} : ByteArray)), (.string ({data := #[100, 105, 118]} : ByteArray)), (.string ({data := #[109, 111, 100]} : ByteArray)), (.string ({data := #[108, 101, 115, 115]} : ByteArray)), (.string ({data := #[115, 97, 109, 101]} : ByteArray)), (.string ({data := #[106, 117, 109, 112]} : ByteArray)), (.string ({data := #[122, 101, 114, 111]} : ByteArray)), (.string ({data := #[105, 110]} : ByteArray)), (.string ({data := #[111, 117, 116]} : ByteArray)), (.string ({data := #[108, 111, 97, 100]} : ByteArray)), (.string ({data := #[115, 116, 111, 114, 101]} : ByteArray)), (.string ({data := #[102, 117, 110, 99]} : ByteArray)), (.string ({data := #[112, 105, 99, 107]} : ByteArray)), (.string ({data := #[99, 97, 108, 108]} : ByteArray)), (.string ({data := #[118, 105, 97]} : ByteArray)), (.string ({data := #[100, 101, 102, 101, 114]} : ByteArray)), (.string ({data := #[112, 97, 110, 105, 99]} : ByteArray)), (.string ({data := #[114, 101, 99, 111, 118, 101, 114]} : ByteArray)), (.string ({data := #[114, 101, 116, 117, 114, 110]} : ByteArray)), (.string ({data := #[99, 104, 101, 99, 107]} : ByteArray)), (.string ({data := #[101, 110, 116, 101, 114]} : ByteArray)), (.string ({data := #[98, 111, 116, 116, 111, 109]} : ByteArray)), (.string ({data := #[100, 114, 105, 118, 101, 114]} : ByteArray))] [({data := #[110, 111, 112]} : ByteArray), ({data := #[115, 101, 116]} : ByteArray), ({data := #[109, 111, 118, 101]} : ByteArray), ({data := #[97, 100, 100]} : ByteArray), ({data := #[115, 117, 98]} : ByteArray), ({data := #[109, 117, 108]} : ByteArray), ({data := #[100, 105, 118]} : ByteArray), ({data := #[109, 111, 100]} : ByteArray), ({data := #[108, 101, 115, 115]} : ByteArray), ({data := #[115, 97, 109, 101]} : ByteArray), ({data := #[106, 117, 109, 112]} : ByteArray), ({data := #[122, 101, 114, 111]} : ByteArray), ({data := #[105, 110]} : ByteArray), ({data := #[111, 117, 116]} : ByteArray), ({data := #[108, 111, 97, 100]} : ByteArray), ({data := #[115, 116, 111, 114, 101]} : ByteArray), ({data := #[102, 117, 110, 99]} : ByteArray), ({data := #[112, 105, 99, 107]} : ByteArray), ({data := #[99, 97, 108, 108]} : ByteArray), ({data := #[118, 105, 97]} : ByteArray), ({data := #[100, 101, 102, 101, 114]} : ByteArray), ({data := #[112, 97, 110, 105, 99]} : ByteArray), ({data := #[114, 101, 99, 111, 118, 101, 114]} : ByteArray), ({data := #[114, 101, 116, 117, 114, 110]} : ByteArray), ({data := #[99, 104, 101, 99, 107]} : ByteArray), ({data := #[101, 110, 116, 101, 114]} : ByteArray), ({data := #[98, 111, 116, 116, 111, 109]} : ByteArray), ({data := #[100, 114, 105, 118, 101, 114]} : ByteArray)] := ⟨_, _, rfl, ⟨rfl, (Nat.le_of_ble_eq_true rfl)⟩, ⟨_, _, rfl, ⟨rfl, (Nat.le_of_ble_eq_true rfl)⟩, ⟨_, _, rfl, ⟨rfl, (Nat.le_of_ble_eq_true rfl)⟩, ⟨_, _, rfl, ⟨rfl, (Nat.le_of_ble_eq_true rfl)⟩, ⟨_, _, rfl, ⟨rfl, (Nat.le_of_ble_eq_true rfl)⟩, ⟨_, _, rfl, ⟨rfl, (Nat.le_of_ble_eq_true rfl)⟩, ⟨_, _, rfl, ⟨rfl, (Nat.le_of_ble_eq_true rfl)⟩, ⟨_, _, rfl, ⟨rfl, (Nat.le_of_ble_eq_true rfl)⟩, ⟨_, _, rfl, ⟨rfl, (Nat.le_of_ble_eq_true rfl)⟩, ⟨_, _, rfl, ⟨rfl, (Nat.le_of_ble_eq_true rfl)⟩, ⟨_, _, rfl, ⟨rfl, (Nat.le_of_ble_eq_true rfl)⟩, ⟨_, _, rfl, ⟨rfl, (Nat.le_of_ble_eq_true rfl)⟩, ⟨_, _, rfl, ⟨rfl, (Nat.le_of_ble_eq_true rfl)⟩, ⟨_, _, rfl, ⟨rfl, (Nat.le_of_ble_eq_true rfl)⟩, ⟨_, _, rfl, ⟨rfl, (Nat.le_of_ble_eq_true rfl)⟩, ⟨_, _, rfl, ⟨rfl, (Nat.le_of_ble_eq_true rfl)⟩, ⟨_, _, rfl, ⟨rfl, (Nat.le_of_ble_eq_true rfl)⟩, ⟨_, _, rfl, ⟨rfl, (Nat.le_of_ble_eq_true rfl)⟩, ⟨_, _, rfl, ⟨rfl, (Nat.le_of_ble_eq_true rfl)⟩, ⟨_, _, rfl, ⟨rfl, (Nat.le_of_ble_eq_true rfl)⟩, ⟨_, _, rfl, ⟨rfl, (Nat.le_of_ble_eq_true rfl)⟩, ⟨_, _, rfl, ⟨rfl, (Nat.le_of_ble_eq_true rfl)⟩, ⟨_, _, rfl, ⟨rfl, (Nat.le_of_ble_eq_true rfl)⟩, ⟨_, _, rfl, ⟨rfl, (Nat.le_of_ble_eq_true rfl)⟩, ⟨_, _, rfl, ⟨rfl, (Nat.le_of_ble_eq_true rfl)⟩, ⟨_, _, rfl, ⟨rfl, (Nat.le_of_ble_eq_true rfl)⟩, ⟨_, _, rfl, ⟨rfl, (Nat.le_of_ble_eq_true rfl)⟩, ⟨_, _, rfl, ⟨rfl, (Nat.le_of_ble_eq_true rfl)⟩, rfl⟩⟩⟩⟩⟩⟩⟩⟩⟩⟩⟩⟩⟩⟩⟩⟩⟩⟩⟩⟩⟩⟩⟩⟩⟩⟩⟩⟩
 refine WL_storeA (l1 := []) (vs := [(.string ({data := #[110, 111, 112]} : ByteArray)), (.string ({data := #[115, 101, 116]} : ByteArray)), (.string ({data := #[109, 111, 118, 101]} : ByteArray)), (.string ({data := #[97, 100, 100]} : ByteArray)), (.string ({data := #[115, 117, 98]} : ByteArray)), (.string ({data := #[109, 117, 108]} : ByteArray)), (.string ({data := #[100, 105, 118]} : ByteArray)), (.string ({data := #[109, 111, 100]} : ByteArray)), (.string ({data := #[108, 101, 115, 115]} : ByteArray)), (.string ({data := #[115, 97, 109, 101]} : ByteArray)), (.string ({data := #[106, 117, 109, 112]} : ByteArray)), (.string ({data := #[122, 101, 114, 111]} : ByteArray)), (.string ({data := #[105, 110]} : ByteArray)), (.string ({data := #[111, 117, 116]} : ByteArray)), (.string ({data := #[108, 111, 97, 100]} : ByteArray)), (.string ({data := #[115, 116, 111, 114, 101]} : ByteArray)), (.string ({data := #[102, 117, 110, 99]} : ByteArray)), (.string ({data := #[112, 105, 99, 107]} : ByteArray)), (.string ({data := #[99, 97, 108, 108]} : ByteArray)), (.string ({data := #[118, 105, 97]} : ByteArray)), (.string ({data := #[100, 101, 102, 101, 114]} : ByteArray)), (.string ({data := #[112, 97, 110, 105, 99]} : ByteArray)), (.string ({data := #[114, 101, 99, 111, 118, 101, 114]} : ByteArray)), (.string ({data := #[114, 101, 116, 117, 114, 110]} : ByteArray)), (.string ({data := #[99, 104, 101, 99, 107]} : ByteArray)), (.string ({data := #[101, 110, 116, 101, 114]} : ByteArray)), (.string ({data := #[98, 111, 116, 116, 111, 109]} : ByteArray)), (.string ({data := #[100, 114, 105, 118, 101, 114]} : ByteArray))]) ti276 h0 rfl rfl rfl rfl (EAll.one f1) ?_
 intro w1 h1
 refine J0 (Jg ?_)
 have h2 := St.takeN 0 h1
 obtain rfl := Option.some.inj hr
 exact ⟨[(.agg #[(.string ({data := #[110, 111, 112]} : ByteArray)), (.string ({data := #[115, 101, 116]} : ByteArray)), (.string ({data := #[109, 111, 118, 101]} : ByteArray)), (.string ({data := #[97, 100, 100]} : ByteArray)), (.string ({data := #[115, 117, 98]} : ByteArray)), (.string ({data := #[109, 117, 108]} : ByteArray)), (.string ({data := #[100, 105, 118]} : ByteArray)), (.string ({data := #[109, 111, 100]} : ByteArray)), (.string ({data := #[108, 101, 115, 115]} : ByteArray)), (.string ({data := #[115, 97, 109, 101]} : ByteArray)), (.string ({data := #[106, 117, 109, 112]} : ByteArray)), (.string ({data := #[122, 101, 114, 111]} : ByteArray)), (.string ({data := #[105, 110]} : ByteArray)), (.string ({data := #[111, 117, 116]} : ByteArray)), (.string ({data := #[108, 111, 97, 100]} : ByteArray)), (.string ({data := #[115, 116, 111, 114, 101]} : ByteArray)), (.string ({data := #[102, 117, 110, 99]} : ByteArray)), (.string ({data := #[112, 105, 99, 107]} : ByteArray)), (.string ({data := #[99, 97, 108, 108]} : ByteArray)), (.string ({data := #[118, 105, 97]} : ByteArray)), (.string ({data := #[100, 101, 102, 101, 114]} : ByteArray)), (.string ({data := #[112, 97, 110, 105, 99]} : ByteArray)), (.string ({data := #[114, 101, 99, 111, 118, 101, 114]} : ByteArray)), (.string ({data := #[114, 101, 116, 117, 114, 110]} : ByteArray)), (.string ({data := #[99, 104, 101, 99, 107]} : ByteArray)), (.string ({data := #[101, 110, 116, 101, 114]} : ByteArray)), (.string ({data := #[98, 111, 116, 116, 111, 109]} : ByteArray)), (.string ({data := #[100, 114, 105, 118, 101, 114]} : ByteArray))])], ⟨⟨_, rfl, Yl (l1 := []) ti276 h1 rfl⟩, trivial⟩, _, _, _, rfl, (Ext.refl _), h2, ⟨[(.string ({data := #[110, 111, 112]} : ByteArray)), (.string ({data := #[115, 101, 116]} : ByteArray)), (.string ({data := #[109, 111, 118, 101]} : ByteArray)), (.string ({data := #[97, 100, 100]} : ByteArray)), (.string ({data := #[115, 117, 98]} : ByteArray)), (.string ({data := #[109, 117, 108]} : ByteArray)), (.string ({data := #[100, 105, 118]} : ByteArray)), (.string ({data := #[109, 111, 100]} : ByteArray)), (.string ({data := #[108, 101, 115, 115]} : ByteArray)), (.string ({data := #[115, 97, 109, 101]} : ByteArray)), (.string ({data := #[106, 117, 109, 112]} : ByteArray)), (.string ({data := #[122, 101, 114, 111]} : ByteArray)), (.string ({data := #[105, 110]} : ByteArray)), (.string ({data := #[111, 117, 116]} : ByteArray)), (.string ({data := #[108, 111, 97, 100]} : ByteArray)), (.string ({data := #[115, 116, 111, 114, 101]} : ByteArray)), (.string ({data := #[102, 117, 110, 99]} : ByteArray)), (.string ({data := #[112, 105, 99, 107]} : ByteArray)), (.string ({data := #[99, 97, 108, 108]} : ByteArray)), (.string ({data := #[118, 105, 97]} : ByteArray)), (.string ({data := #[100, 101, 102, 101, 114]} : ByteArray)), (.string ({data := #[112, 97, 110, 105, 99]} : ByteArray)), (.string ({data := #[114, 101, 99, 111, 118, 101, 114]} : ByteArray)), (.string ({data := #[114, 101, 116, 117, 114, 110]} : ByteArray)), (.string ({data := #[99, 104, 101, 99, 107]} : ByteArray)), (.string ({data := #[101, 110, 116, 101, 114]} : ByteArray)), (.string ({data := #[98, 111, 116, 116, 111, 109]} : ByteArray)), (.string ({data := #[100, 114, 105, 118, 101, 114]} : ByteArray))], rfl, rfl, f1, rfl⟩⟩
def instr_numbers.f (a0 : XInstr) : Option ((List Int)) :=
 some [a0.Op, a0.A, a0.B, a0.C, a0.N]
def instr_numbers.K (r : (List Int)) (G14 : GH) (v : Value) (N : List Res) : Prop := ∃ (c18 : List Value), v = tup [(.agg c18.toArray)] ∧ N = [] ∧ EAll (tInt .i64) G14 c18 r ∧ c18.length = 5
theorem instr_numbers.ok {ca0 : List Value} {a0 : XInstr} (st : St B w G []) (ha0 : TInstr.rep G ca0 a0) {r : (List Int)} (hr : instr_numbers.f a0 = some r) :
 Calls Tryz.prog 185 ([(.agg ca0.toArray)] : List Value).toArray w (Ret B G (instr_numbers.K r)) := by
 obtain ⟨rfl, ha0_0, ha0_1, ha0_2, ha0_3, ha0_4⟩ := ha0
 refine Jc [.cell 2 238] func185 rfl ntmps185 rfl rfl ?_
 refine J2 (J1 ?_)
 refine Ju (cs := [(vi a0.Op), (vi a0.A), (vi a0.B), (vi a0.C), (vi a0.N)]) st rfl rfl rfl ?_
 intro b0 w0 h0
 refine Jo ti238 h0 rfl ?_
 intro b1 w1 h1
 have f0 : EAll (tInt .i64) G [(vi 0), (vi 0), (vi 0), (vi 0), (vi 0)] [0, 0, 0, 0, 0] := ⟨_, _, rfl, ⟨rfl, rfl⟩, ⟨_, _, rfl, ⟨rfl, rfl⟩, ⟨_, _, rfl, ⟨rfl, rfl⟩, ⟨_, _, rfl, ⟨rfl, rfl⟩, ⟨_, _, rfl, ⟨rfl, rfl⟩, rfl⟩⟩⟩⟩⟩
 refine J0 (J2 (J1 ?_))
 refine Jfa 0 0 underlying54 rfl ti3 rfl rfl rfl rfl ?_
 refine Jlb [_] (vi a0.Op) ti3 h1 rfl rfl rfl ?_
 refine Jfa 1 1 underlying54 rfl ti3 rfl rfl rfl rfl ?_
 refine Jlb [_] (vi a0.A) ti3 h1 rfl rfl rfl ?_
 refine Jfa 2 2 underlying54 rfl ti3 rfl rfl rfl rfl ?_
 refine Jlb [_] (vi a0.B) ti3 h1 rfl rfl rfl ?_
 refine Jfa 3 3 underlying54 rfl ti3 rfl rfl rfl rfl ?_
 refine Jlb [_] (vi a0.C) ti3 h1 rfl rfl rfl ?_
 refine Jfa 4 4 underlying54 rfl ti2 rfl rfl rfl rfl ?_
 refine Jlb [_] (vi a0.N) ti2 h1 rfl rfl rfl ?_
 refine Y0 (cells := [(vi a0.Op), (vi a0.A), (vi a0.B), (vi a0.C), (vi a0.N)].toArray) rfl (by kernel_rfl) ?_
 have f1 : EAll (tInt .i64) G [(vi a0.Op), (vi a0.A), (vi a0.B), (vi a0.C), (vi a0.N)] [a0.Op, a0.A, a0.B, a0.C, a0.N] := ⟨_, _, rfl, ⟨rfl, ha0_0⟩, ⟨_, _, rfl, ⟨rfl, ha0_1⟩, ⟨_, _, rfl, ⟨rfl, ha0_2⟩, ⟨_, _, rfl, ⟨rfl, ha0_3⟩, ⟨_, _, rfl, ⟨rfl, ha0_4⟩, rfl⟩⟩⟩⟩⟩
 refine WL_storeA (l1 := []) (vs := [(vi a0.Op), (vi a0.A), (vi a0.B), (vi a0.C), (vi a0.N)]) ti238 h1 rfl rfl rfl rfl (EAll.one f1) ?_
 intro w2 h2
 refine J0 (Jg ?_)
 have h3 := St.takeN 0 h2
 obtain rfl := Option.some.inj hr
 exact ⟨[(.agg #[(vi a0.Op), (vi a0.A), (vi a0.B), (vi a0.C), (vi a0.N)])], ⟨⟨_, rfl, Yl (l1 := []) ti238 h2 rfl⟩, trivial⟩, _, _, _, rfl, (Ext.refl _), h3, ⟨[(vi a0.Op), (vi a0.A), (vi a0.B), (vi a0.C), (vi a0.N)], rfl, rfl, f1, rfl⟩⟩
def ranges_Marks.l0 (a0 : (List XInstr)) (s0 : Nat) : Option (Step Nat Unit) :=
 bif decide (((s0 : Nat) : Int) < (a0.length : Int)) then (idx a0 ((s0 : Nat) : Int)).bind fun x0 => bif decide (x0.Op = 21) then none else some (.next (s0 + 1)) else some (.done ())
def ranges_Marks.f (a0 : (List XInstr)) : Option (Unit) :=
 (loop (ranges_Marks.l0 a0) 0).bind fun t0 => some ()
def ranges_Marks.K (r : Unit) (G0 : GH) (v : Value) (N : List Res) : Prop := v = tup [(.slice none 0 0)] ∧ N = []
theorem ranges_Marks.ok {va0 : Value} {a0 : (List XInstr)} (st : St B w G []) (ha0 : SRep 54 TInstr G va0 a0) {r : Unit} (hr : ranges_Marks.f a0 = some r) :
 Calls Tryz.prog 229 ([va0] : List Value).toArray w (Ret B G (ranges_Marks.K r)) := by
 refine Jc [.tmp 2] func229 rfl ntmps229 rfl rfl ?_
 refine J2 (J1 ?_)
 refine Jsv (.slice none 0 0) rfl rfl ?_
 refine J0 (J2 (J1 ?_))
 refine Jsv (.slice none 0 0) rfl rfl ?_
 refine J0 (J2 (J2 (J1 ?_)))
 refine Jmv va0 rfl rfl ?_
 refine Jd (T := TInstr) underlying41 ha0 rfl rfl ?_
 refine Jmv (vi 0) rfl rfl ?_
 refine J0 (Jb ?_)
 obtain ⟨t0, h0, hr⟩ := J6 hr
 refine Js 0 h0 (fun s0 ρ w => ∃ (σ0 : Env) (G1 : GH), ρ = En σ0 [(3, (.slice none 0 0)), (6, va0), (7, (vi (a0.length : Int))), (8, (vi ((s0 : Nat) : Int)))] ∧ Ext G G1 ∧ St B w G1 [] ∧ InK .i64 ((s0 : Nat) : Int)) (fun t1 ρ w => ∃ (σ1 : Env) (G2 : GH), ρ = En σ1 [(3, (.slice none 0 0))] ∧ Ext G G2 ∧ St B w G2 []) ⟨_, _, (J3 ⟨rfl, rfl, rfl, rfl, trivial⟩), (Ext.refl _), st, (by rfl)⟩ ?_ ?_
 ·rintro s0 x1 _ _ hr ⟨σ0, G1, rfl, e0, h1, f0⟩
  refine J2 (J1 ?_)
  refine Ji rfl rfl rfl ?_
  refine J0 (J2 ?_)
  refine J7 rfl (fun h2 => ?_) (fun h2 => ?_)
  ·replace hr := Jx hr h2
   refine J9 (J2 (Jb (J2 (J1 ?_))))
   refine Jmv (vi ((s0 : Nat) : Int)) rfl rfl ?_
   obtain ⟨x0, h3, hr⟩ := J6 hr
   refine Jh (T := TInstr) underlying41 ti54 h1 (SRep.mono e0.ro ha0) rfl rfl rfl h3 ?_
   intro b0 o0 c0 l3 f1
   obtain ⟨rfl, f2, f3, f4, f5, f6⟩ := f1
   refine Jy ti54 rfl rfl (LiesG.lies l3 h1) (Nat.le_of_ble_eq_true rfl) ?_
   change WL _ _ _ _ _ _ (upd _ _ (.agg #[(vi x0.Op), (vi x0.A), (vi x0.B), (vi x0.C), (vi x0.N)])) _
   refine Jo ti54 h1 rfl ?_
   intro b1 w0 h4
   refine Jsv (vi ((s0 : Nat) : Int)) rfl rfl ?_
   refine Jp (l1 := []) (vs := [(vi x0.Op), (vi x0.A), (vi x0.B), (vi x0.C), (vi x0.N)]) ti54 h4 rfl rfl rfl (J5 rfl (J5 rfl (J5 rfl (J5 rfl (J5 rfl (fun _ h => nomatch h)))))) rfl ?_
   intro w1 (h5 : St B w1 G1 [.blk b1 [(vi x0.Op), (vi x0.A), (vi x0.B), (vi x0.C), (vi x0.N)] 54])
   refine J0 (J2 (J1 ?_))
   refine Jfa 0 0 underlying54 rfl ti3 rfl rfl rfl rfl ?_
   refine Jlb [] (vi x0.Op) ti3 h5 rfl rfl rfl ?_
   refine Y3 rfl rfl rfl ?_
   refine J0 ?_
   refine J7 rfl (fun h6 => ?_) (fun h6 => ?_)
   ·exact Jk hr h6
   replace hr := Jf hr h6
   refine J9 (J1 ?_)
   refine Y2 rfl rfl rfl (of_decide_eq_true h2) (inK_len (SRep.le ha0)) ?_
   refine Jmv (vi ((s0 + 1 : Nat) : Int)) rfl rfl ?_
   refine J0 ?_
   have h7 := St.takeN 0 h5
   exact ⟨_, (Option.some.inj hr).symm, _, _, (J3 ⟨rfl, rfl, rfl, rfl, trivial⟩), e0, h7, (inK_inc (of_decide_eq_true h2) (inK_len (SRep.le ha0)))⟩
  replace hr := Jf hr h2
  refine Jr ?_
  exact ⟨_, (Option.some.inj hr).symm, rfl, _, _, (J3 ⟨rfl, trivial⟩), e0, h1⟩
 rintro _ _ ⟨σ1, G2, rfl, e1, h8⟩
 refine J2 (J1 ?_)
 refine Jmv (.slice none 0 0) rfl rfl ?_
 refine Jsv (.slice none 0 0) rfl rfl ?_
 refine J0 (Jg ?_)
 obtain rfl := Option.some.inj hr
 exact ⟨[(.slice none 0 0)], ⟨rfl, trivial⟩, _, _, _, rfl, e1, h8, ⟨rfl, rfl⟩⟩
def data_flag.f (a0 : Bool) : Option (Int) :=
 bif a0 then some 1 else some 0
def data_flag.K (r : Int) (G3 : GH) (v : Value) (N : List Res) : Prop := v = tup [(vi r)] ∧ N = [] ∧ InK .i64 r
theorem data_flag.ok {a0 : Bool} (st : St B w G []) {r : Int} (hr : data_flag.f a0 = some r) :
 Calls Tryz.prog 135 ([(.bool a0)] : List Value).toArray w (Ret B G (data_flag.K r)) := by
 refine Jc [.tmp 2] func135 rfl ntmps135 rfl rfl ?_
 refine J2 (J1 ?_)
 refine Jsv (vi 0) rfl rfl ?_
 refine J0 (J2 (J2 (J1 ?_)))
 refine Jmv (.bool a0) rfl rfl ?_
 refine J0 ?_
 refine J7 rfl (fun h0 => ?_) (fun h0 => ?_)
 ·replace hr := Jx hr h0
  refine J2 (J1 ?_)
  refine Jsv (vi 1) rfl rfl ?_
  refine J0 (Jg ?_)
  obtain rfl := Option.some.inj hr
  exact ⟨[(vi 1)], ⟨rfl, trivial⟩, _, _, _, rfl, (Ext.refl _), st, ⟨rfl, rfl, (by rfl)⟩⟩
 replace hr := Jf hr h0
 refine J9 (J2 (J1 ?_))
 refine Jsv (vi 0) rfl rfl ?_
 refine J0 (Jg ?_)
 obtain rfl := Option.some.inj hr
 exact ⟨[(vi 0)], ⟨rfl, trivial⟩, _, _, _, rfl, (Ext.refl _), st, ⟨rfl, rfl, (by rfl)⟩⟩
def octet_Reader_Left.f (a0_0 : (List Int)) (a0_1 : Int) (a0_2 : Bool) (a0_3 : Bool) : Option ((Int × (List Int))) :=
 some ((IntKind.wrap .i64 ((a0_0.length : Int) - a0_1)), a0_0)
def octet_Reader_Left.K (ba0 : Nat) (a0_1 : Int) (a0_2 : Bool) (a0_3 : Bool) (r : (Int × (List Int))) (G0 : GH) (v : Value) (N : List Res) : Prop := ∃ (v0 : Value) (c0 : List Value), v = tup [(vi r.1)] ∧ N = [.row v0 5 1 r.2.length c0, .blk ba0 [v0, (vi a0_1), (.bool a0_2), (.bool a0_3)] 163] ∧ InK .i64 r.1 ∧ EAll (tInt .u8) G0 c0 r.2 ∧ r.2.length ≤ SB
theorem octet_Reader_Left.ok {ba0 : Nat} {va0_0 : Value} {ca0_0 : List Value} {a0_0 : (List Int)} {a0_1 : Int} {a0_2 : Bool} {a0_3 : Bool} (st : St B w G [.blk ba0 [va0_0, (vi a0_1), (.bool a0_2), (.bool a0_3)] 163, .row va0_0 5 1 a0_0.length ca0_0]) (ha0_0 : EAll (tInt .u8) G ca0_0 a0_0) (lha0_0 : a0_0.length ≤ SB) (ha0_1 : InK .i64 a0_1) {r : (Int × (List Int))} (hr : octet_Reader_Left.f a0_0 a0_1 a0_2 a0_3 = some r) :
 Calls Tryz.prog 67 ([(pt ba0 0)] : List Value).toArray w (Ret B G (octet_Reader_Left.K ba0 a0_1 a0_2 a0_3 r)) := by
 refine Jc [.tmp 2] func67 rfl ntmps67 rfl rfl ?_
 refine J2 (J1 ?_)
 refine Jsv (vi 0) rfl rfl ?_
 refine J0 (J2 (J2 (J1 ?_)))
 refine Jmv (pt ba0 0) rfl rfl ?_
 refine WL_peql underlying104 rfl rfl rfl ?_
 refine J0 ?_
 refine J7 rfl (fun h => nomatch h) (fun _ => ?_)
 refine J9 (J2 ?_)
 refine Ye 9 [some 5, some 6, some 7, some 8, some 9, some 10, some 11, some 12, some 13] (pk [(fun G_ v_ => v_ = (pt ba0 0)), (fun G_ v_ => v_ = (pt ba0 0)), (fun G_ v_ => v_ = (pt ba0 0)), (fun G_ v_ => v_ = va0_0), (fun G_ v_ => v_ = (vi (a0_0.length : Int))), (fun G_ v_ => v_ = (pt ba0 0)), (fun G_ v_ => v_ = (pt ba0 0)), (fun G_ v_ => v_ = (pt ba0 1)), (fun G_ v_ => v_ = (vi a0_1))]) rfl (by kernel_rfl) rfl st ?_ ?_
 ·refine Each.cons ?_ (Each.cons ?_ (Each.cons ?_ (Each.cons ?_ (Each.cons ?_ (Each.cons ?_ (Each.cons ?_ (Each.cons ?_ (Each.cons ?_ Each.nil))))))))
  ·intro q0 w0 G1 e0 h0 h1 h2
   rw [J3 (ρ := q0) (l := [(0, (pt ba0 0))]) ⟨(h1.1 0 (by decide)).trans rfl, trivial⟩]
   refine Jmv (pt ba0 0) rfl rfl ?_
   exact J0 (J4 (Ext.refl _) h0 fun G2 e1 => rfl)
  ·intro q0 w0 G1 e0 h0 h1 h2
   obtain ⟨hd0_, _⟩ := h2
   have hv5 := hd0_
   rw [J3 (ρ := q0) (l := [(5, (pt ba0 0))]) ⟨hv5, trivial⟩]
   refine Je rfl rfl ?_
   exact J0 (J4 (Ext.refl _) h0 fun G3 e2 => rfl)
  ·intro q0 w0 G1 e0 h0 h1 h2
   obtain ⟨hd0_, _⟩ := h2
   have hv6 := hd0_
   rw [J3 (ρ := q0) (l := [(6, (pt ba0 0))]) ⟨hv6, trivial⟩]
   refine Jfa 0 0 underlying163 rfl ti63 rfl rfl rfl rfl ?_
   exact J0 (J4 (Ext.refl _) h0 fun G4 e3 => rfl)
  ·intro q0 w0 G1 e0 h0 h1 h2
   obtain ⟨hd0_, _⟩ := h2
   have hv7 := hd0_
   rw [J3 (ρ := q0) (l := [(7, (pt ba0 0))]) ⟨hv7, trivial⟩]
   refine Jlb [] va0_0 ti63 h0 rfl rfl rfl ?_
   exact J0 (J4 (Ext.refl _) h0 fun G5 e4 => rfl)
  ·intro q0 w0 G1 e0 h0 h1 h2
   obtain ⟨hd0_, _⟩ := h2
   have hv8 := hd0_
   rw [J3 (ρ := q0) (l := [(8, va0_0)]) ⟨hv8, trivial⟩]
   refine WL_lenOwn (l1 := [_]) underlying63 h0 rfl rfl ?_
   exact J0 (J4 (Ext.refl _) h0 fun G6 e5 => rfl)
  ·intro q0 w0 G1 e0 h0 h1 h2
   rw [J3 (ρ := q0) (l := [(0, (pt ba0 0))]) ⟨(h1.1 0 (by decide)).trans rfl, trivial⟩]
   refine Jmv (pt ba0 0) rfl rfl ?_
   exact J0 (J4 (Ext.refl _) h0 fun G7 e6 => rfl)
  ·intro q0 w0 G1 e0 h0 h1 h2
   obtain ⟨hd0_, _⟩ := h2
   have hv10 := hd0_
   rw [J3 (ρ := q0) (l := [(10, (pt ba0 0))]) ⟨hv10, trivial⟩]
   refine Je rfl rfl ?_
   exact J0 (J4 (Ext.refl _) h0 fun G8 e7 => rfl)
  ·intro q0 w0 G1 e0 h0 h1 h2
   obtain ⟨hd0_, _⟩ := h2
   have hv11 := hd0_
   rw [J3 (ρ := q0) (l := [(11, (pt ba0 0))]) ⟨hv11, trivial⟩]
   refine Jfa 1 1 underlying163 rfl ti3 rfl rfl rfl rfl ?_
   exact J0 (J4 (Ext.refl _) h0 fun G9 e8 => rfl)
  intro q0 w0 G1 e0 h0 h1 h2
  obtain ⟨hd0_, _⟩ := h2
  have hv12 := hd0_
  rw [J3 (ρ := q0) (l := [(12, (pt ba0 1))]) ⟨hv12, trivial⟩]
  refine Jlb [] (vi a0_1) ti3 h0 rfl rfl rfl ?_
  exact J0 (J4 (Ext.refl _) h0 fun Ga e9 => rfl)
 intro q0 w0 G1 e0 h0 h1 h2
 have hv9 := h2 4 (by decide)
 have hv13 := h2 8 (by decide)
 rw [J3 (ρ := q0) (l := [(9, (vi (a0_0.length : Int))), (13, (vi a0_1))]) ⟨hv9, hv13, trivial⟩]
 refine Yn rfl rfl rfl ?_
 refine Jsv (vi (IntKind.wrap .i64 ((a0_0.length : Int) - a0_1))) rfl rfl ?_
 refine J0 (Jg ?_)
 have h3 := St.pick 1 rfl h0
 obtain rfl := Option.some.inj hr
 exact ⟨[(vi (IntKind.wrap .i64 ((a0_0.length : Int) - a0_1)))], ⟨rfl, trivial⟩, _, _, _, rfl, e0, h3, ⟨va0_0, ca0_0, rfl, rfl, (inK_wrap _ _), (EAll.mono e0.ro ha0_0), lha0_0⟩⟩
def api_Func.f (a0_0 : (List XSymbol)) (a0_1 : (List XFunc)) (a0_2 : (List XData)) (a2_0 : (List Int)) (a2_1 : Int) (a2_2 : Bool) (a2_3 : Bool) : Option (((List Int) × (List XSymbol) × (List XFunc) × (List XData))) :=
 some (a2_0, a0_0, a0_1, a0_2)
def api_Func.K (ba2 : Nat) (a2_1 : Int) (a2_2 : Bool) (a2_3 : Bool) (ba0 : Nat) (r : ((List Int) × (List XSymbol) × (List XFunc) × (List XData))) (G14 : GH) (v : Value) (N : List Res) : Prop := ∃ (v22 : Value) (v29 : Value) (v34 : Value) (v39 : Value) (c23 : List Value) (c30 : List Value) (c35 : List Value) (c40 : List Value) (b19 : Nat) (b21 : Nat) (b28 : Nat), v = tup [(.func (.func 117) #[] #[(pt b19 0), (pt b21 0), (pt b28 0)])] ∧ N = [.blk b19 [(.func (.func 64) #[] #[])] 114, .row v22 5 1 r.1.length c23, .blk ba2 [v22, (vi a2_1), (.bool a2_2), (.bool a2_3)] 163, .blk b21 [(pt ba2 0)] 104, .row v29 82 5 r.2.1.length c30, .row v34 44 9 r.2.2.1.length c35, .row v39 49 3 r.2.2.2.length c40, .blk ba0 [v29, v34, v39] 61, .blk b28 [(pt ba0 1)] 113] ∧ EAll (tInt .u8) G14 c23 r.1 ∧ r.1.length ≤ SB ∧ EAll TSymbol G14 c30 r.2.1 ∧ r.2.1.length ≤ SB ∧ EAll TFunc G14 c35 r.2.2.1 ∧ r.2.2.1.length ≤ SB ∧ EAll TData G14 c40 r.2.2.2 ∧ r.2.2.2.length ≤ SB
theorem api_Func.ok {ba0 : Nat} {va0_0 : Value} {ca0_0 : List Value} {a0_0 : (List XSymbol)} {va0_1 : Value} {ca0_1 : List Value} {a0_1 : (List XFunc)} {va0_2 : Value} {ca0_2 : List Value} {a0_2 : (List XData)} {ba2 : Nat} {va2_0 : Value} {ca2_0 : List Value} {a2_0 : (List Int)} {a2_1 : Int} {a2_2 : Bool} {a2_3 : Bool} (st : St B w G [.blk ba0 [va0_0, va0_1, va0_2] 61, .row va0_0 82 5 a0_0.length ca0_0, .row va0_1 44 9 a0_1.length ca0_1, .row va0_2 49 3 a0_2.length ca0_2, .blk ba2 [va2_0, (vi a2_1), (.bool a2_2), (.bool a2_3)] 163, .row va2_0 5 1 a2_0.length ca2_0]) (ha0_0 : EAll TSymbol G ca0_0 a0_0) (lha0_0 : a0_0.length ≤ SB) (ha0_1 : EAll TFunc G ca0_1 a0_1) (lha0_1 : a0_1.length ≤ SB) (ha0_2 : EAll TData G ca0_2 a0_2) (lha0_2 : a0_2.length ≤ SB) (ha2_0 : EAll (tInt .u8) G ca2_0 a2_0) (lha2_0 : a2_0.length ≤ SB) (ha2_1 : InK .i64 a2_1) {r : ((List Int) × (List XSymbol) × (List XFunc) × (List XData))} (hr : api_Func.f a0_0 a0_1 a0_2 a2_0 a2_1 a2_2 a2_3 = some r) :
 Calls Tryz.prog 63 ([(pt ba0 1), (.func (.func 64) #[] #[]), (pt ba2 0)] : List Value).toArray w (Ret B G (api_Func.K ba2 a2_1 a2_2 a2_3 ba0 r)) := by
 refine Jc [.tmp 6] func63 rfl ntmps63 rfl rfl ?_
 refine J2 (J1 ?_)
 refine Ju (cs := [(pt ba0 1)]) st rfl rfl rfl ?_
 intro b0 w0 h0
 refine Ju (cs := [(.func (.func 64) #[] #[])]) h0 rfl rfl rfl ?_
 intro b1 w1 h1
 refine Ju (cs := [(pt ba2 0)]) h1 rfl rfl rfl ?_
 intro b2 w2 h2
 refine Jsv .nilFunc rfl rfl ?_
 refine J0 (J2 (J1 ?_))
 refine Yg (fs := []) (cs := [(pt b1 0), (pt b2 0), (pt b0 0)]) rfl rfl rfl ?_
 refine Jsv (.func (.func 117) #[] #[(pt b1 0), (pt b2 0), (pt b0 0)]) rfl rfl ?_
 refine J0 (Jg ?_)
 have h3 := St.pick 2 rfl h2
 have h4 := St.pick 3 rfl h3
 have h5 := St.pick 6 rfl h4
 have h6 := St.pick 6 rfl h5
 have h7 := St.pick 6 rfl h6
 have h8 := St.pick 5 rfl h7
 have h9 := St.pick 7 rfl h8
 have h10 := St.pick 8 rfl h9
 have h11 := St.pick 8 rfl h10
 obtain rfl := Option.some.inj hr
 exact ⟨[(.func (.func 117) #[] #[(pt b1 0), (pt b2 0), (pt b0 0)])], ⟨rfl, trivial⟩, _, _, _, rfl, (Ext.refl _), h11, ⟨va2_0, va0_0, va0_1, va0_2, ca2_0, ca0_0, ca0_1, ca0_2, b1, b2, b0, rfl, rfl, ha2_0, lha2_0, ha0_0, lha0_0, ha0_1, lha0_1, ha0_2, lha0_2⟩⟩
def file_part_s3.f (a0_0 : (List Int)) (a0_1 : Int) (a0_2 : Bool) (a0_3 : Bool) (a1_c2_0_0 : (List XSymbol)) (a1_c2_0_1 : (List XFunc)) (a1_c2_0_2 : (List XData)) : Option (((List Int) × (List XSymbol) × (List XFunc) × (List XData))) :=
 some (a0_0, a1_c2_0_0, a1_c2_0_1, a1_c2_0_2)
def file_part_s3.K (ba0 : Nat) (a0_1 : Int) (a0_2 : Bool) (a0_3 : Bool) (ba1_c0 : Nat) (ba1_c1 : Nat) (ba1_c2_0 : Nat) (ba1_c2 : Nat) (r : ((List Int) × (List XSymbol) × (List XFunc) × (List XData))) (G10 : GH) (v : Value) (N : List Res) : Prop := ∃ (v16 : Value) (v23 : Value) (v28 : Value) (v33 : Value) (c17 : List Value) (c24 : List Value) (c29 : List Value) (c34 : List Value) (b15 : Nat) (b22 : Nat), v = tup [(.func (.func 112) #[] #[(pt b15 0), (pt b22 0)])] ∧ N = [.row v16 5 1 r.1.length c17, .blk ba0 [v16, (vi a0_1), (.bool a0_2), (.bool a0_3)] 163, .blk b15 [(pt ba0 0)] 104, .blk ba1_c0 [(.func (.func 66) #[] #[])] 117, .blk ba1_c1 [(pt ba0 0)] 104, .row v23 82 5 r.2.1.length c24, .row v28 44 9 r.2.2.1.length c29, .row v33 49 3 r.2.2.2.length c34, .blk ba1_c2_0 [v23, v28, v33] 61, .blk ba1_c2 [(pt ba1_c2_0 2)] 116, .blk b22 [(.func (.func 127) #[] #[(pt ba1_c0 0), (pt ba1_c1 0), (pt ba1_c2 0)])] 107] ∧ EAll (tInt .u8) G10 c17 r.1 ∧ r.1.length ≤ SB ∧ EAll TSymbol G10 c24 r.2.1 ∧ r.2.1.length ≤ SB ∧ EAll TFunc G10 c29 r.2.2.1 ∧ r.2.2.1.length ≤ SB ∧ EAll TData G10 c34 r.2.2.2 ∧ r.2.2.2.length ≤ SB
theorem file_part_s3.ok {ba0 : Nat} {va0_0 : Value} {ca0_0 : List Value} {a0_0 : (List Int)} {a0_1 : Int} {a0_2 : Bool} {a0_3 : Bool} {ba1_c0 : Nat} {ba1_c1 : Nat} {ba1_c2 : Nat} {ba1_c2_0 : Nat} {va1_c2_0_0 : Value} {ca1_c2_0_0 : List Value} {a1_c2_0_0 : (List XSymbol)} {va1_c2_0_1 : Value} {ca1_c2_0_1 : List Value} {a1_c2_0_1 : (List XFunc)} {va1_c2_0_2 : Value} {ca1_c2_0_2 : List Value} {a1_c2_0_2 : (List XData)} (st : St B w G [.blk ba0 [va0_0, (vi a0_1), (.bool a0_2), (.bool a0_3)] 163, .row va0_0 5 1 a0_0.length ca0_0, .blk ba1_c0 [(.func (.func 66) #[] #[])] 117, .blk ba1_c1 [(pt ba0 0)] 104, .blk ba1_c2 [(pt ba1_c2_0 2)] 116, .blk ba1_c2_0 [va1_c2_0_0, va1_c2_0_1, va1_c2_0_2] 61, .row va1_c2_0_0 82 5 a1_c2_0_0.length ca1_c2_0_0, .row va1_c2_0_1 44 9 a1_c2_0_1.length ca1_c2_0_1, .row va1_c2_0_2 49 3 a1_c2_0_2.length ca1_c2_0_2]) (ha0_0 : EAll (tInt .u8) G ca0_0 a0_0) (lha0_0 : a0_0.length ≤ SB) (ha0_1 : InK .i64 a0_1) (ha1_c2_0_0 : EAll TSymbol G ca1_c2_0_0 a1_c2_0_0) (lha1_c2_0_0 : a1_c2_0_0.length ≤ SB) (ha1_c2_0_1 : EAll TFunc G ca1_c2_0_1 a1_c2_0_1) (lha1_c2_0_1 : a1_c2_0_1.length ≤ SB) (ha1_c2_0_2 : EAll TData G ca1_c2_0_2 a1_c2_0_2) (lha1_c2_0_2 : a1_c2_0_2.length ≤ SB) {r : ((List Int) × (List XSymbol) × (List XFunc) × (List XData))} (hr : file_part_s3.f a0_0 a0_1 a0_2 a0_3 a1_c2_0_0 a1_c2_0_1 a1_c2_0_2 = some r) :
 Calls Tryz.prog 60 ([(pt ba0 0), (.func (.func 127) #[] #[(pt ba1_c0 0), (pt ba1_c1 0), (pt ba1_c2 0)])] : List Value).toArray w (Ret B G (file_part_s3.K ba0 a0_1 a0_2 a0_3 ba1_c0 ba1_c1 ba1_c2_0 ba1_c2 r)) := by
 refine Jc [.tmp 4] func60 rfl ntmps60 rfl rfl ?_
 refine J2 (J1 ?_)
 refine Ju (cs := [(pt ba0 0)]) st rfl rfl rfl ?_
 intro b0 w0 h0
 refine Ju (cs := [(.func (.func 127) #[] #[(pt ba1_c0 0), (pt ba1_c1 0), (pt ba1_c2 0)])]) h0 rfl rfl rfl ?_
 intro b1 w1 h1
 refine Jsv .nilFunc rfl rfl ?_
 refine J0 (J2 (J1 ?_))
 refine Yg (fs := []) (cs := [(pt b0 0), (pt b1 0)]) rfl rfl rfl ?_
 refine Jsv (.func (.func 112) #[] #[(pt b0 0), (pt b1 0)]) rfl rfl ?_
 refine J0 (Jg ?_)
 have h2 := St.pick 6 rfl h1
 have h3 := St.pick 7 rfl h2
 have h4 := St.pick 10 rfl h3
 have h5 := St.pick 10 rfl h4
 have h6 := St.pick 10 rfl h5
 have h7 := St.pick 10 rfl h6
 have h8 := St.pick 10 rfl h7
 have h9 := St.pick 8 rfl h8
 have h10 := St.pick 9 rfl h9
 have h11 := St.pick 10 rfl h10
 obtain rfl := Option.some.inj hr
 exact ⟨[(.func (.func 112) #[] #[(pt b0 0), (pt b1 0)])], ⟨rfl, trivial⟩, _, _, _, rfl, (Ext.refl _), h11, ⟨va0_0, va1_c2_0_0, va1_c2_0_1, va1_c2_0_2, ca0_0, ca1_c2_0_0, ca1_c2_0_1, ca1_c2_0_2, b0, b1, rfl, rfl, ha0_0, lha0_0, ha1_c2_0_0, lha1_c2_0_0, ha1_c2_0_1, lha1_c2_0_1, ha1_c2_0_2, lha1_c2_0_2⟩⟩
end Go.Proofs.YtnglgjgflohkmaaGreat.Sk
