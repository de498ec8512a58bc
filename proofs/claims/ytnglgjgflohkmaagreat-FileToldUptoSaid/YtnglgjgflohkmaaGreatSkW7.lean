/- Walks, printed by gen.py. No condition. -/
import Derived.Test.YtnglgjgflohkmaaGreatSkTy
import Derived.Test.YtnglgjgflohkmaaGreatSkW1
import Derived.Test.YtnglgjgflohkmaaGreatSkW2
import Derived.Test.YtnglgjgflohkmaaGreatSkW3
import Derived.Test.YtnglgjgflohkmaaGreatSkW4
namespace Go.Proofs.YtnglgjgflohkmaaGreat.Sk
open Go Go.Proofs.Tryz
set_option linter.unusedVariables false
set_option linter.unusedSimpArgs false
variable {B w : World} {G : GH}
set_option linter.unusedVariables false
set_option maxHeartbeats 4000000
set_option maxRecDepth 100000
def sig_Text.f (a0 : Int) : Option (ByteArray) :=
 (sig_texts.f).bind fun t0 => (bif decide (a0 < 0) then none else some ()).bind fun t1 => bif decide (a0 ≥ (t0.length : Int)) then none else (idx t0 a0).bind fun x0 => some x0
def sig_Text.K (r : ByteArray) (G39 : GH) (v : Value) (N : List Res) : Prop := v = tup [(.string r)] ∧ N = [] ∧ r.size ≤ SB
theorem sig_Text.ok {a0 : Int} (st : St B w G []) (ha0 : InK .i64 a0) {r : ByteArray} (hr : sig_Text.f a0 = some r) :
 Calls Tryz.prog 186 ([(vi a0)] : List Value).toArray w (Ret B G (sig_Text.K r)) := by
 refine Jc [.tmp 2] func186 rfl ntmps186 rfl rfl ?_
 refine J2 (J1 ?_)
 refine Jsv (.string ({data := #[]} : ByteArray)) rfl rfl ?_
 refine J0 (J2 (J1 ?_))
 obtain ⟨t0, h0, hr⟩ := J6 hr
 refine J8 (f := 212) (av := []) cf212 rfl rfl st rfl (fun G0 e0 h1 => sig_texts.ok h1 h0) ?_
 rintro v0 w0 G1 G2 N0 e1 q0 ⟨_, c0, rfl, rfl, f0, f1⟩ h2
 refine Jsv v0 rfl rfl ?_
 refine J0 (J2 (J2 (J1 ?_)))
 refine Jmv (vi a0) rfl rfl ?_
 refine Ji rfl rfl rfl ?_
 refine Jmv (.bool (decide (a0 < 0))) rfl rfl ?_
 obtain ⟨t1, hr, o0⟩ := J6 hr
 refine Jw 5 (fun ρ w => ∃ (σ0 : Env) (G3 : GH), ρ = En σ0 [(0, (vi a0)), (3, v0), (12, (.bool (decide (a0 ≥ (t0.length : Int)))))] ∧ Ext G2 G3 ∧ St B w G3 [.row v0 9 1 t0.length c0]) ?_ ?_
 ·rcases Y8 (decide (a0 < 0)) with hb_ | hb_
  ·exact Jk hr hb_
  have h3 : (decide (a0 < 0)) = false := hb_
  replace hr := Jf hr h3
  refine Ja rfl rfl rfl rfl h3 ?_
  refine Jmv (vi a0) rfl rfl ?_
  refine Ja rfl rfl rfl rfl h3 ?_
  refine Jmv v0 rfl rfl ?_
  refine Ja rfl rfl rfl rfl h3 ?_
  refine WL_lenOwn (l1 := []) underlying214 h2 rfl rfl ?_
  refine Ja rfl rfl rfl rfl h3 ?_
  refine Yk rfl rfl rfl ?_
  refine Jt (v := (.bool (decide (a0 ≥ (t0.length : Int))))) rfl rfl h3 rfl ?_
  refine J0 ?_
  obtain rfl := Option.some.inj hr
  exact ⟨_, _, (J3 ⟨rfl, rfl, rfl, trivial⟩), (Ext.refl _), h2⟩
 rintro _ _ ⟨σ0, G3, rfl, e2, h4⟩
 replace hr := o0
 refine J0 ?_
 refine J7 rfl (fun h5 => ?_) (fun h5 => ?_)
 ·exact Jk hr h5
 replace hr := Jf hr h5
 refine J9 (J2 (J1 ?_))
 refine Jmv v0 rfl rfl ?_
 refine Jmv (vi a0) rfl rfl ?_
 obtain ⟨x0, h6, hr⟩ := J6 hr
 refine Y7 (l1 := []) underlying214 ti9 h4 rfl rfl rfl (idx_some h6).1 (idx_m h6 rfl) ?_
 intro g0 k0 l0
 refine WL_loadOwn1 (l1 := []) (T := tStr) ti9 rfl h4 k0 (EAll.mono e2.ro (EAll.mono q0 f0)) rfl rfl h6 ?_
 intro c1 f2
 obtain ⟨rfl, f3⟩ := one_str f2
 refine Jsv (.string x0) rfl rfl ?_
 refine J0 (Jg ?_)
 have h7 := St.takeN 0 h4
 obtain rfl := Option.some.inj hr
 exact ⟨[(.string x0)], ⟨rfl, trivial⟩, _, _, _, rfl, (e1.trans e2), h7, ⟨rfl, rfl, f3⟩⟩
def object_kind.f (a0 : XSymbol) : Option (Bool) :=
 bif decide (a0.Sort_ = 1) then (sig_Is.f a0.Kind).bind fun t0 => some !t0 else bif decide (a0.Sort_ = 2) then (sig_Text.f a0.Kind).bind fun t1 => some (seq t1 ({data := #[]} : ByteArray)) else none
def object_kind.K (r : Bool) (G37 : GH) (v : Value) (N : List Res) : Prop := v = tup [(.bool r)] ∧ N = []
theorem object_kind.ok {ca0 : List Value} {a0 : XSymbol} (st : St B w G []) (ha0 : TSymbol.rep G ca0 a0) {r : Bool} (hr : object_kind.f a0 = some r) :
 Calls Tryz.prog 143 ([(.agg ca0.toArray)] : List Value).toArray w (Ret B G (object_kind.K r)) := by
 obtain ⟨rfl, ha0_0, ha0_2, ha0_3, ha0_4⟩ := ha0
 refine Jc [.tmp 2] func143 rfl ntmps143 rfl rfl ?_
 refine J2 (J1 ?_)
 refine Ju (cs := [(.string a0.Name), (.bool a0.Local), (vi a0.Sort_), (vi a0.Kind), (vi a0.Def)]) st rfl rfl rfl ?_
 intro b0 w0 h0
 refine Jsv (.bool false) rfl rfl ?_
 refine J0 (J2 (J2 (J1 ?_)))
 refine Jfa 2 2 underlying82 rfl ti3 rfl rfl rfl rfl ?_
 refine Jlb [] (vi a0.Sort_) ti3 h0 rfl rfl rfl ?_
 refine J0 (Jb (J2 (J1 ?_)))
 refine Y3 rfl rfl rfl ?_
 refine Jsv (.bool (decide (a0.Sort_ = 1))) rfl rfl ?_
 refine J0 ?_
 refine J7 rfl (fun h1 => ?_) (fun h1 => ?_)
 ·replace hr := Jx hr h1
  refine J2 (J1 ?_)
  refine Jfa 3 3 underlying82 rfl ti3 rfl rfl rfl rfl ?_
  refine Jlb [] (vi a0.Kind) ti3 h0 rfl rfl rfl ?_
  obtain ⟨t0, h2, hr⟩ := J6 hr
  refine J8 (f := 54) (av := [(vi a0.Kind)]) cf54 rfl rfl h0 rfl (fun G0 e0 h3 => sig_Is.ok h3 ha0_3 h2) ?_
  rintro v0 w1 G1 G2 N0 e1 q0 ⟨rfl, rfl⟩ h4
  refine Yc rfl rfl ?_
  refine Jsv (.bool !t0) rfl rfl ?_
  refine J0 (Jg ?_)
  have h5 := St.takeN 0 h4
  obtain rfl := Option.some.inj hr
  exact ⟨[(.bool !t0)], ⟨rfl, trivial⟩, _, _, _, rfl, e1, h5, ⟨rfl, rfl⟩⟩
 replace hr := Jf hr h1
 refine J2 (J1 ?_)
 refine Y3 rfl rfl rfl ?_
 refine Jsv (.bool (decide (a0.Sort_ = 2))) rfl rfl ?_
 refine J0 ?_
 refine J7 rfl (fun h6 => ?_) (fun h6 => ?_)
 ·replace hr := Jx hr h6
  refine J2 (J1 ?_)
  refine Jfa 3 3 underlying82 rfl ti3 rfl rfl rfl rfl ?_
  refine Jlb [] (vi a0.Kind) ti3 h0 rfl rfl rfl ?_
  obtain ⟨t1, h7, hr⟩ := J6 hr
  refine J8 (f := 186) (av := [(vi a0.Kind)]) cf186 rfl rfl h0 rfl (fun G3 e2 h8 => sig_Text.ok h8 ha0_3 h7) ?_
  rintro v1 w2 G4 G5 N1 e3 q1 ⟨rfl, rfl, f0⟩ h9
  refine WL_seql rfl rfl rfl ?_
  refine Jsv (.bool (seq t1 ({data := #[]} : ByteArray))) rfl rfl ?_
  refine J0 (Jg ?_)
  have h10 := St.takeN 0 h9
  obtain rfl := Option.some.inj hr
  exact ⟨[(.bool (seq t1 ({data := #[]} : ByteArray)))], ⟨rfl, trivial⟩, _, _, _, rfl, e3, h10, ⟨rfl, rfl⟩⟩
 exact Yo hr h6
def api_Symbol_187.l0 (a0 : (List XSymbol)) (a1_c0_ : XSymbol) (s0 : Nat) : Option (Step Nat Unit) :=
 bif decide (((s0 : Nat) : Int) < (a0.length : Int)) then (idx a0 ((s0 : Nat) : Int)).bind fun x0 => (object_symbol_1.f x0 a1_c0_).bind fun t0 => bif t0 then none else some (.next (s0 + 1)) else some (.done ())
def api_Symbol_187.f (a0 : (List XSymbol)) (a1_c0_ : XSymbol) : Option (Unit) :=
 (loop (api_Symbol_187.l0 a0 a1_c0_) 0).bind fun t1 => some ()
def api_Symbol_187.K (ba1_c0 : Nat) (a1_c0_ : XSymbol) (r : Unit) (G0 : GH) (v : Value) (N : List Res) : Prop := v = tup [(vi (-1))] ∧ N = [.blk ba1_c0 [(.string a1_c0_.Name), (.bool a1_c0_.Local), (vi a1_c0_.Sort_), (vi a1_c0_.Kind), (vi a1_c0_.Def)] 82]
theorem api_Symbol_187.ok {va0 : Value} {a0 : (List XSymbol)} {ba1_c0 : Nat} {ca1_c0_ : List Value} {a1_c0_ : XSymbol} (st : St B w G [.blk ba1_c0 ca1_c0_ 82]) (ha0 : SRep 82 TSymbol G va0 a0) (ha1_c0_ : TSymbol.rep G ca1_c0_ a1_c0_) {r : Unit} (hr : api_Symbol_187.f a0 a1_c0_ = some r) :
 Calls Tryz.prog 187 ([va0, (.func (.func 139) #[] #[(pt ba1_c0 0)])] : List Value).toArray w (Ret B G (api_Symbol_187.K ba1_c0 a1_c0_ r)) := by
 obtain ⟨rfl, ha1_c0__0, ha1_c0__2, ha1_c0__3, ha1_c0__4⟩ := ha1_c0_
 refine Jc [.tmp 4] func187 rfl ntmps187 rfl rfl ?_
 refine J2 (J1 ?_)
 refine Jsv (vi 0) rfl rfl ?_
 refine J0 (J2 (J2 (J1 ?_)))
 refine Jmv va0 rfl rfl ?_
 refine Jd (T := TSymbol) underlying57 ha0 rfl rfl ?_
 refine Jmv (vi 0) rfl rfl ?_
 refine J0 (Jb ?_)
 obtain ⟨t1, h0, hr⟩ := J6 hr
 refine Js 0 h0 (fun s0 ρ w => ∃ (σ0 : Env) (G1 : GH), ρ = En σ0 [(0, va0), (1, (.func (.func 139) #[] #[(pt ba1_c0 0)])), (7, (vi (a0.length : Int))), (8, (vi ((s0 : Nat) : Int)))] ∧ Ext G G1 ∧ St B w G1 [.blk ba1_c0 [(.string a1_c0_.Name), (.bool a1_c0_.Local), (vi a1_c0_.Sort_), (vi a1_c0_.Kind), (vi a1_c0_.Def)] 82] ∧ InK .i64 ((s0 : Nat) : Int)) (fun t2 ρ w => ∃ (σ1 : Env) (G2 : GH), ρ = En σ1 [] ∧ Ext G G2 ∧ St B w G2 [.blk ba1_c0 [(.string a1_c0_.Name), (.bool a1_c0_.Local), (vi a1_c0_.Sort_), (vi a1_c0_.Kind), (vi a1_c0_.Def)] 82]) ⟨_, _, (J3 ⟨rfl, rfl, rfl, rfl, trivial⟩), (Ext.refl _), st, (by rfl)⟩ ?_ ?_
 ·rintro s0 x1 _ _ hr ⟨σ0, G1, rfl, e0, h1, f0⟩
  refine J2 (J1 ?_)
  refine Ji rfl rfl rfl ?_
  refine J0 (J2 ?_)
  refine J7 rfl (fun h2 => ?_) (fun h2 => ?_)
  ·replace hr := Jx hr h2
   refine J9 (J2 (Jb (J2 (J1 ?_))))
   refine Jmv (vi ((s0 : Nat) : Int)) rfl rfl ?_
   refine Jsv (vi ((s0 : Nat) : Int)) rfl rfl ?_
   refine J0 (J2 (J1 ?_))
   refine Jmv (.func (.func 139) #[] #[(pt ba1_c0 0)]) rfl rfl ?_
   refine Jmv va0 rfl rfl ?_
   refine Jmv (vi ((s0 : Nat) : Int)) rfl rfl ?_
   obtain ⟨x0, h3, hr⟩ := J6 hr
   refine Jh (T := TSymbol) underlying57 ti82 h1 (SRep.mono e0.ro ha0) rfl rfl rfl h3 ?_
   intro b0 o0 c0 l3 f1
   obtain ⟨rfl, f2, f3, f4, f5⟩ := f1
   refine Jy ti82 rfl rfl (LiesG.lies l3 h1) (Nat.le_of_ble_eq_true rfl) ?_
   change WL _ _ _ _ _ _ (upd _ _ (.agg #[(.string x0.Name), (.bool x0.Local), (vi x0.Sort_), (vi x0.Kind), (vi x0.Def)])) _
   obtain ⟨t0, h4, hr⟩ := J6 hr
   refine Jn (f := 139) (av := [(.agg #[(.string x0.Name), (.bool x0.Local), (vi x0.Sort_), (vi x0.Kind), (vi x0.Def)]), (pt ba1_c0 0)]) cf139 rfl rfl h1 rfl (fun G3 e1 h5 => object_symbol_1.ok (a0 := x0) (a1_ := a1_c0_) h5 (⟨rfl, f2, f3, f4, f5⟩) (⟨rfl, ha1_c0__0, ha1_c0__2, ha1_c0__3, ha1_c0__4⟩) h4) ?_
   rintro v0 w0 G4 G5 N0 e2 q0 ⟨rfl, rfl⟩ h6
   refine J0 ?_
   refine J7 rfl (fun h7 => ?_) (fun h7 => ?_)
   ·exact Jk hr h7
   replace hr := Jf hr h7
   refine J9 (J1 ?_)
   refine Y2 rfl rfl rfl (of_decide_eq_true h2) (inK_len (SRep.le ha0)) ?_
   refine Jmv (vi ((s0 + 1 : Nat) : Int)) rfl rfl ?_
   refine J0 ?_
   exact ⟨_, (Option.some.inj hr).symm, _, _, (J3 ⟨rfl, rfl, rfl, rfl, trivial⟩), (e0.trans e2), h6, (inK_inc (of_decide_eq_true h2) (inK_len (SRep.le ha0)))⟩
  replace hr := Jf hr h2
  refine Jr ?_
  exact ⟨_, (Option.some.inj hr).symm, rfl, _, _, rfl, e0, h1⟩
 rintro _ _ ⟨σ1, G2, rfl, e3, h8⟩
 refine J2 (J1 ?_)
 refine Jsv (vi (-1)) rfl rfl ?_
 refine J0 (Jg ?_)
 obtain rfl := Option.some.inj hr
 exact ⟨[(vi (-1))], ⟨rfl, trivial⟩, _, _, _, rfl, e3, h8, ⟨rfl, rfl⟩⟩
def api_Symbol_144.f (a0 : (List XSymbol)) (a1_c0_ : XSymbol) : Option (Unit) :=
 (api_Symbol_187.f a0 a1_c0_).bind fun t0 => some ()
def api_Symbol_144.K (ba1_c0 : Nat) (a1_c0_ : XSymbol) (r : Unit) (G16 : GH) (v : Value) (N : List Res) : Prop := v = tup [(.bool false)] ∧ N = [.blk ba1_c0 [(.string a1_c0_.Name), (.bool a1_c0_.Local), (vi a1_c0_.Sort_), (vi a1_c0_.Kind), (vi a1_c0_.Def)] 82]
theorem api_Symbol_144.ok {va0 : Value} {a0 : (List XSymbol)} {ba1_c0 : Nat} {ca1_c0_ : List Value} {a1_c0_ : XSymbol} (st : St B w G [.blk ba1_c0 ca1_c0_ 82]) (ha0 : SRep 82 TSymbol G va0 a0) (ha1_c0_ : TSymbol.rep G ca1_c0_ a1_c0_) {r : Unit} (hr : api_Symbol_144.f a0 a1_c0_ = some r) :
 Calls Tryz.prog 144 ([va0, (.func (.func 139) #[] #[(pt ba1_c0 0)])] : List Value).toArray w (Ret B G (api_Symbol_144.K ba1_c0 a1_c0_ r)) := by
 obtain ⟨rfl, ha1_c0__0, ha1_c0__2, ha1_c0__3, ha1_c0__4⟩ := ha1_c0_
 refine Jc [.tmp 4] func144 rfl ntmps144 rfl rfl ?_
 refine J2 (J1 ?_)
 refine Jsv (.bool false) rfl rfl ?_
 refine J0 (J2 (J1 ?_))
 refine Jmv va0 rfl rfl ?_
 refine Jmv (.func (.func 139) #[] #[(pt ba1_c0 0)]) rfl rfl ?_
 obtain ⟨t0, h0, hr⟩ := J6 hr
 refine Jn (f := 187) (av := [va0, (.func (.func 139) #[] #[(pt ba1_c0 0)])]) cf187 rfl rfl st rfl (fun G0 e0 h1 => api_Symbol_187.ok (a1_c0_ := a1_c0_) h1 (SRep.mono e0.ro ha0) (⟨rfl, ha1_c0__0, ha1_c0__2, ha1_c0__3, ha1_c0__4⟩) h0) ?_
 rintro v0 w0 G1 G2 N0 e1 q0 ⟨rfl, rfl⟩ h2
 refine Yk rfl rfl rfl ?_
 change WL _ _ _ _ _ _ (upd _ _ (.bool false)) _
 refine Jsv (.bool false) rfl rfl ?_
 refine J0 (Jg ?_)
 obtain rfl := Option.some.inj hr
 exact ⟨[(.bool false)], ⟨rfl, trivial⟩, _, _, _, rfl, e1, h2, ⟨rfl, rfl⟩⟩
def sig_Class.f (a0 : Int) : Option (Unit) :=
 (sig_Is.f (IntKind.wrap .i64 (a0 - 1))).bind fun t0 => bif !t0 then some () else none
def sig_Class.K (r : Unit) (G17 : GH) (v : Value) (N : List Res) : Prop := v = tup [(vi 0), (.bool false)] ∧ N = []
theorem sig_Class.ok {a0 : Int} (st : St B w G []) (ha0 : InK .i64 a0) {r : Unit} (hr : sig_Class.f a0 = some r) :
 Calls Tryz.prog 214 ([(vi a0)] : List Value).toArray w (Ret B G (sig_Class.K r)) := by
 refine Jc [.tmp 2, .tmp 3] func214 rfl ntmps214 rfl rfl ?_
 refine J2 (J1 ?_)
 refine Jsv (vi 0) rfl rfl ?_
 refine Jsv (.bool false) rfl rfl ?_
 refine J0 (J2 (J2 (J1 ?_)))
 refine Jmv (vi a0) rfl rfl ?_
 refine Yn rfl rfl rfl ?_
 obtain ⟨t0, h0, hr⟩ := J6 hr
 refine J8 (f := 54) (av := [(vi (IntKind.wrap .i64 (a0 - 1)))]) cf54 rfl rfl st rfl (fun G0 e0 h1 => sig_Is.ok h1 (inK_wrap _ _) h0) ?_
 rintro v0 w0 G1 G2 N0 e1 q0 ⟨rfl, rfl⟩ h2
 refine Yc rfl rfl ?_
 refine J0 ?_
 refine J7 rfl (fun h3 => ?_) (fun h3 => ?_)
 ·replace hr := Jx hr h3
  refine J2 (J1 ?_)
  refine Jsv (vi 0) rfl rfl ?_
  refine Jsv (.bool false) rfl rfl ?_
  refine J0 (Jg ?_)
  obtain rfl := Option.some.inj hr
  exact ⟨[(vi 0), (.bool false)], ⟨rfl, rfl, trivial⟩, _, _, _, rfl, e1, h2, ⟨rfl, rfl⟩⟩
 exact Yo hr h3
def data_rules.f (a0 : XData) (a1 : (List XSymbol)) : Option (Unit) :=
 (sig_Class.f a0.Kind).bind fun t0 => some ()
def data_rules.K (a0 : XData) (va1 : Value) (r : Unit) (G35 : GH) (v : Value) (N : List Res) : Prop := ∃ (v40 : Value) (v43 : Value) (v45 : Value) (b42 : Nat) (b48 : Nat) (b50 : Nat), v = tup [v40] ∧ N = [.blk b42 [(vi a0.Kind), v43, v45] 49, .blk b48 [va1] 57, .blk b50 [(vi 0)] 3, .row v40 249 2 5 [(.func (.func 215) #[] #[(pt b42 0)]), (vi 11), (.func (.func 216) #[] #[(pt b42 0)]), (vi 11), (.func (.func 217) #[] #[(pt b42 0)]), (vi 11), (.func (.func 218) #[] #[(pt b48 0)]), (vi 11), (.func (.func 219) #[] #[(pt b48 0), (pt b50 0)]), (vi 8)]] ∧ SRep 2 (tInt .i64) G35 v43 a0.Words ∧ SRep 133 TReloc G35 v45 a0.Relocs
theorem data_rules.ok {ca0 : List Value} {a0 : XData} {va1 : Value} {a1 : (List XSymbol)} (st : St B w G []) (ha0 : TData.rep G ca0 a0) (ha1 : SRep 82 TSymbol G va1 a1) {r : Unit} (hr : data_rules.f a0 a1 = some r) :
 Calls Tryz.prog 192 ([(.agg ca0.toArray), va1] : List Value).toArray w (Ret B G (data_rules.K a0 va1 r)) := by
 obtain ⟨sa0_1, sa0_2, rfl, ha0_0, ha0_1, ha0_2⟩ := ha0
 refine Jc [.tmp 4] func192 rfl ntmps192 rfl rfl ?_
 refine J2 (J1 ?_)
 refine Ju (cs := [(vi a0.Kind), sa0_1, sa0_2]) st rfl rfl rfl ?_
 intro b0 w0 h0
 refine Ju (cs := [va1]) h0 rfl rfl (cells_one (SRep.one ha1)) ?_
 intro b1 w1 h1
 refine Jsv (.slice none 0 0) rfl rfl ?_
 refine J0 (J2 (J1 ?_))
 refine Jfa 0 0 underlying49 rfl ti3 rfl rfl rfl rfl ?_
 refine Jlb [_] (vi a0.Kind) ti3 h1 rfl rfl rfl ?_
 obtain ⟨t0, h2, hr⟩ := J6 hr
 refine J8 (f := 214) (av := [(vi a0.Kind)]) cf214 rfl rfl h1 rfl (fun G0 e0 h3 => sig_Class.ok h3 ha0_0 h2) ?_
 rintro v0 w2 G1 G2 N0 e1 q0 ⟨rfl, rfl⟩ h4
 refine Jmv (.tuple #[(vi 0), (.bool false)]) rfl rfl ?_
 refine Jm rfl rfl rfl ?_
 refine Jm rfl rfl rfl ?_
 refine Jo ti3 h4 rfl ?_
 intro b2 w3 h5
 refine Y5 (l1 := []) (v := (vi 0)) ti3 h5 rfl rfl rfl rfl ?_
 intro w4 (h6 : St B w4 G2 [.blk b2 [(vi 0)] 3, .blk b1 [va1] 57, .blk b0 [(vi a0.Kind), sa0_1, sa0_2] 49])
 refine Jsv (.bool false) rfl rfl ?_
 refine J0 (J2 (J1 ?_))
 refine Yg (fs := []) (cs := [(pt b0 0)]) rfl rfl rfl ?_
 refine Y0 (cells := #[(.func (.func 215) #[] #[(pt b0 0)]), (vi 11)]) rfl (by kernel_rfl) ?_
 refine Yg (fs := []) (cs := [(pt b0 0)]) rfl rfl rfl ?_
 refine Y0 (cells := #[(.func (.func 216) #[] #[(pt b0 0)]), (vi 11)]) rfl (by kernel_rfl) ?_
 refine Yg (fs := []) (cs := [(pt b0 0)]) rfl rfl rfl ?_
 refine Y0 (cells := #[(.func (.func 217) #[] #[(pt b0 0)]), (vi 11)]) rfl (by kernel_rfl) ?_
 refine Yg (fs := []) (cs := [(pt b1 0)]) rfl rfl rfl ?_
 refine Y0 (cells := #[(.func (.func 218) #[] #[(pt b1 0)]), (vi 11)]) rfl (by kernel_rfl) ?_
 refine Yg (fs := []) (cs := [(pt b1 0), (pt b2 0)]) rfl rfl rfl ?_
 refine Y0 (cells := #[(.func (.func 219) #[] #[(pt b1 0), (pt b2 0)]), (vi 8)]) rfl (by kernel_rfl) ?_
 refine Jj (cells := [(.func (.func 215) #[] #[(pt b0 0)]), (vi 11), (.func (.func 216) #[] #[(pt b0 0)]), (vi 11), (.func (.func 217) #[] #[(pt b0 0)]), (vi 11), (.func (.func 218) #[] #[(pt b1 0)]), (vi 11), (.func (.func 219) #[] #[(pt b1 0), (pt b2 0)]), (vi 8)]) underlying245 ti249 h6 rfl rfl rfl rfl rfl (by kernel_rfl) ?_
 intro v1 w5 h7 f0
 refine Jsv v1 rfl rfl ?_
 refine J0 (Jg ?_)
 have h8 := St.pick 1 rfl h7
 have h9 := St.pick 2 rfl h8
 have h10 := St.pick 3 rfl h9
 obtain rfl := Option.some.inj hr
 exact ⟨[v1], ⟨rfl, trivial⟩, _, _, _, rfl, e1, h10, ⟨v1, sa0_1, sa0_2, b0, b1, b2, rfl, rfl, (SRep.mono e1.ro ha0_1), (SRep.mono e1.ro ha0_2)⟩⟩
def sig_Params.f (a0 : Int) : Option (Int) :=
 (sig_Is.f a0).bind fun t0 => bif !t0 then none else some (shr .i64 a0 1)
def sig_Params.K (r : Int) (G17 : GH) (v : Value) (N : List Res) : Prop := v = tup [(vi r)] ∧ N = [] ∧ InK .i64 r
theorem sig_Params.ok {a0 : Int} (st : St B w G []) (ha0 : InK .i64 a0) {r : Int} (hr : sig_Params.f a0 = some r) :
 Calls Tryz.prog 244 ([(vi a0)] : List Value).toArray w (Ret B G (sig_Params.K r)) := by
 refine Jc [.tmp 2] func244 rfl ntmps244 rfl rfl ?_
 refine J2 (J1 ?_)
 refine Jsv (vi 0) rfl rfl ?_
 refine J0 (J2 (J2 (J1 ?_)))
 refine Jmv (vi a0) rfl rfl ?_
 obtain ⟨t0, h0, hr⟩ := J6 hr
 refine J8 (f := 54) (av := [(vi a0)]) cf54 rfl rfl st rfl (fun G0 e0 h1 => sig_Is.ok h1 ha0 h0) ?_
 rintro v0 w0 G1 G2 N0 e1 q0 ⟨rfl, rfl⟩ h2
 refine Yc rfl rfl ?_
 refine J0 ?_
 refine J7 rfl (fun h3 => ?_) (fun h3 => ?_)
 ·exact Jk hr h3
 replace hr := Jf hr h3
 refine J9 (J2 (J1 ?_))
 refine Jmv (vi a0) rfl rfl ?_
 refine WL_shr rfl rfl rfl (by decide) ?_
 refine Jsv (vi (shr .i64 a0 1)) rfl rfl ?_
 refine J0 (Jg ?_)
 obtain rfl := Option.some.inj hr
 exact ⟨[(vi (shr .i64 a0 1))], ⟨rfl, trivial⟩, _, _, _, rfl, e1, h2, ⟨rfl, rfl, (inK_shr ha0)⟩⟩
def fun_slots.l0 (a0 : XFunc) (t0 : Int) (s0 : Nat) : Option (Step Nat Unit) :=
 bif decide (((s0 : Nat) : Int) < (a0.Kinds.length : Int)) then (idx a0.Kinds ((s0 : Nat) : Int)).bind fun x0 => (sig_Text.f x0).bind fun t1 => (bif seq t1 ({data := #[]} : ByteArray) then none else (bif decide (((s0 : Nat) : Int) < t0) then none else some ()).bind fun t2 => some ()).bind fun t3 => some (.next (s0 + 1)) else some (.done ())
def fun_slots.f (a0 : XFunc) : Option (Unit) :=
 (sig_Params.f a0.Class).bind fun t0 => (sig_Is.f a0.Class).bind fun t4 => bif !t4 then none else bif decide ((a0.Kinds.length : Int) > 16) then none else bif decide ((a0.Kinds.length : Int) < t0) then none else (loop (fun_slots.l0 a0 t0) 0).bind fun t5 => some ()
def fun_slots.K (r : Unit) (G0 : GH) (v : Value) (N : List Res) : Prop := v = tup [(vi 0)] ∧ N = []
theorem fun_slots.ok {ca0 : List Value} {a0 : XFunc} (st : St B w G []) (ha0 : TFunc.rep G ca0 a0) {r : Unit} (hr : fun_slots.f a0 = some r) :
 Calls Tryz.prog 220 ([(.agg ca0.toArray)] : List Value).toArray w (Ret B G (fun_slots.K r)) := by
 obtain ⟨sa0_1, sa0_6, sa0_7, sa0_8, rfl, ha0_0, ha0_1, ha0_2, ha0_4, ha0_5, ha0_6, ha0_7, ha0_8⟩ := ha0
 refine Jc [.tmp 2] func220 rfl ntmps220 rfl rfl ?_
 refine J2 (J1 ?_)
 refine Ju (cs := [(vi a0.Class), sa0_1, (vi a0.Pad), (.bool a0.Nosplit), (vi a0.From), (vi a0.To), sa0_6, sa0_7, sa0_8]) st rfl rfl rfl ?_
 intro b0 w0 h0
 refine Jsv (vi 0) rfl rfl ?_
 refine J0 (J2 (J1 ?_))
 refine Jfa 0 0 underlying44 rfl ti3 rfl rfl rfl rfl ?_
 refine Jlb [] (vi a0.Class) ti3 h0 rfl rfl rfl ?_
 obtain ⟨t0, h1, hr⟩ := J6 hr
 refine J8 (f := 244) (av := [(vi a0.Class)]) cf244 rfl rfl h0 rfl (fun G1 e0 h2 => sig_Params.ok h2 ha0_0 h1) ?_
 rintro v0 w1 G2 G3 N0 e1 q0 ⟨rfl, rfl, f0⟩ h3
 refine Jsv (vi t0) rfl rfl ?_
 refine J0 (J2 (Jb (J2 (J1 ?_))))
 refine Jfa 0 0 underlying44 rfl ti3 rfl rfl rfl rfl ?_
 refine Jlb [] (vi a0.Class) ti3 h3 rfl rfl rfl ?_
 obtain ⟨t4, h4, hr⟩ := J6 hr
 refine J8 (f := 54) (av := [(vi a0.Class)]) cf54 rfl rfl h3 rfl (fun G4 e2 h5 => sig_Is.ok h5 ha0_0 h4) ?_
 rintro v1 w2 G5 G6 N1 e3 q1 ⟨rfl, rfl⟩ h6
 refine Yc rfl rfl ?_
 refine Jsv (.bool !t4) rfl rfl ?_
 refine J0 ?_
 refine J7 rfl (fun h7 => ?_) (fun h7 => ?_)
 ·exact Jk hr h7
 replace hr := Jf hr h7
 refine J2 (J1 ?_)
 refine Jfa 1 1 underlying44 rfl ti39 rfl rfl rfl rfl ?_
 refine Jlb [] sa0_1 ti39 h6 rfl rfl rfl ?_
 refine Jd (T := (tInt .i64)) underlying39 (SRep.mono (e1.ro.trans e3.ro) ha0_1) rfl rfl ?_
 refine Yh rfl rfl rfl ?_
 refine Jsv (.bool (decide ((a0.Kinds.length : Int) > 16))) rfl rfl ?_
 refine J0 ?_
 refine J7 rfl (fun h8 => ?_) (fun h8 => ?_)
 ·exact Jk hr h8
 replace hr := Jf hr h8
 refine J2 (J1 ?_)
 refine Jfa 1 1 underlying44 rfl ti39 rfl rfl rfl rfl ?_
 refine Jlb [] sa0_1 ti39 h6 rfl rfl rfl ?_
 refine Jd (T := (tInt .i64)) underlying39 (SRep.mono (e1.ro.trans e3.ro) ha0_1) rfl rfl ?_
 refine Jmv (vi t0) rfl rfl ?_
 refine Ji rfl rfl rfl ?_
 refine Jsv (.bool (decide ((a0.Kinds.length : Int) < t0))) rfl rfl ?_
 refine J0 ?_
 refine J7 rfl (fun h9 => ?_) (fun h9 => ?_)
 ·exact Jk hr h9
 replace hr := Jf hr h9
 refine J9 (J2 (J2 (J1 ?_)))
 refine Jfa 1 1 underlying44 rfl ti39 rfl rfl rfl rfl ?_
 refine Jlb [] sa0_1 ti39 h6 rfl rfl rfl ?_
 refine Jd (T := (tInt .i64)) underlying39 (SRep.mono (e1.ro.trans e3.ro) ha0_1) rfl rfl ?_
 refine Jmv (vi 0) rfl rfl ?_
 refine J0 (Jb ?_)
 obtain ⟨t5, h10, hr⟩ := J6 hr
 have h11 := St.takeN 0 h6
 refine Js 1 h10 (fun s0 ρ w => ∃ (σ0 : Env) (G7 : GH), ρ = En σ0 [(3, (vi t0)), (26, sa0_1), (27, (vi (a0.Kinds.length : Int))), (28, (vi ((s0 : Nat) : Int)))] ∧ Ext G6 G7 ∧ St B w G7 [] ∧ InK .i64 ((s0 : Nat) : Int)) (fun t6 ρ w => ∃ (σ1 : Env) (G8 : GH), ρ = En σ1 [] ∧ Ext G6 G8 ∧ St B w G8 []) ⟨_, _, (J3 ⟨rfl, rfl, rfl, rfl, trivial⟩), (Ext.refl _), h11, (by rfl)⟩ ?_ ?_
 ·rintro s0 x1 _ _ hr ⟨σ0, G7, rfl, e4, h12, f1⟩
  refine J2 (J1 ?_)
  refine Ji rfl rfl rfl ?_
  refine J0 (J2 ?_)
  refine J7 rfl (fun h13 => ?_) (fun h13 => ?_)
  ·replace hr := Jx hr h13
   refine J9 (J2 (Jb (J2 (J1 ?_))))
   refine Jmv (vi ((s0 : Nat) : Int)) rfl rfl ?_
   obtain ⟨x0, h14, hr⟩ := J6 hr
   refine Jh (T := (tInt .i64)) underlying39 ti3 h12 (SRep.mono (e1.ro.trans (e3.ro.trans e4.ro)) ha0_1) rfl rfl rfl h14 ?_
   intro b1 o0 c0 l3 f2
   obtain ⟨rfl, f3⟩ := f2
   refine Y4 (v := (vi x0)) ti3 rfl rfl (LiesG.lies l3 h12) rfl ?_
   refine Jsv (vi ((s0 : Nat) : Int)) rfl rfl ?_
   refine Jsv (vi x0) rfl rfl ?_
   refine J0 (J2 (J1 ?_))
   refine Jmv (vi x0) rfl rfl ?_
   obtain ⟨t1, h15, hr⟩ := J6 hr
   refine J8 (f := 186) (av := [(vi x0)]) cf186 rfl rfl h12 rfl (fun G9 e5 h16 => sig_Text.ok h16 f3 h15) ?_
   rintro v2 w3 Ga Gb N2 e6 q2 ⟨rfl, rfl, f4⟩ h17
   refine WL_seql rfl rfl rfl ?_
   refine Jmv (.bool (seq t1 ({data := #[]} : ByteArray))) rfl rfl ?_
   obtain ⟨t3, hr, o1⟩ := J6 hr
   refine Jw 8 (fun ρ w => ∃ (σ2 : Env) (Gc : GH), ρ = En σ2 [(3, (vi t0)), (26, sa0_1), (27, (vi (a0.Kinds.length : Int))), (28, (vi ((s0 : Nat) : Int))), (44, (.bool false))] ∧ Ext Gb Gc ∧ St B w Gc []) ?_ ?_
   ·rcases Y8 (seq t1 ({data := #[]} : ByteArray)) with hb_ | hb_
    ·exact Jk hr hb_
    have h18 : (seq t1 ({data := #[]} : ByteArray)) = false := hb_
    replace hr := Jf hr h18
    refine Ja rfl rfl rfl rfl h18 ?_
    refine Jmv (vi ((s0 : Nat) : Int)) rfl rfl ?_
    refine Ja rfl rfl rfl rfl h18 ?_
    refine Jmv (vi t0) rfl rfl ?_
    refine Ja rfl rfl rfl rfl h18 ?_
    refine Ji rfl rfl rfl ?_
    refine Ja rfl rfl rfl rfl h18 ?_
    refine Jmv (.bool (decide (((s0 : Nat) : Int) < t0))) rfl rfl ?_
    obtain ⟨t2, hr, o2⟩ := J6 hr
    refine Jw 4 (fun ρ w => ∃ (σ3 : Env) (Gd : GH), ρ = En σ3 [(3, (vi t0)), (26, sa0_1), (27, (vi (a0.Kinds.length : Int))), (28, (vi ((s0 : Nat) : Int))), (44, (.bool false))] ∧ Ext Gb Gd ∧ St B w Gd []) ?_ ?_
    ·rcases Y8 (decide (((s0 : Nat) : Int) < t0)) with hb_ | hb_
     ·exact Jk hr hb_
     have h19 : (decide (((s0 : Nat) : Int) < t0)) = false := hb_
     replace hr := Jf hr h19
     refine Jv rfl rfl rfl rfl h19 ?_
     refine Jv rfl rfl rfl rfl h19 ?_
     refine Ja rfl rfl rfl rfl h18 ?_
     refine Jt (v := (.bool false)) rfl rfl h19 rfl ?_
     refine Jt (v := (.bool false)) rfl rfl h18 rfl ?_
     refine J0 ?_
     obtain rfl := Option.some.inj hr
     exact ⟨_, _, (J3 ⟨rfl, rfl, rfl, rfl, rfl, trivial⟩), (Ext.refl _), h17⟩
    rintro _ _ ⟨σ3, Gd, rfl, e7, h1a⟩
    replace hr := o2
    refine J0 ?_
    obtain rfl := Option.some.inj hr
    exact ⟨_, _, (J3 ⟨rfl, rfl, rfl, rfl, rfl, trivial⟩), e7, h1a⟩
   rintro _ _ ⟨σ2, Gc, rfl, e8, h1b⟩
   replace hr := o1
   refine J0 ?_
   refine J7 rfl (fun h => nomatch h) (fun _ => ?_)
   refine J9 (J1 ?_)
   refine Y2 rfl rfl rfl (of_decide_eq_true h13) (inK_len (SRep.le (SRep.mono (e1.ro.trans e3.ro) ha0_1))) ?_
   refine Jmv (vi ((s0 + 1 : Nat) : Int)) rfl rfl ?_
   refine J0 ?_
   exact ⟨_, (Option.some.inj hr).symm, _, _, (J3 ⟨rfl, rfl, rfl, rfl, trivial⟩), (e4.trans (e6.trans e8)), h1b, (inK_inc (of_decide_eq_true h13) (inK_len (SRep.le (SRep.mono (e1.ro.trans e3.ro) ha0_1))))⟩
  replace hr := Jf hr h13
  refine Jr ?_
  exact ⟨_, (Option.some.inj hr).symm, rfl, _, _, rfl, e4, h12⟩
 rintro _ _ ⟨σ1, G8, rfl, e9, h1c⟩
 refine J2 (J1 ?_)
 refine Jsv (vi 0) rfl rfl ?_
 refine J0 (Jg ?_)
 obtain rfl := Option.some.inj hr
 exact ⟨[(vi 0)], ⟨rfl, trivial⟩, _, _, _, rfl, (e1.trans (e3.trans e9)), h1c, ⟨rfl, rfl⟩⟩
def fun_relocs.l0 (a0 : XFunc) (s0 : ((List Int) × Nat)) : Option (Step ((List Int) × Nat) (List Int)) :=
 bif decide (((s0.2 : Nat) : Int) < (a0.Relocs.length : Int)) then (idx a0.Relocs ((s0.2 : Nat) : Int)).bind fun x0 => (bif decide (x0.Sym < 0) then none else some ()).bind fun t0 => bif decide (x0.Sym ≥ 32) then none else bif decide ((s0.1.length + 1) * 8 ≤ SB) then some (.next ((s0.1 ++ [x0.At]), s0.2 + 1)) else none else some (.done s0.1)
def fun_relocs.f (a0 : XFunc) : Option (Unit) :=
 (loop (fun_relocs.l0 a0) ([], 0)).bind fun t1 => (fun_rising.f (a0.Code.length : Int) t1).bind fun t2 => some ()
def fun_relocs.K (r : Unit) (G0 : GH) (v : Value) (N : List Res) : Prop := v = tup [(vi 0)] ∧ N = []
theorem fun_relocs.ok {ca0 : List Value} {a0 : XFunc} (st : St B w G []) (ha0 : TFunc.rep G ca0 a0) {r : Unit} (hr : fun_relocs.f a0 = some r) :
 Calls Tryz.prog 223 ([(.agg ca0.toArray)] : List Value).toArray w (Ret B G (fun_relocs.K r)) := by
 obtain ⟨sa0_1, sa0_6, sa0_7, sa0_8, rfl, ha0_0, ha0_1, ha0_2, ha0_4, ha0_5, ha0_6, ha0_7, ha0_8⟩ := ha0
 refine Jc [.tmp 2] func223 rfl ntmps223 rfl rfl ?_
 refine J2 (J1 ?_)
 refine Ju (cs := [(vi a0.Class), sa0_1, (vi a0.Pad), (.bool a0.Nosplit), (vi a0.From), (vi a0.To), sa0_6, sa0_7, sa0_8]) st rfl rfl rfl ?_
 intro b0 w0 h0
 refine Jsv (vi 0) rfl rfl ?_
 refine J0 (J2 (J1 ?_))
 refine Jsv (.slice none 0 0) rfl rfl ?_
 refine J0 (J2 (J2 (J1 ?_)))
 refine Jfa 8 8 underlying44 rfl ti42 rfl rfl rfl rfl ?_
 refine Jlb [] sa0_8 ti42 h0 rfl rfl rfl ?_
 refine Jd (T := TReloc) underlying42 ha0_8 rfl rfl ?_
 refine Jmv (vi 0) rfl rfl ?_
 refine J0 (Jb ?_)
 obtain ⟨t1, h1, hr⟩ := J6 hr
 have h2 := St.nilRow h0 3 1
 have h3 := St.row_len (l1 := []) (k := ([] : List Int).length) rfl h2
 have h4 := St.pick 1 rfl h3
 refine Js 0 h1 (fun s0 ρ w => ∃ (σ0 : Env) (G1 : GH) (v0 : Value) (c0 : List Value), ρ = En σ0 [(1, (pt b0 0)), (3, v0), (7, sa0_8), (8, (vi (a0.Relocs.length : Int))), (9, (vi ((s0.2 : Nat) : Int)))] ∧ Ext G G1 ∧ St B w G1 [.blk b0 [(vi a0.Class), sa0_1, (vi a0.Pad), (.bool a0.Nosplit), (vi a0.From), (vi a0.To), sa0_6, sa0_7, sa0_8] 44, .row v0 3 1 s0.1.length c0] ∧ EAll (tInt .i64) G1 c0 s0.1 ∧ s0.1.length ≤ SB ∧ InK .i64 ((s0.2 : Nat) : Int)) (fun t3 ρ w => ∃ (σ1 : Env) (G2 : GH) (v1 : Value) (c1 : List Value), ρ = En σ1 [(1, (pt b0 0)), (3, v1)] ∧ Ext G G2 ∧ St B w G2 [.blk b0 [(vi a0.Class), sa0_1, (vi a0.Pad), (.bool a0.Nosplit), (vi a0.From), (vi a0.To), sa0_6, sa0_7, sa0_8] 44, .row v1 3 1 t3.length c1] ∧ EAll (tInt .i64) G2 c1 t3 ∧ t3.length ≤ SB) ⟨_, _, (.slice none 0 0), [], (J3 ⟨rfl, rfl, rfl, rfl, rfl, trivial⟩), (Ext.refl _), h4, EAll.nil, (le_eq (m := 0) rfl (Nat.zero_le _)), (by rfl)⟩ ?_ ?_
 ·rintro s0 x1 _ _ hr ⟨σ0, G1, v0, c0, rfl, e0, h5, f0, f1, f2⟩
  refine J2 (J1 ?_)
  refine Ji rfl rfl rfl ?_
  refine J0 (J2 ?_)
  refine J7 rfl (fun h6 => ?_) (fun h6 => ?_)
  ·replace hr := Jx hr h6
   refine J9 (J2 (Jb (J2 (J1 ?_))))
   obtain ⟨x0, h7, hr⟩ := J6 hr
   refine Jh (T := TReloc) underlying42 ti133 h5 (SRep.mono e0.ro ha0_8) rfl rfl rfl h7 ?_
   intro b1 o0 c2 l3 f3
   obtain ⟨rfl, f4, f5⟩ := f3
   refine Jy ti133 rfl rfl (LiesG.lies l3 h5) (Nat.le_of_ble_eq_true rfl) ?_
   change WL _ _ _ _ _ _ (upd _ _ (.agg #[(vi x0.At), (vi x0.Sym), (.bool x0.Wide)])) _
   refine Jo ti133 h5 rfl ?_
   intro b2 w1 h8
   refine Jp (l1 := []) (vs := [(vi x0.At), (vi x0.Sym), (.bool x0.Wide)]) ti133 h8 rfl rfl rfl (J5 rfl (J5 rfl (J5 rfl (fun _ h => nomatch h)))) rfl ?_
   intro w2 (h9 : St B w2 G1 [.blk b2 [(vi x0.At), (vi x0.Sym), (.bool x0.Wide)] 133, .blk b0 [(vi a0.Class), sa0_1, (vi a0.Pad), (.bool a0.Nosplit), (vi a0.From), (vi a0.To), sa0_6, sa0_7, sa0_8] 44, .row v0 3 1 s0.1.length c0])
   refine J0 (J2 (J2 (J1 ?_)))
   refine Jfa 1 1 underlying133 rfl ti3 rfl rfl rfl rfl ?_
   refine Jlb [] (vi x0.Sym) ti3 h9 rfl rfl rfl ?_
   refine Ji rfl rfl rfl ?_
   refine Jmv (.bool (decide (x0.Sym < 0))) rfl rfl ?_
   obtain ⟨t0, hr, o1⟩ := J6 hr
   refine Jw 4 (fun ρ w => ∃ (σ2 : Env) (G3 : GH), ρ = En σ2 [(1, (pt b0 0)), (3, v0), (5, (pt b2 0)), (7, sa0_8), (8, (vi (a0.Relocs.length : Int))), (9, (vi ((s0.2 : Nat) : Int))), (20, (.bool (decide (x0.Sym ≥ 32))))] ∧ Ext G1 G3 ∧ St B w G3 [.blk b0 [(vi a0.Class), sa0_1, (vi a0.Pad), (.bool a0.Nosplit), (vi a0.From), (vi a0.To), sa0_6, sa0_7, sa0_8] 44, .row v0 3 1 s0.1.length c0, .blk b2 [(vi x0.At), (vi x0.Sym), (.bool x0.Wide)] 133]) ?_ ?_
   ·rcases Y8 (decide (x0.Sym < 0)) with hb_ | hb_
    ·exact Jk hr hb_
    have h10 : (decide (x0.Sym < 0)) = false := hb_
    replace hr := Jf hr h10
    refine Ja rfl rfl rfl rfl h10 ?_
    refine Jfa 1 1 underlying133 rfl ti3 rfl rfl rfl rfl ?_
    refine Ja rfl rfl rfl rfl h10 ?_
    refine Jlb [] (vi x0.Sym) ti3 h9 rfl rfl rfl ?_
    refine Ja rfl rfl rfl rfl h10 ?_
    refine Yk rfl rfl rfl ?_
    refine Jt (v := (.bool (decide (x0.Sym ≥ 32)))) rfl rfl h10 rfl ?_
    refine J0 ?_
    have h11 := St.pick 2 rfl h9
    have h12 := St.pick 2 rfl h11
    obtain rfl := Option.some.inj hr
    exact ⟨_, _, (J3 ⟨rfl, rfl, rfl, rfl, rfl, rfl, rfl, trivial⟩), (Ext.refl _), h12⟩
   rintro _ _ ⟨σ2, G3, rfl, e1, h13⟩
   replace hr := o1
   refine J0 ?_
   refine J7 rfl (fun h14 => ?_) (fun h14 => ?_)
   ·exact Jk hr h14
   replace hr := Jf hr h14
   refine J9 (J1 ?_)
   refine Jmv v0 rfl rfl ?_
   refine Jfa 0 0 underlying133 rfl ti3 rfl rfl rfl rfl ?_
   refine Jlb [_, _] (vi x0.At) ti3 h13 rfl rfl rfl ?_
   refine Jj (cells := [(vi x0.At)]) underlying39 ti3 h13 rfl rfl rfl rfl rfl (by kernel_rfl) ?_
   intro v2 w3 h15 f6
   have E0 : EAll (tInt .i64) G3 [(vi x0.At)] [x0.At] := ⟨_, _, rfl, ⟨rfl, f4⟩, rfl⟩
   obtain ⟨h16, hr⟩ := Ya hr
   obtain ⟨b3, l1460e, l4⟩ := f6
   subst l1460e
   refine WL_append (l1 := [_, _]) (news := [(vi x0.At)]) underlying39 ti3 rfl rfl h15 rfl rfl rfl rfl (lies_of (l1 := []) h15 rfl) (EAll.one E0) (app_lim rfl h16) (app_le rfl h16) ?_
   intro v3 w4 h17
   have E1 := EAll.append (T := (tInt .i64)) (EAll.mono e1.ro f0) E0
   refine Jsv v3 rfl rfl ?_
   refine J0 (J1 ?_)
   refine Y2 rfl rfl rfl (of_decide_eq_true h6) (inK_len (SRep.le ha0_8)) ?_
   refine Jmv (vi ((s0.2 + 1 : Nat) : Int)) rfl rfl ?_
   refine J0 ?_
   have h18 := St.row_len (l1 := [_, _]) (k := (s0.1 ++ [x0.At]).length) (len_app rfl) h17
   have h19 := St.pick 2 rfl h18
   have h1a := St.pick 2 rfl h19
   have h1b := St.takeN 2 h1a
   exact ⟨_, (Option.some.inj hr).symm, _, _, v3, (c0 ++ ([(vi x0.At)] : List Value)), (J3 ⟨rfl, rfl, rfl, rfl, rfl, trivial⟩), (e0.trans e1), h1b, E1, (le_eq (m := (s0.1.length + 1)) (len_app rfl) (app_le rfl h16)), (inK_inc (of_decide_eq_true h6) (inK_len (SRep.le ha0_8)))⟩
  replace hr := Jf hr h6
  refine Jr ?_
  have h1c := St.pick 1 rfl h5
  have h1d := St.pick 1 rfl h1c
  exact ⟨_, (Option.some.inj hr).symm, rfl, _, _, v0, c0, (J3 ⟨rfl, rfl, trivial⟩), e0, h1d, f0, f1⟩
 rintro _ _ ⟨σ1, G2, v1, c1, rfl, e2, h1e, f7, f8⟩
 refine J2 (J2 (J1 ?_))
 refine Jfa 7 7 underlying44 rfl ti41 rfl rfl rfl rfl ?_
 refine Jlb [] sa0_7 ti41 h1e rfl rfl rfl ?_
 refine Jd (T := TInstr) underlying41 (SRep.mono e2.ro ha0_7) rfl rfl ?_
 refine Jmv v1 rfl rfl ?_
 obtain ⟨G4, h1f, e3, f9⟩ := St.rowRep (l1 := [_]) (T := (tInt .i64)) (xs := t1) h1e f7 rfl f8
 obtain ⟨t2, h1g, hr⟩ := J6 hr
 refine J8 (f := 246) (av := [(vi (a0.Code.length : Int)), v1]) cf246 rfl rfl h1f rfl (fun G5 e4 h1h => fun_rising.ok h1h (inK_len (SRep.le (SRep.mono e2.ro ha0_7))) (SRep.mono e4.ro f9) h1g) ?_
 rintro v4 w5 G6 G7 N0 e5 q0 ⟨rfl, rfl⟩ h1i
 refine Yc rfl rfl ?_
 refine J0 ?_
 refine J7 rfl (fun h => nomatch h) (fun _ => ?_)
 refine J9 (J2 (J1 ?_))
 refine Jsv (vi 0) rfl rfl ?_
 refine J0 (Jg ?_)
 have h1j := St.takeN 0 h1i
 obtain rfl := Option.some.inj hr
 exact ⟨[(vi 0)], ⟨rfl, trivial⟩, _, _, _, rfl, (e2.trans (e3.trans e5)), h1j, ⟨rfl, rfl⟩⟩
def slices_Contains_rune_rune.f (a0 : (List Int)) (a1 : Int) : Option (Bool) :=
 (slices_Index_rune_rune.f a0 a1).bind fun t0 => some (decide (t0 ≥ 0))
def slices_Contains_rune_rune.K (r : Bool) (G17 : GH) (v : Value) (N : List Res) : Prop := v = tup [(.bool r)] ∧ N = []
theorem slices_Contains_rune_rune.ok {va0 : Value} {a0 : (List Int)} {a1 : Int} (st : St B w G []) (ha0 : SRep 21 (tInt .i32) G va0 a0) (ha1 : InK .i32 a1) {r : Bool} (hr : slices_Contains_rune_rune.f a0 a1 = some r) :
 Calls Tryz.prog 250 ([va0, (.int .i32 a1)] : List Value).toArray w (Ret B G (slices_Contains_rune_rune.K r)) := by
 refine Jc [.tmp 4] func250 rfl ntmps250 rfl rfl ?_
 refine J2 (J1 ?_)
 refine Jsv (.bool false) rfl rfl ?_
 refine J0 (J2 (J1 ?_))
 refine Jmv va0 rfl rfl ?_
 refine Jmv (.int .i32 a1) rfl rfl ?_
 obtain ⟨t0, h0, hr⟩ := J6 hr
 refine J8 (f := 272) (av := [va0, (.int .i32 a1)]) cf272 rfl rfl st rfl (fun G0 e0 h1 => slices_Index_rune_rune.ok h1 (SRep.mono e0.ro ha0) ha1 h0) ?_
 rintro v0 w0 G1 G2 N0 e1 q0 ⟨rfl, rfl, f0⟩ h2
 refine Yk rfl rfl rfl ?_
 refine Jsv (.bool (decide (t0 ≥ 0))) rfl rfl ?_
 refine J0 (Jg ?_)
 obtain rfl := Option.some.inj hr
 exact ⟨[(.bool (decide (t0 ≥ 0)))], ⟨rfl, trivial⟩, _, _, _, rfl, e1, h2, ⟨rfl, rfl⟩⟩
def data_Put.l0 (a1 : XData) (s0 : ((List Int) × Nat)) : Option (Step ((List Int) × Nat) (List Int)) :=
 bif decide (((s0.2 : Nat) : Int) < (a1.Words.length : Int)) then (idx a1.Words ((s0.2 : Nat) : Int)).bind fun x0 => (octet_Put.f s0.1 x0 8).bind fun t0 => some (.next (t0, s0.2 + 1)) else some (.done s0.1)
def data_Put.l1 (a1 : XData) (s1 : ((List Int) × Nat)) : Option (Step ((List Int) × Nat) (List Int)) :=
 bif decide (((s1.2 : Nat) : Int) < (a1.Relocs.length : Int)) then (idx a1.Relocs ((s1.2 : Nat) : Int)).bind fun x1 => (octet_Put.f s1.1 x1.At 1).bind fun t1 => (octet_Put.f t1 x1.Sym 1).bind fun t2 => (data_flag.f x1.Wide).bind fun t3 => (octet_Put.f t2 t3 1).bind fun t4 => some (.next (t4, s1.2 + 1)) else some (.done s1.1)
def data_Put.f (a0 : (List Int)) (a1 : XData) : Option ((List Int)) :=
 (octet_Put.f a0 a1.Kind 1).bind fun t5 => (octet_Put.f t5 (a1.Words.length : Int) 1).bind fun t6 => (loop (data_Put.l0 a1) (t6, 0)).bind fun t7 => (octet_Put.f t7 (a1.Relocs.length : Int) 1).bind fun t8 => (loop (data_Put.l1 a1) (t8, 0)).bind fun t9 => some t9
def data_Put.K (r : (List Int)) (G0 : GH) (v : Value) (N : List Res) : Prop := ∃ (v0 : Value) (c0 : List Value), v = tup [v0] ∧ N = [.row v0 5 1 r.length c0] ∧ EAll (tInt .u8) G0 c0 r ∧ r.length ≤ SB
theorem data_Put.ok {va0 : Value} {a0 : (List Int)} {ca1 : List Value} {a1 : XData} (st : St B w G []) (ha0 : SRep 5 (tInt .u8) G va0 a0) (ha1 : TData.rep G ca1 a1) {r : (List Int)} (hr : data_Put.f a0 a1 = some r) :
 Calls Tryz.prog 74 ([va0, (.agg ca1.toArray)] : List Value).toArray w (Ret B G (data_Put.K r)) := by
 obtain ⟨sa1_1, sa1_2, rfl, ha1_0, ha1_1, ha1_2⟩ := ha1
 refine Jc [.tmp 4] func74 rfl ntmps74 rfl rfl ?_
 refine J2 (J1 ?_)
 refine Ju (cs := [(vi a1.Kind), sa1_1, sa1_2]) st rfl rfl rfl ?_
 intro b0 w0 h0
 refine Jsv (.slice none 0 0) rfl rfl ?_
 refine J0 (J2 (J1 ?_))
 refine Jmv va0 rfl rfl ?_
 refine Jfa 0 0 underlying49 rfl ti3 rfl rfl rfl rfl ?_
 refine Jlb [] (vi a1.Kind) ti3 h0 rfl rfl rfl ?_
 obtain ⟨t5, h1, hr⟩ := J6 hr
 refine J8 (f := 70) (av := [va0, (vi a1.Kind), (vi 1)]) cf70 rfl rfl h0 rfl (fun G1 e0 h2 => octet_Put.ok h2 (SRep.mono e0.ro ha0) ha1_0 (by rfl) h1) ?_
 rintro v1 w1 G2 G3 N0 e1 q0 ⟨_, c1, rfl, rfl, f0, f1⟩ h3
 refine Jsv v1 rfl rfl ?_
 refine J0 (J2 (J1 ?_))
 refine Jmv v1 rfl rfl ?_
 refine Jfa 1 1 underlying49 rfl ti47 rfl rfl rfl rfl ?_
 refine Jlb [_] sa1_1 ti47 h3 rfl rfl rfl ?_
 refine Jd (T := (tInt .i64)) underlying47 (SRep.mono e1.ro ha1_1) rfl rfl ?_
 obtain ⟨G4, h4, e2, f2⟩ := St.rowRep (l1 := []) (T := (tInt .u8)) (xs := t5) h3 (EAll.mono q0 f0) rfl f1
 obtain ⟨t6, h5, hr⟩ := J6 hr
 refine J8 (f := 70) (av := [v1, (vi (a1.Words.length : Int)), (vi 1)]) cf70 rfl rfl h4 rfl (fun G5 e3 h6 => octet_Put.ok h6 (SRep.mono e3.ro f2) (inK_len (SRep.le (SRep.mono e1.ro ha1_1))) (by rfl) h5) ?_
 rintro v2 w2 G6 G7 N1 e4 q1 ⟨_, c2, rfl, rfl, f3, f4⟩ h7
 refine Jsv v2 rfl rfl ?_
 refine J0 (J2 (J2 (J1 ?_)))
 refine Jfa 1 1 underlying49 rfl ti47 rfl rfl rfl rfl ?_
 refine Jlb [_] sa1_1 ti47 h7 rfl rfl rfl ?_
 refine Jd (T := (tInt .i64)) underlying47 (SRep.mono (e1.ro.trans (e2.ro.trans e4.ro)) ha1_1) rfl rfl ?_
 refine Jmv (vi 0) rfl rfl ?_
 refine J0 (Jb ?_)
 obtain ⟨t7, h8, hr⟩ := J6 hr
 have h9 := St.pick 1 rfl h7
 have h10 := St.pick 1 rfl h9
 refine Js 0 h8 (fun s0 ρ w => ∃ (σ0 : Env) (G8 : GH) (v3 : Value) (c3 : List Value), ρ = En σ0 [(0, v3), (3, (pt b0 0)), (19, sa1_1), (20, (vi (a1.Words.length : Int))), (21, (vi ((s0.2 : Nat) : Int)))] ∧ Ext G7 G8 ∧ St B w G8 [.row v3 5 1 s0.1.length c3, .blk b0 [(vi a1.Kind), sa1_1, sa1_2] 49] ∧ EAll (tInt .u8) G8 c3 s0.1 ∧ s0.1.length ≤ SB ∧ InK .i64 ((s0.2 : Nat) : Int)) (fun ta ρ w => ∃ (σ1 : Env) (G9 : GH) (v4 : Value) (c4 : List Value), ρ = En σ1 [(0, v4), (3, (pt b0 0))] ∧ Ext G7 G9 ∧ St B w G9 [.row v4 5 1 ta.length c4, .blk b0 [(vi a1.Kind), sa1_1, sa1_2] 49] ∧ EAll (tInt .u8) G9 c4 ta ∧ ta.length ≤ SB) ⟨_, _, v2, c2, (J3 ⟨rfl, rfl, rfl, rfl, rfl, trivial⟩), (Ext.refl _), h10, (EAll.mono q1 f3), f4, (by rfl)⟩ ?_ ?_
 ·rintro s0 x2 _ _ hr ⟨σ0, G8, v3, c3, rfl, e5, h11, f5, f6, f7⟩
  refine J2 (J1 ?_)
  refine Ji rfl rfl rfl ?_
  refine J0 (J2 ?_)
  refine J7 rfl (fun h12 => ?_) (fun h12 => ?_)
  ·replace hr := Jx hr h12
   refine J9 (J2 (Jb (J2 (J1 ?_))))
   obtain ⟨x0, h13, hr⟩ := J6 hr
   refine Jh (T := (tInt .i64)) underlying47 ti2 h11 (SRep.mono (e1.ro.trans (e2.ro.trans (e4.ro.trans e5.ro))) ha1_1) rfl rfl rfl h13 ?_
   intro b1 o0 c5 l3 f8
   obtain ⟨rfl, f9⟩ := f8
   refine Y4 (v := (vi x0)) ti2 rfl rfl (LiesG.lies l3 h11) rfl ?_
   refine Jsv (vi x0) rfl rfl ?_
   refine J0 (J1 ?_)
   refine Jmv v3 rfl rfl ?_
   refine Jmv (vi x0) rfl rfl ?_
   obtain ⟨Ga, h14, e6, fa⟩ := St.rowRep (l1 := []) (T := (tInt .u8)) (xs := s0.1) h11 f5 rfl f6
   obtain ⟨t0, h15, hr⟩ := J6 hr
   refine J8 (f := 70) (av := [v3, (vi x0), (vi 8)]) cf70 rfl rfl h14 rfl (fun Gb e7 h16 => octet_Put.ok h16 (SRep.mono e7.ro fa) f9 (by rfl) h15) ?_
   rintro v5 w3 Gc Gd N2 e8 q2 ⟨_, c6, rfl, rfl, fb, fc⟩ h17
   refine Jsv v5 rfl rfl ?_
   refine J0 (J1 ?_)
   refine Y2 rfl rfl rfl (of_decide_eq_true h12) (inK_len (SRep.le (SRep.mono (e1.ro.trans (e2.ro.trans e4.ro)) ha1_1))) ?_
   refine Jmv (vi ((s0.2 + 1 : Nat) : Int)) rfl rfl ?_
   refine J0 ?_
   have h18 := St.pick 1 rfl h17
   have h19 := St.pick 1 rfl h18
   exact ⟨_, (Option.some.inj hr).symm, _, _, v5, c6, (J3 ⟨rfl, rfl, rfl, rfl, rfl, trivial⟩), (e5.trans (e6.trans e8)), h19, (EAll.mono q2 fb), fc, (inK_inc (of_decide_eq_true h12) (inK_len (SRep.le (SRep.mono (e1.ro.trans (e2.ro.trans e4.ro)) ha1_1))))⟩
  replace hr := Jf hr h12
  refine Jr ?_
  have h1a := St.pick 1 rfl h11
  have h1b := St.pick 1 rfl h1a
  exact ⟨_, (Option.some.inj hr).symm, rfl, _, _, v3, c3, (J3 ⟨rfl, rfl, trivial⟩), e5, h1b, f5, f6⟩
 rintro _ _ ⟨σ1, G9, v4, c4, rfl, e9, h1c, fd, fe⟩
 refine J2 (J1 ?_)
 refine Jmv v4 rfl rfl ?_
 refine Jfa 2 2 underlying49 rfl ti42 rfl rfl rfl rfl ?_
 refine Jlb [_] sa1_2 ti42 h1c rfl rfl rfl ?_
 refine Jd (T := TReloc) underlying42 (SRep.mono (e1.ro.trans (e2.ro.trans (e4.ro.trans e9.ro))) ha1_2) rfl rfl ?_
 obtain ⟨Ge, h1d, ea, ff⟩ := St.rowRep (l1 := []) (T := (tInt .u8)) (xs := t7) h1c fd rfl fe
 obtain ⟨t8, h1e, hr⟩ := J6 hr
 refine J8 (f := 70) (av := [v4, (vi (a1.Relocs.length : Int)), (vi 1)]) cf70 rfl rfl h1d rfl (fun Gf eb h1f => octet_Put.ok h1f (SRep.mono eb.ro ff) (inK_len (SRep.le (SRep.mono (e1.ro.trans (e2.ro.trans (e4.ro.trans e9.ro))) ha1_2))) (by rfl) h1e) ?_
 rintro v6 w4 Gg Gh N3 ec q3 ⟨_, c7, rfl, rfl, fg, fh⟩ h1g
 refine Jsv v6 rfl rfl ?_
 refine J0 (J2 (J2 (J1 ?_)))
 refine Jfa 2 2 underlying49 rfl ti42 rfl rfl rfl rfl ?_
 refine Jlb [_] sa1_2 ti42 h1g rfl rfl rfl ?_
 refine Jd (T := TReloc) underlying42 (SRep.mono (e1.ro.trans (e2.ro.trans (e4.ro.trans (e9.ro.trans (ea.ro.trans ec.ro))))) ha1_2) rfl rfl ?_
 refine Jmv (vi 0) rfl rfl ?_
 refine J0 (Jb ?_)
 obtain ⟨t9, h1h, hr⟩ := J6 hr
 have h1i := St.takeN 1 h1g
 refine Js 2 h1h (fun s1 ρ w => ∃ (σ2 : Env) (Gi : GH) (v7 : Value) (c8 : List Value), ρ = En σ2 [(0, v7), (35, sa1_2), (36, (vi (a1.Relocs.length : Int))), (37, (vi ((s1.2 : Nat) : Int)))] ∧ Ext Gh Gi ∧ St B w Gi [.row v7 5 1 s1.1.length c8] ∧ EAll (tInt .u8) Gi c8 s1.1 ∧ s1.1.length ≤ SB ∧ InK .i64 ((s1.2 : Nat) : Int)) (fun tb ρ w => ∃ (σ3 : Env) (Gj : GH) (v8 : Value) (c9 : List Value), ρ = En σ3 [(0, v8)] ∧ Ext Gh Gj ∧ St B w Gj [.row v8 5 1 tb.length c9] ∧ EAll (tInt .u8) Gj c9 tb ∧ tb.length ≤ SB) ⟨_, _, v6, c7, (J3 ⟨rfl, rfl, rfl, rfl, trivial⟩), (Ext.refl _), h1i, (EAll.mono q3 fg), fh, (by rfl)⟩ ?_ ?_
 ·rintro s1 x3 _ _ hr ⟨σ2, Gi, v7, c8, rfl, ed, h1j, fj, fk, fl⟩
  refine J2 (J1 ?_)
  refine Ji rfl rfl rfl ?_
  refine J0 (J2 ?_)
  refine J7 rfl (fun h1k => ?_) (fun h1k => ?_)
  ·replace hr := Jx hr h1k
   refine J9 (J2 (Jb (J2 (J1 ?_))))
   obtain ⟨x1, h1l, hr⟩ := J6 hr
   refine Jh (T := TReloc) underlying42 ti133 h1j (SRep.mono (e1.ro.trans (e2.ro.trans (e4.ro.trans (e9.ro.trans (ea.ro.trans (ec.ro.trans ed.ro)))))) ha1_2) rfl rfl rfl h1l ?_
   intro b2 o1 ca l4 fm
   obtain ⟨rfl, fn, fo⟩ := fm
   refine Jy ti133 rfl rfl (LiesG.lies l4 h1j) (Nat.le_of_ble_eq_true rfl) ?_
   change WL _ _ _ _ _ _ (upd _ _ (.agg #[(vi x1.At), (vi x1.Sym), (.bool x1.Wide)])) _
   refine Jo ti133 h1j rfl ?_
   intro b3 w5 h1m
   refine Jp (l1 := []) (vs := [(vi x1.At), (vi x1.Sym), (.bool x1.Wide)]) ti133 h1m rfl rfl rfl (J5 rfl (J5 rfl (J5 rfl (fun _ h => nomatch h)))) rfl ?_
   intro w6 (h1n : St B w6 Gi [.blk b3 [(vi x1.At), (vi x1.Sym), (.bool x1.Wide)] 133, .row v7 5 1 s1.1.length c8])
   refine J0 ?_
   obtain ⟨t1, h1o, hr⟩ := J6 hr
   obtain ⟨t2, h1p, hr⟩ := J6 hr
   refine Ym 9 [some 41, some 42, some 43, some 44, some 45, some 46, some 47, some 48, some 49] [3, 6] [Kind.q, Kind.q, Kind.q, Kind.c 0, Kind.q, Kind.q, Kind.c 1, Kind.q, Kind.q] (pkT [(fun vs_ G_ M_ => vs_ = [] ∧ M_ = [.blk b3 [(vi x1.At), (vi x1.Sym), (.bool x1.Wide)] 133, .row v7 5 1 s1.1.length c8]), (fun vs_ G_ M_ => ∃ (v9 : Value) (cb : List Value), vs_ = [v9] ∧ M_ = [.row v9 5 1 t1.length cb, .blk b3 [(vi x1.At), (vi x1.Sym), (.bool x1.Wide)] 133] ∧ EAll (tInt .u8) G_ cb t1 ∧ t1.length = t1.length ∧ t1.length ≤ SB), (fun vs_ G_ M_ => ∃ (va : Value) (cc : List Value) (vc : Value), vs_ = [vc, va] ∧ M_ = [.row va 5 1 t2.length cc, .blk b3 [(vi x1.At), (vi x1.Sym), (.bool x1.Wide)] 133] ∧ EAll (tInt .u8) G_ cc t2 ∧ t2.length = t2.length ∧ t2.length ≤ SB ∧ SRep 5 (tInt .u8) G_ vc t1)]) (pk [(fun G_ v_ => v_ = v7), (fun G_ v_ => v_ = (pt b3 0)), (fun G_ v_ => v_ = (vi x1.At)), (fun _ _ => True), (fun G_ v_ => v_ = (pt b3 1)), (fun G_ v_ => v_ = (vi x1.Sym)), (fun _ _ => True), (fun G_ v_ => v_ = (pt b3 2)), (fun G_ v_ => v_ = (.bool x1.Wide))]) rfl (by kernel_rfl) rfl (by kernel_rfl) [[6]] (by kernel_rfl) rfl h1n (fun _ _ => ⟨rfl, rfl⟩) ?_ ?_
   ·refine Each2.cons ?_ (Each2.cons ?_ (Each2.cons ?_ (Each2.cons ?_ (Each2.cons ?_ (Each2.cons ?_ (Each2.cons ?_ (Each2.cons ?_ (Each2.cons ?_ Each2.nil))))))))
    ·intro k0 q4 w7 Gk M0 h1q h1r ee h1s h1t h1u h1v h1w h1x
     have h2_ : k0 ≤ 0 := h1w 0 3 [3] rfl (by kernel_rfl) rfl
     obtain rfl : k0 = 0 := by omega
     obtain ⟨hvs_, rfl⟩ := h1t Gk (Ext.refl _)
     rw [J3 (ρ := q4) (l := [(0, v7)]) ⟨(h1u.1 0 (by decide)).trans rfl, trivial⟩]
     refine Jmv v7 rfl rfl ?_
     exact J0 (J4 (Ext.refl _) h1s fun Gl ef => rfl)
    ·intro k0 q4 w7 Gk M0 h1q h1r ee h1s h1t h1u h1v h1w h1x
     have h2_ : k0 ≤ 0 := h1w 0 3 [2, 3] rfl (by kernel_rfl) rfl
     obtain rfl : k0 = 0 := by omega
     obtain ⟨hvs_, rfl⟩ := h1t Gk (Ext.refl _)
     rw [J3 (ρ := q4) (l := [(8, (pt b3 0))]) ⟨(h1u.1 8 (by decide)).trans rfl, trivial⟩]
     refine Jfa 0 0 underlying133 rfl ti3 rfl rfl rfl rfl ?_
     exact J0 (J4 (Ext.refl _) h1s fun Gm eg => rfl)
    ·intro k0 q4 w7 Gk M0 h1q h1r ee h1s h1t h1u h1v h1w h1x
     have h2_ : k0 ≤ 0 := h1w 0 3 [3] rfl (by kernel_rfl) rfl
     obtain rfl : k0 = 0 := by omega
     obtain ⟨hvs_, rfl⟩ := h1t Gk (Ext.refl _)
     obtain ⟨hd0_, _⟩ := h1x
     have hv42 := hd0_
     rw [J3 (ρ := q4) (l := [(42, (pt b3 0))]) ⟨hv42, trivial⟩]
     refine Jlb [] (vi x1.At) ti3 h1s rfl rfl rfl ?_
     exact J0 (J4 (Ext.refl _) h1s fun Gn eh => rfl)
    ·intro k0 q4 w7 Gk M0 h1q h1r ee h1s h1t h1u h1v h1w h1x
     obtain rfl : k0 = 0 := h1r
     obtain ⟨hvs_, rfl⟩ := h1t Gk (Ext.refl _)
     obtain ⟨hd0_, hd1_, _⟩ := h1x
     have hv41 := hd0_
     have hv43 := hd1_
     rw [J3 (ρ := q4) (l := [(41, v7), (43, (vi x1.At))]) ⟨hv41, hv43, trivial⟩]
     obtain ⟨Go, h1y, ei, fp⟩ := St.rowRep (l1 := [_]) (T := (tInt .u8)) (xs := s1.1) h1s (EAll.mono ee.ro fj) rfl fk
     refine J8 (f := 70) (av := [v7, (vi x1.At), (vi 1)]) cf70 rfl rfl h1y rfl (fun Gp ej h1z => octet_Put.ok h1z (SRep.mono ej.ro fp) fn (by rfl) h1o) ?_
     rintro vd w8 Gq Gr N4 ek q5 ⟨_, cd, rfl, rfl, fq, fr⟩ h20
     exact J0 (Yi (ei.trans ek) h20 fun Gs el => ⟨⟨vd, cd, rfl, rfl, (EAll.mono el.ro (EAll.mono q5 fq)), (by rfl), fr⟩, trivial⟩)
    ·intro k0 q4 w7 Gk M0 h1q h1r ee h1s h1t h1u h1v h1w h1x
     have h2_ : k0 ≤ 1 := h1w 1 6 [5, 6] rfl (by kernel_rfl) rfl
     rcases (show k0 = 0 ∨ k0 = 1 from by omega) with rfl | rfl
     ·obtain ⟨hvs_, rfl⟩ := h1t Gk (Ext.refl _)
      rw [J3 (ρ := q4) (l := [(8, (pt b3 0))]) ⟨(h1u.1 8 (by decide)).trans rfl, trivial⟩]
      refine Jfa 1 1 underlying133 rfl ti3 rfl rfl rfl rfl ?_
      exact J0 (J4 (Ext.refl _) h1s fun Gt em => rfl)
     obtain ⟨v9, cb, hvs_, rfl, fs, ft, fu⟩ := h1t Gk (Ext.refl _)
     have hv44 := (List.cons.inj hvs_).1
     rw [J3 (ρ := q4) (l := [(8, (pt b3 0)), (44, v9)]) ⟨(h1u.1 8 (by decide)).trans rfl, hv44, trivial⟩]
     refine Jfa 1 1 underlying133 rfl ti3 rfl rfl rfl rfl ?_
     exact J0 (J4 (Ext.refl _) h1s fun Gt em => rfl)
    ·intro k0 q4 w7 Gk M0 h1q h1r ee h1s h1t h1u h1v h1w h1x
     have h2_ : k0 ≤ 1 := h1w 1 6 [6] rfl (by kernel_rfl) rfl
     rcases (show k0 = 0 ∨ k0 = 1 from by omega) with rfl | rfl
     ·obtain ⟨hvs_, rfl⟩ := h1t Gk (Ext.refl _)
      obtain ⟨hd0_, _⟩ := h1x
      have hv45 := hd0_
      rw [J3 (ρ := q4) (l := [(45, (pt b3 1))]) ⟨hv45, trivial⟩]
      refine Jlb [] (vi x1.Sym) ti3 h1s rfl rfl rfl ?_
      exact J0 (J4 (Ext.refl _) h1s fun Gu en => rfl)
     obtain ⟨v9, cb, hvs_, rfl, fs, ft, fu⟩ := h1t Gk (Ext.refl _)
     have hv44 := (List.cons.inj hvs_).1
     obtain ⟨hd0_, _⟩ := h1x
     have hv45 := hd0_
     rw [J3 (ρ := q4) (l := [(44, v9), (45, (pt b3 1))]) ⟨hv44, hv45, trivial⟩]
     refine Jlb [_] (vi x1.Sym) ti3 h1s rfl rfl rfl ?_
     exact J0 (J4 (Ext.refl _) h1s fun Gu en => rfl)
    ·intro k0 q4 w7 Gk M0 h1q h1r ee h1s h1t h1u h1v h1w h1x
     obtain rfl : k0 = 1 := h1r
     obtain ⟨v9, cb, hvs_, rfl, fs, ft, fu⟩ := h1t Gk (Ext.refl _)
     have hv44 := (List.cons.inj hvs_).1
     obtain ⟨hd0_, hd1_, hd2_, _⟩ := h1x
     have hv46 := hd1_
     rw [J3 (ρ := q4) (l := [(44, v9), (46, (vi x1.Sym))]) ⟨hv44, hv46, trivial⟩]
     obtain ⟨Gv, h21, eo, fv⟩ := St.rowRep (l1 := []) (T := (tInt .u8)) (xs := t1) h1s fs ft fu
     refine J8 (f := 70) (av := [v9, (vi x1.Sym), (vi 1)]) cf70 rfl rfl h21 rfl (fun Gw ep h22 => octet_Put.ok h22 (SRep.mono ep.ro fv) fo (by rfl) h1p) ?_
     rintro ve w9 Gx Gy N5 er q6 ⟨_, ce, rfl, rfl, fw, fx⟩ h23
     exact J0 (Yi (eo.trans er) h23 fun Gz es => ⟨⟨ve, ce, v9, rfl, rfl, (EAll.mono es.ro (EAll.mono q6 fw)), (by rfl), fx, (SRep.mono (er.ro.trans es.ro) fv)⟩, trivial⟩)
    ·intro k0 q4 w7 Gk M0 h1q h1r ee h1s h1t h1u h1v h1w h1x
     have h2_ : k0 ≤ 2 := h1q
     rcases (show k0 = 0 ∨ k0 = 1 ∨ k0 = 2 from by omega) with rfl | rfl | rfl
     ·obtain ⟨hvs_, rfl⟩ := h1t Gk (Ext.refl _)
      rw [J3 (ρ := q4) (l := [(8, (pt b3 0))]) ⟨(h1u.1 8 (by decide)).trans rfl, trivial⟩]
      refine Jfa 2 2 underlying133 rfl ti4 rfl rfl rfl rfl ?_
      exact J0 (J4 (Ext.refl _) h1s fun G10 et => rfl)
     ·obtain ⟨v9, cb, hvs_, rfl, fs, ft, fu⟩ := h1t Gk (Ext.refl _)
      have hv44 := (List.cons.inj hvs_).1
      rw [J3 (ρ := q4) (l := [(8, (pt b3 0)), (44, v9)]) ⟨(h1u.1 8 (by decide)).trans rfl, hv44, trivial⟩]
      refine Jfa 2 2 underlying133 rfl ti4 rfl rfl rfl rfl ?_
      exact J0 (J4 (Ext.refl _) h1s fun G10 et => rfl)
     obtain ⟨va, cc, vc, hvs_, rfl, fy, fz, f10, f11⟩ := h1t Gk (Ext.refl _)
     have hv44 := (List.cons.inj hvs_).1
     have hv47 := (List.cons.inj (List.cons.inj hvs_).2).1
     rw [J3 (ρ := q4) (l := [(8, (pt b3 0)), (44, vc), (47, va)]) ⟨(h1u.1 8 (by decide)).trans rfl, hv44, hv47, trivial⟩]
     refine Jfa 2 2 underlying133 rfl ti4 rfl rfl rfl rfl ?_
     exact J0 (J4 (Ext.refl _) h1s fun G10 et => rfl)
    intro k0 q4 w7 Gk M0 h1q h1r ee h1s h1t h1u h1v h1w h1x
    have h2_ : k0 ≤ 2 := h1q
    rcases (show k0 = 0 ∨ k0 = 1 ∨ k0 = 2 from by omega) with rfl | rfl | rfl
    ·obtain ⟨hvs_, rfl⟩ := h1t Gk (Ext.refl _)
     obtain ⟨hd0_, _⟩ := h1x
     have hv48 := hd0_
     rw [J3 (ρ := q4) (l := [(48, (pt b3 2))]) ⟨hv48, trivial⟩]
     refine Jlb [] (.bool x1.Wide) ti4 h1s rfl rfl rfl ?_
     exact J0 (J4 (Ext.refl _) h1s fun G11 eu => rfl)
    ·obtain ⟨v9, cb, hvs_, rfl, fs, ft, fu⟩ := h1t Gk (Ext.refl _)
     have hv44 := (List.cons.inj hvs_).1
     obtain ⟨hd0_, _⟩ := h1x
     have hv48 := hd0_
     rw [J3 (ρ := q4) (l := [(44, v9), (48, (pt b3 2))]) ⟨hv44, hv48, trivial⟩]
     refine Jlb [_] (.bool x1.Wide) ti4 h1s rfl rfl rfl ?_
     exact J0 (J4 (Ext.refl _) h1s fun G11 eu => rfl)
    obtain ⟨va, cc, vc, hvs_, rfl, fy, fz, f10, f11⟩ := h1t Gk (Ext.refl _)
    have hv44 := (List.cons.inj hvs_).1
    have hv47 := (List.cons.inj (List.cons.inj hvs_).2).1
    obtain ⟨hd0_, _⟩ := h1x
    have hv48 := hd0_
    rw [J3 (ρ := q4) (l := [(44, vc), (47, va), (48, (pt b3 2))]) ⟨hv44, hv47, hv48, trivial⟩]
    refine Jlb [_] (.bool x1.Wide) ti4 h1s rfl rfl rfl ?_
    exact J0 (J4 (Ext.refl _) h1s fun G11 eu => rfl)
   intro q4 w7 Gk M0 ee h1s h1t h1u h1x
   obtain ⟨va, cc, vc, hvs_, rfl, fy, fz, f10, f11⟩ := h1t
   have hv47 := (List.cons.inj (List.cons.inj hvs_).2).1
   have hv49 := h1x 8 (by decide)
   rw [J3 (ρ := q4) (l := [(35, sa1_2), (36, (vi (a1.Relocs.length : Int))), (37, (vi ((s1.2 : Nat) : Int))), (47, va), (49, (.bool x1.Wide))]) ⟨(h1u.1 35 (by decide)).trans rfl, (h1u.1 36 (by decide)).trans rfl, (h1u.1 37 (by decide)).trans rfl, hv47, hv49, trivial⟩]
   obtain ⟨t3, h24, hr⟩ := J6 hr
   refine J8 (f := 135) (av := [(.bool x1.Wide)]) cf135 rfl rfl h1s rfl (fun G12 ev h25 => data_flag.ok h25 h24) ?_
   rintro vf wa G13 G14 N6 ew q7 ⟨rfl, rfl, f12⟩ h26
   obtain ⟨G15, h27, ex, f13⟩ := St.rowRep (l1 := []) (T := (tInt .u8)) (xs := t2) h26 (EAll.mono ew.ro fy) fz f10
   obtain ⟨t4, h28, hr⟩ := J6 hr
   refine J8 (f := 70) (av := [va, (vi t3), (vi 1)]) cf70 rfl rfl h27 rfl (fun G16 ey h29 => octet_Put.ok h29 (SRep.mono ey.ro f13) f12 (by rfl) h28) ?_
   rintro vg wb G17 G18 N7 ez q8 ⟨_, cf, rfl, rfl, f14, f15⟩ h2a
   refine Jsv vg rfl rfl ?_
   refine J0 (J1 ?_)
   refine Y2 rfl rfl rfl (of_decide_eq_true h1k) (inK_len (SRep.le (SRep.mono (e1.ro.trans (e2.ro.trans (e4.ro.trans (e9.ro.trans (ea.ro.trans ec.ro))))) ha1_2))) ?_
   refine Jmv (vi ((s1.2 + 1 : Nat) : Int)) rfl rfl ?_
   refine J0 ?_
   have h2b := St.takeN 1 h2a
   exact ⟨_, (Option.some.inj hr).symm, _, _, vg, cf, (J3 ⟨rfl, rfl, rfl, rfl, trivial⟩), (ed.trans (ee.trans (ew.trans (ex.trans ez)))), h2b, (EAll.mono q8 f14), f15, (inK_inc (of_decide_eq_true h1k) (inK_len (SRep.le (SRep.mono (e1.ro.trans (e2.ro.trans (e4.ro.trans (e9.ro.trans (ea.ro.trans ec.ro))))) ha1_2))))⟩
  replace hr := Jf hr h1k
  refine Jr ?_
  exact ⟨_, (Option.some.inj hr).symm, rfl, _, _, v7, c8, (J3 ⟨rfl, trivial⟩), ed, h1j, fj, fk⟩
 rintro _ _ ⟨σ3, Gj, v8, c9, rfl, e10, h2c, f16, f17⟩
 refine J2 (J1 ?_)
 refine Jmv v8 rfl rfl ?_
 refine Jsv v8 rfl rfl ?_
 refine J0 (Jg ?_)
 obtain rfl := Option.some.inj hr
 exact ⟨[v8], ⟨rfl, trivial⟩, _, _, _, rfl, (e1.trans (e2.trans (e4.trans (e9.trans (ea.trans (ec.trans e10)))))), h2c, ⟨v8, c9, rfl, rfl, f16, f17⟩⟩
def octet_Reader_take_s2.f (a0_ : Xoctet_Reader) (a1 : Int) : Option (((List Int) × (List Int) × Int)) :=
 (octet_Reader_Bad_s2.f a0_).bind fun t0 => (bif a0_.bad then none else some ()).bind fun t1 => (bif decide (a1 < 0) then none else (octet_Reader_Left_s2.f a0_).bind fun t2 => some (a0_.b, decide (a1 > t2))).bind fun t3 => bif t3.2 then none else bif (decide (0 ≤ (IntKind.wrap .i64 ((IntKind.wrap .i64 (a0_.at_ + a1)) - a1))) && (decide ((IntKind.wrap .i64 ((IntKind.wrap .i64 (a0_.at_ + a1)) - a1)) ≤ (IntKind.wrap .i64 (a0_.at_ + a1))) && decide ((IntKind.wrap .i64 (a0_.at_ + a1)) ≤ (t3.1.length : Int)))) then some ((List.take ((Int.toNat ((IntKind.wrap .i64 (a0_.at_ + a1)))) - (Int.toNat ((IntKind.wrap .i64 ((IntKind.wrap .i64 (a0_.at_ + a1)) - a1))))) (List.drop (Int.toNat ((IntKind.wrap .i64 ((IntKind.wrap .i64 (a0_.at_ + a1)) - a1)))) t3.1)), t3.1, (IntKind.wrap .i64 (a0_.at_ + a1))) else none
def octet_Reader_take_s2.K (ba0 : Nat) (a0_ : Xoctet_Reader) (r : ((List Int) × (List Int) × Int)) (G0 : GH) (v : Value) (N : List Res) : Prop := ∃ (v0 : Value) (v1 : Value), v = tup [v0] ∧ N = [.blk ba0 [v1, (vi r.2.2), (.bool a0_.live), (.bool a0_.bad)] 163] ∧ SRep 5 (tInt .u8) G0 v0 r.1 ∧ SRep 5 (tInt .u8) G0 v1 r.2.1 ∧ InK .i64 r.2.2
theorem octet_Reader_take_s2.ok {ba0 : Nat} {ca0_ : List Value} {a0_ : Xoctet_Reader} {a1 : Int} (st : St B w G [.blk ba0 ca0_ 163]) (ha0_ : Toctet_Reader.rep G ca0_ a0_) (ha1 : InK .i64 a1) {r : ((List Int) × (List Int) × Int)} (hr : octet_Reader_take_s2.f a0_ a1 = some r) :
 Calls Tryz.prog 172 ([(pt ba0 0), (vi a1)] : List Value).toArray w (Ret B G (octet_Reader_take_s2.K ba0 a0_ r)) := by
 obtain ⟨sa0__0, rfl, ha0__0, ha0__1⟩ := ha0_
 refine Jc [.tmp 4] func172 rfl ntmps172 rfl rfl ?_
 refine J2 (J1 ?_)
 refine Jsv (.slice none 0 0) rfl rfl ?_
 refine J0 (J2 (J2 (J1 ?_)))
 refine Jmv (pt ba0 0) rfl rfl ?_
 obtain ⟨t0, h0, hr⟩ := J6 hr
 refine Jn (f := 113) (av := [(pt ba0 0)]) cf113 rfl rfl st rfl (fun G1 e0 h1 => octet_Reader_Bad_s2.ok (a0_ := a0_) h1 (⟨sa0__0, rfl, (SRep.mono e0.ro ha0__0), ha0__1⟩) h0) ?_
 rintro v2 w0 G2 G3 N0 e1 q0 ⟨v3, rfl, rfl, f0⟩ h2
 refine Jmv (.bool a0_.bad) rfl rfl ?_
 obtain ⟨t1, hr, o0⟩ := J6 hr
 refine Jw 3 (fun ρ w => ∃ (σ0 : Env) (G4 : GH), ρ = En σ0 [(0, (pt ba0 0)), (1, (vi a1)), (10, (.bool (decide (a1 < 0))))] ∧ Ext G3 G4 ∧ St B w G4 [.blk ba0 [v3, (vi a0_.at_), (.bool a0_.live), (.bool a0_.bad)] 163]) ?_ ?_
 ·rcases Y8 (a0_.bad) with hb_ | hb_
  ·exact Jk hr hb_
  have h3 : (a0_.bad) = false := hb_
  replace hr := Jf hr h3
  refine Ja rfl rfl rfl rfl h3 ?_
  refine Jmv (vi a1) rfl rfl ?_
  refine Ja rfl rfl rfl rfl h3 ?_
  refine Ji rfl rfl rfl ?_
  refine Jt (v := (.bool (decide (a1 < 0)))) rfl rfl h3 rfl ?_
  refine J0 ?_
  obtain rfl := Option.some.inj hr
  exact ⟨_, _, (J3 ⟨rfl, rfl, rfl, trivial⟩), (Ext.refl _), h2⟩
 rintro _ _ ⟨σ0, G4, rfl, e2, h4⟩
 replace hr := o0
 refine Jmv (.bool (decide (a1 < 0))) rfl rfl ?_
 obtain ⟨t3, hr, o1⟩ := J6 hr
 refine Jw 5 (fun ρ w => ∃ (σ1 : Env) (G5 : GH) (v4 : Value), ρ = En σ1 [(0, (pt ba0 0)), (1, (vi a1)), (16, (.bool t3.2))] ∧ Ext G4 G5 ∧ St B w G5 [.blk ba0 [v4, (vi a0_.at_), (.bool a0_.live), (.bool a0_.bad)] 163] ∧ SRep 5 (tInt .u8) G5 v4 t3.1) ?_ ?_
 ·rcases Y8 (decide (a1 < 0)) with hb_ | hb_
  ·exact Jk hr hb_
  have h5 : (decide (a1 < 0)) = false := hb_
  replace hr := Jf hr h5
  refine Ja rfl rfl rfl rfl h5 ?_
  refine Jmv (vi a1) rfl rfl ?_
  refine Ja rfl rfl rfl rfl h5 ?_
  refine Jmv (pt ba0 0) rfl rfl ?_
  refine Ja rfl rfl rfl rfl h5 ?_
  obtain ⟨t2, h6, hr⟩ := J6 hr
  refine Jn (f := 67) (av := [(pt ba0 0)]) cf67 rfl rfl h4 rfl (fun G6 e3 h7 => octet_Reader_Left_s2.ok (a0_ := a0_) h7 (⟨v3, rfl, (SRep.mono (e2.ro.trans e3.ro) (SRep.mono q0 f0)), ha0__1⟩) h6) ?_
  rintro v5 w1 G7 G8 N1 e4 q1 ⟨v6, rfl, rfl, f1, f2⟩ h8
  refine Ja rfl rfl rfl rfl h5 ?_
  refine Yh rfl rfl rfl ?_
  refine Jt (v := (.bool (decide (a1 > t2)))) rfl rfl h5 rfl ?_
  refine J0 ?_
  obtain rfl := Option.some.inj hr
  exact ⟨_, _, v6, (J3 ⟨rfl, rfl, rfl, trivial⟩), e4, h8, (SRep.mono q1 f2)⟩
 rintro _ _ ⟨σ1, G5, v4, rfl, e5, h9, f3⟩
 replace hr := o1
 refine J0 ?_
 refine J7 rfl (fun h10 => ?_) (fun h10 => ?_)
 ·exact Jk hr h10
 replace hr := Jf hr h10
 refine J9 (J2 (J1 ?_))
 refine Jmv (pt ba0 0) rfl rfl ?_
 refine Je rfl rfl ?_
 refine Jfa 1 1 underlying163 rfl ti3 rfl rfl rfl rfl ?_
 refine Jlb [] (vi a0_.at_) ti3 h9 rfl rfl rfl ?_
 refine Jmv (vi a1) rfl rfl ?_
 refine Yj rfl rfl rfl ?_
 refine Je rfl rfl ?_
 refine Jfa 1 1 underlying163 rfl ti3 rfl rfl rfl rfl ?_
 refine Y5 (l1 := []) (v := (vi (IntKind.wrap .i64 (a0_.at_ + a1)))) ti3 h9 rfl rfl rfl rfl ?_
 intro w2 (h11 : St B w2 G5 [.blk ba0 [v4, (vi (IntKind.wrap .i64 (a0_.at_ + a1))), (.bool a0_.live), (.bool a0_.bad)] 163])
 refine J0 (J2 ?_)
 refine Ye 14 [some 27, some 28, some 29, some 30, some 31, some 32, some 33, some 34, some 35, some 36, some 37, some 38, some 39, some 40] (pk [(fun G_ v_ => v_ = (pt ba0 0)), (fun G_ v_ => v_ = (pt ba0 0)), (fun G_ v_ => v_ = (pt ba0 0)), (fun G_ v_ => v_ = v4), (fun G_ v_ => v_ = (pt ba0 0)), (fun G_ v_ => v_ = (pt ba0 0)), (fun G_ v_ => v_ = (pt ba0 1)), (fun G_ v_ => v_ = (vi (IntKind.wrap .i64 (a0_.at_ + a1)))), (fun G_ v_ => v_ = (vi a1)), (fun G_ v_ => v_ = (vi (IntKind.wrap .i64 ((IntKind.wrap .i64 (a0_.at_ + a1)) - a1)))), (fun G_ v_ => v_ = (pt ba0 0)), (fun G_ v_ => v_ = (pt ba0 0)), (fun G_ v_ => v_ = (pt ba0 1)), (fun G_ v_ => v_ = (vi (IntKind.wrap .i64 (a0_.at_ + a1))))]) rfl (by kernel_rfl) rfl h11 ?_ ?_
 ·refine Each.cons ?_ (Each.cons ?_ (Each.cons ?_ (Each.cons ?_ (Each.cons ?_ (Each.cons ?_ (Each.cons ?_ (Each.cons ?_ (Each.cons ?_ (Each.cons ?_ (Each.cons ?_ (Each.cons ?_ (Each.cons ?_ (Each.cons ?_ Each.nil)))))))))))))
  ·intro q2 w3 G9 e6 h12 h13 h14
   rw [J3 (ρ := q2) (l := [(0, (pt ba0 0))]) ⟨(h13.1 0 (by decide)).trans rfl, trivial⟩]
   refine Jmv (pt ba0 0) rfl rfl ?_
   exact J0 (J4 (Ext.refl _) h12 fun Ga e7 => rfl)
  ·intro q2 w3 G9 e6 h12 h13 h14
   obtain ⟨hd0_, _⟩ := h14
   have hv27 := hd0_
   rw [J3 (ρ := q2) (l := [(27, (pt ba0 0))]) ⟨hv27, trivial⟩]
   refine Je rfl rfl ?_
   exact J0 (J4 (Ext.refl _) h12 fun Gb e8 => rfl)
  ·intro q2 w3 G9 e6 h12 h13 h14
   obtain ⟨hd0_, _⟩ := h14
   have hv28 := hd0_
   rw [J3 (ρ := q2) (l := [(28, (pt ba0 0))]) ⟨hv28, trivial⟩]
   refine Jfa 0 0 underlying163 rfl ti63 rfl rfl rfl rfl ?_
   exact J0 (J4 (Ext.refl _) h12 fun Gc e9 => rfl)
  ·intro q2 w3 G9 e6 h12 h13 h14
   obtain ⟨hd0_, _⟩ := h14
   have hv29 := hd0_
   rw [J3 (ρ := q2) (l := [(29, (pt ba0 0))]) ⟨hv29, trivial⟩]
   refine Jlb [] v4 ti63 h12 rfl rfl rfl ?_
   exact J0 (J4 (Ext.refl _) h12 fun Gd ea => rfl)
  ·intro q2 w3 G9 e6 h12 h13 h14
   rw [J3 (ρ := q2) (l := [(0, (pt ba0 0))]) ⟨(h13.1 0 (by decide)).trans rfl, trivial⟩]
   refine Jmv (pt ba0 0) rfl rfl ?_
   exact J0 (J4 (Ext.refl _) h12 fun Ge eb => rfl)
  ·intro q2 w3 G9 e6 h12 h13 h14
   obtain ⟨hd0_, _⟩ := h14
   have hv31 := hd0_
   rw [J3 (ρ := q2) (l := [(31, (pt ba0 0))]) ⟨hv31, trivial⟩]
   refine Je rfl rfl ?_
   exact J0 (J4 (Ext.refl _) h12 fun Gf ec => rfl)
  ·intro q2 w3 G9 e6 h12 h13 h14
   obtain ⟨hd0_, _⟩ := h14
   have hv32 := hd0_
   rw [J3 (ρ := q2) (l := [(32, (pt ba0 0))]) ⟨hv32, trivial⟩]
   refine Jfa 1 1 underlying163 rfl ti3 rfl rfl rfl rfl ?_
   exact J0 (J4 (Ext.refl _) h12 fun Gg ed => rfl)
  ·intro q2 w3 G9 e6 h12 h13 h14
   obtain ⟨hd0_, _⟩ := h14
   have hv33 := hd0_
   rw [J3 (ρ := q2) (l := [(33, (pt ba0 1))]) ⟨hv33, trivial⟩]
   refine Jlb [] (vi (IntKind.wrap .i64 (a0_.at_ + a1))) ti3 h12 rfl rfl rfl ?_
   exact J0 (J4 (Ext.refl _) h12 fun Gh ee => rfl)
  ·intro q2 w3 G9 e6 h12 h13 h14
   rw [J3 (ρ := q2) (l := [(1, (vi a1))]) ⟨(h13.1 1 (by decide)).trans rfl, trivial⟩]
   refine Jmv (vi a1) rfl rfl ?_
   exact J0 (J4 (Ext.refl _) h12 fun Gi ef => rfl)
  ·intro q2 w3 G9 e6 h12 h13 h14
   obtain ⟨hd0_, hd1_, _⟩ := h14
   have hv34 := hd0_
   have hv35 := hd1_
   rw [J3 (ρ := q2) (l := [(34, (vi (IntKind.wrap .i64 (a0_.at_ + a1)))), (35, (vi a1))]) ⟨hv34, hv35, trivial⟩]
   refine Yn rfl rfl rfl ?_
   exact J0 (J4 (Ext.refl _) h12 fun Gj eg => rfl)
  ·intro q2 w3 G9 e6 h12 h13 h14
   rw [J3 (ρ := q2) (l := [(0, (pt ba0 0))]) ⟨(h13.1 0 (by decide)).trans rfl, trivial⟩]
   refine Jmv (pt ba0 0) rfl rfl ?_
   exact J0 (J4 (Ext.refl _) h12 fun Gk eh => rfl)
  ·intro q2 w3 G9 e6 h12 h13 h14
   obtain ⟨hd0_, _⟩ := h14
   have hv37 := hd0_
   rw [J3 (ρ := q2) (l := [(37, (pt ba0 0))]) ⟨hv37, trivial⟩]
   refine Je rfl rfl ?_
   exact J0 (J4 (Ext.refl _) h12 fun Gl ei => rfl)
  ·intro q2 w3 G9 e6 h12 h13 h14
   obtain ⟨hd0_, _⟩ := h14
   have hv38 := hd0_
   rw [J3 (ρ := q2) (l := [(38, (pt ba0 0))]) ⟨hv38, trivial⟩]
   refine Jfa 1 1 underlying163 rfl ti3 rfl rfl rfl rfl ?_
   exact J0 (J4 (Ext.refl _) h12 fun Gm ej => rfl)
  intro q2 w3 G9 e6 h12 h13 h14
  obtain ⟨hd0_, _⟩ := h14
  have hv39 := hd0_
  rw [J3 (ρ := q2) (l := [(39, (pt ba0 1))]) ⟨hv39, trivial⟩]
  refine Jlb [] (vi (IntKind.wrap .i64 (a0_.at_ + a1))) ti3 h12 rfl rfl rfl ?_
  exact J0 (J4 (Ext.refl _) h12 fun Gn ek => rfl)
 intro q2 w3 G9 e6 h12 h13 h14
 have hv30 := h14 3 (by decide)
 have hv36 := h14 9 (by decide)
 have hv40 := h14 13 (by decide)
 rw [J3 (ρ := q2) (l := [(30, v4), (36, (vi (IntKind.wrap .i64 ((IntKind.wrap .i64 (a0_.at_ + a1)) - a1)))), (40, (vi (IntKind.wrap .i64 (a0_.at_ + a1))))]) ⟨hv30, hv36, hv40, trivial⟩]
 obtain ⟨h15, hr⟩ := Ya hr
 refine WL_sliceLH (T := (tInt .u8)) underlying63 ti5 (SRep.mono e6.ro f3) rfl rfl rfl rfl (of_decide_eq_true (band h15).1) (of_decide_eq_true (band (band h15).2).1) (of_decide_eq_true (band (band h15).2).2) ?_
 intro v7 f4
 refine Jsv v7 rfl rfl ?_
 refine J0 (Jg ?_)
 obtain rfl := Option.some.inj hr
 exact ⟨[v7], ⟨rfl, trivial⟩, _, _, _, rfl, (e1.trans (e2.trans (e5.trans e6))), h12, ⟨v7, v4, rfl, rfl, f4, (SRep.mono e6.ro f3), (inK_wrap _ _)⟩⟩
def octet_Reader_Text.f (a0_ : Xoctet_Reader) (a1 : Int) : Option ((ByteArray × (List Int) × Int)) :=
 (octet_Reader_Bad_s2.f a0_).bind fun t0 => (bif a0_.bad then none else (octet_Reader_Left_s2.f a0_).bind fun t1 => some (a0_.b, decide (t1 = 0))).bind fun t2 => bif t2.2 then none else (idx t2.1 a0_.at_).bind fun x0 => (bif decide ((IntKind.wrap .i64 (x0)) > a1) then none else (octet_Reader_Left_s2.f ({ b := t2.1, at_ := a0_.at_, live := a0_.live, bad := a0_.bad } : Xoctet_Reader)).bind fun t3 => some (t2.1, decide ((IntKind.wrap .i64 (x0)) ≥ t3))).bind fun t4 => bif t4.2 then none else (octet_Reader_take_s2.f ({ b := t4.1, at_ := a0_.at_, live := a0_.live, bad := a0_.bad } : Xoctet_Reader) (IntKind.wrap .i64 (1 + (IntKind.wrap .i64 (x0))))).bind fun t5 => bif (decide (0 ≤ 1) && decide (1 ≤ (t5.1.length : Int))) then some ((bytesOf (List.drop (Int.toNat (1)) t5.1)), t5.2.1, t5.2.2) else none
def octet_Reader_Text.K (ba0 : Nat) (a0_ : Xoctet_Reader) (r : (ByteArray × (List Int) × Int)) (G0 : GH) (v : Value) (N : List Res) : Prop := ∃ (v0 : Value), v = tup [(.string r.1)] ∧ N = [.blk ba0 [v0, (vi r.2.2), (.bool a0_.live), (.bool a0_.bad)] 163] ∧ r.1.size ≤ SB ∧ SRep 5 (tInt .u8) G0 v0 r.2.1 ∧ InK .i64 r.2.2
theorem octet_Reader_Text.ok {ba0 : Nat} {ca0_ : List Value} {a0_ : Xoctet_Reader} {a1 : Int} (st : St B w G [.blk ba0 ca0_ 163]) (ha0_ : Toctet_Reader.rep G ca0_ a0_) (ha1 : InK .i64 a1) {r : (ByteArray × (List Int) × Int)} (hr : octet_Reader_Text.f a0_ a1 = some r) :
 Calls Tryz.prog 115 ([(pt ba0 0), (vi a1)] : List Value).toArray w (Ret B G (octet_Reader_Text.K ba0 a0_ r)) := by
 obtain ⟨sa0__0, rfl, ha0__0, ha0__1⟩ := ha0_
 refine Jc [.tmp 4] func115 rfl ntmps115 rfl rfl ?_
 refine J2 (J1 ?_)
 refine Jsv (.string ({data := #[]} : ByteArray)) rfl rfl ?_
 refine J0 (J2 (J2 (J1 ?_)))
 refine Jmv (pt ba0 0) rfl rfl ?_
 obtain ⟨t0, h0, hr⟩ := J6 hr
 refine Jn (f := 113) (av := [(pt ba0 0)]) cf113 rfl rfl st rfl (fun G1 e0 h1 => octet_Reader_Bad_s2.ok (a0_ := a0_) h1 (⟨sa0__0, rfl, (SRep.mono e0.ro ha0__0), ha0__1⟩) h0) ?_
 rintro v1 w0 G2 G3 N0 e1 q0 ⟨v2, rfl, rfl, f0⟩ h2
 refine Jmv (.bool a0_.bad) rfl rfl ?_
 obtain ⟨t2, hr, o0⟩ := J6 hr
 refine Jw 4 (fun ρ w => ∃ (σ0 : Env) (G4 : GH) (v3 : Value), ρ = En σ0 [(0, (pt ba0 0)), (1, (vi a1)), (12, (.bool t2.2))] ∧ Ext G3 G4 ∧ St B w G4 [.blk ba0 [v3, (vi a0_.at_), (.bool a0_.live), (.bool a0_.bad)] 163] ∧ SRep 5 (tInt .u8) G4 v3 t2.1) ?_ ?_
 ·rcases Y8 (a0_.bad) with hb_ | hb_
  ·exact Jk hr hb_
  have h3 : (a0_.bad) = false := hb_
  replace hr := Jf hr h3
  refine Ja rfl rfl rfl rfl h3 ?_
  refine Jmv (pt ba0 0) rfl rfl ?_
  refine Ja rfl rfl rfl rfl h3 ?_
  obtain ⟨t1, h4, hr⟩ := J6 hr
  refine Jn (f := 67) (av := [(pt ba0 0)]) cf67 rfl rfl h2 rfl (fun G5 e2 h5 => octet_Reader_Left_s2.ok (a0_ := a0_) h5 (⟨v2, rfl, (SRep.mono e2.ro (SRep.mono q0 f0)), ha0__1⟩) h4) ?_
  rintro v4 w1 G6 G7 N1 e3 q1 ⟨v5, rfl, rfl, f1, f2⟩ h6
  refine Ja rfl rfl rfl rfl h3 ?_
  refine Y3 rfl rfl rfl ?_
  refine Jt (v := (.bool (decide (t1 = 0)))) rfl rfl h3 rfl ?_
  refine J0 ?_
  obtain rfl := Option.some.inj hr
  exact ⟨_, _, v5, (J3 ⟨rfl, rfl, rfl, trivial⟩), e3, h6, (SRep.mono q1 f2)⟩
 rintro _ _ ⟨σ0, G4, v3, rfl, e4, h7, f3⟩
 replace hr := o0
 refine J0 ?_
 refine J7 rfl (fun h8 => ?_) (fun h8 => ?_)
 ·exact Jk hr h8
 replace hr := Jf hr h8
 refine J9 (J2 ?_)
 refine Ye 8 [some 15, some 16, some 17, some 18, some 19, some 20, some 21, some 22] (pk [(fun G_ v_ => v_ = (pt ba0 0)), (fun G_ v_ => v_ = (pt ba0 0)), (fun G_ v_ => v_ = (pt ba0 0)), (fun G_ v_ => v_ = v3), (fun G_ v_ => v_ = (pt ba0 0)), (fun G_ v_ => v_ = (pt ba0 0)), (fun G_ v_ => v_ = (pt ba0 1)), (fun G_ v_ => v_ = (vi a0_.at_))]) rfl (by kernel_rfl) rfl h7 ?_ ?_
 ·refine Each.cons ?_ (Each.cons ?_ (Each.cons ?_ (Each.cons ?_ (Each.cons ?_ (Each.cons ?_ (Each.cons ?_ (Each.cons ?_ Each.nil)))))))
  ·intro q2 w2 G8 e5 h9 h10 h11
   rw [J3 (ρ := q2) (l := [(0, (pt ba0 0))]) ⟨(h10.1 0 (by decide)).trans rfl, trivial⟩]
   refine Jmv (pt ba0 0) rfl rfl ?_
   exact J0 (J4 (Ext.refl _) h9 fun G9 e6 => rfl)
  ·intro q2 w2 G8 e5 h9 h10 h11
   obtain ⟨hd0_, _⟩ := h11
   have hv15 := hd0_
   rw [J3 (ρ := q2) (l := [(15, (pt ba0 0))]) ⟨hv15, trivial⟩]
   refine Je rfl rfl ?_
   exact J0 (J4 (Ext.refl _) h9 fun Ga e7 => rfl)
  ·intro q2 w2 G8 e5 h9 h10 h11
   obtain ⟨hd0_, _⟩ := h11
   have hv16 := hd0_
   rw [J3 (ρ := q2) (l := [(16, (pt ba0 0))]) ⟨hv16, trivial⟩]
   refine Jfa 0 0 underlying163 rfl ti63 rfl rfl rfl rfl ?_
   exact J0 (J4 (Ext.refl _) h9 fun Gb e8 => rfl)
  ·intro q2 w2 G8 e5 h9 h10 h11
   obtain ⟨hd0_, _⟩ := h11
   have hv17 := hd0_
   rw [J3 (ρ := q2) (l := [(17, (pt ba0 0))]) ⟨hv17, trivial⟩]
   refine Jlb [] v3 ti63 h9 rfl rfl rfl ?_
   exact J0 (J4 (Ext.refl _) h9 fun Gc e9 => rfl)
  ·intro q2 w2 G8 e5 h9 h10 h11
   rw [J3 (ρ := q2) (l := [(0, (pt ba0 0))]) ⟨(h10.1 0 (by decide)).trans rfl, trivial⟩]
   refine Jmv (pt ba0 0) rfl rfl ?_
   exact J0 (J4 (Ext.refl _) h9 fun Gd ea => rfl)
  ·intro q2 w2 G8 e5 h9 h10 h11
   obtain ⟨hd0_, _⟩ := h11
   have hv19 := hd0_
   rw [J3 (ρ := q2) (l := [(19, (pt ba0 0))]) ⟨hv19, trivial⟩]
   refine Je rfl rfl ?_
   exact J0 (J4 (Ext.refl _) h9 fun Ge eb => rfl)
  ·intro q2 w2 G8 e5 h9 h10 h11
   obtain ⟨hd0_, _⟩ := h11
   have hv20 := hd0_
   rw [J3 (ρ := q2) (l := [(20, (pt ba0 0))]) ⟨hv20, trivial⟩]
   refine Jfa 1 1 underlying163 rfl ti3 rfl rfl rfl rfl ?_
   exact J0 (J4 (Ext.refl _) h9 fun Gf ec => rfl)
  intro q2 w2 G8 e5 h9 h10 h11
  obtain ⟨hd0_, _⟩ := h11
  have hv21 := hd0_
  rw [J3 (ρ := q2) (l := [(21, (pt ba0 1))]) ⟨hv21, trivial⟩]
  refine Jlb [] (vi a0_.at_) ti3 h9 rfl rfl rfl ?_
  exact J0 (J4 (Ext.refl _) h9 fun Gg ed => rfl)
 intro q2 w2 G8 e5 h9 h10 h11
 have hv18 := h11 3 (by decide)
 have hv22 := h11 7 (by decide)
 rw [J3 (ρ := q2) (l := [(0, (pt ba0 0)), (1, (vi a1)), (18, v3), (22, (vi a0_.at_))]) ⟨(h10.1 0 (by decide)).trans rfl, (h10.1 1 (by decide)).trans rfl, hv18, hv22, trivial⟩]
 obtain ⟨x0, h12, hr⟩ := J6 hr
 refine Jh (T := (tInt .u8)) underlying63 ti5 h9 (SRep.mono e5.ro f3) rfl rfl rfl h12 ?_
 intro b0 o1 c0 l0 f4
 obtain ⟨rfl, f5⟩ := f4
 refine Y4 (v := (.int .u8 x0)) ti5 rfl rfl (LiesG.lies l0 h9) rfl ?_
 refine WL_conv (by rw [underlying5]; rfl) underlying3 rfl rfl ?_
 refine Jsv (vi (IntKind.wrap .i64 (x0))) rfl rfl ?_
 refine J0 (J2 (J2 (J1 ?_)))
 refine Jmv (vi (IntKind.wrap .i64 (x0))) rfl rfl ?_
 refine Jmv (vi a1) rfl rfl ?_
 refine Yh rfl rfl rfl ?_
 refine Jmv (.bool (decide ((IntKind.wrap .i64 (x0)) > a1))) rfl rfl ?_
 obtain ⟨t4, hr, o2⟩ := J6 hr
 refine Jw 5 (fun ρ w => ∃ (σ1 : Env) (Gh : GH) (v6 : Value), ρ = En σ1 [(0, (pt ba0 0)), (5, (vi (IntKind.wrap .i64 (x0)))), (34, (.bool t4.2))] ∧ Ext G8 Gh ∧ St B w Gh [.blk ba0 [v6, (vi a0_.at_), (.bool a0_.live), (.bool a0_.bad)] 163] ∧ SRep 5 (tInt .u8) Gh v6 t4.1) ?_ ?_
 ·rcases Y8 (decide ((IntKind.wrap .i64 (x0)) > a1)) with hb_ | hb_
  ·exact Jk hr hb_
  have h13 : (decide ((IntKind.wrap .i64 (x0)) > a1)) = false := hb_
  replace hr := Jf hr h13
  refine Ja rfl rfl rfl rfl h13 ?_
  refine Jmv (vi (IntKind.wrap .i64 (x0))) rfl rfl ?_
  refine Ja rfl rfl rfl rfl h13 ?_
  refine Jmv (pt ba0 0) rfl rfl ?_
  refine Ja rfl rfl rfl rfl h13 ?_
  obtain ⟨t3, h14, hr⟩ := J6 hr
  refine Jn (f := 67) (av := [(pt ba0 0)]) cf67 rfl rfl h9 rfl (fun Gi ee h15 => octet_Reader_Left_s2.ok (a0_ := ({ b := t2.1, at_ := a0_.at_, live := a0_.live, bad := a0_.bad } : Xoctet_Reader)) h15 (⟨v3, rfl, (SRep.mono (e5.ro.trans ee.ro) f3), ha0__1⟩) h14) ?_
  rintro v7 w3 Gj Gk N2 ef q3 ⟨v8, rfl, rfl, f6, f7⟩ h16
  refine Ja rfl rfl rfl rfl h13 ?_
  refine Yk rfl rfl rfl ?_
  refine Jt (v := (.bool (decide ((IntKind.wrap .i64 (x0)) ≥ t3)))) rfl rfl h13 rfl ?_
  refine J0 ?_
  obtain rfl := Option.some.inj hr
  exact ⟨_, _, v8, (J3 ⟨rfl, rfl, rfl, trivial⟩), ef, h16, (SRep.mono q3 f7)⟩
 rintro _ _ ⟨σ1, Gh, v6, rfl, eg, h17, f8⟩
 replace hr := o2
 refine J0 ?_
 refine J7 rfl (fun h18 => ?_) (fun h18 => ?_)
 ·exact Jk hr h18
 replace hr := Jf hr h18
 refine J9 (J2 (J1 ?_))
 refine Jmv (pt ba0 0) rfl rfl ?_
 refine Jmv (vi (IntKind.wrap .i64 (x0))) rfl rfl ?_
 refine Yj rfl rfl rfl ?_
 obtain ⟨t5, h19, hr⟩ := J6 hr
 refine Jn (f := 172) (av := [(pt ba0 0), (vi (IntKind.wrap .i64 (1 + (IntKind.wrap .i64 (x0)))))]) cf172 rfl rfl h17 rfl (fun Gl eh h1a => octet_Reader_take_s2.ok (a0_ := ({ b := t4.1, at_ := a0_.at_, live := a0_.live, bad := a0_.bad } : Xoctet_Reader)) h1a (⟨v6, rfl, (SRep.mono eh.ro f8), ha0__1⟩) (inK_wrap _ _) h19) ?_
 rintro v9 w4 Gm Gn N3 ei q4 ⟨_, va, rfl, rfl, f9, fa, fb⟩ h1b
 obtain ⟨h1c, hr⟩ := Ya hr
 refine WL_sliceL (T := (tInt .u8)) underlying63 ti5 (SRep.mono q4 f9) rfl rfl rfl (of_decide_eq_true (band h1c).1) (of_decide_eq_true (band h1c).2) ?_
 intro vc fc
 refine WL_convBS underlying63 underlying5 underlying9 h1b fc rfl rfl ?_
 refine Jsv (.string (bytesOf (List.drop (Int.toNat (1)) t5.1))) rfl rfl ?_
 refine J0 (Jg ?_)
 obtain rfl := Option.some.inj hr
 exact ⟨[(.string (bytesOf (List.drop (Int.toNat (1)) t5.1)))], ⟨rfl, trivial⟩, _, _, _, rfl, (e1.trans (e4.trans (e5.trans (eg.trans ei)))), h1b, ⟨va, rfl, rfl, (bytesOf_le fc), (SRep.mono q4 fa), fb⟩⟩
def octet_number_s2.l0 (t0 : ((List Int) × (List Int) × Int)) (s0 : (Int × Nat)) : Option (Step (Int × Nat) Int) :=
 bif decide (((s0.2 : Nat) : Int) < (t0.1.length : Int)) then (idx t0.1 ((s0.2 : Nat) : Int)).bind fun x0 => some (.next (bits .or .i64 (shl .i64 s0.1 8) (IntKind.wrap .i64 (x0)), s0.2 + 1)) else some (.done s0.1)
def octet_number_s2.f (a0_f0_ : Xoctet_Reader) (a1 : Int) : Option ((Int × (List Int) × (List Int) × Int)) :=
 (bif decide (a1 < 1) then none else some ()).bind fun t1 => bif decide (a1 > 8) then none else (octet_Reader_take_s2.f a0_f0_ a1).bind fun t0 => (loop (octet_number_s2.l0 t0) (0, 0)).bind fun t2 => some (t2, t0.1, t0.2.1, t0.2.2)
def octet_number_s2.K (ba0_f0 : Nat) (a0_f0_ : Xoctet_Reader) (r : (Int × (List Int) × (List Int) × Int)) (G0 : GH) (v : Value) (N : List Res) : Prop := ∃ (v0 : Value) (v1 : Value), v = tup [(vi r.1), v0] ∧ N = [.blk ba0_f0 [v1, (vi r.2.2.2), (.bool a0_f0_.live), (.bool a0_f0_.bad)] 163] ∧ InK .i64 r.1 ∧ SRep 5 (tInt .u8) G0 v0 r.2.1 ∧ SRep 5 (tInt .u8) G0 v1 r.2.2.1 ∧ InK .i64 r.2.2.2
theorem octet_number_s2.ok {ba0_f0 : Nat} {ca0_f0_ : List Value} {a0_f0_ : Xoctet_Reader} {a1 : Int} (st : St B w G [.blk ba0_f0 ca0_f0_ 163]) (ha0_f0_ : Toctet_Reader.rep G ca0_f0_ a0_f0_) (ha1 : InK .i64 a1) {r : (Int × (List Int) × (List Int) × Int)} (hr : octet_number_s2.f a0_f0_ a1 = some r) :
 Calls Tryz.prog 171 ([(.func (.func 172) #[(pt ba0_f0 0)] #[]), (vi a1)] : List Value).toArray w (Ret B G (octet_number_s2.K ba0_f0 a0_f0_ r)) := by
 obtain ⟨sa0_f0__0, rfl, ha0_f0__0, ha0_f0__1⟩ := ha0_f0_
 refine Jc [.tmp 4, .tmp 5] func171 rfl ntmps171 rfl rfl ?_
 refine J2 (J1 ?_)
 refine Jsv (vi 0) rfl rfl ?_
 refine Jsv (.slice none 0 0) rfl rfl ?_
 refine J0 (J2 (J2 (J1 ?_)))
 refine Jmv (vi a1) rfl rfl ?_
 refine Ji rfl rfl rfl ?_
 refine Jmv (.bool (decide (a1 < 1))) rfl rfl ?_
 obtain ⟨t1, hr, o0⟩ := J6 hr
 refine Jw 3 (fun ρ w => ∃ (σ0 : Env) (G1 : GH), ρ = En σ0 [(0, (.func (.func 172) #[(pt ba0_f0 0)] #[])), (1, (vi a1)), (15, (.bool (decide (a1 > 8))))] ∧ Ext G G1 ∧ St B w G1 [.blk ba0_f0 [sa0_f0__0, (vi a0_f0_.at_), (.bool a0_f0_.live), (.bool a0_f0_.bad)] 163]) ?_ ?_
 ·rcases Y8 (decide (a1 < 1)) with hb_ | hb_
  ·exact Jk hr hb_
  have h0 : (decide (a1 < 1)) = false := hb_
  replace hr := Jf hr h0
  refine Ja rfl rfl rfl rfl h0 ?_
  refine Jmv (vi a1) rfl rfl ?_
  refine Ja rfl rfl rfl rfl h0 ?_
  refine Yh rfl rfl rfl ?_
  refine Jt (v := (.bool (decide (a1 > 8)))) rfl rfl h0 rfl ?_
  refine J0 ?_
  obtain rfl := Option.some.inj hr
  exact ⟨_, _, (J3 ⟨rfl, rfl, rfl, trivial⟩), (Ext.refl _), st⟩
 rintro _ _ ⟨σ0, G1, rfl, e0, h1⟩
 replace hr := o0
 refine J0 ?_
 refine J7 rfl (fun h2 => ?_) (fun h2 => ?_)
 ·exact Jk hr h2
 replace hr := Jf hr h2
 refine J9 (J2 (J1 ?_))
 refine Jsv (vi 0) rfl rfl ?_
 refine J0 (J2 (J1 ?_))
 refine Jmv (.func (.func 172) #[(pt ba0_f0 0)] #[]) rfl rfl ?_
 refine Jmv (vi a1) rfl rfl ?_
 obtain ⟨t0, h3, hr⟩ := J6 hr
 refine Jn (f := 172) (av := [(pt ba0_f0 0), (vi a1)]) cf172 rfl rfl h1 rfl (fun G2 e1 h4 => octet_Reader_take_s2.ok (a0_ := a0_f0_) h4 (⟨sa0_f0__0, rfl, (SRep.mono (e0.ro.trans e1.ro) ha0_f0__0), ha0_f0__1⟩) ha1 h3) ?_
 rintro v2 w0 G3 G4 N0 e2 q0 ⟨_, v3, rfl, rfl, f0, f1, f2⟩ h5
 refine Jsv v2 rfl rfl ?_
 refine J0 (J2 (J2 (J1 ?_)))
 refine Jmv v2 rfl rfl ?_
 refine Jd (T := (tInt .u8)) underlying63 (SRep.mono q0 f0) rfl rfl ?_
 refine Jmv (vi 0) rfl rfl ?_
 refine J0 (Jb ?_)
 obtain ⟨t2, h6, hr⟩ := J6 hr
 refine Js 0 h6 (fun s0 ρ w => ∃ (σ1 : Env) (G5 : GH), ρ = En σ1 [(6, (vi s0.1)), (7, v2), (19, v2), (20, (vi (t0.1.length : Int))), (21, (vi ((s0.2 : Nat) : Int)))] ∧ Ext G4 G5 ∧ St B w G5 [.blk ba0_f0 [v3, (vi t0.2.2), (.bool a0_f0_.live), (.bool a0_f0_.bad)] 163] ∧ InK .i64 s0.1 ∧ InK .i64 ((s0.2 : Nat) : Int)) (fun t3 ρ w => ∃ (σ2 : Env) (G6 : GH), ρ = En σ2 [(6, (vi t3)), (7, v2)] ∧ Ext G4 G6 ∧ St B w G6 [.blk ba0_f0 [v3, (vi t0.2.2), (.bool a0_f0_.live), (.bool a0_f0_.bad)] 163] ∧ InK .i64 t3) ⟨_, _, (J3 ⟨rfl, rfl, rfl, rfl, rfl, trivial⟩), (Ext.refl _), h5, (by rfl), (by rfl)⟩ ?_ ?_
 ·rintro s0 x1 _ _ hr ⟨σ1, G5, rfl, e3, h7, f3, f4⟩
  refine J2 (J1 ?_)
  refine Ji rfl rfl rfl ?_
  refine J0 (J2 ?_)
  refine J7 rfl (fun h8 => ?_) (fun h8 => ?_)
  ·replace hr := Jx hr h8
   refine J9 (J2 (Jb (J2 (J1 ?_))))
   obtain ⟨x0, h9, hr⟩ := J6 hr
   refine Jh (T := (tInt .u8)) underlying63 ti5 h7 (SRep.mono e3.ro (SRep.mono q0 f0)) rfl rfl rfl h9 ?_
   intro b0 o1 c0 l3 f5
   obtain ⟨rfl, f6⟩ := f5
   refine Y4 (v := (.int .u8 x0)) ti5 rfl rfl (LiesG.lies l3 h7) rfl ?_
   refine Jsv (.int .u8 x0) rfl rfl ?_
   refine J0 (J1 ?_)
   refine Jmv (vi s0.1) rfl rfl ?_
   refine WL_shl rfl rfl rfl (by decide) ?_
   refine Jmv (.int .u8 x0) rfl rfl ?_
   refine WL_conv (by rw [underlying5]; rfl) underlying2 rfl rfl ?_
   refine WL_bits rfl rfl rfl (by simp) ?_
   refine Jsv (vi (bits .or .i64 (shl .i64 s0.1 8) (IntKind.wrap .i64 (x0)))) rfl rfl ?_
   refine J0 (J1 ?_)
   refine Y2 rfl rfl rfl (of_decide_eq_true h8) (inK_len (SRep.le (SRep.mono q0 f0))) ?_
   refine Jmv (vi ((s0.2 + 1 : Nat) : Int)) rfl rfl ?_
   refine J0 ?_
   exact ⟨_, (Option.some.inj hr).symm, _, _, (J3 ⟨rfl, rfl, rfl, rfl, rfl, trivial⟩), e3, h7, (inK_wrap _ _), (inK_inc (of_decide_eq_true h8) (inK_len (SRep.le (SRep.mono q0 f0))))⟩
  replace hr := Jf hr h8
  refine Jr ?_
  exact ⟨_, (Option.some.inj hr).symm, rfl, _, _, (J3 ⟨rfl, rfl, trivial⟩), e3, h7, f3⟩
 rintro _ _ ⟨σ2, G6, rfl, e4, h10, f7⟩
 refine J2 (J1 ?_)
 refine Jmv (vi t2) rfl rfl ?_
 refine Jmv v2 rfl rfl ?_
 refine Jsv (vi t2) rfl rfl ?_
 refine Jsv v2 rfl rfl ?_
 refine J0 (Jg ?_)
 obtain rfl := Option.some.inj hr
 exact ⟨[(vi t2), v2], ⟨rfl, rfl, trivial⟩, _, _, _, rfl, (e0.trans (e2.trans e4)), h10, ⟨v2, v3, rfl, rfl, f7, (SRep.mono e4.ro (SRep.mono q0 f0)), (SRep.mono e4.ro (SRep.mono q0 f1)), f2⟩⟩
end Go.Proofs.YtnglgjgflohkmaaGreat.Sk
