/- Walks, printed by gen.py. No condition. -/
import Derived.Test.YtnglgjgflohkmaaGreatSkTy
import Derived.Test.YtnglgjgflohkmaaGreatSkW1
import Derived.Test.YtnglgjgflohkmaaGreatSkW2
import Derived.Test.YtnglgjgflohkmaaGreatSkW3
import Derived.Test.YtnglgjgflohkmaaGreatSkW4
import Derived.Test.YtnglgjgflohkmaaGreatSkW5
import Derived.Test.YtnglgjgflohkmaaGreatSkW9
import Derived.Test.YtnglgjgflohkmaaGreatSkW10
import Derived.Test.YtnglgjgflohkmaaGreatSkW11
import Derived.Test.YtnglgjgflohkmaaGreatSkW12
namespace Go.Proofs.YtnglgjgflohkmaaGreat.Sk
open Go Go.Proofs.Tryz
set_option linter.unusedVariables false
set_option linter.unusedSimpArgs false
variable {B w : World} {G : GH}
set_option linter.unusedVariables false
set_option maxHeartbeats 4000000
set_option maxRecDepth 100000
def verify_Check.l0 (a0 : XFunc) (a1 : (List XSymbol)) (s0 : Nat) : Option (Step Nat Unit) :=
 bif decide (((s0 : Nat) : Int) < (a0.Code.length : Int)) then (verify_Instr.f a0 a1 ((s0 : Nat) : Int)).bind fun t0 => some (.next (s0 + 1)) else some (.done ())
def verify_Check.f (a0 : XFunc) (a1 : (List XSymbol)) : Option (Unit) :=
 (fun_Check.f a0).bind fun t1 => (loop (verify_Check.l0 a0 a1) 0).bind fun t2 => some ()
def verify_Check.K (r : Unit) (G0 : GH) (v : Value) (N : List Res) : Prop := v = tup [(vi 0), (vi (-1))] ∧ N = []
theorem verify_Check.ok {ca0 : List Value} {a0 : XFunc} {va1 : Value} {a1 : (List XSymbol)} (st : St B w G []) (ha0 : TFunc.rep G ca0 a0) (ha1 : SRep 82 TSymbol G va1 a1) {r : Unit} (hr : verify_Check.f a0 a1 = some r) :
 Calls Tryz.prog 147 ([(.agg ca0.toArray), va1] : List Value).toArray w (Ret B G (verify_Check.K r)) := by
 obtain ⟨sa0_1, sa0_6, sa0_7, sa0_8, rfl, ha0_0, ha0_1, ha0_2, ha0_4, ha0_5, ha0_6, ha0_7, ha0_8⟩ := ha0
 refine Jc [.tmp 4, .tmp 5] func147 rfl ntmps147 rfl rfl ?_
 refine J2 (J1 ?_)
 refine Ju (cs := [(vi a0.Class), sa0_1, (vi a0.Pad), (.bool a0.Nosplit), (vi a0.From), (vi a0.To), sa0_6, sa0_7, sa0_8]) st rfl rfl rfl ?_
 intro b0 w0 h0
 refine Jsv (vi 0) rfl rfl ?_
 refine Jsv (vi 0) rfl rfl ?_
 refine J0 (J2 (J2 (J1 ?_)))
 refine Jl (l1 := []) (vs := [(vi a0.Class), sa0_1, (vi a0.Pad), (.bool a0.Nosplit), (vi a0.From), (vi a0.To), sa0_6, sa0_7, sa0_8]) ti44 h0 rfl rfl rfl rfl ?_
 obtain ⟨t1, h1, hr⟩ := J6 hr
 refine J8 (f := 193) (av := [(.agg #[(vi a0.Class), sa0_1, (vi a0.Pad), (.bool a0.Nosplit), (vi a0.From), (vi a0.To), sa0_6, sa0_7, sa0_8])]) cf193 rfl rfl h0 rfl (fun G1 e0 h2 => fun_Check.ok (a0 := a0) h2 (⟨sa0_1, sa0_6, sa0_7, sa0_8, rfl, ha0_0, (SRep.mono e0.ro ha0_1), ha0_2, ha0_4, ha0_5, (SRep.mono e0.ro ha0_6), (SRep.mono e0.ro ha0_7), (SRep.mono e0.ro ha0_8)⟩) h1) ?_
 rintro v0 w1 G2 G3 N0 e1 q0 ⟨rfl, rfl⟩ h3
 refine Jsv (vi 0) rfl rfl ?_
 refine J0 (J2 (J1 ?_))
 refine Jmv (vi 0) rfl rfl ?_
 refine Y1 rfl rfl rfl ?_
 change WL _ _ _ _ _ _ (upd _ _ (.bool false)) _
 refine J0 ?_
 refine J7 rfl (fun h => nomatch h) (fun _ => ?_)
 refine J9 (J2 (J2 (J1 ?_)))
 refine Jfa 7 7 underlying44 rfl ti41 rfl rfl rfl rfl ?_
 refine Jlb [] sa0_7 ti41 h3 rfl rfl rfl ?_
 refine Jd (T := TInstr) underlying41 (SRep.mono e1.ro ha0_7) rfl rfl ?_
 refine Jmv (vi 0) rfl rfl ?_
 refine J0 (Jb ?_)
 obtain ⟨t2, h4, hr⟩ := J6 hr
 refine Js 0 h4 (fun s0 ρ w => ∃ (σ0 : Env) (G4 : GH), ρ = En σ0 [(1, va1), (2, (pt b0 0)), (16, (vi (a0.Code.length : Int))), (17, (vi ((s0 : Nat) : Int)))] ∧ Ext G3 G4 ∧ St B w G4 [.blk b0 [(vi a0.Class), sa0_1, (vi a0.Pad), (.bool a0.Nosplit), (vi a0.From), (vi a0.To), sa0_6, sa0_7, sa0_8] 44] ∧ InK .i64 ((s0 : Nat) : Int)) (fun t3 ρ w => ∃ (σ1 : Env) (G5 : GH), ρ = En σ1 [] ∧ Ext G3 G5 ∧ St B w G5 []) ⟨_, _, (J3 ⟨rfl, rfl, rfl, rfl, trivial⟩), (Ext.refl _), h3, (by rfl)⟩ ?_ ?_
 ·rintro s0 x0 _ _ hr ⟨σ0, G4, rfl, e2, h5, f0⟩
  refine J2 (J1 ?_)
  refine Ji rfl rfl rfl ?_
  refine J0 (J2 ?_)
  refine J7 rfl (fun h6 => ?_) (fun h6 => ?_)
  ·replace hr := Jx hr h6
   refine J9 (J2 (Jb (J2 (J1 ?_))))
   refine Jmv (vi ((s0 : Nat) : Int)) rfl rfl ?_
   refine Jsv (vi ((s0 : Nat) : Int)) rfl rfl ?_
   refine J0 (J2 (J1 ?_))
   refine Jl (l1 := []) (vs := [(vi a0.Class), sa0_1, (vi a0.Pad), (.bool a0.Nosplit), (vi a0.From), (vi a0.To), sa0_6, sa0_7, sa0_8]) ti44 h5 rfl rfl rfl rfl ?_
   refine Jmv va1 rfl rfl ?_
   refine Jmv (vi ((s0 : Nat) : Int)) rfl rfl ?_
   obtain ⟨t0, h7, hr⟩ := J6 hr
   refine J8 (f := 194) (av := [(.agg #[(vi a0.Class), sa0_1, (vi a0.Pad), (.bool a0.Nosplit), (vi a0.From), (vi a0.To), sa0_6, sa0_7, sa0_8]), va1, (vi ((s0 : Nat) : Int))]) cf194 rfl rfl h5 rfl (fun G6 e3 h8 => verify_Instr.ok (a0 := a0) h8 (⟨sa0_1, sa0_6, sa0_7, sa0_8, rfl, ha0_0, (SRep.mono ((e1.ro.trans e2.ro).trans e3.ro) ha0_1), ha0_2, ha0_4, ha0_5, (SRep.mono ((e1.ro.trans e2.ro).trans e3.ro) ha0_6), (SRep.mono ((e1.ro.trans e2.ro).trans e3.ro) ha0_7), (SRep.mono ((e1.ro.trans e2.ro).trans e3.ro) ha0_8)⟩) (SRep.mono ((e1.ro.trans e2.ro).trans e3.ro) ha1) f0 h7) ?_
   rintro v1 w2 G7 G8 N1 e4 q1 ⟨rfl, rfl⟩ h9
   refine Jsv (vi 0) rfl rfl ?_
   refine J0 (J2 (J1 ?_))
   refine Jmv (vi 0) rfl rfl ?_
   refine Y1 rfl rfl rfl ?_
   change WL _ _ _ _ _ _ (upd _ _ (.bool false)) _
   refine J0 ?_
   refine J7 rfl (fun h => nomatch h) (fun _ => ?_)
   refine J9 (J1 ?_)
   refine Y2 rfl rfl rfl (of_decide_eq_true h6) (inK_len (SRep.le (SRep.mono e1.ro ha0_7))) ?_
   refine Jmv (vi ((s0 + 1 : Nat) : Int)) rfl rfl ?_
   refine J0 ?_
   exact ⟨_, (Option.some.inj hr).symm, _, _, (J3 ⟨rfl, rfl, rfl, rfl, trivial⟩), (e2.trans e4), h9, (inK_inc (of_decide_eq_true h6) (inK_len (SRep.le (SRep.mono e1.ro ha0_7))))⟩
  replace hr := Jf hr h6
  refine Jr ?_
  have h10 := St.takeN 0 h5
  exact ⟨_, (Option.some.inj hr).symm, rfl, _, _, rfl, e2, h10⟩
 rintro _ _ ⟨σ1, G5, rfl, e5, h11⟩
 refine J2 (J1 ?_)
 refine Jsv (vi 0) rfl rfl ?_
 refine Jsv (vi (-1)) rfl rfl ?_
 refine J0 (Jg ?_)
 obtain rfl := Option.some.inj hr
 exact ⟨[(vi 0), (vi (-1))], ⟨rfl, rfl, trivial⟩, _, _, _, rfl, (e1.trans e5), h11, ⟨rfl, rfl⟩⟩
def object_item.f (a0 : XObject) (a1 : Int) : Option (Unit) :=
 (object_Definer.f a0 a1).bind fun t0 => bif decide (t0 < 0) then none else bif decide ((IntKind.wrap .i64 (a1 - (a0.Funcs.length : Int))) ≥ 0) then (idx a0.Datas (IntKind.wrap .i64 (a1 - (a0.Funcs.length : Int)))).bind fun x0 => (idx a0.Symbols t0).bind fun x1 => (object_when.f (decide (x0.Kind ≠ x1.Kind)) 14).bind fun t1 => (data_Check.f x0 a0.Symbols).bind fun t2 => (object_first.f [0, 0]).bind fun t3 => some () else (idx a0.Funcs a1).bind fun x2 => (idx a0.Symbols t0).bind fun x3 => bif decide (x2.Class ≠ x3.Kind) then none else (verify_Check.f x2 a0.Symbols).bind fun t4 => (ranges_Check.f x2).bind fun t5 => (object_first.f [0, 0]).bind fun t6 => some ()
def object_item.K (r : Unit) (G0 : GH) (v : Value) (N : List Res) : Prop := v = tup [(vi 0)] ∧ N = []
theorem object_item.ok {ca0 : List Value} {a0 : XObject} {a1 : Int} (st : St B w G []) (ha0 : TObject.rep G ca0 a0) (ha1 : InK .i64 a1) {r : Unit} (hr : object_item.f a0 a1 = some r) :
 Calls Tryz.prog 85 ([(.agg ca0.toArray), (vi a1)] : List Value).toArray w (Ret B G (object_item.K r)) := by
 obtain ⟨sa0_0, sa0_1, sa0_2, rfl, ha0_0, ha0_1, ha0_2⟩ := ha0
 refine Jc [.tmp 4] func85 rfl ntmps85 rfl rfl ?_
 refine J2 (J1 ?_)
 refine Ju (cs := [sa0_0, sa0_1, sa0_2]) st rfl rfl rfl ?_
 intro b0 w0 h0
 refine Jsv (vi 0) rfl rfl ?_
 refine J0 (J2 (J1 ?_))
 refine Jl (l1 := []) (vs := [sa0_0, sa0_1, sa0_2]) ti61 h0 rfl rfl rfl rfl ?_
 refine Jmv (vi a1) rfl rfl ?_
 obtain ⟨t0, h1, hr⟩ := J6 hr
 refine J8 (f := 145) (av := [(.agg #[sa0_0, sa0_1, sa0_2]), (vi a1)]) cf145 rfl rfl h0 rfl (fun G1 e0 h2 => object_Definer.ok (a0 := a0) h2 (⟨sa0_0, sa0_1, sa0_2, rfl, (SRep.mono e0.ro ha0_0), (SRep.mono e0.ro ha0_1), (SRep.mono e0.ro ha0_2)⟩) ha1 h1) ?_
 rintro v0 w1 G2 G3 N0 e1 q0 ⟨rfl, rfl, f0⟩ h3
 refine Jsv (vi t0) rfl rfl ?_
 refine J0 (J2 (J2 (J1 ?_)))
 refine Jmv (vi t0) rfl rfl ?_
 refine Ji rfl rfl rfl ?_
 refine J0 ?_
 refine J7 rfl (fun h4 => ?_) (fun h4 => ?_)
 ·exact Jk hr h4
 replace hr := Jf hr h4
 refine J9 (J2 (J2 (J1 ?_)))
 refine Jmv (vi a1) rfl rfl ?_
 refine Jfa 1 1 underlying61 rfl ti58 rfl rfl rfl rfl ?_
 refine Jlb [] sa0_1 ti58 h3 rfl rfl rfl ?_
 refine Jd (T := TFunc) underlying58 (SRep.mono e1.ro ha0_1) rfl rfl ?_
 refine Yn rfl rfl rfl ?_
 refine Jsv (vi (IntKind.wrap .i64 (a1 - (a0.Funcs.length : Int)))) rfl rfl ?_
 refine J0 (J2 (J1 ?_))
 refine Jmv (vi (IntKind.wrap .i64 (a1 - (a0.Funcs.length : Int)))) rfl rfl ?_
 refine Yk rfl rfl rfl ?_
 refine J0 ?_
 refine J7 rfl (fun h5 => ?_) (fun h5 => ?_)
 ·replace hr := Jx hr h5
  refine J2 (J1 ?_)
  refine Jfa 2 2 underlying61 rfl ti59 rfl rfl rfl rfl ?_
  refine Jlb [] sa0_2 ti59 h3 rfl rfl rfl ?_
  refine Jmv (vi (IntKind.wrap .i64 (a1 - (a0.Funcs.length : Int)))) rfl rfl ?_
  obtain ⟨x0, h6, hr⟩ := J6 hr
  refine Jh (T := TData) underlying59 ti49 h3 (SRep.mono e1.ro ha0_2) rfl rfl rfl h6 ?_
  intro b1 o0 c0 l0 f1
  obtain ⟨v1, v2, rfl, f2, f3, f4⟩ := f1
  refine Jy ti49 rfl rfl (LiesG.lies l0 h3) (Nat.le_of_ble_eq_true rfl) ?_
  change WL _ _ _ _ _ _ (upd _ _ (.agg #[(vi x0.Kind), v1, v2])) _
  refine Jo ti49 h3 rfl ?_
  intro b2 w2 h7
  refine Jp (l1 := []) (vs := [(vi x0.Kind), v1, v2]) ti49 h7 rfl rfl rfl (J5 rfl (J5 (SRep.one f3) (J5 (SRep.one f4) (fun _ h => nomatch h)))) rfl ?_
  intro w3 (h8 : St B w3 G3 [.blk b2 [(vi x0.Kind), v1, v2] 49, .blk b0 [sa0_0, sa0_1, sa0_2] 61])
  refine J0 (J2 ?_)
  obtain ⟨x1, h9, hr⟩ := J6 hr
  obtain ⟨t1, h10, hr⟩ := J6 hr
  refine Ye 13 [some 28, some 29, some 30, some 31, some 32, some 33, some 34, some 35, some 36, some 37, some 38, some 39, some 40] (pk [(fun G_ v_ => v_ = (pt b2 0)), (fun G_ v_ => v_ = (vi x0.Kind)), (fun G_ v_ => v_ = (pt b0 0)), (fun G_ v_ => v_ = sa0_0), (fun G_ v_ => v_ = (vi t0)), (fun G_ v_ => ∃ (b3 : Nat) (b4 : Nat), v_ = (pt b3 b4) ∧ x1.Name.size ≤ SB ∧ InK .i64 x1.Sort_ ∧ InK .i64 x1.Kind ∧ InK .i64 x1.Def ∧ LiesG G_ b3 b4 [(.string x1.Name), (.bool x1.Local), (vi x1.Sort_), (vi x1.Kind), (vi x1.Def)]), (fun G_ v_ => ∃ (b5 : Nat) (b6 : Nat), v_ = (pt b5 (b6 + 3)) ∧ x1.Name.size ≤ SB ∧ InK .i64 x1.Sort_ ∧ InK .i64 x1.Kind ∧ InK .i64 x1.Def ∧ LiesG G_ b5 b6 [(.string x1.Name), (.bool x1.Local), (vi x1.Sort_), (vi x1.Kind), (vi x1.Def)]), (fun G_ v_ => v_ = (vi x1.Kind) ∧ InK .i64 x1.Kind), (fun G_ v_ => v_ = (.bool (decide (x0.Kind ≠ x1.Kind))) ∧ InK .i64 x1.Kind), (fun G_ v_ => v_ = (vi 0)), (fun G_ v_ => v_ = (.agg #[(vi x0.Kind), v1, v2])), (fun G_ v_ => v_ = (pt b0 0)), (fun G_ v_ => v_ = sa0_0)]) rfl (by kernel_rfl) rfl h8 ?_ ?_
  ·refine Each.cons ?_ (Each.cons ?_ (Each.cons ?_ (Each.cons ?_ (Each.cons ?_ (Each.cons ?_ (Each.cons ?_ (Each.cons ?_ (Each.cons ?_ (Each.cons ?_ (Each.cons ?_ (Each.cons ?_ (Each.cons ?_ Each.nil))))))))))))
   ·intro q1 w4 G4 e2 h11 h12 h13
    rw [J3 (ρ := q1) (l := [(7, (pt b2 0))]) ⟨(h12.1 7 (by decide)).trans rfl, trivial⟩]
    refine Jfa 0 0 underlying49 rfl ti3 rfl rfl rfl rfl ?_
    exact J0 (J4 (Ext.refl _) h11 fun G5 e3 => rfl)
   ·intro q1 w4 G4 e2 h11 h12 h13
    obtain ⟨hd0_, _⟩ := h13
    have hv28 := hd0_
    rw [J3 (ρ := q1) (l := [(28, (pt b2 0))]) ⟨hv28, trivial⟩]
    refine Jlb [] (vi x0.Kind) ti3 h11 rfl rfl rfl ?_
    exact J0 (J4 (Ext.refl _) h11 fun G6 e4 => rfl)
   ·intro q1 w4 G4 e2 h11 h12 h13
    rw [J3 (ρ := q1) (l := [(2, (pt b0 0))]) ⟨(h12.1 2 (by decide)).trans rfl, trivial⟩]
    refine Jfa 0 0 underlying61 rfl ti57 rfl rfl rfl rfl ?_
    exact J0 (J4 (Ext.refl _) h11 fun G7 e5 => rfl)
   ·intro q1 w4 G4 e2 h11 h12 h13
    obtain ⟨hd0_, _⟩ := h13
    have hv30 := hd0_
    rw [J3 (ρ := q1) (l := [(30, (pt b0 0))]) ⟨hv30, trivial⟩]
    refine Jlb [_] sa0_0 ti57 h11 rfl rfl rfl ?_
    exact J0 (J4 (Ext.refl _) h11 fun G8 e6 => rfl)
   ·intro q1 w4 G4 e2 h11 h12 h13
    rw [J3 (ρ := q1) (l := [(5, (vi t0))]) ⟨(h12.1 5 (by decide)).trans rfl, trivial⟩]
    refine Jmv (vi t0) rfl rfl ?_
    exact J0 (J4 (Ext.refl _) h11 fun G9 e7 => rfl)
   ·intro q1 w4 G4 e2 h11 h12 h13
    obtain ⟨hd0_, hd1_, _⟩ := h13
    have hv31 := hd0_
    have hv32 := hd1_
    rw [J3 (ρ := q1) (l := [(31, sa0_0), (32, (vi t0))]) ⟨hv31, hv32, trivial⟩]
    refine Jh (T := TSymbol) underlying57 ti82 h11 (SRep.mono (e1.ro.trans e2.ro) ha0_0) rfl rfl rfl h9 ?_
    intro b7 o1 c1 l3 f5
    obtain ⟨rfl, f6, f7, f8, f9⟩ := f5
    exact J0 (J4 (Ext.refl _) h11 fun Ga e8 => ⟨b7, o1, rfl, f6, f7, f8, f9, (LiesG.mono e8.ro l3)⟩)
   ·intro q1 w4 G4 e2 h11 h12 h13
    obtain ⟨hd0_, _⟩ := h13
    obtain ⟨b3, b4, hv33, fa, fb, fc, fd, fe⟩ := hd0_
    rw [J3 (ρ := q1) (l := [(33, (pt b3 b4))]) ⟨hv33, trivial⟩]
    refine Jfa 3 (b4 + 3) underlying82 rfl ti3 rfl rfl rfl rfl ?_
    exact J0 (J4 (Ext.refl _) h11 fun Gb e9 => ⟨b3, b4, rfl, fa, fb, fc, fd, (LiesG.mono e9.ro fe)⟩)
   ·intro q1 w4 G4 e2 h11 h12 h13
    obtain ⟨hd0_, _⟩ := h13
    obtain ⟨b5, b6, hv34, ff, fg, fh, fj, fk⟩ := hd0_
    rw [J3 (ρ := q1) (l := [(34, (pt b5 (b6 + 3)))]) ⟨hv34, trivial⟩]
    refine Y4 (v := (vi x1.Kind)) ti3 rfl rfl (Lies.drop 3 (LiesG.lies fk h11)) rfl ?_
    exact J0 (J4 (Ext.refl _) h11 fun Gc ea => ⟨rfl, fh⟩)
   ·intro q1 w4 G4 e2 h11 h12 h13
    obtain ⟨hd0_, hd1_, _⟩ := h13
    have hv29 := hd0_
    obtain ⟨hv35, fl⟩ := hd1_
    rw [J3 (ρ := q1) (l := [(29, (vi x0.Kind)), (35, (vi x1.Kind))]) ⟨hv29, hv35, trivial⟩]
    refine Y1 rfl rfl rfl ?_
    exact J0 (J4 (Ext.refl _) h11 fun Gd eb => ⟨rfl, fl⟩)
   ·intro q1 w4 G4 e2 h11 h12 h13
    obtain ⟨hd0_, _⟩ := h13
    obtain ⟨hv36, fm⟩ := hd0_
    rw [J3 (ρ := q1) (l := [(36, (.bool (decide (x0.Kind ≠ x1.Kind))))]) ⟨hv36, trivial⟩]
    refine J8 (f := 142) (av := [(.bool (decide (x0.Kind ≠ x1.Kind))), (vi 14)]) cf142 rfl rfl h11 rfl (fun Ge ec h14 => object_when.ok h14 (by rfl) h10) ?_
    rintro v3 w5 Gf Gg N1 ed q2 ⟨rfl, rfl⟩ h15
    exact J0 (J4 ed h15 fun Gh ee => rfl)
   ·intro q1 w4 G4 e2 h11 h12 h13
    rw [J3 (ρ := q1) (l := [(7, (pt b2 0))]) ⟨(h12.1 7 (by decide)).trans rfl, trivial⟩]
    refine Jl (l1 := []) (vs := [(vi x0.Kind), v1, v2]) ti49 h11 rfl rfl rfl rfl ?_
    exact J0 (J4 (Ext.refl _) h11 fun Gi ef => rfl)
   ·intro q1 w4 G4 e2 h11 h12 h13
    rw [J3 (ρ := q1) (l := [(2, (pt b0 0))]) ⟨(h12.1 2 (by decide)).trans rfl, trivial⟩]
    refine Jfa 0 0 underlying61 rfl ti57 rfl rfl rfl rfl ?_
    exact J0 (J4 (Ext.refl _) h11 fun Gj eg => rfl)
   intro q1 w4 G4 e2 h11 h12 h13
   obtain ⟨hd0_, _⟩ := h13
   have hv39 := hd0_
   rw [J3 (ρ := q1) (l := [(39, (pt b0 0))]) ⟨hv39, trivial⟩]
   refine Jlb [_] sa0_0 ti57 h11 rfl rfl rfl ?_
   exact J0 (J4 (Ext.refl _) h11 fun Gk eh => rfl)
  intro q1 w4 G4 e2 h11 h12 h13
  have hv37 := h13 9 (by decide)
  have hv38 := h13 10 (by decide)
  have hv40 := h13 12 (by decide)
  rw [J3 (ρ := q1) (l := [(37, (vi 0)), (38, (.agg #[(vi x0.Kind), v1, v2])), (40, sa0_0)]) ⟨hv37, hv38, hv40, trivial⟩]
  obtain ⟨t2, h16, hr⟩ := J6 hr
  refine J8 (f := 146) (av := [(.agg #[(vi x0.Kind), v1, v2]), sa0_0]) cf146 rfl rfl h11 rfl (fun Gl ei h17 => data_Check.ok (a0 := x0) h17 (⟨v1, v2, rfl, f2, (SRep.mono (e2.ro.trans ei.ro) f3), (SRep.mono (e2.ro.trans ei.ro) f4)⟩) (SRep.mono ((e1.ro.trans e2.ro).trans ei.ro) ha0_0) h16) ?_
  rintro v4 w6 Gm Gn N2 ej q3 ⟨rfl, rfl⟩ h18
  refine Jj (cells := [(vi 0), (vi 0)]) underlying240 ti29 h18 rfl rfl rfl rfl rfl (by kernel_rfl) ?_
  intro v5 w7 h19 fn
  have E0 : EAll (tInt .i64) Gn [(vi 0), (vi 0)] [0, 0] := ⟨_, _, rfl, ⟨rfl, rfl⟩, ⟨_, _, rfl, ⟨rfl, rfl⟩, rfl⟩⟩
  obtain ⟨Go, h1a, ek, fo⟩ := St.rowRep (l1 := []) (T := (tInt .i64)) (xs := [0, 0]) h19 E0 rfl (by decide)
  obtain ⟨t3, h1b, hr⟩ := J6 hr
  refine J8 (f := 140) (av := [v5]) cf140 rfl rfl h1a rfl (fun Gp el h1c => object_first.ok h1c (SRep.mono el.ro fo) h1b) ?_
  rintro v6 w8 Gq Gr N3 em q4 ⟨rfl, rfl⟩ h1d
  refine Jsv (vi 0) rfl rfl ?_
  refine J0 (Jg ?_)
  have h1e := St.takeN 0 h1d
  obtain rfl := Option.some.inj hr
  exact ⟨[(vi 0)], ⟨rfl, trivial⟩, _, _, _, rfl, (e1.trans (e2.trans (ej.trans (ek.trans em)))), h1e, ⟨rfl, rfl⟩⟩
 replace hr := Jf hr h5
 refine J9 (J2 (J1 ?_))
 refine Jfa 1 1 underlying61 rfl ti58 rfl rfl rfl rfl ?_
 refine Jlb [] sa0_1 ti58 h3 rfl rfl rfl ?_
 refine Jmv (vi a1) rfl rfl ?_
 obtain ⟨x2, h1f, hr⟩ := J6 hr
 refine Jh (T := TFunc) underlying58 ti44 h3 (SRep.mono e1.ro ha0_1) rfl rfl rfl h1f ?_
 intro b8 o2 c2 l4 fp
 obtain ⟨v7, v8, v9, va, rfl, fq, fr, fs, ft, fu, fv, fw, fx⟩ := fp
 refine Jy ti44 rfl rfl (LiesG.lies l4 h3) (Nat.le_of_ble_eq_true rfl) ?_
 change WL _ _ _ _ _ _ (upd _ _ (.agg #[(vi x2.Class), v7, (vi x2.Pad), (.bool x2.Nosplit), (vi x2.From), (vi x2.To), v8, v9, va])) _
 refine Jo ti44 h3 rfl ?_
 intro b9 w9 h1g
 refine Jp (l1 := []) (vs := [(vi x2.Class), v7, (vi x2.Pad), (.bool x2.Nosplit), (vi x2.From), (vi x2.To), v8, v9, va]) ti44 h1g rfl rfl rfl (J5 rfl (J5 (SRep.one fr) (J5 rfl (J5 rfl (J5 rfl (J5 rfl (J5 (SRep.one fv) (J5 (SRep.one fw) (J5 (SRep.one fx) (fun _ h => nomatch h)))))))))) rfl ?_
 intro wa (h1h : St B wa G3 [.blk b9 [(vi x2.Class), v7, (vi x2.Pad), (.bool x2.Nosplit), (vi x2.From), (vi x2.To), v8, v9, va] 44, .blk b0 [sa0_0, sa0_1, sa0_2] 61])
 refine J0 (J2 (J2 ?_))
 obtain ⟨x3, h1i, hr⟩ := J6 hr
 refine Ye 8 [some 49, some 50, some 51, some 52, some 53, some 54, some 55, some 56] (pk [(fun G_ v_ => v_ = (pt b9 0)), (fun G_ v_ => v_ = (vi x2.Class)), (fun G_ v_ => v_ = (pt b0 0)), (fun G_ v_ => v_ = sa0_0), (fun G_ v_ => v_ = (vi t0)), (fun G_ v_ => ∃ (ba : Nat) (bb : Nat), v_ = (pt ba bb) ∧ x3.Name.size ≤ SB ∧ InK .i64 x3.Sort_ ∧ InK .i64 x3.Kind ∧ InK .i64 x3.Def ∧ LiesG G_ ba bb [(.string x3.Name), (.bool x3.Local), (vi x3.Sort_), (vi x3.Kind), (vi x3.Def)]), (fun G_ v_ => ∃ (bc : Nat) (bd : Nat), v_ = (pt bc (bd + 3)) ∧ x3.Name.size ≤ SB ∧ InK .i64 x3.Sort_ ∧ InK .i64 x3.Kind ∧ InK .i64 x3.Def ∧ LiesG G_ bc bd [(.string x3.Name), (.bool x3.Local), (vi x3.Sort_), (vi x3.Kind), (vi x3.Def)]), (fun G_ v_ => v_ = (vi x3.Kind) ∧ InK .i64 x3.Kind)]) rfl (by kernel_rfl) rfl h1h ?_ ?_
 ·refine Each.cons ?_ (Each.cons ?_ (Each.cons ?_ (Each.cons ?_ (Each.cons ?_ (Each.cons ?_ (Each.cons ?_ (Each.cons ?_ Each.nil)))))))
  ·intro q5 wb Gs en h1j h1k h1l
   rw [J3 (ρ := q5) (l := [(8, (pt b9 0))]) ⟨(h1k.1 8 (by decide)).trans rfl, trivial⟩]
   refine Jfa 0 0 underlying44 rfl ti3 rfl rfl rfl rfl ?_
   exact J0 (J4 (Ext.refl _) h1j fun Gt eo => rfl)
  ·intro q5 wb Gs en h1j h1k h1l
   obtain ⟨hd0_, _⟩ := h1l
   have hv49 := hd0_
   rw [J3 (ρ := q5) (l := [(49, (pt b9 0))]) ⟨hv49, trivial⟩]
   refine Jlb [] (vi x2.Class) ti3 h1j rfl rfl rfl ?_
   exact J0 (J4 (Ext.refl _) h1j fun Gu ep => rfl)
  ·intro q5 wb Gs en h1j h1k h1l
   rw [J3 (ρ := q5) (l := [(2, (pt b0 0))]) ⟨(h1k.1 2 (by decide)).trans rfl, trivial⟩]
   refine Jfa 0 0 underlying61 rfl ti57 rfl rfl rfl rfl ?_
   exact J0 (J4 (Ext.refl _) h1j fun Gv er => rfl)
  ·intro q5 wb Gs en h1j h1k h1l
   obtain ⟨hd0_, _⟩ := h1l
   have hv51 := hd0_
   rw [J3 (ρ := q5) (l := [(51, (pt b0 0))]) ⟨hv51, trivial⟩]
   refine Jlb [_] sa0_0 ti57 h1j rfl rfl rfl ?_
   exact J0 (J4 (Ext.refl _) h1j fun Gw es => rfl)
  ·intro q5 wb Gs en h1j h1k h1l
   rw [J3 (ρ := q5) (l := [(5, (vi t0))]) ⟨(h1k.1 5 (by decide)).trans rfl, trivial⟩]
   refine Jmv (vi t0) rfl rfl ?_
   exact J0 (J4 (Ext.refl _) h1j fun Gx et => rfl)
  ·intro q5 wb Gs en h1j h1k h1l
   obtain ⟨hd0_, hd1_, _⟩ := h1l
   have hv52 := hd0_
   have hv53 := hd1_
   rw [J3 (ρ := q5) (l := [(52, sa0_0), (53, (vi t0))]) ⟨hv52, hv53, trivial⟩]
   refine Jh (T := TSymbol) underlying57 ti82 h1j (SRep.mono (e1.ro.trans en.ro) ha0_0) rfl rfl rfl h1i ?_
   intro be o3 c3 l5 fy
   obtain ⟨rfl, fz, f10, f11, f12⟩ := fy
   exact J0 (J4 (Ext.refl _) h1j fun Gy eu => ⟨be, o3, rfl, fz, f10, f11, f12, (LiesG.mono eu.ro l5)⟩)
  ·intro q5 wb Gs en h1j h1k h1l
   obtain ⟨hd0_, _⟩ := h1l
   obtain ⟨ba, bb, hv54, f13, f14, f15, f16, f17⟩ := hd0_
   rw [J3 (ρ := q5) (l := [(54, (pt ba bb))]) ⟨hv54, trivial⟩]
   refine Jfa 3 (bb + 3) underlying82 rfl ti3 rfl rfl rfl rfl ?_
   exact J0 (J4 (Ext.refl _) h1j fun Gz ev => ⟨ba, bb, rfl, f13, f14, f15, f16, (LiesG.mono ev.ro f17)⟩)
  intro q5 wb Gs en h1j h1k h1l
  obtain ⟨hd0_, _⟩ := h1l
  obtain ⟨bc, bd, hv55, f18, f19, f1a, f1b, f1c⟩ := hd0_
  rw [J3 (ρ := q5) (l := [(55, (pt bc (bd + 3)))]) ⟨hv55, trivial⟩]
  refine Y4 (v := (vi x3.Kind)) ti3 rfl rfl (Lies.drop 3 (LiesG.lies f1c h1j)) rfl ?_
  exact J0 (J4 (Ext.refl _) h1j fun G10 ew => ⟨rfl, f1a⟩)
 intro q5 wb Gs en h1j h1k h1l
 have hv50 := h1l 1 (by decide)
 obtain ⟨hv56, f1d⟩ := h1l 7 (by decide)
 rw [J3 (ρ := q5) (l := [(2, (pt b0 0)), (8, (pt b9 0)), (50, (vi x2.Class)), (56, (vi x3.Kind))]) ⟨(h1k.1 2 (by decide)).trans rfl, (h1k.1 8 (by decide)).trans rfl, hv50, hv56, trivial⟩]
 refine Y1 rfl rfl rfl ?_
 refine J0 ?_
 refine J7 rfl (fun h1m => ?_) (fun h1m => ?_)
 ·exact Jk hr h1m
 replace hr := Jf hr h1m
 refine J9 (J2 (J1 ?_))
 refine Jl (l1 := []) (vs := [(vi x2.Class), v7, (vi x2.Pad), (.bool x2.Nosplit), (vi x2.From), (vi x2.To), v8, v9, va]) ti44 h1j rfl rfl rfl rfl ?_
 refine Jfa 0 0 underlying61 rfl ti57 rfl rfl rfl rfl ?_
 refine Jlb [_] sa0_0 ti57 h1j rfl rfl rfl ?_
 obtain ⟨t4, h1n, hr⟩ := J6 hr
 refine J8 (f := 147) (av := [(.agg #[(vi x2.Class), v7, (vi x2.Pad), (.bool x2.Nosplit), (vi x2.From), (vi x2.To), v8, v9, va]), sa0_0]) cf147 rfl rfl h1j rfl (fun G11 ex h1o => verify_Check.ok (a0 := x2) h1o (⟨v7, v8, v9, va, rfl, fq, (SRep.mono (en.ro.trans ex.ro) fr), fs, ft, fu, (SRep.mono (en.ro.trans ex.ro) fv), (SRep.mono (en.ro.trans ex.ro) fw), (SRep.mono (en.ro.trans ex.ro) fx)⟩) (SRep.mono ((e1.ro.trans en.ro).trans ex.ro) ha0_0) h1n) ?_
 rintro vc wc G12 G13 N4 ey q6 ⟨rfl, rfl⟩ h1p
 refine Jmv (.tuple #[(vi 0), (vi (-1))]) rfl rfl ?_
 refine Jm rfl rfl rfl ?_
 refine Jm rfl rfl rfl ?_
 refine Jsv (vi 0) rfl rfl ?_
 refine Jsv (vi (-1)) rfl rfl ?_
 refine J0 (J2 (J1 ?_))
 refine Jmv (vi 0) rfl rfl ?_
 refine Jl (l1 := []) (vs := [(vi x2.Class), v7, (vi x2.Pad), (.bool x2.Nosplit), (vi x2.From), (vi x2.To), v8, v9, va]) ti44 h1p rfl rfl rfl rfl ?_
 obtain ⟨t5, h1q, hr⟩ := J6 hr
 refine J8 (f := 148) (av := [(.agg #[(vi x2.Class), v7, (vi x2.Pad), (.bool x2.Nosplit), (vi x2.From), (vi x2.To), v8, v9, va])]) cf148 rfl rfl h1p rfl (fun G14 ez h1r => ranges_Check.ok (a0 := x2) h1r (⟨v7, v8, v9, va, rfl, fq, (SRep.mono ((en.ro.trans ey.ro).trans ez.ro) fr), fs, ft, fu, (SRep.mono ((en.ro.trans ey.ro).trans ez.ro) fv), (SRep.mono ((en.ro.trans ey.ro).trans ez.ro) fw), (SRep.mono ((en.ro.trans ey.ro).trans ez.ro) fx)⟩) h1q) ?_
 rintro vd wd G15 G16 N5 e10 q7 ⟨rfl, rfl⟩ h1s
 refine Jj (cells := [(vi 0), (vi 0)]) underlying240 ti29 h1s rfl rfl rfl rfl rfl (by kernel_rfl) ?_
 intro ve we h1t f1e
 have E1 : EAll (tInt .i64) G16 [(vi 0), (vi 0)] [0, 0] := ⟨_, _, rfl, ⟨rfl, rfl⟩, ⟨_, _, rfl, ⟨rfl, rfl⟩, rfl⟩⟩
 obtain ⟨G17, h1u, e11, f1f⟩ := St.rowRep (l1 := []) (T := (tInt .i64)) (xs := [0, 0]) h1t E1 rfl (by decide)
 obtain ⟨t6, h1v, hr⟩ := J6 hr
 refine J8 (f := 140) (av := [ve]) cf140 rfl rfl h1u rfl (fun G18 e12 h1w => object_first.ok h1w (SRep.mono e12.ro f1f) h1v) ?_
 rintro vf wf G19 G1a N6 e13 q8 ⟨rfl, rfl⟩ h1x
 refine Jsv (vi 0) rfl rfl ?_
 refine J0 (Jg ?_)
 have h1y := St.takeN 0 h1x
 obtain rfl := Option.some.inj hr
 exact ⟨[(vi 0)], ⟨rfl, trivial⟩, _, _, _, rfl, (e1.trans (en.trans (ey.trans (e10.trans (e11.trans e13))))), h1y, ⟨rfl, rfl⟩⟩
def object_Check_2.f (a0 : Int) (a1_ : XObject) : Option (Unit) :=
 (object_item.f a1_ a0).bind fun t0 => some ()
def object_Check_2.K (ba1 : Nat) (a1_ : XObject) (r : Unit) (G16 : GH) (v : Value) (N : List Res) : Prop := ∃ (v20 : Value) (v22 : Value) (v24 : Value), v = tup [(vi 0)] ∧ N = [.blk ba1 [v20, v22, v24] 61] ∧ SRep 82 TSymbol G16 v20 a1_.Symbols ∧ SRep 44 TFunc G16 v22 a1_.Funcs ∧ SRep 49 TData G16 v24 a1_.Datas
theorem object_Check_2.ok {a0 : Int} {ba1 : Nat} {ca1_ : List Value} {a1_ : XObject} (st : St B w G [.blk ba1 ca1_ 61]) (ha0 : InK .i64 a0) (ha1_ : TObject.rep G ca1_ a1_) {r : Unit} (hr : object_Check_2.f a0 a1_ = some r) :
 Calls Tryz.prog 84 ([(vi a0), (pt ba1 0)] : List Value).toArray w (Ret B G (object_Check_2.K ba1 a1_ r)) := by
 obtain ⟨sa1__0, sa1__1, sa1__2, rfl, ha1__0, ha1__1, ha1__2⟩ := ha1_
 refine Jc [.tmp 3] func84 rfl ntmps84 rfl rfl ?_
 refine J2 (J1 ?_)
 refine Jsv (vi 0) rfl rfl ?_
 refine J0 (J2 (J1 ?_))
 refine Jl (l1 := []) (vs := [sa1__0, sa1__1, sa1__2]) ti61 st rfl rfl rfl rfl ?_
 refine Jmv (vi a0) rfl rfl ?_
 obtain ⟨t0, h0, hr⟩ := J6 hr
 refine J8 (f := 85) (av := [(.agg #[sa1__0, sa1__1, sa1__2]), (vi a0)]) cf85 rfl rfl st rfl (fun G0 e0 h1 => object_item.ok (a0 := a1_) h1 (⟨sa1__0, sa1__1, sa1__2, rfl, (SRep.mono e0.ro ha1__0), (SRep.mono e0.ro ha1__1), (SRep.mono e0.ro ha1__2)⟩) ha0 h0) ?_
 rintro v0 w0 G1 G2 N0 e1 q0 ⟨rfl, rfl⟩ h2
 refine Jsv (vi 0) rfl rfl ?_
 refine J0 (Jg ?_)
 obtain rfl := Option.some.inj hr
 exact ⟨[(vi 0)], ⟨rfl, trivial⟩, _, _, _, rfl, e1, h2, ⟨sa1__0, sa1__1, sa1__2, rfl, rfl, (SRep.mono e1.ro ha1__0), (SRep.mono e1.ro ha1__1), (SRep.mono e1.ro ha1__2)⟩⟩
def object_Check.l2 (a0 : XObject) (s0 : ((List XSymbol) × (List XFunc) × (List XData) × Nat)) : Option (Step ((List XSymbol) × (List XFunc) × (List XData) × Nat) ((List XSymbol) × (List XFunc) × (List XData))) :=
 bif decide (((s0.2.2.2 : Nat) : Int) < (a0.Symbols.length : Int)) then (object_Check_1.f ((s0.2.2.2 : Nat) : Int) ({ Symbols := s0.1, Funcs := s0.2.1, Datas := s0.2.2.1 } : XObject)).bind fun t0 => some (.next (s0.1, s0.2.1, s0.2.2.1, s0.2.2.2 + 1)) else some (.done (s0.1, s0.2.1, s0.2.2.1))
def object_Check.l3 (t1 : Int) (s1 : ((List XSymbol) × (List XFunc) × (List XData) × Nat)) : Option (Step ((List XSymbol) × (List XFunc) × (List XData) × Nat) ((List XSymbol) × (List XFunc) × (List XData))) :=
 bif decide (((s1.2.2.2 : Nat) : Int) < t1) then (object_Check_2.f ((s1.2.2.2 : Nat) : Int) ({ Symbols := s1.1, Funcs := s1.2.1, Datas := s1.2.2.1 } : XObject)).bind fun t2 => some (.next (s1.1, s1.2.1, s1.2.2.1, s1.2.2.2 + 1)) else some (.done (s1.1, s1.2.1, s1.2.2.1))
def object_Check.f (a0 : XObject) : Option (Unit) :=
 (bif decide ((a0.Symbols.length : Int) > 32) then none else some ()).bind fun t3 => (bif decide ((a0.Funcs.length : Int) > 12) then none else some ()).bind fun t4 => bif decide ((a0.Datas.length : Int) > 8) then none else (object_Items.f a0).bind fun t1 => (loop (object_Check.l2 a0) (a0.Symbols, a0.Funcs, a0.Datas, 0)).bind fun t5 => (loop (object_Check.l3 t1) (t5.1, t5.2.1, t5.2.2, 0)).bind fun t6 => some ()
def object_Check.K (r : Unit) (G0 : GH) (v : Value) (N : List Res) : Prop := v = tup [(vi 0), (vi (-1))] ∧ N = []
theorem object_Check.ok {ca0 : List Value} {a0 : XObject} (st : St B w G []) (ha0 : TObject.rep G ca0 a0) {r : Unit} (hr : object_Check.f a0 = some r) :
 Calls Tryz.prog 30 ([(.agg ca0.toArray)] : List Value).toArray w (Ret B G (object_Check.K r)) := by
 obtain ⟨sa0_0, sa0_1, sa0_2, rfl, ha0_0, ha0_1, ha0_2⟩ := ha0
 refine Jc [.tmp 2, .tmp 3] func30 rfl ntmps30 rfl rfl ?_
 refine J2 (J1 ?_)
 refine Ju (cs := [sa0_0, sa0_1, sa0_2]) st rfl rfl rfl ?_
 intro b0 w0 h0
 refine Jsv (vi 0) rfl rfl ?_
 refine Jsv (vi 0) rfl rfl ?_
 refine J0 (J2 (J2 (J1 ?_)))
 refine Jfa 0 0 underlying61 rfl ti57 rfl rfl rfl rfl ?_
 refine Jlb [] sa0_0 ti57 h0 rfl rfl rfl ?_
 refine Jd (T := TSymbol) underlying57 ha0_0 rfl rfl ?_
 refine Yh rfl rfl rfl ?_
 refine Jmv (.bool (decide ((a0.Symbols.length : Int) > 32))) rfl rfl ?_
 obtain ⟨t3, hr, o0⟩ := J6 hr
 refine Jw 5 (fun ρ w => ∃ (σ0 : Env) (G1 : GH), ρ = En σ0 [(1, (pt b0 0)), (17, (.bool (decide ((a0.Funcs.length : Int) > 12))))] ∧ Ext G G1 ∧ St B w G1 [.blk b0 [sa0_0, sa0_1, sa0_2] 61]) ?_ ?_
 ·rcases Y8 (decide ((a0.Symbols.length : Int) > 32)) with hb_ | hb_
  ·exact Jk hr hb_
  have h1 : (decide ((a0.Symbols.length : Int) > 32)) = false := hb_
  replace hr := Jf hr h1
  refine Ja rfl rfl rfl rfl h1 ?_
  refine Jfa 1 1 underlying61 rfl ti58 rfl rfl rfl rfl ?_
  refine Ja rfl rfl rfl rfl h1 ?_
  refine Jlb [] sa0_1 ti58 h0 rfl rfl rfl ?_
  refine Ja rfl rfl rfl rfl h1 ?_
  refine Jd (T := TFunc) underlying58 ha0_1 rfl rfl ?_
  refine Ja rfl rfl rfl rfl h1 ?_
  refine Yh rfl rfl rfl ?_
  refine Jt (v := (.bool (decide ((a0.Funcs.length : Int) > 12)))) rfl rfl h1 rfl ?_
  refine J0 ?_
  obtain rfl := Option.some.inj hr
  exact ⟨_, _, (J3 ⟨rfl, rfl, trivial⟩), (Ext.refl _), h0⟩
 rintro _ _ ⟨σ0, G1, rfl, e0, h2⟩
 replace hr := o0
 refine Jmv (.bool (decide ((a0.Funcs.length : Int) > 12))) rfl rfl ?_
 obtain ⟨t4, hr, o1⟩ := J6 hr
 refine Jw 5 (fun ρ w => ∃ (σ1 : Env) (G2 : GH), ρ = En σ1 [(1, (pt b0 0)), (23, (.bool (decide ((a0.Datas.length : Int) > 8))))] ∧ Ext G1 G2 ∧ St B w G2 [.blk b0 [sa0_0, sa0_1, sa0_2] 61]) ?_ ?_
 ·rcases Y8 (decide ((a0.Funcs.length : Int) > 12)) with hb_ | hb_
  ·exact Jk hr hb_
  have h3 : (decide ((a0.Funcs.length : Int) > 12)) = false := hb_
  replace hr := Jf hr h3
  refine Ja rfl rfl rfl rfl h3 ?_
  refine Jfa 2 2 underlying61 rfl ti59 rfl rfl rfl rfl ?_
  refine Ja rfl rfl rfl rfl h3 ?_
  refine Jlb [] sa0_2 ti59 h2 rfl rfl rfl ?_
  refine Ja rfl rfl rfl rfl h3 ?_
  refine Jd (T := TData) underlying59 (SRep.mono e0.ro ha0_2) rfl rfl ?_
  refine Ja rfl rfl rfl rfl h3 ?_
  refine Yh rfl rfl rfl ?_
  refine Jt (v := (.bool (decide ((a0.Datas.length : Int) > 8)))) rfl rfl h3 rfl ?_
  refine J0 ?_
  obtain rfl := Option.some.inj hr
  exact ⟨_, _, (J3 ⟨rfl, rfl, trivial⟩), (Ext.refl _), h2⟩
 rintro _ _ ⟨σ1, G2, rfl, e1, h4⟩
 replace hr := o1
 refine J0 ?_
 refine J7 rfl (fun h5 => ?_) (fun h5 => ?_)
 ·exact Jk hr h5
 replace hr := Jf hr h5
 refine J9 (J2 (J2 ?_))
 obtain ⟨t1, h6, hr⟩ := J6 hr
 refine Ym 12 [some 24, some 25, some 26, some 27, some 28, some 29, some 30, some 31, some 32, some 33, some 34, some 35] [9] [Kind.q, Kind.q, Kind.q, Kind.q, Kind.q, Kind.q, Kind.q, Kind.q, Kind.q, Kind.c 0, Kind.q, Kind.q] (pkT [(fun vs_ G_ M_ => vs_ = [] ∧ M_ = [.blk b0 [sa0_0, sa0_1, sa0_2] 61]), (fun vs_ G_ M_ => ∃ (v0 : Value), vs_ = [v0] ∧ M_ = [.row v0 129 2 2 [(.func (.func 82) #[] #[(pt b0 0)]), (vi (a0.Symbols.length : Int)), (.func (.func 84) #[] #[(pt b0 0)]), (vi t1)], .blk b0 [sa0_0, sa0_1, sa0_2] 61] ∧ InK .i64 t1)]) (pk [(fun G_ v_ => v_ = (.func (.func 82) #[] #[(pt b0 0)])), (fun G_ v_ => v_ = (pt b0 0)), (fun G_ v_ => v_ = sa0_0), (fun G_ v_ => v_ = (vi (a0.Symbols.length : Int))), (fun G_ v_ => v_ = (.agg #[(.func (.func 82) #[] #[(pt b0 0)]), (vi (a0.Symbols.length : Int))])), (fun G_ v_ => v_ = (.func (.func 84) #[] #[(pt b0 0)])), (fun G_ v_ => v_ = (.agg #[sa0_0, sa0_1, sa0_2])), (fun G_ v_ => v_ = (vi t1) ∧ InK .i64 t1), (fun G_ v_ => v_ = (.agg #[(.func (.func 84) #[] #[(pt b0 0)]), (vi t1)]) ∧ InK .i64 t1), (fun _ _ => True), (fun G_ v_ => v_ = (vi 2)), (fun G_ v_ => v_ = (vi 0))]) rfl (by kernel_rfl) rfl (by kernel_rfl) [] (by kernel_rfl) rfl h4 (fun _ _ => ⟨rfl, rfl⟩) ?_ ?_
 ·refine Each2.cons ?_ (Each2.cons ?_ (Each2.cons ?_ (Each2.cons ?_ (Each2.cons ?_ (Each2.cons ?_ (Each2.cons ?_ (Each2.cons ?_ (Each2.cons ?_ (Each2.cons ?_ (Each2.cons ?_ (Each2.cons ?_ Each2.nil)))))))))))
  ·intro k0 q0 w1 G3 M0 h7 h8 e2 h9 h10 h11 h12 h13 h14
   have h2_ : k0 ≤ 0 := h13 0 9 [4, 9] rfl (by kernel_rfl) rfl
   obtain rfl : k0 = 0 := by omega
   obtain ⟨hvs_, rfl⟩ := h10 G3 (Ext.refl _)
   rw [J3 (ρ := q0) (l := [(1, (pt b0 0))]) ⟨(h11.1 1 (by decide)).trans rfl, trivial⟩]
   refine Yg (fs := []) (cs := [(pt b0 0)]) rfl rfl rfl ?_
   exact J0 (J4 (Ext.refl _) h9 fun G4 e3 => rfl)
  ·intro k0 q0 w1 G3 M0 h7 h8 e2 h9 h10 h11 h12 h13 h14
   have h2_ : k0 ≤ 0 := h13 0 9 [2, 3, 4, 9] rfl (by kernel_rfl) rfl
   obtain rfl : k0 = 0 := by omega
   obtain ⟨hvs_, rfl⟩ := h10 G3 (Ext.refl _)
   rw [J3 (ρ := q0) (l := [(1, (pt b0 0))]) ⟨(h11.1 1 (by decide)).trans rfl, trivial⟩]
   refine Jfa 0 0 underlying61 rfl ti57 rfl rfl rfl rfl ?_
   exact J0 (J4 (Ext.refl _) h9 fun G5 e4 => rfl)
  ·intro k0 q0 w1 G3 M0 h7 h8 e2 h9 h10 h11 h12 h13 h14
   have h2_ : k0 ≤ 0 := h13 0 9 [3, 4, 9] rfl (by kernel_rfl) rfl
   obtain rfl : k0 = 0 := by omega
   obtain ⟨hvs_, rfl⟩ := h10 G3 (Ext.refl _)
   obtain ⟨hd0_, _⟩ := h14
   have hv25 := hd0_
   rw [J3 (ρ := q0) (l := [(25, (pt b0 0))]) ⟨hv25, trivial⟩]
   refine Jlb [] sa0_0 ti57 h9 rfl rfl rfl ?_
   exact J0 (J4 (Ext.refl _) h9 fun G6 e5 => rfl)
  ·intro k0 q0 w1 G3 M0 h7 h8 e2 h9 h10 h11 h12 h13 h14
   have h2_ : k0 ≤ 0 := h13 0 9 [4, 9] rfl (by kernel_rfl) rfl
   obtain rfl : k0 = 0 := by omega
   obtain ⟨hvs_, rfl⟩ := h10 G3 (Ext.refl _)
   obtain ⟨hd0_, _⟩ := h14
   have hv26 := hd0_
   rw [J3 (ρ := q0) (l := [(26, sa0_0)]) ⟨hv26, trivial⟩]
   refine Jd (T := TSymbol) underlying57 (SRep.mono (e0.ro.trans (e1.ro.trans e2.ro)) ha0_0) rfl rfl ?_
   exact J0 (J4 (Ext.refl _) h9 fun G7 e6 => rfl)
  ·intro k0 q0 w1 G3 M0 h7 h8 e2 h9 h10 h11 h12 h13 h14
   have h2_ : k0 ≤ 0 := h13 0 9 [9] rfl (by kernel_rfl) rfl
   obtain rfl : k0 = 0 := by omega
   obtain ⟨hvs_, rfl⟩ := h10 G3 (Ext.refl _)
   obtain ⟨hd0_, hd1_, _⟩ := h14
   have hv24 := hd0_
   have hv27 := hd1_
   rw [J3 (ρ := q0) (l := [(24, (.func (.func 82) #[] #[(pt b0 0)])), (27, (vi (a0.Symbols.length : Int)))]) ⟨hv24, hv27, trivial⟩]
   refine Y0 (cells := #[(.func (.func 82) #[] #[(pt b0 0)]), (vi (a0.Symbols.length : Int))]) rfl (by kernel_rfl) ?_
   exact J0 (J4 (Ext.refl _) h9 fun G8 e7 => rfl)
  ·intro k0 q0 w1 G3 M0 h7 h8 e2 h9 h10 h11 h12 h13 h14
   have h2_ : k0 ≤ 0 := h13 0 9 [8, 9] rfl (by kernel_rfl) rfl
   obtain rfl : k0 = 0 := by omega
   obtain ⟨hvs_, rfl⟩ := h10 G3 (Ext.refl _)
   rw [J3 (ρ := q0) (l := [(1, (pt b0 0))]) ⟨(h11.1 1 (by decide)).trans rfl, trivial⟩]
   refine Yg (fs := []) (cs := [(pt b0 0)]) rfl rfl rfl ?_
   exact J0 (J4 (Ext.refl _) h9 fun G9 e8 => rfl)
  ·intro k0 q0 w1 G3 M0 h7 h8 e2 h9 h10 h11 h12 h13 h14
   have h2_ : k0 ≤ 0 := h13 0 9 [7, 8, 9] rfl (by kernel_rfl) rfl
   obtain rfl : k0 = 0 := by omega
   obtain ⟨hvs_, rfl⟩ := h10 G3 (Ext.refl _)
   rw [J3 (ρ := q0) (l := [(1, (pt b0 0))]) ⟨(h11.1 1 (by decide)).trans rfl, trivial⟩]
   refine Jl (l1 := []) (vs := [sa0_0, sa0_1, sa0_2]) ti61 h9 rfl rfl rfl rfl ?_
   exact J0 (J4 (Ext.refl _) h9 fun Ga e9 => rfl)
  ·intro k0 q0 w1 G3 M0 h7 h8 e2 h9 h10 h11 h12 h13 h14
   have h2_ : k0 ≤ 0 := h13 0 9 [8, 9] rfl (by kernel_rfl) rfl
   obtain rfl : k0 = 0 := by omega
   obtain ⟨hvs_, rfl⟩ := h10 G3 (Ext.refl _)
   obtain ⟨hd0_, _⟩ := h14
   have hv30 := hd0_
   rw [J3 (ρ := q0) (l := [(30, (.agg #[sa0_0, sa0_1, sa0_2]))]) ⟨hv30, trivial⟩]
   refine J8 (f := 86) (av := [(.agg #[sa0_0, sa0_1, sa0_2])]) cf86 rfl rfl h9 rfl (fun Gb ea h15 => object_Items.ok (a0 := a0) h15 (⟨sa0_0, sa0_1, sa0_2, rfl, (SRep.mono ((e0.ro.trans (e1.ro.trans e2.ro)).trans ea.ro) ha0_0), (SRep.mono ((e0.ro.trans (e1.ro.trans e2.ro)).trans ea.ro) ha0_1), (SRep.mono ((e0.ro.trans (e1.ro.trans e2.ro)).trans ea.ro) ha0_2)⟩) h6) ?_
   rintro v1 w2 Gc Gd N0 eb q1 ⟨rfl, rfl, f0⟩ h16
   exact J0 (J4 eb h16 fun Ge ec => ⟨rfl, f0⟩)
  ·intro k0 q0 w1 G3 M0 h7 h8 e2 h9 h10 h11 h12 h13 h14
   have h2_ : k0 ≤ 0 := h13 0 9 [9] rfl (by kernel_rfl) rfl
   obtain rfl : k0 = 0 := by omega
   obtain ⟨hvs_, rfl⟩ := h10 G3 (Ext.refl _)
   obtain ⟨hd0_, hd1_, _⟩ := h14
   have hv29 := hd0_
   obtain ⟨hv31, f1⟩ := hd1_
   rw [J3 (ρ := q0) (l := [(29, (.func (.func 84) #[] #[(pt b0 0)])), (31, (vi t1))]) ⟨hv29, hv31, trivial⟩]
   refine Y0 (cells := #[(.func (.func 84) #[] #[(pt b0 0)]), (vi t1)]) rfl (by kernel_rfl) ?_
   exact J0 (J4 (Ext.refl _) h9 fun Gf ed => ⟨rfl, f1⟩)
  ·intro k0 q0 w1 G3 M0 h7 h8 e2 h9 h10 h11 h12 h13 h14
   obtain rfl : k0 = 0 := h8
   obtain ⟨hvs_, rfl⟩ := h10 G3 (Ext.refl _)
   obtain ⟨hd0_, hd1_, _⟩ := h14
   have hv28 := hd0_
   obtain ⟨hv32, f2⟩ := hd1_
   rw [J3 (ρ := q0) (l := [(28, (.agg #[(.func (.func 82) #[] #[(pt b0 0)]), (vi (a0.Symbols.length : Int))])), (32, (.agg #[(.func (.func 84) #[] #[(pt b0 0)]), (vi t1)]))]) ⟨hv28, hv32, trivial⟩]
   refine Jj (cells := [(.func (.func 82) #[] #[(pt b0 0)]), (vi (a0.Symbols.length : Int)), (.func (.func 84) #[] #[(pt b0 0)]), (vi t1)]) underlying131 ti129 h9 rfl rfl rfl rfl rfl (by kernel_rfl) ?_
   intro v2 w3 h17 f3
   exact J0 (Yi (Ext.refl _) h17 fun Gg ee => ⟨⟨v2, rfl, rfl, f2⟩, trivial⟩)
  ·intro k0 q0 w1 G3 M0 h7 h8 e2 h9 h10 h11 h12 h13 h14
   have h1_ : 0 < k0 := h12 0 9 10 [] rfl (by kernel_rfl) rfl
   have h2_ : k0 ≤ 1 := h7
   obtain rfl : k0 = 1 := by omega
   obtain ⟨v0, hvs_, rfl, f4⟩ := h10 G3 (Ext.refl _)
   have hv33 := (List.cons.inj hvs_).1
   rw [J3 (ρ := q0) (l := [(33, v0)]) ⟨hv33, trivial⟩]
   refine WL_lenOwn (l1 := []) underlying131 h9 rfl rfl ?_
   change WL _ _ _ _ _ _ (upd _ _ (vi 2)) _
   exact J0 (J4 (Ext.refl _) h9 fun Gh ef => rfl)
  intro k0 q0 w1 G3 M0 h7 h8 e2 h9 h10 h11 h12 h13 h14
  have h2_ : k0 ≤ 1 := h7
  rcases (show k0 = 0 ∨ k0 = 1 from by omega) with rfl | rfl
  ·obtain ⟨hvs_, rfl⟩ := h10 G3 (Ext.refl _)
   refine Jmv (vi 0) rfl rfl ?_
   exact J0 (J4 (Ext.refl _) h9 fun Gi eg => rfl)
  obtain ⟨v0, hvs_, rfl, f4⟩ := h10 G3 (Ext.refl _)
  have hv33 := (List.cons.inj hvs_).1
  rw [J3 (ρ := q0) (l := [(33, v0)]) ⟨hv33, trivial⟩]
  refine Jmv (vi 0) rfl rfl ?_
  exact J0 (J4 (Ext.refl _) h9 fun Gi eg => rfl)
 intro q0 w1 G3 M0 e2 h9 h10 h11 h14
 obtain ⟨v0, hvs_, rfl, f4⟩ := h10
 have hv33 := (List.cons.inj hvs_).1
 have hv34 := h14 10 (by decide)
 have hv35 := h14 11 (by decide)
 rw [J3 (ρ := q0) (l := [(33, v0), (34, (vi 2)), (35, (vi 0))]) ⟨hv33, hv34, hv35, trivial⟩]
 refine J0 (Jb ?_)
 refine W_rounds 3 ?_
 refine J2 (J1 ?_)
 refine Ji rfl rfl rfl ?_
 change WL _ _ _ _ _ _ (upd _ _ (.bool true)) _
 refine J0 (J2 ?_)
 refine J7 rfl (fun _ => ?_) (fun h => nomatch h)
 refine J9 (J2 (Jb (J2 (J1 ?_))))
 refine Y7 (l1 := []) underlying131 ti129 h9 rfl rfl rfl (by decide) (by decide) ?_
 intro g0 k1 l0
 change WL _ _ _ _ _ _ (upd _ _ (pt g0 0)) _
 refine Jy ti129 rfl rfl (Lies.drop 0 (St.liesRow (l1 := []) h9 k1)) (Nat.le_of_ble_eq_true rfl) ?_
 change WL _ _ _ _ _ _ (upd _ _ (.agg #[(.func (.func 82) #[] #[(pt b0 0)]), (vi (a0.Symbols.length : Int))])) _
 refine Jo ti129 h9 rfl ?_
 intro b1 w4 h18
 refine Jp (l1 := []) (vs := [(.func (.func 82) #[] #[(pt b0 0)]), (vi (a0.Symbols.length : Int))]) ti129 h18 rfl rfl rfl (J5 rfl (J5 rfl (fun _ h => nomatch h))) rfl ?_
 intro w5 (h19 : St B w5 G3 [.blk b1 [(.func (.func 82) #[] #[(pt b0 0)]), (vi (a0.Symbols.length : Int))] 129, .row v0 129 2 2 [(.func (.func 82) #[] #[(pt b0 0)]), (vi (a0.Symbols.length : Int)), (.func (.func 84) #[] #[(pt b0 0)]), (vi t1)], .blk b0 [sa0_0, sa0_1, sa0_2] 61])
 refine J0 (J2 (J1 ?_))
 refine Jfa 1 1 underlying129 rfl ti3 rfl rfl rfl rfl ?_
 refine Jlb [] (vi (a0.Symbols.length : Int)) ti3 h19 rfl rfl rfl ?_
 refine Jmv (vi 0) rfl rfl ?_
 refine J0 (Jb ?_)
 obtain ⟨t5, h1a, hr⟩ := J6 hr
 have h1b := St.pick 1 rfl h19
 have h1c := St.pick 1 rfl h1b
 have h1d := St.pick 2 rfl h1c
 refine Js 2 h1a (fun s0 ρ w => ∃ (σ2 : Env) (Gj : GH) (v3 : Value) (v4 : Value) (v5 : Value), ρ = En σ2 [(5, (pt b1 0)), (33, v0), (34, (vi 2)), (35, (vi 0)), (40, (vi (a0.Symbols.length : Int))), (41, (vi ((s0.2.2.2 : Nat) : Int)))] ∧ Ext G3 Gj ∧ St B w Gj [.blk b0 [v3, v4, v5] 61, .blk b1 [(.func (.func 82) #[] #[(pt b0 0)]), (vi (a0.Symbols.length : Int))] 129, .row v0 129 2 2 [(.func (.func 82) #[] #[(pt b0 0)]), (vi (a0.Symbols.length : Int)), (.func (.func 84) #[] #[(pt b0 0)]), (vi t1)]] ∧ SRep 82 TSymbol Gj v3 s0.1 ∧ SRep 44 TFunc Gj v4 s0.2.1 ∧ SRep 49 TData Gj v5 s0.2.2.1 ∧ InK .i64 ((s0.2.2.2 : Nat) : Int)) (fun t7 ρ w => ∃ (σ3 : Env) (Gk : GH) (v6 : Value) (v7 : Value) (v8 : Value), ρ = En σ3 [(33, v0), (34, (vi 2)), (35, (vi 0))] ∧ Ext G3 Gk ∧ St B w Gk [.blk b0 [v6, v7, v8] 61, .row v0 129 2 2 [(.func (.func 82) #[] #[(pt b0 0)]), (vi (a0.Symbols.length : Int)), (.func (.func 84) #[] #[(pt b0 0)]), (vi t1)]] ∧ SRep 82 TSymbol Gk v6 t7.1 ∧ SRep 44 TFunc Gk v7 t7.2.1 ∧ SRep 49 TData Gk v8 t7.2.2) ⟨_, _, sa0_0, sa0_1, sa0_2, (J3 ⟨rfl, rfl, rfl, rfl, rfl, rfl, trivial⟩), (Ext.refl _), h1d, (SRep.mono (e0.ro.trans (e1.ro.trans e2.ro)) ha0_0), (SRep.mono (e0.ro.trans (e1.ro.trans e2.ro)) ha0_1), (SRep.mono (e0.ro.trans (e1.ro.trans e2.ro)) ha0_2), (by rfl)⟩ ?_ ?_
 ·rintro s0 x0 _ _ hr ⟨σ2, Gj, v3, v4, v5, rfl, eh, h1e, f5, f6, f7, f8⟩
  refine J2 (J1 ?_)
  refine Ji rfl rfl rfl ?_
  refine J0 (J2 ?_)
  refine J7 rfl (fun h1f => ?_) (fun h1f => ?_)
  ·replace hr := Jx hr h1f
   refine J9 (J2 (Jb (J2 (J1 ?_))))
   refine Jmv (vi ((s0.2.2.2 : Nat) : Int)) rfl rfl ?_
   refine Jsv (vi ((s0.2.2.2 : Nat) : Int)) rfl rfl ?_
   refine J0 (J2 (J1 ?_))
   refine Jfa 0 0 underlying129 rfl ti127 rfl rfl rfl rfl ?_
   refine Jlb [_] (.func (.func 82) #[] #[(pt b0 0)]) ti127 h1e rfl rfl rfl ?_
   refine Jmv (vi ((s0.2.2.2 : Nat) : Int)) rfl rfl ?_
   obtain ⟨t0, h1g, hr⟩ := J6 hr
   refine Jn (f := 82) (av := [(vi ((s0.2.2.2 : Nat) : Int)), (pt b0 0)]) cf82 rfl rfl h1e rfl (fun Gl ei h1h => object_Check_1.ok (a1_ := ({ Symbols := s0.1, Funcs := s0.2.1, Datas := s0.2.2.1 } : XObject)) h1h f8 (⟨v3, v4, v5, rfl, (SRep.mono ei.ro f5), (SRep.mono ei.ro f6), (SRep.mono ei.ro f7)⟩) h1g) ?_
   rintro v9 w6 Gm Gn N1 ej q2 ⟨va, vc, vd, rfl, rfl, f9, fa, fb⟩ h1i
   refine Jsv (vi 0) rfl rfl ?_
   refine J0 (J2 (J1 ?_))
   refine Jmv (vi 0) rfl rfl ?_
   refine Y1 rfl rfl rfl ?_
   change WL _ _ _ _ _ _ (upd _ _ (.bool false)) _
   refine J0 ?_
   refine J7 rfl (fun h => nomatch h) (fun _ => ?_)
   refine J9 (J1 ?_)
   refine Y2 rfl rfl rfl (of_decide_eq_true h1f) (inK_len (SRep.le (SRep.mono (e0.ro.trans (e1.ro.trans e2.ro)) ha0_0))) ?_
   refine Jmv (vi ((s0.2.2.2 + 1 : Nat) : Int)) rfl rfl ?_
   refine J0 ?_
   have h1j := St.pick 2 rfl h1i
   have h1k := St.pick 2 rfl h1j
   have h1l := St.pick 2 rfl h1k
   exact ⟨_, (Option.some.inj hr).symm, _, _, va, vc, vd, (J3 ⟨rfl, rfl, rfl, rfl, rfl, rfl, trivial⟩), (eh.trans ej), h1l, (SRep.mono q2 f9), (SRep.mono q2 fa), (SRep.mono q2 fb), (inK_inc (of_decide_eq_true h1f) (inK_len (SRep.le (SRep.mono (e0.ro.trans (e1.ro.trans e2.ro)) ha0_0))))⟩
  replace hr := Jf hr h1f
  refine Jr ?_
  have h1m := St.pick 2 rfl h1e
  have h1n := St.pick 1 rfl h1m
  have h1o := St.takeN 2 h1n
  exact ⟨_, (Option.some.inj hr).symm, rfl, _, _, v3, v4, v5, (J3 ⟨rfl, rfl, rfl, trivial⟩), eh, h1o, f5, f6, f7⟩
 rintro _ _ ⟨σ3, Gk, v6, v7, v8, rfl, ek, h1p, fc, fd, fe⟩
 refine J1 ?_
 refine Yj rfl rfl rfl ?_
 change WL _ _ _ _ _ _ (upd _ _ (vi 1)) _
 refine Jmv (vi 1) rfl rfl ?_
 refine J0 (J2 (J1 ?_))
 refine Ji rfl rfl rfl ?_
 change WL _ _ _ _ _ _ (upd _ _ (.bool true)) _
 refine J0 (J2 ?_)
 refine J7 rfl (fun _ => ?_) (fun h => nomatch h)
 refine J9 (J2 (Jb (J2 (J1 ?_))))
 refine Y7 (l1 := [_]) underlying131 ti129 h1p rfl rfl rfl (by decide) (by decide) ?_
 intro g1 k2 l4
 change WL _ _ _ _ _ _ (upd _ _ (pt g1 2)) _
 refine Jy ti129 rfl rfl (Lies.drop 2 (St.liesRow (l1 := [_]) h1p k2)) (Nat.le_of_ble_eq_true rfl) ?_
 change WL _ _ _ _ _ _ (upd _ _ (.agg #[(.func (.func 84) #[] #[(pt b0 0)]), (vi t1)])) _
 refine Jo ti129 h1p rfl ?_
 intro b2 w7 h1q
 refine Jp (l1 := []) (vs := [(.func (.func 84) #[] #[(pt b0 0)]), (vi t1)]) ti129 h1q rfl rfl rfl (J5 rfl (J5 rfl (fun _ h => nomatch h))) rfl ?_
 intro w8 (h1r : St B w8 Gk [.blk b2 [(.func (.func 84) #[] #[(pt b0 0)]), (vi t1)] 129, .blk b0 [v6, v7, v8] 61, .row v0 129 2 2 [(.func (.func 82) #[] #[(pt b0 0)]), (vi (a0.Symbols.length : Int)), (.func (.func 84) #[] #[(pt b0 0)]), (vi t1)]])
 refine J0 (J2 (J1 ?_))
 refine Jfa 1 1 underlying129 rfl ti3 rfl rfl rfl rfl ?_
 refine Jlb [] (vi t1) ti3 h1r rfl rfl rfl ?_
 refine Jmv (vi 0) rfl rfl ?_
 refine J0 (Jb ?_)
 obtain ⟨t6, h1s, hr⟩ := J6 hr
 have h1t := St.pick 2 rfl h1r
 have h1u := St.pick 1 rfl h1t
 have h1v := St.pick 2 rfl h1u
 refine Js 2 h1s (fun s1 ρ w => ∃ (σ4 : Env) (Go : GH) (ve : Value) (vf : Value) (vg : Value), ρ = En σ4 [(5, (pt b2 0)), (33, v0), (34, (vi 2)), (35, (vi 1)), (40, (vi t1)), (41, (vi ((s1.2.2.2 : Nat) : Int)))] ∧ Ext Gk Go ∧ St B w Go [.blk b0 [ve, vf, vg] 61, .blk b2 [(.func (.func 84) #[] #[(pt b0 0)]), (vi t1)] 129, .row v0 129 2 2 [(.func (.func 82) #[] #[(pt b0 0)]), (vi (a0.Symbols.length : Int)), (.func (.func 84) #[] #[(pt b0 0)]), (vi t1)]] ∧ SRep 82 TSymbol Go ve s1.1 ∧ SRep 44 TFunc Go vf s1.2.1 ∧ SRep 49 TData Go vg s1.2.2.1 ∧ InK .i64 ((s1.2.2.2 : Nat) : Int)) (fun t8 ρ w => ∃ (σ5 : Env) (Gp : GH) (vh : Value) (vj : Value) (vk : Value), ρ = En σ5 [(33, v0), (34, (vi 2)), (35, (vi 1))] ∧ Ext Gk Gp ∧ St B w Gp [.blk b0 [vh, vj, vk] 61, .row v0 129 2 2 [(.func (.func 82) #[] #[(pt b0 0)]), (vi (a0.Symbols.length : Int)), (.func (.func 84) #[] #[(pt b0 0)]), (vi t1)]] ∧ SRep 82 TSymbol Gp vh t8.1 ∧ SRep 44 TFunc Gp vj t8.2.1 ∧ SRep 49 TData Gp vk t8.2.2) ⟨_, _, v6, v7, v8, (J3 ⟨rfl, rfl, rfl, rfl, rfl, rfl, trivial⟩), (Ext.refl _), h1v, fc, fd, fe, (by rfl)⟩ ?_ ?_
 ·rintro s1 x1 _ _ hr ⟨σ4, Go, ve, vf, vg, rfl, el, h1w, ff, fg, fh, fj⟩
  refine J2 (J1 ?_)
  refine Ji rfl rfl rfl ?_
  refine J0 (J2 ?_)
  refine J7 rfl (fun h1x => ?_) (fun h1x => ?_)
  ·replace hr := Jx hr h1x
   refine J9 (J2 (Jb (J2 (J1 ?_))))
   refine Jmv (vi ((s1.2.2.2 : Nat) : Int)) rfl rfl ?_
   refine Jsv (vi ((s1.2.2.2 : Nat) : Int)) rfl rfl ?_
   refine J0 (J2 (J1 ?_))
   refine Jfa 0 0 underlying129 rfl ti127 rfl rfl rfl rfl ?_
   refine Jlb [_] (.func (.func 84) #[] #[(pt b0 0)]) ti127 h1w rfl rfl rfl ?_
   refine Jmv (vi ((s1.2.2.2 : Nat) : Int)) rfl rfl ?_
   obtain ⟨t2, h1y, hr⟩ := J6 hr
   refine Jn (f := 84) (av := [(vi ((s1.2.2.2 : Nat) : Int)), (pt b0 0)]) cf84 rfl rfl h1w rfl (fun Gq em h1z => object_Check_2.ok (a1_ := ({ Symbols := s1.1, Funcs := s1.2.1, Datas := s1.2.2.1 } : XObject)) h1z fj (⟨ve, vf, vg, rfl, (SRep.mono em.ro ff), (SRep.mono em.ro fg), (SRep.mono em.ro fh)⟩) h1y) ?_
   rintro vl w9 Gr Gs N2 en q3 ⟨vm, vn, vo, rfl, rfl, fk, fl, fm⟩ h20
   refine Jsv (vi 0) rfl rfl ?_
   refine J0 (J2 (J1 ?_))
   refine Jmv (vi 0) rfl rfl ?_
   refine Y1 rfl rfl rfl ?_
   change WL _ _ _ _ _ _ (upd _ _ (.bool false)) _
   refine J0 ?_
   refine J7 rfl (fun h => nomatch h) (fun _ => ?_)
   refine J9 (J1 ?_)
   refine Y2 rfl rfl rfl (of_decide_eq_true h1x) f4 ?_
   refine Jmv (vi ((s1.2.2.2 + 1 : Nat) : Int)) rfl rfl ?_
   refine J0 ?_
   have h21 := St.pick 2 rfl h20
   have h22 := St.pick 2 rfl h21
   have h23 := St.pick 2 rfl h22
   exact ⟨_, (Option.some.inj hr).symm, _, _, vm, vn, vo, (J3 ⟨rfl, rfl, rfl, rfl, rfl, rfl, trivial⟩), (el.trans en), h23, (SRep.mono q3 fk), (SRep.mono q3 fl), (SRep.mono q3 fm), (inK_inc (of_decide_eq_true h1x) f4)⟩
  replace hr := Jf hr h1x
  refine Jr ?_
  have h24 := St.pick 2 rfl h1w
  have h25 := St.pick 1 rfl h24
  have h26 := St.takeN 2 h25
  exact ⟨_, (Option.some.inj hr).symm, rfl, _, _, ve, vf, vg, (J3 ⟨rfl, rfl, rfl, trivial⟩), el, h26, ff, fg, fh⟩
 rintro _ _ ⟨σ5, Gp, vh, vj, vk, rfl, eo, h27, fn, fo, fp⟩
 refine J1 ?_
 refine Yj rfl rfl rfl ?_
 change WL _ _ _ _ _ _ (upd _ _ (vi 2)) _
 refine Jmv (vi 2) rfl rfl ?_
 refine J0 (J2 (J1 ?_))
 refine Ji rfl rfl rfl ?_
 change WL _ _ _ _ _ _ (upd _ _ (.bool false)) _
 refine J0 (J2 ?_)
 refine J7 rfl (fun h => nomatch h) (fun _ => ?_)
 refine Jr (J2 (J1 ?_))
 refine Jsv (vi 0) rfl rfl ?_
 refine Jsv (vi (-1)) rfl rfl ?_
 refine J0 (Jg ?_)
 have h28 := St.takeN 0 h27
 obtain rfl := Option.some.inj hr
 exact ⟨[(vi 0), (vi (-1))], ⟨rfl, rfl, trivial⟩, _, _, _, rfl, (e0.trans (e1.trans (e2.trans (ek.trans eo)))), h28, ⟨rfl, rfl⟩⟩
def file_Write.f (a0 : XObject) : Option ((List Int)) :=
 (object_Check.f a0).bind fun t0 => (file_Put.f a0).bind fun t1 => some t1
def file_Write.K (r : (List Int)) (G39 : GH) (v : Value) (N : List Res) : Prop := ∃ (v43 : Value) (c44 : List Value), v = tup [v43, (vi 0), (vi (-1))] ∧ N = [.row v43 5 1 r.length c44] ∧ EAll (tInt .u8) G39 c44 r ∧ r.length ≤ SB
theorem file_Write.ok {ca0 : List Value} {a0 : XObject} (st : St B w G []) (ha0 : TObject.rep G ca0 a0) {r : (List Int)} (hr : file_Write.f a0 = some r) :
 Calls Tryz.prog 26 ([(.agg ca0.toArray)] : List Value).toArray w (Ret B G (file_Write.K r)) := by
 obtain ⟨sa0_0, sa0_1, sa0_2, rfl, ha0_0, ha0_1, ha0_2⟩ := ha0
 refine Jc [.tmp 2, .tmp 3, .tmp 4] func26 rfl ntmps26 rfl rfl ?_
 refine J2 (J1 ?_)
 refine Ju (cs := [sa0_0, sa0_1, sa0_2]) st rfl rfl rfl ?_
 intro b0 w0 h0
 refine Jsv (.slice none 0 0) rfl rfl ?_
 refine Jsv (vi 0) rfl rfl ?_
 refine Jsv (vi 0) rfl rfl ?_
 refine J0 (J2 (J2 (J1 ?_)))
 refine Jl (l1 := []) (vs := [sa0_0, sa0_1, sa0_2]) ti61 h0 rfl rfl rfl rfl ?_
 obtain ⟨t0, h1, hr⟩ := J6 hr
 refine J8 (f := 30) (av := [(.agg #[sa0_0, sa0_1, sa0_2])]) cf30 rfl rfl h0 rfl (fun G0 e0 h2 => object_Check.ok (a0 := a0) h2 (⟨sa0_0, sa0_1, sa0_2, rfl, (SRep.mono e0.ro ha0_0), (SRep.mono e0.ro ha0_1), (SRep.mono e0.ro ha0_2)⟩) h1) ?_
 rintro v0 w1 G1 G2 N0 e1 q0 ⟨rfl, rfl⟩ h3
 refine Jmv (.tuple #[(vi 0), (vi (-1))]) rfl rfl ?_
 refine Jm rfl rfl rfl ?_
 refine Jm rfl rfl rfl ?_
 refine Jsv (vi 0) rfl rfl ?_
 refine Jsv (vi (-1)) rfl rfl ?_
 refine J0 (J2 (J1 ?_))
 refine Jmv (vi 0) rfl rfl ?_
 refine Y1 rfl rfl rfl ?_
 change WL _ _ _ _ _ _ (upd _ _ (.bool false)) _
 refine J0 ?_
 refine J7 rfl (fun h => nomatch h) (fun _ => ?_)
 refine J9 (J2 (J1 ?_))
 refine Jl (l1 := []) (vs := [sa0_0, sa0_1, sa0_2]) ti61 h3 rfl rfl rfl rfl ?_
 obtain ⟨t1, h4, hr⟩ := J6 hr
 refine J8 (f := 28) (av := [(.agg #[sa0_0, sa0_1, sa0_2])]) cf28 rfl rfl h3 rfl (fun G3 e2 h5 => file_Put.ok (a0 := a0) h5 (⟨sa0_0, sa0_1, sa0_2, rfl, (SRep.mono (e1.ro.trans e2.ro) ha0_0), (SRep.mono (e1.ro.trans e2.ro) ha0_1), (SRep.mono (e1.ro.trans e2.ro) ha0_2)⟩) h4) ?_
 rintro v1 w2 G4 G5 N1 e3 q1 ⟨_, c0, rfl, rfl, f0, f1⟩ h6
 refine Jsv v1 rfl rfl ?_
 refine Jsv (vi 0) rfl rfl ?_
 refine Jsv (vi (-1)) rfl rfl ?_
 refine J0 (Jg ?_)
 have h7 := St.takeN 1 h6
 obtain rfl := Option.some.inj hr
 exact ⟨[v1, (vi 0), (vi (-1))], ⟨rfl, rfl, rfl, trivial⟩, _, _, _, rfl, (e1.trans e3), h7, ⟨v1, c0, rfl, rfl, (EAll.mono q1 f0), f1⟩⟩
def file_part_1.l0 (t0 : (Int × (List Int) × Int × Bool)) (a0_0_2 : Bool) (s0 : ((List Int) × Int × (List XSymbol) × (List XFunc) × (List XData) × Nat)) : Option (Step ((List Int) × Int × (List XSymbol) × (List XFunc) × (List XData) × Nat) ((List Int) × Int × (List XSymbol) × (List XFunc) × (List XData))) :=
 bif decide (((s0.2.2.2.2.2 : Nat) : Int) < t0.1) then (api_Symbol_1.f ({ b := s0.1, at_ := s0.2.1, live := a0_0_2, bad := t0.2.2.2 } : Xoctet_Reader) s0.2.2.1 s0.2.2.2.1 s0.2.2.2.2.1).bind fun t1 => some (.next (t1.1, t1.2.1, t1.2.2.1, t1.2.2.2.1, t1.2.2.2.2, s0.2.2.2.2.2 + 1)) else some (.done (s0.1, s0.2.1, s0.2.2.1, s0.2.2.2.1, s0.2.2.2.2.1))
def file_part_1.f (a0_0_0 : (List Int)) (a0_0_1 : Int) (a0_0_2 : Bool) (a0_0_3 : Bool) (a1_0_c2_0_0 : (List XSymbol)) (a1_0_c2_0_1 : (List XFunc)) (a1_0_c2_0_2 : (List XData)) : Option (((List Int) × Int × Bool × (List XSymbol) × (List XFunc) × (List XData))) :=
 (octet_Reader_Num.f a0_0_0 a0_0_1 a0_0_2 a0_0_3 1).bind fun t0 => (loop (file_part_1.l0 t0 a0_0_2) (t0.2.1, t0.2.2.1, a1_0_c2_0_0, a1_0_c2_0_1, a1_0_c2_0_2, 0)).bind fun t2 => (octet_Reader_Bad_s2.f ({ b := t2.1, at_ := t2.2.1, live := a0_0_2, bad := t0.2.2.2 } : Xoctet_Reader)).bind fun t3 => bif t0.2.2.2 then none else some (t2.1, t2.2.1, t0.2.2.2, t2.2.2.1, t2.2.2.2.1, t2.2.2.2.2)
def file_part_1.K (ba0_0 : Nat) (a0_0_2 : Bool) (ba0 : Nat) (ba1_0_c0 : Nat) (ba1_0_c1 : Nat) (ba1_0_c2_0 : Nat) (ba1_0_c2 : Nat) (ba1 : Nat) (r : ((List Int) × Int × Bool × (List XSymbol) × (List XFunc) × (List XData))) (G0 : GH) (v : Value) (N : List Res) : Prop := ∃ (v0 : Value) (v1 : Value) (v2 : Value) (v3 : Value) (c0 : List Value) (c1 : List Value) (c2 : List Value), v = tup [(vi 0)] ∧ N = [.blk ba0_0 [v0, (vi r.2.1), (.bool a0_0_2), (.bool r.2.2.1)] 163, .blk ba0 [(pt ba0_0 0)] 104, .blk ba1_0_c0 [(.func (.func 62) #[] #[])] 111, .blk ba1_0_c1 [(pt ba0_0 0)] 104, .row v1 82 5 r.2.2.2.1.length c0, .row v2 44 9 r.2.2.2.2.1.length c1, .row v3 49 3 r.2.2.2.2.2.length c2, .blk ba1_0_c2_0 [v1, v2, v3] 61, .blk ba1_0_c2 [(pt ba1_0_c2_0 0)] 110, .blk ba1 [(.func (.func 114) #[] #[(pt ba1_0_c0 0), (pt ba1_0_c1 0), (pt ba1_0_c2 0)])] 107] ∧ SRep 5 (tInt .u8) G0 v0 r.1 ∧ InK .i64 r.2.1 ∧ EAll TSymbol G0 c0 r.2.2.2.1 ∧ r.2.2.2.1.length ≤ SB ∧ EAll TFunc G0 c1 r.2.2.2.2.1 ∧ r.2.2.2.2.1.length ≤ SB ∧ EAll TData G0 c2 r.2.2.2.2.2 ∧ r.2.2.2.2.2.length ≤ SB
theorem file_part_1.ok {ba0 : Nat} {ba0_0 : Nat} {va0_0_0 : Value} {ca0_0_0 : List Value} {a0_0_0 : (List Int)} {a0_0_1 : Int} {a0_0_2 : Bool} {a0_0_3 : Bool} {ba1 : Nat} {ba1_0_c0 : Nat} {ba1_0_c1 : Nat} {ba1_0_c2 : Nat} {ba1_0_c2_0 : Nat} {va1_0_c2_0_0 : Value} {ca1_0_c2_0_0 : List Value} {a1_0_c2_0_0 : (List XSymbol)} {va1_0_c2_0_1 : Value} {ca1_0_c2_0_1 : List Value} {a1_0_c2_0_1 : (List XFunc)} {va1_0_c2_0_2 : Value} {ca1_0_c2_0_2 : List Value} {a1_0_c2_0_2 : (List XData)} (st : St B w G [.blk ba0 [(pt ba0_0 0)] 104, .blk ba0_0 [va0_0_0, (vi a0_0_1), (.bool a0_0_2), (.bool a0_0_3)] 163, .row va0_0_0 5 1 a0_0_0.length ca0_0_0, .blk ba1 [(.func (.func 114) #[] #[(pt ba1_0_c0 0), (pt ba1_0_c1 0), (pt ba1_0_c2 0)])] 107, .blk ba1_0_c0 [(.func (.func 62) #[] #[])] 111, .blk ba1_0_c1 [(pt ba0_0 0)] 104, .blk ba1_0_c2 [(pt ba1_0_c2_0 0)] 110, .blk ba1_0_c2_0 [va1_0_c2_0_0, va1_0_c2_0_1, va1_0_c2_0_2] 61, .row va1_0_c2_0_0 82 5 a1_0_c2_0_0.length ca1_0_c2_0_0, .row va1_0_c2_0_1 44 9 a1_0_c2_0_1.length ca1_0_c2_0_1, .row va1_0_c2_0_2 49 3 a1_0_c2_0_2.length ca1_0_c2_0_2]) (ha0_0_0 : EAll (tInt .u8) G ca0_0_0 a0_0_0) (lha0_0_0 : a0_0_0.length ≤ SB) (ha0_0_1 : InK .i64 a0_0_1) (ha1_0_c2_0_0 : EAll TSymbol G ca1_0_c2_0_0 a1_0_c2_0_0) (lha1_0_c2_0_0 : a1_0_c2_0_0.length ≤ SB) (ha1_0_c2_0_1 : EAll TFunc G ca1_0_c2_0_1 a1_0_c2_0_1) (lha1_0_c2_0_1 : a1_0_c2_0_1.length ≤ SB) (ha1_0_c2_0_2 : EAll TData G ca1_0_c2_0_2 a1_0_c2_0_2) (lha1_0_c2_0_2 : a1_0_c2_0_2.length ≤ SB) {r : ((List Int) × Int × Bool × (List XSymbol) × (List XFunc) × (List XData))} (hr : file_part_1.f a0_0_0 a0_0_1 a0_0_2 a0_0_3 a1_0_c2_0_0 a1_0_c2_0_1 a1_0_c2_0_2 = some r) :
 Calls Tryz.prog 112 ([(pt ba0 0), (pt ba1 0)] : List Value).toArray w (Ret B G (file_part_1.K ba0_0 a0_0_2 ba0 ba1_0_c0 ba1_0_c1 ba1_0_c2_0 ba1_0_c2 ba1 r)) := by
 refine Jc [.tmp 2] func112 rfl ntmps112 rfl rfl ?_
 refine J2 (J1 ?_)
 refine Jsv (vi 0) rfl rfl ?_
 refine J0 (J2 (J2 (J1 ?_)))
 refine Jlb [] (pt ba0_0 0) ti104 st rfl rfl rfl ?_
 have h0 := St.pick 2 rfl st
 have h1 := St.pick 2 rfl h0
 obtain ⟨t0, h2, hr⟩ := J6 hr
 refine Y6 (f := 110) (av := [(pt ba0_0 0), (vi 1)]) cf110 rfl rfl h1 rfl (fun G1 e0 h3 => octet_Reader_Num.ok h3 (EAll.mono e0.ro ha0_0_0) lha0_0_0 ha0_0_1 (by rfl) h2) ?_
 rintro v4 w0 G2 G3 N0 e1 q0 ⟨v5, rfl, rfl, f0, f1, f2⟩ h4
 refine Jmv (vi 0) rfl rfl ?_
 refine J0 (Jb ?_)
 obtain ⟨t2, h5, hr⟩ := J6 hr
 have h6 := St.pick 2 rfl h4
 have h7 := St.pick 5 rfl h6
 have h8 := St.pick 6 rfl h7
 have h9 := St.pick 9 rfl h8
 have h10 := St.pick 9 rfl h9
 have h11 := St.pick 9 rfl h10
 have h12 := St.pick 9 rfl h11
 have h13 := St.pick 9 rfl h12
 have h14 := St.pick 9 rfl h13
 have h15 := St.pick 9 rfl h14
 refine Js 0 h5 (fun s0 ρ w => ∃ (σ0 : Env) (G4 : GH) (v6 : Value) (v7 : Value) (v8 : Value) (v9 : Value) (c3 : List Value) (c4 : List Value) (c5 : List Value), ρ = En σ0 [(0, (pt ba0 0)), (1, (pt ba1 0)), (5, (vi t0.1)), (6, (vi ((s0.2.2.2.2.2 : Nat) : Int)))] ∧ Ext G3 G4 ∧ St B w G4 [.blk ba0_0 [v6, (vi s0.2.1), (.bool a0_0_2), (.bool t0.2.2.2)] 163, .blk ba0 [(pt ba0_0 0)] 104, .blk ba1_0_c0 [(.func (.func 62) #[] #[])] 111, .blk ba1_0_c1 [(pt ba0_0 0)] 104, .row v7 82 5 s0.2.2.1.length c3, .row v8 44 9 s0.2.2.2.1.length c4, .row v9 49 3 s0.2.2.2.2.1.length c5, .blk ba1_0_c2_0 [v7, v8, v9] 61, .blk ba1_0_c2 [(pt ba1_0_c2_0 0)] 110, .blk ba1 [(.func (.func 114) #[] #[(pt ba1_0_c0 0), (pt ba1_0_c1 0), (pt ba1_0_c2 0)])] 107] ∧ SRep 5 (tInt .u8) G4 v6 s0.1 ∧ InK .i64 s0.2.1 ∧ EAll TSymbol G4 c3 s0.2.2.1 ∧ s0.2.2.1.length ≤ SB ∧ EAll TFunc G4 c4 s0.2.2.2.1 ∧ s0.2.2.2.1.length ≤ SB ∧ EAll TData G4 c5 s0.2.2.2.2.1 ∧ s0.2.2.2.2.1.length ≤ SB ∧ InK .i64 ((s0.2.2.2.2.2 : Nat) : Int)) (fun t4 ρ w => ∃ (σ1 : Env) (G5 : GH) (va : Value) (vc : Value) (vd : Value) (ve : Value) (c6 : List Value) (c7 : List Value) (c8 : List Value), ρ = En σ1 [(0, (pt ba0 0))] ∧ Ext G3 G5 ∧ St B w G5 [.blk ba0_0 [va, (vi t4.2.1), (.bool a0_0_2), (.bool t0.2.2.2)] 163, .blk ba0 [(pt ba0_0 0)] 104, .blk ba1_0_c0 [(.func (.func 62) #[] #[])] 111, .blk ba1_0_c1 [(pt ba0_0 0)] 104, .row vc 82 5 t4.2.2.1.length c6, .row vd 44 9 t4.2.2.2.1.length c7, .row ve 49 3 t4.2.2.2.2.length c8, .blk ba1_0_c2_0 [vc, vd, ve] 61, .blk ba1_0_c2 [(pt ba1_0_c2_0 0)] 110, .blk ba1 [(.func (.func 114) #[] #[(pt ba1_0_c0 0), (pt ba1_0_c1 0), (pt ba1_0_c2 0)])] 107] ∧ SRep 5 (tInt .u8) G5 va t4.1 ∧ InK .i64 t4.2.1 ∧ EAll TSymbol G5 c6 t4.2.2.1 ∧ t4.2.2.1.length ≤ SB ∧ EAll TFunc G5 c7 t4.2.2.2.1 ∧ t4.2.2.2.1.length ≤ SB ∧ EAll TData G5 c8 t4.2.2.2.2 ∧ t4.2.2.2.2.length ≤ SB) ⟨_, _, v5, va1_0_c2_0_0, va1_0_c2_0_1, va1_0_c2_0_2, ca1_0_c2_0_0, ca1_0_c2_0_1, ca1_0_c2_0_2, (J3 ⟨rfl, rfl, rfl, rfl, trivial⟩), (Ext.refl _), h15, (SRep.mono q0 f1), f2, (EAll.mono e1.ro ha1_0_c2_0_0), lha1_0_c2_0_0, (EAll.mono e1.ro ha1_0_c2_0_1), lha1_0_c2_0_1, (EAll.mono e1.ro ha1_0_c2_0_2), lha1_0_c2_0_2, (by rfl)⟩ ?_ ?_
 ·rintro s0 x0 _ _ hr ⟨σ0, G4, v6, v7, v8, v9, c3, c4, c5, rfl, e2, h16, f3, f4, f5, f6, f7, f8, f9, fa, fb⟩
  refine J2 (J1 ?_)
  refine Ji rfl rfl rfl ?_
  refine J0 (J2 ?_)
  refine J7 rfl (fun h17 => ?_) (fun h17 => ?_)
  ·replace hr := Jx hr h17
   refine J9 (J2 (Jb (J2 (J1 ?_))))
   refine Jlb [_, _, _, _, _, _, _, _, _] (.func (.func 114) #[] #[(pt ba1_0_c0 0), (pt ba1_0_c1 0), (pt ba1_0_c2 0)]) ti107 h16 rfl rfl rfl ?_
   have h18 := St.pick 6 rfl h16
   have h19 := St.pick 6 rfl h18
   have h1a := St.pick 6 rfl h19
   have h1b := St.pick 7 rfl h1a
   have h1c := St.pick 8 rfl h1b
   have h1d := St.pick 5 rfl h1c
   have h1e := St.pick 8 rfl h1d
   have h1f := St.pick 8 rfl h1e
   obtain ⟨t1, h1g, hr⟩ := J6 hr
   refine Yd (N := [_, _, _, _, _, _, _, _]) (R := [.blk ba0 [(pt ba0_0 0)] 104, .blk ba1 [(.func (.func 114) #[] #[(pt ba1_0_c0 0), (pt ba1_0_c1 0), (pt ba1_0_c2 0)])] 107]) (f := 114) (av := [(pt ba1_0_c0 0), (pt ba1_0_c1 0), (pt ba1_0_c2 0)]) cf114 rfl rfl h1f rfl (fun G6 e3 h1h => api_Symbol_1.ok (a1_0_ := ({ b := s0.1, at_ := s0.2.1, live := a0_0_2, bad := t0.2.2.2 } : Xoctet_Reader)) h1h (⟨v6, rfl, (SRep.mono e3.ro f3), f4⟩) (EAll.mono e3.ro f5) f6 (EAll.mono e3.ro f7) f8 (EAll.mono e3.ro f9) fa h1g) ?_
   rintro vf w1 G7 G8 N1 e4 q1 ⟨vg, vh, vj, vk, c9, ca, cb, rfl, rfl, fc, fd, fe, ff, fg, fh, fj, fk⟩ h1i
   refine Jsv (vi 0) rfl rfl ?_
   refine J0 (J2 (J1 ?_))
   refine Jmv (vi 0) rfl rfl ?_
   refine Y1 rfl rfl rfl ?_
   change WL _ _ _ _ _ _ (upd _ _ (.bool false)) _
   refine J0 ?_
   refine J7 rfl (fun h => nomatch h) (fun _ => ?_)
   refine J9 (J1 ?_)
   refine Y2 rfl rfl rfl (of_decide_eq_true h17) f0 ?_
   refine Jmv (vi ((s0.2.2.2.2.2 + 1 : Nat) : Int)) rfl rfl ?_
   refine J0 ?_
   have h1j := St.pick 9 rfl h1i
   have h1k := St.pick 8 rfl h1j
   have h1l := St.pick 8 rfl h1k
   have h1m := St.pick 8 rfl h1l
   have h1n := St.pick 8 rfl h1m
   have h1o := St.pick 8 rfl h1n
   have h1p := St.pick 8 rfl h1o
   have h1q := St.pick 7 rfl h1p
   have h1r := St.pick 9 rfl h1q
   have h1s := St.pick 9 rfl h1r
   exact ⟨_, (Option.some.inj hr).symm, _, _, vg, vh, vj, vk, c9, ca, cb, (J3 ⟨rfl, rfl, rfl, rfl, trivial⟩), (e2.trans e4), h1s, (SRep.mono q1 fc), fd, (EAll.mono q1 fe), ff, (EAll.mono q1 fg), fh, (EAll.mono q1 fj), fk, (inK_inc (of_decide_eq_true h17) f0)⟩
  replace hr := Jf hr h17
  refine Jr ?_
  have h1t := St.pick 9 rfl h16
  have h1u := St.pick 9 rfl h1t
  have h1v := St.pick 9 rfl h1u
  have h1w := St.pick 9 rfl h1v
  have h1x := St.pick 9 rfl h1w
  have h1y := St.pick 9 rfl h1x
  have h1z := St.pick 9 rfl h1y
  have h20 := St.pick 9 rfl h1z
  have h21 := St.pick 9 rfl h20
  have h22 := St.pick 9 rfl h21
  exact ⟨_, (Option.some.inj hr).symm, rfl, _, _, v6, v7, v8, v9, c3, c4, c5, (J3 ⟨rfl, trivial⟩), e2, h22, f3, f4, f5, f6, f7, f8, f9, fa⟩
 rintro _ _ ⟨σ1, G5, va, vc, vd, ve, c6, c7, c8, rfl, e5, h23, fl, fm, fn, fo, fp, fq, fr, fs⟩
 refine J2 (J2 (J1 ?_))
 refine Jlb [_] (pt ba0_0 0) ti104 h23 rfl rfl rfl ?_
 obtain ⟨t3, h24, hr⟩ := J6 hr
 refine Jn (f := 113) (av := [(pt ba0_0 0)]) cf113 rfl rfl h23 rfl (fun G9 e6 h25 => octet_Reader_Bad_s2.ok (a0_ := ({ b := t2.1, at_ := t2.2.1, live := a0_0_2, bad := t0.2.2.2 } : Xoctet_Reader)) h25 (⟨va, rfl, (SRep.mono e6.ro fl), fm⟩) h24) ?_
 rintro vl w2 Ga Gb N2 e7 q2 ⟨vm, rfl, rfl, ft⟩ h26
 refine J0 ?_
 refine J7 rfl (fun h27 => ?_) (fun h27 => ?_)
 ·exact Jk hr h27
 replace hr := Jf hr h27
 refine J9 (J2 (J1 ?_))
 refine Jsv (vi 0) rfl rfl ?_
 refine J0 (Jg ?_)
 have h28 := St.pick 9 rfl h26
 have h29 := St.pick 9 rfl h28
 have h2a := St.pick 9 rfl h29
 have h2b := St.pick 9 rfl h2a
 have h2c := St.pick 9 rfl h2b
 have h2d := St.pick 9 rfl h2c
 have h2e := St.pick 9 rfl h2d
 have h2f := St.pick 9 rfl h2e
 have h2g := St.pick 9 rfl h2f
 have h2h := St.pick 9 rfl h2g
 obtain rfl := Option.some.inj hr
 exact ⟨[(vi 0)], ⟨rfl, trivial⟩, _, _, _, rfl, (e1.trans (e5.trans e7)), h2h, ⟨vm, vc, vd, ve, c6, c7, c8, rfl, rfl, (SRep.mono q2 ft), fm, (EAll.mono e7.ro fn), fo, (EAll.mono e7.ro fp), fq, (EAll.mono e7.ro fr), fs⟩⟩
def fun_reader_many.l0 (t0 : (Int × (List Int) × Int)) (a0_1 : Int) (a1_c0_0 : Int) (a1_c0_2 : Int) (a1_c0_3 : Bool) (a1_c0_4 : Int) (a1_c0_5 : Int) (a0_0_ : Xoctet_Reader) (s0 : ((List Int) × Int × (List Int) × (List XLine) × (List XInstr) × (List XReloc) × Nat)) : Option (Step ((List Int) × Int × (List Int) × (List XLine) × (List XInstr) × (List XReloc) × Nat) ((List Int) × Int × (List Int) × (List XLine) × (List XInstr) × (List XReloc))) :=
 bif decide (((s0.2.2.2.2.2.2 : Nat) : Int) < t0.1) then bif decide (a0_1 ≠ 0) then none else (fun_Get_1.f a1_c0_0 s0.2.2.1 a1_c0_2 a1_c0_3 a1_c0_4 a1_c0_5 s0.2.2.2.1 s0.2.2.2.2.1 s0.2.2.2.2.2.1 ({ b := s0.1, at_ := s0.2.1, live := a0_0_.live, bad := a0_0_.bad } : Xoctet_Reader) a0_1).bind fun t1 => some (.next (t1.2.2.2.2.1, t1.2.2.2.2.2, t1.1, t1.2.1, t1.2.2.1, t1.2.2.2.1, s0.2.2.2.2.2.2 + 1)) else some (.done (s0.1, s0.2.1, s0.2.2.1, s0.2.2.2.1, s0.2.2.2.2.1, s0.2.2.2.2.2.1))
def fun_reader_many.f (a0_0_ : Xoctet_Reader) (a0_1 : Int) (a1_c0_0 : Int) (a1_c0_1 : (List Int)) (a1_c0_2 : Int) (a1_c0_3 : Bool) (a1_c0_4 : Int) (a1_c0_5 : Int) (a1_c0_6 : (List XLine)) (a1_c0_7 : (List XInstr)) (a1_c0_8 : (List XReloc)) : Option (((List Int) × Int × (List Int) × (List XLine) × (List XInstr) × (List XReloc))) :=
 (fun_reader_num.f a0_0_ a0_1 1).bind fun t0 => (loop (fun_reader_many.l0 t0 a0_1 a1_c0_0 a1_c0_2 a1_c0_3 a1_c0_4 a1_c0_5 a0_0_) (t0.2.1, t0.2.2, a1_c0_1, a1_c0_6, a1_c0_7, a1_c0_8, 0)).bind fun t2 => some (t2.1, t2.2.1, t2.2.2.1, t2.2.2.2.1, t2.2.2.2.2.1, t2.2.2.2.2.2)
def fun_reader_many.K (ba0_0 : Nat) (a0_0_ : Xoctet_Reader) (ba0 : Nat) (a0_1 : Int) (ba1_c0 : Nat) (a1_c0_0 : Int) (a1_c0_2 : Int) (a1_c0_3 : Bool) (a1_c0_4 : Int) (a1_c0_5 : Int) (ba1_c1 : Nat) (r : ((List Int) × Int × (List Int) × (List XLine) × (List XInstr) × (List XReloc))) (G0 : GH) (v : Value) (N : List Res) : Prop := ∃ (v0 : Value) (v1 : Value) (v2 : Value) (v3 : Value) (v4 : Value) (c0 : List Value) (c1 : List Value) (c2 : List Value) (c3 : List Value), v = tup [] ∧ N = [.blk ba0_0 [v0, (vi r.2.1), (.bool a0_0_.live), (.bool a0_0_.bad)] 163, .blk ba0 [(pt ba0_0 0), (vi a0_1)] 169, .row v1 3 1 r.2.2.1.length c0, .row v2 157 2 r.2.2.2.1.length c1, .row v3 54 5 r.2.2.2.2.1.length c2, .row v4 133 3 r.2.2.2.2.2.length c3, .blk ba1_c0 [(vi a1_c0_0), v1, (vi a1_c0_2), (.bool a1_c0_3), (vi a1_c0_4), (vi a1_c0_5), v2, v3, v4] 44, .blk ba1_c1 [(pt ba0 0)] 167] ∧ SRep 5 (tInt .u8) G0 v0 r.1 ∧ InK .i64 r.2.1 ∧ EAll (tInt .i64) G0 c0 r.2.2.1 ∧ r.2.2.1.length ≤ SB ∧ EAll TLine G0 c1 r.2.2.2.1 ∧ r.2.2.2.1.length ≤ SB ∧ EAll TInstr G0 c2 r.2.2.2.2.1 ∧ r.2.2.2.2.1.length ≤ SB ∧ EAll TReloc G0 c3 r.2.2.2.2.2 ∧ r.2.2.2.2.2.length ≤ SB
theorem fun_reader_many.ok {ba0 : Nat} {ba0_0 : Nat} {ca0_0_ : List Value} {a0_0_ : Xoctet_Reader} {a0_1 : Int} {ba1_c0 : Nat} {a1_c0_0 : Int} {va1_c0_1 : Value} {ca1_c0_1 : List Value} {a1_c0_1 : (List Int)} {a1_c0_2 : Int} {a1_c0_3 : Bool} {a1_c0_4 : Int} {a1_c0_5 : Int} {va1_c0_6 : Value} {ca1_c0_6 : List Value} {a1_c0_6 : (List XLine)} {va1_c0_7 : Value} {ca1_c0_7 : List Value} {a1_c0_7 : (List XInstr)} {va1_c0_8 : Value} {ca1_c0_8 : List Value} {a1_c0_8 : (List XReloc)} {ba1_c1 : Nat} (st : St B w G [.blk ba0 [(pt ba0_0 0), (vi a0_1)] 169, .blk ba0_0 ca0_0_ 163, .blk ba1_c0 [(vi a1_c0_0), va1_c0_1, (vi a1_c0_2), (.bool a1_c0_3), (vi a1_c0_4), (vi a1_c0_5), va1_c0_6, va1_c0_7, va1_c0_8] 44, .row va1_c0_1 3 1 a1_c0_1.length ca1_c0_1, .row va1_c0_6 157 2 a1_c0_6.length ca1_c0_6, .row va1_c0_7 54 5 a1_c0_7.length ca1_c0_7, .row va1_c0_8 133 3 a1_c0_8.length ca1_c0_8, .blk ba1_c1 [(pt ba0 0)] 167]) (ha0_0_ : Toctet_Reader.rep G ca0_0_ a0_0_) (ha0_1 : InK .i64 a0_1) (ha1_c0_0 : InK .i64 a1_c0_0) (ha1_c0_1 : EAll (tInt .i64) G ca1_c0_1 a1_c0_1) (lha1_c0_1 : a1_c0_1.length ≤ SB) (ha1_c0_2 : InK .i64 a1_c0_2) (ha1_c0_4 : InK .i64 a1_c0_4) (ha1_c0_5 : InK .i64 a1_c0_5) (ha1_c0_6 : EAll TLine G ca1_c0_6 a1_c0_6) (lha1_c0_6 : a1_c0_6.length ≤ SB) (ha1_c0_7 : EAll TInstr G ca1_c0_7 a1_c0_7) (lha1_c0_7 : a1_c0_7.length ≤ SB) (ha1_c0_8 : EAll TReloc G ca1_c0_8 a1_c0_8) (lha1_c0_8 : a1_c0_8.length ≤ SB) {r : ((List Int) × Int × (List Int) × (List XLine) × (List XInstr) × (List XReloc))} (hr : fun_reader_many.f a0_0_ a0_1 a1_c0_0 a1_c0_1 a1_c0_2 a1_c0_3 a1_c0_4 a1_c0_5 a1_c0_6 a1_c0_7 a1_c0_8 = some r) :
 Calls Tryz.prog 119 ([(pt ba0 0), (.func (.func 120) #[] #[(pt ba1_c0 0), (pt ba1_c1 0)])] : List Value).toArray w (Ret B G (fun_reader_many.K ba0_0 a0_0_ ba0 a0_1 ba1_c0 a1_c0_0 a1_c0_2 a1_c0_3 a1_c0_4 a1_c0_5 ba1_c1 r)) := by
 obtain ⟨sa0_0__0, rfl, ha0_0__0, ha0_0__1⟩ := ha0_0_
 refine Jc [] func119 rfl ntmps119 rfl rfl ?_
 refine J2 (J1 ?_)
 refine Jmv (pt ba0 0) rfl rfl ?_
 have h0 := St.pick 1 rfl st
 have h1 := St.pick 1 rfl h0
 obtain ⟨t0, h2, hr⟩ := J6 hr
 refine Y6 (f := 118) (av := [(pt ba0 0), (vi 1)]) cf118 rfl rfl h1 rfl (fun G1 e0 h3 => fun_reader_num.ok (a0_0_ := a0_0_) h3 (⟨sa0_0__0, rfl, (SRep.mono e0.ro ha0_0__0), ha0_0__1⟩) ha0_1 (by rfl) h2) ?_
 rintro v5 w0 G2 G3 N0 e1 q0 ⟨v6, rfl, rfl, f0, f1, f2⟩ h4
 refine Jmv (vi 0) rfl rfl ?_
 refine J0 (Jb ?_)
 obtain ⟨t2, h5, hr⟩ := J6 hr
 have h6 := St.pick 7 rfl h4
 have h7 := St.pick 3 rfl h6
 have h8 := St.pick 7 rfl h7
 have h9 := St.pick 7 rfl h8
 have h10 := St.pick 7 rfl h9
 have h11 := St.pick 7 rfl h10
 have h12 := St.pick 7 rfl h11
 have h13 := St.pick 7 rfl h12
 refine Js 0 h5 (fun s0 ρ w => ∃ (σ0 : Env) (G4 : GH) (v7 : Value) (v8 : Value) (v9 : Value) (va : Value) (vc : Value) (c4 : List Value) (c5 : List Value) (c6 : List Value) (c7 : List Value), ρ = En σ0 [(0, (pt ba0 0)), (1, (.func (.func 120) #[] #[(pt ba1_c0 0), (pt ba1_c1 0)])), (5, (vi t0.1)), (6, (vi ((s0.2.2.2.2.2.2 : Nat) : Int)))] ∧ Ext G3 G4 ∧ St B w G4 [.blk ba0_0 [v7, (vi s0.2.1), (.bool a0_0_.live), (.bool a0_0_.bad)] 163, .blk ba0 [(pt ba0_0 0), (vi a0_1)] 169, .row v8 3 1 s0.2.2.1.length c4, .row v9 157 2 s0.2.2.2.1.length c5, .row va 54 5 s0.2.2.2.2.1.length c6, .row vc 133 3 s0.2.2.2.2.2.1.length c7, .blk ba1_c0 [(vi a1_c0_0), v8, (vi a1_c0_2), (.bool a1_c0_3), (vi a1_c0_4), (vi a1_c0_5), v9, va, vc] 44, .blk ba1_c1 [(pt ba0 0)] 167] ∧ SRep 5 (tInt .u8) G4 v7 s0.1 ∧ InK .i64 s0.2.1 ∧ EAll (tInt .i64) G4 c4 s0.2.2.1 ∧ s0.2.2.1.length ≤ SB ∧ EAll TLine G4 c5 s0.2.2.2.1 ∧ s0.2.2.2.1.length ≤ SB ∧ EAll TInstr G4 c6 s0.2.2.2.2.1 ∧ s0.2.2.2.2.1.length ≤ SB ∧ EAll TReloc G4 c7 s0.2.2.2.2.2.1 ∧ s0.2.2.2.2.2.1.length ≤ SB ∧ InK .i64 ((s0.2.2.2.2.2.2 : Nat) : Int)) (fun t3 ρ w => ∃ (σ1 : Env) (G5 : GH) (vd : Value) (ve : Value) (vf : Value) (vg : Value) (vh : Value) (c8 : List Value) (c9 : List Value) (ca : List Value) (cb : List Value), ρ = En σ1 [] ∧ Ext G3 G5 ∧ St B w G5 [.blk ba0_0 [vd, (vi t3.2.1), (.bool a0_0_.live), (.bool a0_0_.bad)] 163, .blk ba0 [(pt ba0_0 0), (vi a0_1)] 169, .row ve 3 1 t3.2.2.1.length c8, .row vf 157 2 t3.2.2.2.1.length c9, .row vg 54 5 t3.2.2.2.2.1.length ca, .row vh 133 3 t3.2.2.2.2.2.length cb, .blk ba1_c0 [(vi a1_c0_0), ve, (vi a1_c0_2), (.bool a1_c0_3), (vi a1_c0_4), (vi a1_c0_5), vf, vg, vh] 44, .blk ba1_c1 [(pt ba0 0)] 167] ∧ SRep 5 (tInt .u8) G5 vd t3.1 ∧ InK .i64 t3.2.1 ∧ EAll (tInt .i64) G5 c8 t3.2.2.1 ∧ t3.2.2.1.length ≤ SB ∧ EAll TLine G5 c9 t3.2.2.2.1 ∧ t3.2.2.2.1.length ≤ SB ∧ EAll TInstr G5 ca t3.2.2.2.2.1 ∧ t3.2.2.2.2.1.length ≤ SB ∧ EAll TReloc G5 cb t3.2.2.2.2.2 ∧ t3.2.2.2.2.2.length ≤ SB) ⟨_, _, v6, va1_c0_1, va1_c0_6, va1_c0_7, va1_c0_8, ca1_c0_1, ca1_c0_6, ca1_c0_7, ca1_c0_8, (J3 ⟨rfl, rfl, rfl, rfl, trivial⟩), (Ext.refl _), h13, (SRep.mono q0 f1), f2, (EAll.mono e1.ro ha1_c0_1), lha1_c0_1, (EAll.mono e1.ro ha1_c0_6), lha1_c0_6, (EAll.mono e1.ro ha1_c0_7), lha1_c0_7, (EAll.mono e1.ro ha1_c0_8), lha1_c0_8, (by rfl)⟩ ?_ ?_
 ·rintro s0 x0 _ _ hr ⟨σ0, G4, v7, v8, v9, va, vc, c4, c5, c6, c7, rfl, e2, h14, f3, f4, f5, f6, f7, f8, f9, fa, fb, fc, fd⟩
  refine J2 (J1 ?_)
  refine Ji rfl rfl rfl ?_
  refine J0 (J2 ?_)
  refine J7 rfl (fun h15 => ?_) (fun h15 => ?_)
  ·replace hr := Jx hr h15
   refine J9 (J2 (Jb (J2 (J2 (J1 ?_)))))
   refine Jmv (pt ba0 0) rfl rfl ?_
   refine Je rfl rfl ?_
   refine Jfa 1 1 underlying169 rfl ti29 rfl rfl rfl rfl ?_
   refine Jlb [_] (vi a0_1) ti29 h14 rfl rfl rfl ?_
   refine Y1 rfl rfl rfl ?_
   refine J0 ?_
   refine J7 rfl (fun h16 => ?_) (fun h16 => ?_)
   ·exact Jk hr h16
   replace hr := Jf hr h16
   refine J9 (J1 ?_)
   refine Jmv (.func (.func 120) #[] #[(pt ba1_c0 0), (pt ba1_c1 0)]) rfl rfl ?_
   have h17 := St.pick 1 rfl h14
   have h18 := St.pick 7 rfl h17
   have h19 := St.pick 6 rfl h18
   have h1a := St.pick 6 rfl h19
   have h1b := St.pick 6 rfl h1a
   have h1c := St.pick 6 rfl h1b
   have h1d := St.pick 7 rfl h1c
   obtain ⟨t1, h1e, hr⟩ := J6 hr
   refine Yd (N := [_, _, _, _, _, _, _, _]) (R := []) (f := 120) (av := [(pt ba1_c0 0), (pt ba1_c1 0)]) cf120 rfl rfl h1d rfl (fun G6 e3 h1f => fun_Get_1.ok (a1_0_0_ := ({ b := s0.1, at_ := s0.2.1, live := a0_0_.live, bad := a0_0_.bad } : Xoctet_Reader)) h1f ha1_c0_0 (EAll.mono e3.ro f5) f6 ha1_c0_2 ha1_c0_4 ha1_c0_5 (EAll.mono e3.ro f7) f8 (EAll.mono e3.ro f9) fa (EAll.mono e3.ro fb) fc (⟨v7, rfl, (SRep.mono e3.ro f3), f4⟩) ha0_1 h1e) ?_
   rintro vj w1 G7 G8 N1 e4 q1 ⟨vk, vl, vm, vn, vo, cc, cd, ce, cf, rfl, rfl, fe, ff, fg, fh, fj, fk, fl, fm, fn, fo⟩ h1g
   refine J0 (J1 ?_)
   refine Y2 rfl rfl rfl (of_decide_eq_true h15) f0 ?_
   refine Jmv (vi ((s0.2.2.2.2.2.2 + 1 : Nat) : Int)) rfl rfl ?_
   refine J0 ?_
   have h1h := St.pick 7 rfl h1g
   have h1i := St.pick 5 rfl h1h
   have h1j := St.pick 5 rfl h1i
   have h1k := St.pick 5 rfl h1j
   have h1l := St.pick 5 rfl h1k
   have h1m := St.pick 5 rfl h1l
   have h1n := St.pick 7 rfl h1m
   have h1o := St.pick 7 rfl h1n
   exact ⟨_, (Option.some.inj hr).symm, _, _, vo, vk, vl, vm, vn, cc, cd, ce, cf, (J3 ⟨rfl, rfl, rfl, rfl, trivial⟩), (e2.trans e4), h1o, (SRep.mono q1 fn), fo, (EAll.mono q1 fe), ff, (EAll.mono q1 fg), fh, (EAll.mono q1 fj), fk, (EAll.mono q1 fl), fm, (inK_inc (of_decide_eq_true h15) f0)⟩
  replace hr := Jf hr h15
  refine Jr ?_
  have h1p := St.pick 7 rfl h14
  have h1q := St.pick 7 rfl h1p
  have h1r := St.pick 7 rfl h1q
  have h1s := St.pick 7 rfl h1r
  have h1t := St.pick 7 rfl h1s
  have h1u := St.pick 7 rfl h1t
  have h1v := St.pick 7 rfl h1u
  have h1w := St.pick 7 rfl h1v
  exact ⟨_, (Option.some.inj hr).symm, rfl, _, _, v7, v8, v9, va, vc, c4, c5, c6, c7, rfl, e2, h1w, f3, f4, f5, f6, f7, f8, f9, fa, fb, fc⟩
 rintro _ _ ⟨σ1, G5, vd, ve, vf, vg, vh, c8, c9, ca, cb, rfl, e5, h1x, fp, fq, fr, fs, ft, fu, fv, fw, fx, fy⟩
 have h1y := St.pick 7 rfl h1x
 have h1z := St.pick 7 rfl h1y
 have h20 := St.pick 7 rfl h1z
 have h21 := St.pick 7 rfl h20
 have h22 := St.pick 7 rfl h21
 have h23 := St.pick 7 rfl h22
 have h24 := St.pick 7 rfl h23
 have h25 := St.pick 7 rfl h24
 obtain rfl := Option.some.inj hr
 exact ⟨[], trivial, _, _, _, rfl, (e1.trans e5), h25, ⟨vd, ve, vf, vg, vh, c8, c9, ca, cb, rfl, rfl, fp, fq, fr, fs, ft, fu, fv, fw, fx, fy⟩⟩
def fun_Get_3.f (a0_0_ : Xoctet_Reader) (a1_0 : Int) (a1_1 : (List Int)) (a1_2 : Int) (a1_3 : Bool) (a1_4 : Int) (a1_5 : Int) (a1_6 : (List XLine)) (a1_7 : (List XInstr)) (a1_8 : (List XReloc)) (a2_0_1 : Int) : Option (((List Int) × Int × (List Int) × (List XLine) × (List XInstr) × (List XReloc))) :=
 (instr_Get.f a0_0_).bind fun t0 => bif decide ((a1_7.length + 1) * 40 ≤ SB) then some (t0.2.2.2.2.2.1, t0.2.2.2.2.2.2, a1_1, a1_6, (a1_7 ++ [({ Op := t0.1, A := t0.2.1, B := t0.2.2.1, C := t0.2.2.2.1, N := t0.2.2.2.2.1 } : XInstr)]), a1_8) else none
def fun_Get_3.K (ba0_0 : Nat) (a0_0_ : Xoctet_Reader) (ba0 : Nat) (ba1 : Nat) (a1_0 : Int) (a1_2 : Int) (a1_3 : Bool) (a1_4 : Int) (a1_5 : Int) (ba2_0 : Nat) (a2_0_1 : Int) (ba2 : Nat) (r : ((List Int) × Int × (List Int) × (List XLine) × (List XInstr) × (List XReloc))) (G46 : GH) (v : Value) (N : List Res) : Prop := ∃ (v50 : Value) (v53 : Value) (v58 : Value) (v63 : Value) (v68 : Value) (c54 : List Value) (c59 : List Value) (c64 : List Value) (c69 : List Value), v = tup [] ∧ N = [.blk ba0_0 [v50, (vi r.2.1), (.bool a0_0_.live), (.bool a0_0_.bad)] 163, .blk ba0 [(pt ba0_0 0)] 104, .row v53 3 1 r.2.2.1.length c54, .row v58 157 2 r.2.2.2.1.length c59, .row v63 54 5 r.2.2.2.2.1.length c64, .row v68 133 3 r.2.2.2.2.2.length c69, .blk ba1 [(vi a1_0), v53, (vi a1_2), (.bool a1_3), (vi a1_4), (vi a1_5), v58, v63, v68] 44, .blk ba2_0 [(pt ba0_0 0), (vi a2_0_1)] 169, .blk ba2 [(pt ba2_0 0)] 167] ∧ SRep 5 (tInt .u8) G46 v50 r.1 ∧ InK .i64 r.2.1 ∧ EAll (tInt .i64) G46 c54 r.2.2.1 ∧ r.2.2.1.length ≤ SB ∧ EAll TLine G46 c59 r.2.2.2.1 ∧ r.2.2.2.1.length ≤ SB ∧ EAll TInstr G46 c64 r.2.2.2.2.1 ∧ r.2.2.2.2.1.length ≤ SB ∧ EAll TReloc G46 c69 r.2.2.2.2.2 ∧ r.2.2.2.2.2.length ≤ SB
theorem fun_Get_3.ok {ba0 : Nat} {ba0_0 : Nat} {ca0_0_ : List Value} {a0_0_ : Xoctet_Reader} {ba1 : Nat} {a1_0 : Int} {va1_1 : Value} {ca1_1 : List Value} {a1_1 : (List Int)} {a1_2 : Int} {a1_3 : Bool} {a1_4 : Int} {a1_5 : Int} {va1_6 : Value} {ca1_6 : List Value} {a1_6 : (List XLine)} {va1_7 : Value} {ca1_7 : List Value} {a1_7 : (List XInstr)} {va1_8 : Value} {ca1_8 : List Value} {a1_8 : (List XReloc)} {ba2 : Nat} {ba2_0 : Nat} {a2_0_1 : Int} (st : St B w G [.blk ba0 [(pt ba0_0 0)] 104, .blk ba0_0 ca0_0_ 163, .blk ba1 [(vi a1_0), va1_1, (vi a1_2), (.bool a1_3), (vi a1_4), (vi a1_5), va1_6, va1_7, va1_8] 44, .row va1_1 3 1 a1_1.length ca1_1, .row va1_6 157 2 a1_6.length ca1_6, .row va1_7 54 5 a1_7.length ca1_7, .row va1_8 133 3 a1_8.length ca1_8, .blk ba2 [(pt ba2_0 0)] 167, .blk ba2_0 [(pt ba0_0 0), (vi a2_0_1)] 169]) (ha0_0_ : Toctet_Reader.rep G ca0_0_ a0_0_) (ha1_0 : InK .i64 a1_0) (ha1_1 : EAll (tInt .i64) G ca1_1 a1_1) (lha1_1 : a1_1.length ≤ SB) (ha1_2 : InK .i64 a1_2) (ha1_4 : InK .i64 a1_4) (ha1_5 : InK .i64 a1_5) (ha1_6 : EAll TLine G ca1_6 a1_6) (lha1_6 : a1_6.length ≤ SB) (ha1_7 : EAll TInstr G ca1_7 a1_7) (lha1_7 : a1_7.length ≤ SB) (ha1_8 : EAll TReloc G ca1_8 a1_8) (lha1_8 : a1_8.length ≤ SB) (ha2_0_1 : InK .i64 a2_0_1) {r : ((List Int) × Int × (List Int) × (List XLine) × (List XInstr) × (List XReloc))} (hr : fun_Get_3.f a0_0_ a1_0 a1_1 a1_2 a1_3 a1_4 a1_5 a1_6 a1_7 a1_8 a2_0_1 = some r) :
 Calls Tryz.prog 123 ([(pt ba0 0), (pt ba1 0), (pt ba2 0)] : List Value).toArray w (Ret B G (fun_Get_3.K ba0_0 a0_0_ ba0 ba1 a1_0 a1_2 a1_3 a1_4 a1_5 ba2_0 a2_0_1 ba2 r)) := by
 obtain ⟨sa0_0__0, rfl, ha0_0__0, ha0_0__1⟩ := ha0_0_
 refine Jc [] func123 rfl ntmps123 rfl rfl ?_
 refine J2 (J1 ?_)
 refine Jlb [] (pt ba0_0 0) ti104 st rfl rfl rfl ?_
 have h0 := St.pick 1 rfl st
 obtain ⟨t0, h1, hr⟩ := J6 hr
 refine Jn (f := 124) (av := [(pt ba0_0 0)]) cf124 rfl rfl h0 rfl (fun G0 e0 h2 => instr_Get.ok (a0_ := a0_0_) h2 (⟨sa0_0__0, rfl, (SRep.mono e0.ro ha0_0__0), ha0_0__1⟩) h1) ?_
 rintro v0 w0 G1 G2 N0 e1 q0 ⟨v1, rfl, rfl, f0, f1, f2, f3, f4, f5, f6⟩ h3
 refine Jmv (.tuple #[(.agg #[(vi t0.1), (vi t0.2.1), (vi t0.2.2.1), (vi t0.2.2.2.1), (vi t0.2.2.2.2.1)]), (vi 0)]) rfl rfl ?_
 refine Jm rfl rfl rfl ?_
 refine Jm rfl rfl rfl ?_
 refine Jo ti54 h3 rfl ?_
 intro b0 w1 h4
 refine Jp (l1 := []) (vs := [(vi t0.1), (vi t0.2.1), (vi t0.2.2.1), (vi t0.2.2.2.1), (vi t0.2.2.2.2.1)]) ti54 h4 rfl rfl rfl (J5 rfl (J5 rfl (J5 rfl (J5 rfl (J5 rfl (fun _ h => nomatch h)))))) rfl ?_
 intro w2 (h5 : St B w2 G2 [.blk b0 [(vi t0.1), (vi t0.2.1), (vi t0.2.2.1), (vi t0.2.2.2.1), (vi t0.2.2.2.2.1)] 54, .blk ba0_0 [v1, (vi t0.2.2.2.2.2.2), (.bool a0_0_.live), (.bool a0_0_.bad)] 163, .blk ba0 [(pt ba0_0 0)] 104, .blk ba1 [(vi a1_0), va1_1, (vi a1_2), (.bool a1_3), (vi a1_4), (vi a1_5), va1_6, va1_7, va1_8] 44, .row va1_1 3 1 a1_1.length ca1_1, .row va1_6 157 2 a1_6.length ca1_6, .row va1_7 54 5 a1_7.length ca1_7, .row va1_8 133 3 a1_8.length ca1_8, .blk ba2 [(pt ba2_0 0)] 167, .blk ba2_0 [(pt ba0_0 0), (vi a2_0_1)] 169])
 refine Jsv (vi 0) rfl rfl ?_
 refine J0 (J2 (J1 ?_))
 refine Jfa 7 7 underlying44 rfl ti41 rfl rfl rfl rfl ?_
 refine Jlb [_, _, _] va1_7 ti41 h5 rfl rfl rfl ?_
 refine Jl (l1 := []) (vs := [(vi t0.1), (vi t0.2.1), (vi t0.2.2.1), (vi t0.2.2.2.1), (vi t0.2.2.2.2.1)]) ti54 h5 rfl rfl rfl rfl ?_
 refine Jj (cells := [(vi t0.1), (vi t0.2.1), (vi t0.2.2.1), (vi t0.2.2.2.1), (vi t0.2.2.2.2.1)]) underlying41 ti54 h5 rfl rfl rfl rfl rfl (by kernel_rfl) ?_
 intro v2 w3 h6 f7
 have E0 : EAll TInstr G2 [(vi t0.1), (vi t0.2.1), (vi t0.2.2.1), (vi t0.2.2.2.1), (vi t0.2.2.2.2.1)] [({ Op := t0.1, A := t0.2.1, B := t0.2.2.1, C := t0.2.2.2.1, N := t0.2.2.2.2.1 } : XInstr)] := ⟨_, _, rfl, ⟨rfl, f0, f1, f2, f3, f4⟩, rfl⟩
 obtain ⟨h7, hr⟩ := Ya hr
 obtain ⟨b1, l1086e, l0⟩ := f7
 subst l1086e
 refine WL_append (l1 := [_, _, _, _, _, _, _]) (news := [(vi t0.1), (vi t0.2.1), (vi t0.2.2.1), (vi t0.2.2.2.1), (vi t0.2.2.2.2.1)]) underlying41 ti54 rfl rfl h6 rfl rfl rfl rfl (lies_of (l1 := []) h6 rfl) (EAll.one E0) (app_lim rfl h7) (app_le rfl h7) ?_
 intro v3 w4 h8
 have E1 := EAll.append (T := TInstr) (EAll.mono e1.ro ha1_7) E0
 refine Jfa 7 7 underlying44 rfl ti41 rfl rfl rfl rfl ?_
 refine Y5 (l1 := [_, _, _, _]) (v := v3) ti41 h8 rfl rfl (row_one (St.mid (l1 := [_, _, _, _, _, _, _]) h8)) rfl ?_
 intro w5 (h9 : St B w5 G2 [.row (.slice (some ⟨b1, 0, none⟩) 1 1) 54 5 1 [(vi t0.1), (vi t0.2.1), (vi t0.2.2.1), (vi t0.2.2.2.1), (vi t0.2.2.2.2.1)], .blk b0 [(vi t0.1), (vi t0.2.1), (vi t0.2.2.1), (vi t0.2.2.2.1), (vi t0.2.2.2.2.1)] 54, .blk ba0_0 [v1, (vi t0.2.2.2.2.2.2), (.bool a0_0_.live), (.bool a0_0_.bad)] 163, .blk ba0 [(pt ba0_0 0)] 104, .blk ba1 [(vi a1_0), va1_1, (vi a1_2), (.bool a1_3), (vi a1_4), (vi a1_5), va1_6, v3, va1_8] 44, .row va1_1 3 1 a1_1.length ca1_1, .row va1_6 157 2 a1_6.length ca1_6, .row v3 54 5 (a1_7.length + 1) (ca1_7 ++ ([(vi t0.1), (vi t0.2.1), (vi t0.2.2.1), (vi t0.2.2.2.1), (vi t0.2.2.2.2.1)] : List Value)), .row va1_8 133 3 a1_8.length ca1_8, .blk ba2 [(pt ba2_0 0)] 167, .blk ba2_0 [(pt ba0_0 0), (vi a2_0_1)] 169])
 refine J0 (J2 (J1 ?_))
 refine Jmv (vi 0) rfl rfl ?_
 refine Y1 rfl rfl rfl ?_
 change WL _ _ _ _ _ _ (upd _ _ (.bool false)) _
 refine J0 ?_
 refine J7 rfl (fun h => nomatch h) (fun _ => ?_)
 refine J9 ?_
 have h10 := St.row_len (l1 := [_, _, _, _, _, _, _]) (k := (a1_7 ++ [({ Op := t0.1, A := t0.2.1, B := t0.2.2.1, C := t0.2.2.2.1, N := t0.2.2.2.2.1 } : XInstr)]).length) (len_app rfl) h9
 have h11 := St.pick 9 rfl h10
 have h12 := St.pick 10 rfl h11
 have h13 := St.pick 6 rfl h12
 have h14 := St.pick 10 rfl h13
 have h15 := St.pick 10 rfl h14
 have h16 := St.pick 10 rfl h15
 have h17 := St.pick 10 rfl h16
 have h18 := St.pick 10 rfl h17
 have h19 := St.pick 10 rfl h18
 have h1a := St.takeN 9 h19
 obtain rfl := Option.some.inj hr
 exact ⟨[], trivial, _, _, _, rfl, e1, h1a, ⟨v1, va1_1, va1_6, v3, va1_8, ca1_1, ca1_6, (ca1_7 ++ ([(vi t0.1), (vi t0.2.1), (vi t0.2.2.1), (vi t0.2.2.2.1), (vi t0.2.2.2.2.1)] : List Value)), ca1_8, rfl, rfl, (SRep.mono q0 f5), f6, (EAll.mono e1.ro ha1_1), lha1_1, (EAll.mono e1.ro ha1_6), lha1_6, E1, (le_eq (m := (a1_7.length + 1)) (len_app rfl) (app_le rfl h7)), (EAll.mono e1.ro ha1_8), lha1_8⟩⟩
def fun_reader_many_s3.l0 (t0 : (Int × (List Int) × Int)) (a0_1 : Int) (a0_0_ : Xoctet_Reader) (a1_c1_0 : Int) (a1_c1_2 : Int) (a1_c1_3 : Bool) (a1_c1_4 : Int) (a1_c1_5 : Int) (s0 : ((List Int) × Int × (List Int) × (List XLine) × (List XInstr) × (List XReloc) × Nat)) : Option (Step ((List Int) × Int × (List Int) × (List XLine) × (List XInstr) × (List XReloc) × Nat) ((List Int) × Int × (List Int) × (List XLine) × (List XInstr) × (List XReloc))) :=
 bif decide (((s0.2.2.2.2.2.2 : Nat) : Int) < t0.1) then bif decide (a0_1 ≠ 0) then none else (fun_Get_3.f ({ b := s0.1, at_ := s0.2.1, live := a0_0_.live, bad := a0_0_.bad } : Xoctet_Reader) a1_c1_0 s0.2.2.1 a1_c1_2 a1_c1_3 a1_c1_4 a1_c1_5 s0.2.2.2.1 s0.2.2.2.2.1 s0.2.2.2.2.2.1 a0_1).bind fun t1 => some (.next (t1.1, t1.2.1, t1.2.2.1, t1.2.2.2.1, t1.2.2.2.2.1, t1.2.2.2.2.2, s0.2.2.2.2.2.2 + 1)) else some (.done (s0.1, s0.2.1, s0.2.2.1, s0.2.2.2.1, s0.2.2.2.2.1, s0.2.2.2.2.2.1))
def fun_reader_many_s3.f (a0_0_ : Xoctet_Reader) (a0_1 : Int) (a1_c1_0 : Int) (a1_c1_1 : (List Int)) (a1_c1_2 : Int) (a1_c1_3 : Bool) (a1_c1_4 : Int) (a1_c1_5 : Int) (a1_c1_6 : (List XLine)) (a1_c1_7 : (List XInstr)) (a1_c1_8 : (List XReloc)) : Option (((List Int) × Int × (List Int) × (List XLine) × (List XInstr) × (List XReloc))) :=
 (fun_reader_num.f a0_0_ a0_1 1).bind fun t0 => (loop (fun_reader_many_s3.l0 t0 a0_1 a0_0_ a1_c1_0 a1_c1_2 a1_c1_3 a1_c1_4 a1_c1_5) (t0.2.1, t0.2.2, a1_c1_1, a1_c1_6, a1_c1_7, a1_c1_8, 0)).bind fun t2 => some (t2.1, t2.2.1, t2.2.2.1, t2.2.2.2.1, t2.2.2.2.2.1, t2.2.2.2.2.2)
def fun_reader_many_s3.K (ba0_0 : Nat) (a0_0_ : Xoctet_Reader) (ba0 : Nat) (a0_1 : Int) (ba1_c0 : Nat) (ba1_c1 : Nat) (a1_c1_0 : Int) (a1_c1_2 : Int) (a1_c1_3 : Bool) (a1_c1_4 : Int) (a1_c1_5 : Int) (ba1_c2 : Nat) (r : ((List Int) × Int × (List Int) × (List XLine) × (List XInstr) × (List XReloc))) (G0 : GH) (v : Value) (N : List Res) : Prop := ∃ (v0 : Value) (v1 : Value) (v2 : Value) (v3 : Value) (v4 : Value) (c0 : List Value) (c1 : List Value) (c2 : List Value) (c3 : List Value), v = tup [] ∧ N = [.blk ba0_0 [v0, (vi r.2.1), (.bool a0_0_.live), (.bool a0_0_.bad)] 163, .blk ba0 [(pt ba0_0 0), (vi a0_1)] 169, .blk ba1_c0 [(pt ba0_0 0)] 104, .row v1 3 1 r.2.2.1.length c0, .row v2 157 2 r.2.2.2.1.length c1, .row v3 54 5 r.2.2.2.2.1.length c2, .row v4 133 3 r.2.2.2.2.2.length c3, .blk ba1_c1 [(vi a1_c1_0), v1, (vi a1_c1_2), (.bool a1_c1_3), (vi a1_c1_4), (vi a1_c1_5), v2, v3, v4] 44, .blk ba1_c2 [(pt ba0 0)] 167] ∧ SRep 5 (tInt .u8) G0 v0 r.1 ∧ InK .i64 r.2.1 ∧ EAll (tInt .i64) G0 c0 r.2.2.1 ∧ r.2.2.1.length ≤ SB ∧ EAll TLine G0 c1 r.2.2.2.1 ∧ r.2.2.2.1.length ≤ SB ∧ EAll TInstr G0 c2 r.2.2.2.2.1 ∧ r.2.2.2.2.1.length ≤ SB ∧ EAll TReloc G0 c3 r.2.2.2.2.2 ∧ r.2.2.2.2.2.length ≤ SB
theorem fun_reader_many_s3.ok {ba0 : Nat} {ba0_0 : Nat} {ca0_0_ : List Value} {a0_0_ : Xoctet_Reader} {a0_1 : Int} {ba1_c0 : Nat} {ba1_c1 : Nat} {a1_c1_0 : Int} {va1_c1_1 : Value} {ca1_c1_1 : List Value} {a1_c1_1 : (List Int)} {a1_c1_2 : Int} {a1_c1_3 : Bool} {a1_c1_4 : Int} {a1_c1_5 : Int} {va1_c1_6 : Value} {ca1_c1_6 : List Value} {a1_c1_6 : (List XLine)} {va1_c1_7 : Value} {ca1_c1_7 : List Value} {a1_c1_7 : (List XInstr)} {va1_c1_8 : Value} {ca1_c1_8 : List Value} {a1_c1_8 : (List XReloc)} {ba1_c2 : Nat} (st : St B w G [.blk ba0 [(pt ba0_0 0), (vi a0_1)] 169, .blk ba0_0 ca0_0_ 163, .blk ba1_c0 [(pt ba0_0 0)] 104, .blk ba1_c1 [(vi a1_c1_0), va1_c1_1, (vi a1_c1_2), (.bool a1_c1_3), (vi a1_c1_4), (vi a1_c1_5), va1_c1_6, va1_c1_7, va1_c1_8] 44, .row va1_c1_1 3 1 a1_c1_1.length ca1_c1_1, .row va1_c1_6 157 2 a1_c1_6.length ca1_c1_6, .row va1_c1_7 54 5 a1_c1_7.length ca1_c1_7, .row va1_c1_8 133 3 a1_c1_8.length ca1_c1_8, .blk ba1_c2 [(pt ba0 0)] 167]) (ha0_0_ : Toctet_Reader.rep G ca0_0_ a0_0_) (ha0_1 : InK .i64 a0_1) (ha1_c1_0 : InK .i64 a1_c1_0) (ha1_c1_1 : EAll (tInt .i64) G ca1_c1_1 a1_c1_1) (lha1_c1_1 : a1_c1_1.length ≤ SB) (ha1_c1_2 : InK .i64 a1_c1_2) (ha1_c1_4 : InK .i64 a1_c1_4) (ha1_c1_5 : InK .i64 a1_c1_5) (ha1_c1_6 : EAll TLine G ca1_c1_6 a1_c1_6) (lha1_c1_6 : a1_c1_6.length ≤ SB) (ha1_c1_7 : EAll TInstr G ca1_c1_7 a1_c1_7) (lha1_c1_7 : a1_c1_7.length ≤ SB) (ha1_c1_8 : EAll TReloc G ca1_c1_8 a1_c1_8) (lha1_c1_8 : a1_c1_8.length ≤ SB) {r : ((List Int) × Int × (List Int) × (List XLine) × (List XInstr) × (List XReloc))} (hr : fun_reader_many_s3.f a0_0_ a0_1 a1_c1_0 a1_c1_1 a1_c1_2 a1_c1_3 a1_c1_4 a1_c1_5 a1_c1_6 a1_c1_7 a1_c1_8 = some r) :
 Calls Tryz.prog 119 ([(pt ba0 0), (.func (.func 123) #[] #[(pt ba1_c0 0), (pt ba1_c1 0), (pt ba1_c2 0)])] : List Value).toArray w (Ret B G (fun_reader_many_s3.K ba0_0 a0_0_ ba0 a0_1 ba1_c0 ba1_c1 a1_c1_0 a1_c1_2 a1_c1_3 a1_c1_4 a1_c1_5 ba1_c2 r)) := by
 obtain ⟨sa0_0__0, rfl, ha0_0__0, ha0_0__1⟩ := ha0_0_
 refine Jc [] func119 rfl ntmps119 rfl rfl ?_
 refine J2 (J1 ?_)
 refine Jmv (pt ba0 0) rfl rfl ?_
 have h0 := St.pick 1 rfl st
 have h1 := St.pick 1 rfl h0
 obtain ⟨t0, h2, hr⟩ := J6 hr
 refine Y6 (f := 118) (av := [(pt ba0 0), (vi 1)]) cf118 rfl rfl h1 rfl (fun G1 e0 h3 => fun_reader_num.ok (a0_0_ := a0_0_) h3 (⟨sa0_0__0, rfl, (SRep.mono e0.ro ha0_0__0), ha0_0__1⟩) ha0_1 (by rfl) h2) ?_
 rintro v5 w0 G2 G3 N0 e1 q0 ⟨v6, rfl, rfl, f0, f1, f2⟩ h4
 refine Jmv (vi 0) rfl rfl ?_
 refine J0 (Jb ?_)
 obtain ⟨t2, h5, hr⟩ := J6 hr
 have h6 := St.pick 8 rfl h4
 have h7 := St.pick 4 rfl h6
 have h8 := St.pick 8 rfl h7
 have h9 := St.pick 8 rfl h8
 have h10 := St.pick 8 rfl h9
 have h11 := St.pick 8 rfl h10
 have h12 := St.pick 8 rfl h11
 have h13 := St.pick 8 rfl h12
 have h14 := St.pick 8 rfl h13
 refine Js 0 h5 (fun s0 ρ w => ∃ (σ0 : Env) (G4 : GH) (v7 : Value) (v8 : Value) (v9 : Value) (va : Value) (vc : Value) (c4 : List Value) (c5 : List Value) (c6 : List Value) (c7 : List Value), ρ = En σ0 [(0, (pt ba0 0)), (1, (.func (.func 123) #[] #[(pt ba1_c0 0), (pt ba1_c1 0), (pt ba1_c2 0)])), (5, (vi t0.1)), (6, (vi ((s0.2.2.2.2.2.2 : Nat) : Int)))] ∧ Ext G3 G4 ∧ St B w G4 [.blk ba0_0 [v7, (vi s0.2.1), (.bool a0_0_.live), (.bool a0_0_.bad)] 163, .blk ba0 [(pt ba0_0 0), (vi a0_1)] 169, .blk ba1_c0 [(pt ba0_0 0)] 104, .row v8 3 1 s0.2.2.1.length c4, .row v9 157 2 s0.2.2.2.1.length c5, .row va 54 5 s0.2.2.2.2.1.length c6, .row vc 133 3 s0.2.2.2.2.2.1.length c7, .blk ba1_c1 [(vi a1_c1_0), v8, (vi a1_c1_2), (.bool a1_c1_3), (vi a1_c1_4), (vi a1_c1_5), v9, va, vc] 44, .blk ba1_c2 [(pt ba0 0)] 167] ∧ SRep 5 (tInt .u8) G4 v7 s0.1 ∧ InK .i64 s0.2.1 ∧ EAll (tInt .i64) G4 c4 s0.2.2.1 ∧ s0.2.2.1.length ≤ SB ∧ EAll TLine G4 c5 s0.2.2.2.1 ∧ s0.2.2.2.1.length ≤ SB ∧ EAll TInstr G4 c6 s0.2.2.2.2.1 ∧ s0.2.2.2.2.1.length ≤ SB ∧ EAll TReloc G4 c7 s0.2.2.2.2.2.1 ∧ s0.2.2.2.2.2.1.length ≤ SB ∧ InK .i64 ((s0.2.2.2.2.2.2 : Nat) : Int)) (fun t3 ρ w => ∃ (σ1 : Env) (G5 : GH) (vd : Value) (ve : Value) (vf : Value) (vg : Value) (vh : Value) (c8 : List Value) (c9 : List Value) (ca : List Value) (cb : List Value), ρ = En σ1 [] ∧ Ext G3 G5 ∧ St B w G5 [.blk ba0_0 [vd, (vi t3.2.1), (.bool a0_0_.live), (.bool a0_0_.bad)] 163, .blk ba0 [(pt ba0_0 0), (vi a0_1)] 169, .blk ba1_c0 [(pt ba0_0 0)] 104, .row ve 3 1 t3.2.2.1.length c8, .row vf 157 2 t3.2.2.2.1.length c9, .row vg 54 5 t3.2.2.2.2.1.length ca, .row vh 133 3 t3.2.2.2.2.2.length cb, .blk ba1_c1 [(vi a1_c1_0), ve, (vi a1_c1_2), (.bool a1_c1_3), (vi a1_c1_4), (vi a1_c1_5), vf, vg, vh] 44, .blk ba1_c2 [(pt ba0 0)] 167] ∧ SRep 5 (tInt .u8) G5 vd t3.1 ∧ InK .i64 t3.2.1 ∧ EAll (tInt .i64) G5 c8 t3.2.2.1 ∧ t3.2.2.1.length ≤ SB ∧ EAll TLine G5 c9 t3.2.2.2.1 ∧ t3.2.2.2.1.length ≤ SB ∧ EAll TInstr G5 ca t3.2.2.2.2.1 ∧ t3.2.2.2.2.1.length ≤ SB ∧ EAll TReloc G5 cb t3.2.2.2.2.2 ∧ t3.2.2.2.2.2.length ≤ SB) ⟨_, _, v6, va1_c1_1, va1_c1_6, va1_c1_7, va1_c1_8, ca1_c1_1, ca1_c1_6, ca1_c1_7, ca1_c1_8, (J3 ⟨rfl, rfl, rfl, rfl, trivial⟩), (Ext.refl _), h14, (SRep.mono q0 f1), f2, (EAll.mono e1.ro ha1_c1_1), lha1_c1_1, (EAll.mono e1.ro ha1_c1_6), lha1_c1_6, (EAll.mono e1.ro ha1_c1_7), lha1_c1_7, (EAll.mono e1.ro ha1_c1_8), lha1_c1_8, (by rfl)⟩ ?_ ?_
 ·rintro s0 x0 _ _ hr ⟨σ0, G4, v7, v8, v9, va, vc, c4, c5, c6, c7, rfl, e2, h15, f3, f4, f5, f6, f7, f8, f9, fa, fb, fc, fd⟩
  refine J2 (J1 ?_)
  refine Ji rfl rfl rfl ?_
  refine J0 (J2 ?_)
  refine J7 rfl (fun h16 => ?_) (fun h16 => ?_)
  ·replace hr := Jx hr h16
   refine J9 (J2 (Jb (J2 (J2 (J1 ?_)))))
   refine Jmv (pt ba0 0) rfl rfl ?_
   refine Je rfl rfl ?_
   refine Jfa 1 1 underlying169 rfl ti29 rfl rfl rfl rfl ?_
   refine Jlb [_] (vi a0_1) ti29 h15 rfl rfl rfl ?_
   refine Y1 rfl rfl rfl ?_
   refine J0 ?_
   refine J7 rfl (fun h17 => ?_) (fun h17 => ?_)
   ·exact Jk hr h17
   replace hr := Jf hr h17
   refine J9 (J1 ?_)
   refine Jmv (.func (.func 123) #[] #[(pt ba1_c0 0), (pt ba1_c1 0), (pt ba1_c2 0)]) rfl rfl ?_
   have h18 := St.pick 1 rfl h15
   have h19 := St.pick 8 rfl h18
   have h1a := St.pick 7 rfl h19
   have h1b := St.pick 7 rfl h1a
   have h1c := St.pick 7 rfl h1b
   have h1d := St.pick 7 rfl h1c
   have h1e := St.pick 8 rfl h1d
   have h1f := St.pick 7 rfl h1e
   have h1g := St.pick 8 rfl h1f
   obtain ⟨t1, h1h, hr⟩ := J6 hr
   refine Yd (N := [_, _, _, _, _, _, _, _, _]) (R := []) (f := 123) (av := [(pt ba1_c0 0), (pt ba1_c1 0), (pt ba1_c2 0)]) cf123 rfl rfl h1g rfl (fun G6 e3 h1i => fun_Get_3.ok (a0_0_ := ({ b := s0.1, at_ := s0.2.1, live := a0_0_.live, bad := a0_0_.bad } : Xoctet_Reader)) h1i (⟨v7, rfl, (SRep.mono e3.ro f3), f4⟩) ha1_c1_0 (EAll.mono e3.ro f5) f6 ha1_c1_2 ha1_c1_4 ha1_c1_5 (EAll.mono e3.ro f7) f8 (EAll.mono e3.ro f9) fa (EAll.mono e3.ro fb) fc ha0_1 h1h) ?_
   rintro vj w1 G7 G8 N1 e4 q1 ⟨vk, vl, vm, vn, vo, cc, cd, ce, cf, rfl, rfl, fe, ff, fg, fh, fj, fk, fl, fm, fn, fo⟩ h1j
   refine J0 (J1 ?_)
   refine Y2 rfl rfl rfl (of_decide_eq_true h16) f0 ?_
   refine Jmv (vi ((s0.2.2.2.2.2.2 + 1 : Nat) : Int)) rfl rfl ?_
   refine J0 ?_
   have h1k := St.pick 8 rfl h1j
   have h1l := St.pick 7 rfl h1k
   have h1m := St.pick 7 rfl h1l
   have h1n := St.pick 7 rfl h1m
   have h1o := St.pick 7 rfl h1n
   have h1p := St.pick 7 rfl h1o
   have h1q := St.pick 7 rfl h1p
   have h1r := St.pick 8 rfl h1q
   have h1s := St.pick 8 rfl h1r
   exact ⟨_, (Option.some.inj hr).symm, _, _, vk, vl, vm, vn, vo, cc, cd, ce, cf, (J3 ⟨rfl, rfl, rfl, rfl, trivial⟩), (e2.trans e4), h1s, (SRep.mono q1 fe), ff, (EAll.mono q1 fg), fh, (EAll.mono q1 fj), fk, (EAll.mono q1 fl), fm, (EAll.mono q1 fn), fo, (inK_inc (of_decide_eq_true h16) f0)⟩
  replace hr := Jf hr h16
  refine Jr ?_
  have h1t := St.pick 8 rfl h15
  have h1u := St.pick 8 rfl h1t
  have h1v := St.pick 8 rfl h1u
  have h1w := St.pick 8 rfl h1v
  have h1x := St.pick 8 rfl h1w
  have h1y := St.pick 8 rfl h1x
  have h1z := St.pick 8 rfl h1y
  have h20 := St.pick 8 rfl h1z
  have h21 := St.pick 8 rfl h20
  exact ⟨_, (Option.some.inj hr).symm, rfl, _, _, v7, v8, v9, va, vc, c4, c5, c6, c7, rfl, e2, h21, f3, f4, f5, f6, f7, f8, f9, fa, fb, fc⟩
 rintro _ _ ⟨σ1, G5, vd, ve, vf, vg, vh, c8, c9, ca, cb, rfl, e5, h22, fp, fq, fr, fs, ft, fu, fv, fw, fx, fy⟩
 have h23 := St.pick 8 rfl h22
 have h24 := St.pick 8 rfl h23
 have h25 := St.pick 8 rfl h24
 have h26 := St.pick 8 rfl h25
 have h27 := St.pick 8 rfl h26
 have h28 := St.pick 8 rfl h27
 have h29 := St.pick 8 rfl h28
 have h2a := St.pick 8 rfl h29
 have h2b := St.pick 8 rfl h2a
 obtain rfl := Option.some.inj hr
 exact ⟨[], trivial, _, _, _, rfl, (e1.trans e5), h2b, ⟨vd, ve, vf, vg, vh, c8, c9, ca, cb, rfl, rfl, fp, fq, fr, fs, ft, fu, fv, fw, fx, fy⟩⟩
def fun_Get_4.f (a0_0 : Int) (a0_1 : (List Int)) (a0_2 : Int) (a0_3 : Bool) (a0_4 : Int) (a0_5 : Int) (a0_6 : (List XLine)) (a0_7 : (List XInstr)) (a0_8 : (List XReloc)) (a1_0_0_ : Xoctet_Reader) (a1_0_1 : Int) : Option (((List Int) × (List XLine) × (List XInstr) × (List XReloc) × (List Int) × Int)) :=
 (fun_reader_num.f a1_0_0_ a1_0_1 1).bind fun t0 => (fun_reader_num.f ({ b := t0.2.1, at_ := t0.2.2, live := a1_0_0_.live, bad := a1_0_0_.bad } : Xoctet_Reader) a1_0_1 1).bind fun t1 => (fun_reader_yes.f ({ b := t1.2.1, at_ := t1.2.2, live := a1_0_0_.live, bad := a1_0_0_.bad } : Xoctet_Reader) a1_0_1).bind fun t2 => bif decide ((a0_8.length + [({ At := t0.1, Sym := t1.1, Wide := t2.1 } : XReloc)].length) * 24 ≤ SB) then some (a0_1, a0_6, a0_7, (a0_8 ++ [({ At := t0.1, Sym := t1.1, Wide := t2.1 } : XReloc)]), t2.2.1, t2.2.2) else none
def fun_Get_4.K (ba0 : Nat) (a0_0 : Int) (a0_2 : Int) (a0_3 : Bool) (a0_4 : Int) (a0_5 : Int) (ba1_0_0 : Nat) (a1_0_0_ : Xoctet_Reader) (ba1_0 : Nat) (a1_0_1 : Int) (ba1 : Nat) (r : ((List Int) × (List XLine) × (List XInstr) × (List XReloc) × (List Int) × Int)) (G0 : GH) (v : Value) (N : List Res) : Prop := ∃ (v0 : Value) (v1 : Value) (v2 : Value) (v3 : Value) (v4 : Value) (c0 : List Value) (c1 : List Value) (c2 : List Value) (c3 : List Value), v = tup [] ∧ N = [.row v0 3 1 r.1.length c0, .row v1 157 2 r.2.1.length c1, .row v2 54 5 r.2.2.1.length c2, .row v3 133 3 r.2.2.2.1.length c3, .blk ba0 [(vi a0_0), v0, (vi a0_2), (.bool a0_3), (vi a0_4), (vi a0_5), v1, v2, v3] 44, .blk ba1_0_0 [v4, (vi r.2.2.2.2.2), (.bool a1_0_0_.live), (.bool a1_0_0_.bad)] 163, .blk ba1_0 [(pt ba1_0_0 0), (vi a1_0_1)] 169, .blk ba1 [(pt ba1_0 0)] 167] ∧ EAll (tInt .i64) G0 c0 r.1 ∧ r.1.length ≤ SB ∧ EAll TLine G0 c1 r.2.1 ∧ r.2.1.length ≤ SB ∧ EAll TInstr G0 c2 r.2.2.1 ∧ r.2.2.1.length ≤ SB ∧ EAll TReloc G0 c3 r.2.2.2.1 ∧ r.2.2.2.1.length ≤ SB ∧ SRep 5 (tInt .u8) G0 v4 r.2.2.2.2.1 ∧ InK .i64 r.2.2.2.2.2
theorem fun_Get_4.ok {ba0 : Nat} {a0_0 : Int} {va0_1 : Value} {ca0_1 : List Value} {a0_1 : (List Int)} {a0_2 : Int} {a0_3 : Bool} {a0_4 : Int} {a0_5 : Int} {va0_6 : Value} {ca0_6 : List Value} {a0_6 : (List XLine)} {va0_7 : Value} {ca0_7 : List Value} {a0_7 : (List XInstr)} {va0_8 : Value} {ca0_8 : List Value} {a0_8 : (List XReloc)} {ba1 : Nat} {ba1_0 : Nat} {ba1_0_0 : Nat} {ca1_0_0_ : List Value} {a1_0_0_ : Xoctet_Reader} {a1_0_1 : Int} (st : St B w G [.blk ba0 [(vi a0_0), va0_1, (vi a0_2), (.bool a0_3), (vi a0_4), (vi a0_5), va0_6, va0_7, va0_8] 44, .row va0_1 3 1 a0_1.length ca0_1, .row va0_6 157 2 a0_6.length ca0_6, .row va0_7 54 5 a0_7.length ca0_7, .row va0_8 133 3 a0_8.length ca0_8, .blk ba1 [(pt ba1_0 0)] 167, .blk ba1_0 [(pt ba1_0_0 0), (vi a1_0_1)] 169, .blk ba1_0_0 ca1_0_0_ 163]) (ha0_0 : InK .i64 a0_0) (ha0_1 : EAll (tInt .i64) G ca0_1 a0_1) (lha0_1 : a0_1.length ≤ SB) (ha0_2 : InK .i64 a0_2) (ha0_4 : InK .i64 a0_4) (ha0_5 : InK .i64 a0_5) (ha0_6 : EAll TLine G ca0_6 a0_6) (lha0_6 : a0_6.length ≤ SB) (ha0_7 : EAll TInstr G ca0_7 a0_7) (lha0_7 : a0_7.length ≤ SB) (ha0_8 : EAll TReloc G ca0_8 a0_8) (lha0_8 : a0_8.length ≤ SB) (ha1_0_0_ : Toctet_Reader.rep G ca1_0_0_ a1_0_0_) (ha1_0_1 : InK .i64 a1_0_1) {r : ((List Int) × (List XLine) × (List XInstr) × (List XReloc) × (List Int) × Int)} (hr : fun_Get_4.f a0_0 a0_1 a0_2 a0_3 a0_4 a0_5 a0_6 a0_7 a0_8 a1_0_0_ a1_0_1 = some r) :
 Calls Tryz.prog 126 ([(pt ba0 0), (pt ba1 0)] : List Value).toArray w (Ret B G (fun_Get_4.K ba0 a0_0 a0_2 a0_3 a0_4 a0_5 ba1_0_0 a1_0_0_ ba1_0 a1_0_1 ba1 r)) := by
 obtain ⟨sa1_0_0__0, rfl, ha1_0_0__0, ha1_0_0__1⟩ := ha1_0_0_
 refine Jc [] func126 rfl ntmps126 rfl rfl ?_
 obtain ⟨t0, h0, hr⟩ := J6 hr
 obtain ⟨t1, h1, hr⟩ := J6 hr
 obtain ⟨t2, h2, hr⟩ := J6 hr
 refine Ym 10 [some 2, some 3, some 4, some 5, some 6, some 7, some 8, some 9, some 10, some 11] [3, 5, 7, 9] [Kind.q, Kind.q, Kind.q, Kind.c 0, Kind.q, Kind.c 1, Kind.q, Kind.c 2, Kind.q, Kind.c 3] (pkT [(fun vs_ G_ M_ => vs_ = [] ∧ M_ = [.blk ba0 [(vi a0_0), va0_1, (vi a0_2), (.bool a0_3), (vi a0_4), (vi a0_5), va0_6, va0_7, va0_8] 44, .row va0_1 3 1 a0_1.length ca0_1, .row va0_6 157 2 a0_6.length ca0_6, .row va0_7 54 5 a0_7.length ca0_7, .row va0_8 133 3 a0_8.length ca0_8, .blk ba1 [(pt ba1_0 0)] 167, .blk ba1_0 [(pt ba1_0_0 0), (vi a1_0_1)] 169, .blk ba1_0_0 [sa1_0_0__0, (vi a1_0_0_.at_), (.bool a1_0_0_.live), (.bool a1_0_0_.bad)] 163]), (fun vs_ G_ M_ => ∃ (v5 : Value), vs_ = [(vi t0.1)] ∧ M_ = [.blk ba1_0_0 [v5, (vi t0.2.2), (.bool a1_0_0_.live), (.bool a1_0_0_.bad)] 163, .blk ba1_0 [(pt ba1_0_0 0), (vi a1_0_1)] 169, .blk ba0 [(vi a0_0), va0_1, (vi a0_2), (.bool a0_3), (vi a0_4), (vi a0_5), va0_6, va0_7, va0_8] 44, .row va0_1 3 1 a0_1.length ca0_1, .row va0_6 157 2 a0_6.length ca0_6, .row va0_7 54 5 a0_7.length ca0_7, .row va0_8 133 3 a0_8.length ca0_8, .blk ba1 [(pt ba1_0 0)] 167] ∧ SRep 5 (tInt .u8) G_ v5 t0.2.1 ∧ InK .i64 t0.2.2 ∧ InK .i64 t0.1), (fun vs_ G_ M_ => ∃ (v6 : Value), vs_ = [(vi t0.1), (vi t1.1)] ∧ M_ = [.blk ba1_0_0 [v6, (vi t1.2.2), (.bool a1_0_0_.live), (.bool a1_0_0_.bad)] 163, .blk ba1_0 [(pt ba1_0_0 0), (vi a1_0_1)] 169, .blk ba0 [(vi a0_0), va0_1, (vi a0_2), (.bool a0_3), (vi a0_4), (vi a0_5), va0_6, va0_7, va0_8] 44, .row va0_1 3 1 a0_1.length ca0_1, .row va0_6 157 2 a0_6.length ca0_6, .row va0_7 54 5 a0_7.length ca0_7, .row va0_8 133 3 a0_8.length ca0_8, .blk ba1 [(pt ba1_0 0)] 167] ∧ SRep 5 (tInt .u8) G_ v6 t1.2.1 ∧ InK .i64 t1.2.2 ∧ InK .i64 t0.1 ∧ InK .i64 t1.1), (fun vs_ G_ M_ => ∃ (v7 : Value), vs_ = [(vi t0.1), (vi t1.1), (.bool t2.1)] ∧ M_ = [.blk ba1_0_0 [v7, (vi t2.2.2), (.bool a1_0_0_.live), (.bool a1_0_0_.bad)] 163, .blk ba1_0 [(pt ba1_0_0 0), (vi a1_0_1)] 169, .blk ba0 [(vi a0_0), va0_1, (vi a0_2), (.bool a0_3), (vi a0_4), (vi a0_5), va0_6, va0_7, va0_8] 44, .row va0_1 3 1 a0_1.length ca0_1, .row va0_6 157 2 a0_6.length ca0_6, .row va0_7 54 5 a0_7.length ca0_7, .row va0_8 133 3 a0_8.length ca0_8, .blk ba1 [(pt ba1_0 0)] 167] ∧ SRep 5 (tInt .u8) G_ v7 t2.2.1 ∧ InK .i64 t2.2.2 ∧ InK .i64 t0.1 ∧ InK .i64 t1.1), (fun vs_ G_ M_ => ∃ (v8 : Value) (v9 : Value), vs_ = [(vi t0.1), (vi t1.1), (.bool t2.1), v8] ∧ M_ = [.row v8 133 3 1 [(vi t0.1), (vi t1.1), (.bool t2.1)], .blk ba1_0_0 [v9, (vi t2.2.2), (.bool a1_0_0_.live), (.bool a1_0_0_.bad)] 163, .blk ba1_0 [(pt ba1_0_0 0), (vi a1_0_1)] 169, .blk ba0 [(vi a0_0), va0_1, (vi a0_2), (.bool a0_3), (vi a0_4), (vi a0_5), va0_6, va0_7, va0_8] 44, .row va0_1 3 1 a0_1.length ca0_1, .row va0_6 157 2 a0_6.length ca0_6, .row va0_7 54 5 a0_7.length ca0_7, .row va0_8 133 3 a0_8.length ca0_8, .blk ba1 [(pt ba1_0 0)] 167] ∧ EAll TReloc G_ [(vi t0.1), (vi t1.1), (.bool t2.1)] [({ At := t0.1, Sym := t1.1, Wide := t2.1 } : XReloc)] ∧ [({ At := t0.1, Sym := t1.1, Wide := t2.1 } : XReloc)].length = 1 ∧ 1 ≤ SB ∧ SRep 5 (tInt .u8) G_ v9 t2.2.1 ∧ InK .i64 t2.2.2 ∧ InK .i64 t0.1 ∧ InK .i64 t1.1)]) (pk [(fun G_ v_ => v_ = (pt ba0 8)), (fun G_ v_ => v_ = va0_8), (fun G_ v_ => v_ = (pt ba1_0 0)), (fun _ _ => True), (fun G_ v_ => v_ = (pt ba1_0 0)), (fun _ _ => True), (fun G_ v_ => v_ = (pt ba1_0 0)), (fun _ _ => True), (fun G_ v_ => v_ = (.agg #[(vi t0.1), (vi t1.1), (.bool t2.1)]) ∧ InK .i64 t0.1 ∧ InK .i64 t1.1), (fun _ _ => True)]) rfl (by kernel_rfl) rfl (by kernel_rfl) [[5], [7], [8, 9]] (by kernel_rfl) rfl st (fun _ _ => ⟨rfl, rfl⟩) ?_ ?_
 ·refine Each2.cons ?_ (Each2.cons ?_ (Each2.cons ?_ (Each2.cons ?_ (Each2.cons ?_ (Each2.cons ?_ (Each2.cons ?_ (Each2.cons ?_ (Each2.cons ?_ (Each2.cons ?_ Each2.nil)))))))))
  ·intro k0 q0 w0 G1 M0 h3 h4 e0 h5 h6 h7 h8 h9 h10
   have h2_ : k0 ≤ 4 := h3
   rcases (show k0 = 0 ∨ k0 = 1 ∨ k0 = 2 ∨ k0 = 3 ∨ k0 = 4 from by omega) with rfl | rfl | rfl | rfl | rfl
   ·obtain ⟨hvs_, rfl⟩ := h6 G1 (Ext.refl _)
    rw [J3 (ρ := q0) (l := [(0, (pt ba0 0))]) ⟨(h7.1 0 (by decide)).trans rfl, trivial⟩]
    refine Jfa 8 8 underlying44 rfl ti42 rfl rfl rfl rfl ?_
    exact J0 (J4 (Ext.refl _) h5 fun G2 e1 => rfl)
   ·obtain ⟨v5, hvs_, rfl, f0, f1, f2⟩ := h6 G1 (Ext.refl _)
    have hv5 := (List.cons.inj hvs_).1
    rw [J3 (ρ := q0) (l := [(0, (pt ba0 0)), (5, (vi t0.1))]) ⟨(h7.1 0 (by decide)).trans rfl, hv5, trivial⟩]
    refine Jfa 8 8 underlying44 rfl ti42 rfl rfl rfl rfl ?_
    exact J0 (J4 (Ext.refl _) h5 fun G2 e1 => rfl)
   ·obtain ⟨v6, hvs_, rfl, f3, f4, f5, f6⟩ := h6 G1 (Ext.refl _)
    have hv5 := (List.cons.inj hvs_).1
    have hv7 := (List.cons.inj (List.cons.inj hvs_).2).1
    rw [J3 (ρ := q0) (l := [(0, (pt ba0 0)), (5, (vi t0.1)), (7, (vi t1.1))]) ⟨(h7.1 0 (by decide)).trans rfl, hv5, hv7, trivial⟩]
    refine Jfa 8 8 underlying44 rfl ti42 rfl rfl rfl rfl ?_
    exact J0 (J4 (Ext.refl _) h5 fun G2 e1 => rfl)
   ·obtain ⟨v7, hvs_, rfl, f7, f8, f9, fa⟩ := h6 G1 (Ext.refl _)
    have hv5 := (List.cons.inj hvs_).1
    have hv7 := (List.cons.inj (List.cons.inj hvs_).2).1
    have hv9 := (List.cons.inj (List.cons.inj (List.cons.inj hvs_).2).2).1
    rw [J3 (ρ := q0) (l := [(0, (pt ba0 0)), (5, (vi t0.1)), (7, (vi t1.1)), (9, (.bool t2.1))]) ⟨(h7.1 0 (by decide)).trans rfl, hv5, hv7, hv9, trivial⟩]
    refine Jfa 8 8 underlying44 rfl ti42 rfl rfl rfl rfl ?_
    exact J0 (J4 (Ext.refl _) h5 fun G2 e1 => rfl)
   obtain ⟨v8, v9, hvs_, rfl, fb, fc, fd, fe, ff, fg, fh⟩ := h6 G1 (Ext.refl _)
   have hv5 := (List.cons.inj hvs_).1
   have hv7 := (List.cons.inj (List.cons.inj hvs_).2).1
   have hv9 := (List.cons.inj (List.cons.inj (List.cons.inj hvs_).2).2).1
   have hv11 := (List.cons.inj (List.cons.inj (List.cons.inj (List.cons.inj hvs_).2).2).2).1
   rw [J3 (ρ := q0) (l := [(0, (pt ba0 0)), (5, (vi t0.1)), (7, (vi t1.1)), (9, (.bool t2.1)), (11, v8)]) ⟨(h7.1 0 (by decide)).trans rfl, hv5, hv7, hv9, hv11, trivial⟩]
   refine Jfa 8 8 underlying44 rfl ti42 rfl rfl rfl rfl ?_
   exact J0 (J4 (Ext.refl _) h5 fun G2 e1 => rfl)
  ·intro k0 q0 w0 G1 M0 h3 h4 e0 h5 h6 h7 h8 h9 h10
   have h2_ : k0 ≤ 4 := h3
   rcases (show k0 = 0 ∨ k0 = 1 ∨ k0 = 2 ∨ k0 = 3 ∨ k0 = 4 from by omega) with rfl | rfl | rfl | rfl | rfl
   ·obtain ⟨hvs_, rfl⟩ := h6 G1 (Ext.refl _)
    obtain ⟨hd0_, _⟩ := h10
    have hv2 := hd0_
    rw [J3 (ρ := q0) (l := [(2, (pt ba0 8))]) ⟨hv2, trivial⟩]
    refine Jlb [] va0_8 ti42 h5 rfl rfl rfl ?_
    exact J0 (J4 (Ext.refl _) h5 fun G3 e2 => rfl)
   ·obtain ⟨v5, hvs_, rfl, f0, f1, f2⟩ := h6 G1 (Ext.refl _)
    have hv5 := (List.cons.inj hvs_).1
    obtain ⟨hd0_, _⟩ := h10
    have hv2 := hd0_
    rw [J3 (ρ := q0) (l := [(2, (pt ba0 8)), (5, (vi t0.1))]) ⟨hv2, hv5, trivial⟩]
    refine Jlb [_, _] va0_8 ti42 h5 rfl rfl rfl ?_
    exact J0 (J4 (Ext.refl _) h5 fun G3 e2 => rfl)
   ·obtain ⟨v6, hvs_, rfl, f3, f4, f5, f6⟩ := h6 G1 (Ext.refl _)
    have hv5 := (List.cons.inj hvs_).1
    have hv7 := (List.cons.inj (List.cons.inj hvs_).2).1
    obtain ⟨hd0_, _⟩ := h10
    have hv2 := hd0_
    rw [J3 (ρ := q0) (l := [(2, (pt ba0 8)), (5, (vi t0.1)), (7, (vi t1.1))]) ⟨hv2, hv5, hv7, trivial⟩]
    refine Jlb [_, _] va0_8 ti42 h5 rfl rfl rfl ?_
    exact J0 (J4 (Ext.refl _) h5 fun G3 e2 => rfl)
   ·obtain ⟨v7, hvs_, rfl, f7, f8, f9, fa⟩ := h6 G1 (Ext.refl _)
    have hv5 := (List.cons.inj hvs_).1
    have hv7 := (List.cons.inj (List.cons.inj hvs_).2).1
    have hv9 := (List.cons.inj (List.cons.inj (List.cons.inj hvs_).2).2).1
    obtain ⟨hd0_, _⟩ := h10
    have hv2 := hd0_
    rw [J3 (ρ := q0) (l := [(2, (pt ba0 8)), (5, (vi t0.1)), (7, (vi t1.1)), (9, (.bool t2.1))]) ⟨hv2, hv5, hv7, hv9, trivial⟩]
    refine Jlb [_, _] va0_8 ti42 h5 rfl rfl rfl ?_
    exact J0 (J4 (Ext.refl _) h5 fun G3 e2 => rfl)
   obtain ⟨v8, v9, hvs_, rfl, fb, fc, fd, fe, ff, fg, fh⟩ := h6 G1 (Ext.refl _)
   have hv5 := (List.cons.inj hvs_).1
   have hv7 := (List.cons.inj (List.cons.inj hvs_).2).1
   have hv9 := (List.cons.inj (List.cons.inj (List.cons.inj hvs_).2).2).1
   have hv11 := (List.cons.inj (List.cons.inj (List.cons.inj (List.cons.inj hvs_).2).2).2).1
   obtain ⟨hd0_, _⟩ := h10
   have hv2 := hd0_
   rw [J3 (ρ := q0) (l := [(2, (pt ba0 8)), (5, (vi t0.1)), (7, (vi t1.1)), (9, (.bool t2.1)), (11, v8)]) ⟨hv2, hv5, hv7, hv9, hv11, trivial⟩]
   refine Jlb [_, _, _] va0_8 ti42 h5 rfl rfl rfl ?_
   exact J0 (J4 (Ext.refl _) h5 fun G3 e2 => rfl)
  ·intro k0 q0 w0 G1 M0 h3 h4 e0 h5 h6 h7 h8 h9 h10
   have h2_ : k0 ≤ 0 := h9 0 3 [3] rfl (by kernel_rfl) rfl
   obtain rfl : k0 = 0 := by omega
   obtain ⟨hvs_, rfl⟩ := h6 G1 (Ext.refl _)
   rw [J3 (ρ := q0) (l := [(1, (pt ba1 0))]) ⟨(h7.1 1 (by decide)).trans rfl, trivial⟩]
   refine Jlb [_, _, _, _, _] (pt ba1_0 0) ti167 h5 rfl rfl rfl ?_
   exact J0 (J4 (Ext.refl _) h5 fun G4 e3 => rfl)
  ·intro k0 q0 w0 G1 M0 h3 h4 e0 h5 h6 h7 h8 h9 h10
   obtain rfl : k0 = 0 := h4
   obtain ⟨hvs_, rfl⟩ := h6 G1 (Ext.refl _)
   obtain ⟨hd0_, _⟩ := h10
   have hv4 := hd0_
   rw [J3 (ρ := q0) (l := [(4, (pt ba1_0 0))]) ⟨hv4, trivial⟩]
   have h11 := St.pick 7 rfl h5
   have h12 := St.pick 7 rfl h11
   refine Y6 (f := 118) (av := [(pt ba1_0 0), (vi 1)]) cf118 rfl rfl h12 rfl (fun G5 e4 h13 => fun_reader_num.ok (a0_0_ := a1_0_0_) h13 (⟨sa1_0_0__0, rfl, (SRep.mono (e0.ro.trans e4.ro) ha1_0_0__0), ha1_0_0__1⟩) ha1_0_1 (by rfl) h0) ?_
   rintro va w1 G6 G7 N0 e5 q1 ⟨vc, rfl, rfl, fj, fk, fl⟩ h14
   exact J0 (Yi e5 h14 fun G8 e6 => ⟨⟨vc, rfl, rfl, (SRep.mono e6.ro (SRep.mono q1 fk)), fl, fj⟩, trivial⟩)
  ·intro k0 q0 w0 G1 M0 h3 h4 e0 h5 h6 h7 h8 h9 h10
   have h2_ : k0 ≤ 1 := h9 1 5 [5] rfl (by kernel_rfl) rfl
   rcases (show k0 = 0 ∨ k0 = 1 from by omega) with rfl | rfl
   ·obtain ⟨hvs_, rfl⟩ := h6 G1 (Ext.refl _)
    rw [J3 (ρ := q0) (l := [(1, (pt ba1 0))]) ⟨(h7.1 1 (by decide)).trans rfl, trivial⟩]
    refine Jlb [_, _, _, _, _] (pt ba1_0 0) ti167 h5 rfl rfl rfl ?_
    exact J0 (J4 (Ext.refl _) h5 fun G9 e7 => rfl)
   obtain ⟨v5, hvs_, rfl, f0, f1, f2⟩ := h6 G1 (Ext.refl _)
   have hv5 := (List.cons.inj hvs_).1
   rw [J3 (ρ := q0) (l := [(1, (pt ba1 0)), (5, (vi t0.1))]) ⟨(h7.1 1 (by decide)).trans rfl, hv5, trivial⟩]
   refine Jlb [_, _, _, _, _, _, _] (pt ba1_0 0) ti167 h5 rfl rfl rfl ?_
   exact J0 (J4 (Ext.refl _) h5 fun G9 e7 => rfl)
  ·intro k0 q0 w0 G1 M0 h3 h4 e0 h5 h6 h7 h8 h9 h10
   obtain rfl : k0 = 1 := h4
   obtain ⟨v5, hvs_, rfl, f0, f1, f2⟩ := h6 G1 (Ext.refl _)
   have hv5 := (List.cons.inj hvs_).1
   obtain ⟨hd0_, hd1_, _⟩ := h10
   have hv6 := hd0_
   rw [J3 (ρ := q0) (l := [(5, (vi t0.1)), (6, (pt ba1_0 0))]) ⟨hv5, hv6, trivial⟩]
   have h15 := St.pick 1 rfl h5
   refine Y6 (f := 118) (av := [(pt ba1_0 0), (vi 1)]) cf118 rfl rfl h15 rfl (fun Ga e8 h16 => fun_reader_num.ok (a0_0_ := ({ b := t0.2.1, at_ := t0.2.2, live := a1_0_0_.live, bad := a1_0_0_.bad } : Xoctet_Reader)) h16 (⟨v5, rfl, (SRep.mono e8.ro f0), f1⟩) ha1_0_1 (by rfl) h1) ?_
   rintro vd w2 Gb Gc N1 e9 q2 ⟨ve, rfl, rfl, fm, fn, fo⟩ h17
   exact J0 (Yi e9 h17 fun Gd ea => ⟨⟨ve, rfl, rfl, (SRep.mono ea.ro (SRep.mono q2 fn)), fo, f2, fm⟩, trivial⟩)
  ·intro k0 q0 w0 G1 M0 h3 h4 e0 h5 h6 h7 h8 h9 h10
   have h2_ : k0 ≤ 2 := h9 2 7 [7] rfl (by kernel_rfl) rfl
   rcases (show k0 = 0 ∨ k0 = 1 ∨ k0 = 2 from by omega) with rfl | rfl | rfl
   ·obtain ⟨hvs_, rfl⟩ := h6 G1 (Ext.refl _)
    rw [J3 (ρ := q0) (l := [(1, (pt ba1 0))]) ⟨(h7.1 1 (by decide)).trans rfl, trivial⟩]
    refine Jlb [_, _, _, _, _] (pt ba1_0 0) ti167 h5 rfl rfl rfl ?_
    exact J0 (J4 (Ext.refl _) h5 fun Ge eb => rfl)
   ·obtain ⟨v5, hvs_, rfl, f0, f1, f2⟩ := h6 G1 (Ext.refl _)
    have hv5 := (List.cons.inj hvs_).1
    rw [J3 (ρ := q0) (l := [(1, (pt ba1 0)), (5, (vi t0.1))]) ⟨(h7.1 1 (by decide)).trans rfl, hv5, trivial⟩]
    refine Jlb [_, _, _, _, _, _, _] (pt ba1_0 0) ti167 h5 rfl rfl rfl ?_
    exact J0 (J4 (Ext.refl _) h5 fun Ge eb => rfl)
   obtain ⟨v6, hvs_, rfl, f3, f4, f5, f6⟩ := h6 G1 (Ext.refl _)
   have hv5 := (List.cons.inj hvs_).1
   have hv7 := (List.cons.inj (List.cons.inj hvs_).2).1
   rw [J3 (ρ := q0) (l := [(1, (pt ba1 0)), (5, (vi t0.1)), (7, (vi t1.1))]) ⟨(h7.1 1 (by decide)).trans rfl, hv5, hv7, trivial⟩]
   refine Jlb [_, _, _, _, _, _, _] (pt ba1_0 0) ti167 h5 rfl rfl rfl ?_
   exact J0 (J4 (Ext.refl _) h5 fun Ge eb => rfl)
  ·intro k0 q0 w0 G1 M0 h3 h4 e0 h5 h6 h7 h8 h9 h10
   obtain rfl : k0 = 2 := h4
   obtain ⟨v6, hvs_, rfl, f3, f4, f5, f6⟩ := h6 G1 (Ext.refl _)
   have hv5 := (List.cons.inj hvs_).1
   have hv7 := (List.cons.inj (List.cons.inj hvs_).2).1
   obtain ⟨hd0_, hd1_, _⟩ := h10
   have hv8 := hd0_
   rw [J3 (ρ := q0) (l := [(5, (vi t0.1)), (7, (vi t1.1)), (8, (pt ba1_0 0))]) ⟨hv5, hv7, hv8, trivial⟩]
   have h18 := St.pick 1 rfl h5
   refine Y6 (f := 121) (av := [(pt ba1_0 0)]) cf121 rfl rfl h18 rfl (fun Gf ec h19 => fun_reader_yes.ok (a0_0_ := ({ b := t1.2.1, at_ := t1.2.2, live := a1_0_0_.live, bad := a1_0_0_.bad } : Xoctet_Reader)) h19 (⟨v6, rfl, (SRep.mono ec.ro f3), f4⟩) ha1_0_1 h2) ?_
   rintro vf w3 Gg Gh N2 ed q3 ⟨vg, rfl, rfl, fp, fq⟩ h1a
   exact J0 (Yi ed h1a fun Gi ee => ⟨⟨vg, rfl, rfl, (SRep.mono ee.ro (SRep.mono q3 fp)), fq, f5, f6⟩, trivial⟩)
  ·intro k0 q0 w0 G1 M0 h3 h4 e0 h5 h6 h7 h8 h9 h10
   have h1_ : 2 < k0 := h8 2 7 8 [] rfl (by kernel_rfl) rfl
   have h2_ : k0 ≤ 3 := h9 3 9 [9] rfl (by kernel_rfl) rfl
   obtain rfl : k0 = 3 := by omega
   obtain ⟨v7, hvs_, rfl, f7, f8, f9, fa⟩ := h6 G1 (Ext.refl _)
   have hv5 := (List.cons.inj hvs_).1
   have hv7 := (List.cons.inj (List.cons.inj hvs_).2).1
   have hv9 := (List.cons.inj (List.cons.inj (List.cons.inj hvs_).2).2).1
   rw [J3 (ρ := q0) (l := [(5, (vi t0.1)), (7, (vi t1.1)), (9, (.bool t2.1))]) ⟨hv5, hv7, hv9, trivial⟩]
   refine Y0 (cells := #[(vi t0.1), (vi t1.1), (.bool t2.1)]) rfl (by kernel_rfl) ?_
   exact J0 (J4 (Ext.refl _) h5 fun Gj ef => ⟨rfl, f9, fa⟩)
  intro k0 q0 w0 G1 M0 h3 h4 e0 h5 h6 h7 h8 h9 h10
  obtain rfl : k0 = 3 := h4
  obtain ⟨v7, hvs_, rfl, f7, f8, f9, fa⟩ := h6 G1 (Ext.refl _)
  have hv5 := (List.cons.inj hvs_).1
  have hv7 := (List.cons.inj (List.cons.inj hvs_).2).1
  have hv9 := (List.cons.inj (List.cons.inj (List.cons.inj hvs_).2).2).1
  obtain ⟨hd0_, _⟩ := h10
  obtain ⟨hv10, fr, fs⟩ := hd0_
  rw [J3 (ρ := q0) (l := [(5, (vi t0.1)), (7, (vi t1.1)), (9, (.bool t2.1)), (10, (.agg #[(vi t0.1), (vi t1.1), (.bool t2.1)]))]) ⟨hv5, hv7, hv9, hv10, trivial⟩]
  refine Jj (cells := [(vi t0.1), (vi t1.1), (.bool t2.1)]) underlying42 ti133 h5 rfl rfl rfl rfl rfl (by kernel_rfl) ?_
  intro vh w4 h1b ft
  have E0 : EAll TReloc G1 [(vi t0.1), (vi t1.1), (.bool t2.1)] [({ At := t0.1, Sym := t1.1, Wide := t2.1 } : XReloc)] := ⟨_, _, rfl, ⟨rfl, fr, fs⟩, rfl⟩
  exact J0 (Yi (Ext.refl _) h1b fun Gk eg => ⟨⟨vh, v7, rfl, rfl, (EAll.mono eg.ro E0), (by rfl), (by decide), (SRep.mono eg.ro f7), f8, f9, fa⟩, trivial⟩)
 intro q0 w0 G1 M0 e0 h5 h6 h7 h10
 obtain ⟨v8, v9, hvs_, rfl, fb, fc, fd, fe, ff, fg, fh⟩ := h6
 have hv11 := (List.cons.inj (List.cons.inj (List.cons.inj (List.cons.inj hvs_).2).2).2).1
 have hv3 := h10 1 (by decide)
 rw [J3 (ρ := q0) (l := [(0, (pt ba0 0)), (3, va0_8), (11, v8)]) ⟨(h7.1 0 (by decide)).trans rfl, hv3, hv11, trivial⟩]
 obtain ⟨Gl, h1c, eh, fu⟩ := St.rowRep (l1 := []) (T := TReloc) (xs := [({ At := t0.1, Sym := t1.1, Wide := t2.1 } : XReloc)]) h5 fb fc fd
 obtain ⟨h1d, hr⟩ := Ya hr
 refine Yf (l1 := [_, _, _, _, _, _]) (T := TReloc) (xs := [({ At := t0.1, Sym := t1.1, Wide := t2.1 } : XReloc)]) underlying42 ti133 h1c rfl rfl fu rfl rfl rfl (app_limN rfl h1d) (app_leN rfl h1d) ?_
 intro vj w5 n0 E1 h1e
 have E2 := EAll.append (T := TReloc) (EAll.mono (e0.ro.trans eh.ro) ha0_8) E1
 refine Jfa 8 8 underlying44 rfl ti42 rfl rfl rfl rfl ?_
 refine Y5 (l1 := [_, _]) (v := vj) ti42 h1e rfl rfl (row_one (St.mid (l1 := [_, _, _, _, _, _]) h1e)) rfl ?_
 intro w6 (h1f : St B w6 Gl [.blk ba1_0_0 [v9, (vi t2.2.2), (.bool a1_0_0_.live), (.bool a1_0_0_.bad)] 163, .blk ba1_0 [(pt ba1_0_0 0), (vi a1_0_1)] 169, .blk ba0 [(vi a0_0), va0_1, (vi a0_2), (.bool a0_3), (vi a0_4), (vi a0_5), va0_6, va0_7, vj] 44, .row va0_1 3 1 a0_1.length ca0_1, .row va0_6 157 2 a0_6.length ca0_6, .row va0_7 54 5 a0_7.length ca0_7, .row vj 133 3 (a0_8.length + [({ At := t0.1, Sym := t1.1, Wide := t2.1 } : XReloc)].length) (ca0_8 ++ n0), .blk ba1 [(pt ba1_0 0)] 167])
 refine J0 ?_
 have h1g := St.row_len (l1 := [_, _, _, _, _, _]) (k := (a0_8 ++ [({ At := t0.1, Sym := t1.1, Wide := t2.1 } : XReloc)]).length) (len_app rfl) h1f
 have h1h := St.pick 7 rfl h1g
 have h1i := St.pick 2 rfl h1h
 have h1j := St.pick 2 rfl h1i
 have h1k := St.pick 3 rfl h1j
 have h1l := St.pick 7 rfl h1k
 have h1m := St.pick 7 rfl h1l
 have h1n := St.pick 7 rfl h1m
 have h1o := St.pick 7 rfl h1n
 obtain rfl := Option.some.inj hr
 exact ⟨[], trivial, _, _, _, rfl, (e0.trans eh), h1o, ⟨va0_1, va0_6, va0_7, vj, v9, ca0_1, ca0_6, ca0_7, (ca0_8 ++ n0), rfl, rfl, (EAll.mono (e0.ro.trans eh.ro) ha0_1), lha0_1, (EAll.mono (e0.ro.trans eh.ro) ha0_6), lha0_6, (EAll.mono (e0.ro.trans eh.ro) ha0_7), lha0_7, E2, (le_eq (m := (a0_8.length + [({ At := t0.1, Sym := t1.1, Wide := t2.1 } : XReloc)].length)) (len_app rfl) (app_leN rfl h1d)), (SRep.mono eh.ro fe), ff⟩⟩
def fun_reader_many_s4.l0 (t0 : (Int × (List Int) × Int)) (a0_1 : Int) (a1_c0_0 : Int) (a1_c0_2 : Int) (a1_c0_3 : Bool) (a1_c0_4 : Int) (a1_c0_5 : Int) (a0_0_ : Xoctet_Reader) (s0 : ((List Int) × Int × (List Int) × (List XLine) × (List XInstr) × (List XReloc) × Nat)) : Option (Step ((List Int) × Int × (List Int) × (List XLine) × (List XInstr) × (List XReloc) × Nat) ((List Int) × Int × (List Int) × (List XLine) × (List XInstr) × (List XReloc))) :=
 bif decide (((s0.2.2.2.2.2.2 : Nat) : Int) < t0.1) then bif decide (a0_1 ≠ 0) then none else (fun_Get_4.f a1_c0_0 s0.2.2.1 a1_c0_2 a1_c0_3 a1_c0_4 a1_c0_5 s0.2.2.2.1 s0.2.2.2.2.1 s0.2.2.2.2.2.1 ({ b := s0.1, at_ := s0.2.1, live := a0_0_.live, bad := a0_0_.bad } : Xoctet_Reader) a0_1).bind fun t1 => some (.next (t1.2.2.2.2.1, t1.2.2.2.2.2, t1.1, t1.2.1, t1.2.2.1, t1.2.2.2.1, s0.2.2.2.2.2.2 + 1)) else some (.done (s0.1, s0.2.1, s0.2.2.1, s0.2.2.2.1, s0.2.2.2.2.1, s0.2.2.2.2.2.1))
def fun_reader_many_s4.f (a0_0_ : Xoctet_Reader) (a0_1 : Int) (a1_c0_0 : Int) (a1_c0_1 : (List Int)) (a1_c0_2 : Int) (a1_c0_3 : Bool) (a1_c0_4 : Int) (a1_c0_5 : Int) (a1_c0_6 : (List XLine)) (a1_c0_7 : (List XInstr)) (a1_c0_8 : (List XReloc)) : Option (((List Int) × Int × (List Int) × (List XLine) × (List XInstr) × (List XReloc))) :=
 (fun_reader_num.f a0_0_ a0_1 1).bind fun t0 => (loop (fun_reader_many_s4.l0 t0 a0_1 a1_c0_0 a1_c0_2 a1_c0_3 a1_c0_4 a1_c0_5 a0_0_) (t0.2.1, t0.2.2, a1_c0_1, a1_c0_6, a1_c0_7, a1_c0_8, 0)).bind fun t2 => some (t2.1, t2.2.1, t2.2.2.1, t2.2.2.2.1, t2.2.2.2.2.1, t2.2.2.2.2.2)
def fun_reader_many_s4.K (ba0_0 : Nat) (a0_0_ : Xoctet_Reader) (ba0 : Nat) (a0_1 : Int) (ba1_c0 : Nat) (a1_c0_0 : Int) (a1_c0_2 : Int) (a1_c0_3 : Bool) (a1_c0_4 : Int) (a1_c0_5 : Int) (ba1_c1 : Nat) (r : ((List Int) × Int × (List Int) × (List XLine) × (List XInstr) × (List XReloc))) (G0 : GH) (v : Value) (N : List Res) : Prop := ∃ (v0 : Value) (v1 : Value) (v2 : Value) (v3 : Value) (v4 : Value) (c0 : List Value) (c1 : List Value) (c2 : List Value) (c3 : List Value), v = tup [] ∧ N = [.blk ba0_0 [v0, (vi r.2.1), (.bool a0_0_.live), (.bool a0_0_.bad)] 163, .blk ba0 [(pt ba0_0 0), (vi a0_1)] 169, .row v1 3 1 r.2.2.1.length c0, .row v2 157 2 r.2.2.2.1.length c1, .row v3 54 5 r.2.2.2.2.1.length c2, .row v4 133 3 r.2.2.2.2.2.length c3, .blk ba1_c0 [(vi a1_c0_0), v1, (vi a1_c0_2), (.bool a1_c0_3), (vi a1_c0_4), (vi a1_c0_5), v2, v3, v4] 44, .blk ba1_c1 [(pt ba0 0)] 167] ∧ SRep 5 (tInt .u8) G0 v0 r.1 ∧ InK .i64 r.2.1 ∧ EAll (tInt .i64) G0 c0 r.2.2.1 ∧ r.2.2.1.length ≤ SB ∧ EAll TLine G0 c1 r.2.2.2.1 ∧ r.2.2.2.1.length ≤ SB ∧ EAll TInstr G0 c2 r.2.2.2.2.1 ∧ r.2.2.2.2.1.length ≤ SB ∧ EAll TReloc G0 c3 r.2.2.2.2.2 ∧ r.2.2.2.2.2.length ≤ SB
theorem fun_reader_many_s4.ok {ba0 : Nat} {ba0_0 : Nat} {ca0_0_ : List Value} {a0_0_ : Xoctet_Reader} {a0_1 : Int} {ba1_c0 : Nat} {a1_c0_0 : Int} {va1_c0_1 : Value} {ca1_c0_1 : List Value} {a1_c0_1 : (List Int)} {a1_c0_2 : Int} {a1_c0_3 : Bool} {a1_c0_4 : Int} {a1_c0_5 : Int} {va1_c0_6 : Value} {ca1_c0_6 : List Value} {a1_c0_6 : (List XLine)} {va1_c0_7 : Value} {ca1_c0_7 : List Value} {a1_c0_7 : (List XInstr)} {va1_c0_8 : Value} {ca1_c0_8 : List Value} {a1_c0_8 : (List XReloc)} {ba1_c1 : Nat} (st : St B w G [.blk ba0 [(pt ba0_0 0), (vi a0_1)] 169, .blk ba0_0 ca0_0_ 163, .blk ba1_c0 [(vi a1_c0_0), va1_c0_1, (vi a1_c0_2), (.bool a1_c0_3), (vi a1_c0_4), (vi a1_c0_5), va1_c0_6, va1_c0_7, va1_c0_8] 44, .row va1_c0_1 3 1 a1_c0_1.length ca1_c0_1, .row va1_c0_6 157 2 a1_c0_6.length ca1_c0_6, .row va1_c0_7 54 5 a1_c0_7.length ca1_c0_7, .row va1_c0_8 133 3 a1_c0_8.length ca1_c0_8, .blk ba1_c1 [(pt ba0 0)] 167]) (ha0_0_ : Toctet_Reader.rep G ca0_0_ a0_0_) (ha0_1 : InK .i64 a0_1) (ha1_c0_0 : InK .i64 a1_c0_0) (ha1_c0_1 : EAll (tInt .i64) G ca1_c0_1 a1_c0_1) (lha1_c0_1 : a1_c0_1.length ≤ SB) (ha1_c0_2 : InK .i64 a1_c0_2) (ha1_c0_4 : InK .i64 a1_c0_4) (ha1_c0_5 : InK .i64 a1_c0_5) (ha1_c0_6 : EAll TLine G ca1_c0_6 a1_c0_6) (lha1_c0_6 : a1_c0_6.length ≤ SB) (ha1_c0_7 : EAll TInstr G ca1_c0_7 a1_c0_7) (lha1_c0_7 : a1_c0_7.length ≤ SB) (ha1_c0_8 : EAll TReloc G ca1_c0_8 a1_c0_8) (lha1_c0_8 : a1_c0_8.length ≤ SB) {r : ((List Int) × Int × (List Int) × (List XLine) × (List XInstr) × (List XReloc))} (hr : fun_reader_many_s4.f a0_0_ a0_1 a1_c0_0 a1_c0_1 a1_c0_2 a1_c0_3 a1_c0_4 a1_c0_5 a1_c0_6 a1_c0_7 a1_c0_8 = some r) :
 Calls Tryz.prog 119 ([(pt ba0 0), (.func (.func 126) #[] #[(pt ba1_c0 0), (pt ba1_c1 0)])] : List Value).toArray w (Ret B G (fun_reader_many_s4.K ba0_0 a0_0_ ba0 a0_1 ba1_c0 a1_c0_0 a1_c0_2 a1_c0_3 a1_c0_4 a1_c0_5 ba1_c1 r)) := by
 obtain ⟨sa0_0__0, rfl, ha0_0__0, ha0_0__1⟩ := ha0_0_
 refine Jc [] func119 rfl ntmps119 rfl rfl ?_
 refine J2 (J1 ?_)
 refine Jmv (pt ba0 0) rfl rfl ?_
 have h0 := St.pick 1 rfl st
 have h1 := St.pick 1 rfl h0
 obtain ⟨t0, h2, hr⟩ := J6 hr
 refine Y6 (f := 118) (av := [(pt ba0 0), (vi 1)]) cf118 rfl rfl h1 rfl (fun G1 e0 h3 => fun_reader_num.ok (a0_0_ := a0_0_) h3 (⟨sa0_0__0, rfl, (SRep.mono e0.ro ha0_0__0), ha0_0__1⟩) ha0_1 (by rfl) h2) ?_
 rintro v5 w0 G2 G3 N0 e1 q0 ⟨v6, rfl, rfl, f0, f1, f2⟩ h4
 refine Jmv (vi 0) rfl rfl ?_
 refine J0 (Jb ?_)
 obtain ⟨t2, h5, hr⟩ := J6 hr
 have h6 := St.pick 7 rfl h4
 have h7 := St.pick 3 rfl h6
 have h8 := St.pick 7 rfl h7
 have h9 := St.pick 7 rfl h8
 have h10 := St.pick 7 rfl h9
 have h11 := St.pick 7 rfl h10
 have h12 := St.pick 7 rfl h11
 have h13 := St.pick 7 rfl h12
 refine Js 0 h5 (fun s0 ρ w => ∃ (σ0 : Env) (G4 : GH) (v7 : Value) (v8 : Value) (v9 : Value) (va : Value) (vc : Value) (c4 : List Value) (c5 : List Value) (c6 : List Value) (c7 : List Value), ρ = En σ0 [(0, (pt ba0 0)), (1, (.func (.func 126) #[] #[(pt ba1_c0 0), (pt ba1_c1 0)])), (5, (vi t0.1)), (6, (vi ((s0.2.2.2.2.2.2 : Nat) : Int)))] ∧ Ext G3 G4 ∧ St B w G4 [.blk ba0_0 [v7, (vi s0.2.1), (.bool a0_0_.live), (.bool a0_0_.bad)] 163, .blk ba0 [(pt ba0_0 0), (vi a0_1)] 169, .row v8 3 1 s0.2.2.1.length c4, .row v9 157 2 s0.2.2.2.1.length c5, .row va 54 5 s0.2.2.2.2.1.length c6, .row vc 133 3 s0.2.2.2.2.2.1.length c7, .blk ba1_c0 [(vi a1_c0_0), v8, (vi a1_c0_2), (.bool a1_c0_3), (vi a1_c0_4), (vi a1_c0_5), v9, va, vc] 44, .blk ba1_c1 [(pt ba0 0)] 167] ∧ SRep 5 (tInt .u8) G4 v7 s0.1 ∧ InK .i64 s0.2.1 ∧ EAll (tInt .i64) G4 c4 s0.2.2.1 ∧ s0.2.2.1.length ≤ SB ∧ EAll TLine G4 c5 s0.2.2.2.1 ∧ s0.2.2.2.1.length ≤ SB ∧ EAll TInstr G4 c6 s0.2.2.2.2.1 ∧ s0.2.2.2.2.1.length ≤ SB ∧ EAll TReloc G4 c7 s0.2.2.2.2.2.1 ∧ s0.2.2.2.2.2.1.length ≤ SB ∧ InK .i64 ((s0.2.2.2.2.2.2 : Nat) : Int)) (fun t3 ρ w => ∃ (σ1 : Env) (G5 : GH) (vd : Value) (ve : Value) (vf : Value) (vg : Value) (vh : Value) (c8 : List Value) (c9 : List Value) (ca : List Value) (cb : List Value), ρ = En σ1 [] ∧ Ext G3 G5 ∧ St B w G5 [.blk ba0_0 [vd, (vi t3.2.1), (.bool a0_0_.live), (.bool a0_0_.bad)] 163, .blk ba0 [(pt ba0_0 0), (vi a0_1)] 169, .row ve 3 1 t3.2.2.1.length c8, .row vf 157 2 t3.2.2.2.1.length c9, .row vg 54 5 t3.2.2.2.2.1.length ca, .row vh 133 3 t3.2.2.2.2.2.length cb, .blk ba1_c0 [(vi a1_c0_0), ve, (vi a1_c0_2), (.bool a1_c0_3), (vi a1_c0_4), (vi a1_c0_5), vf, vg, vh] 44, .blk ba1_c1 [(pt ba0 0)] 167] ∧ SRep 5 (tInt .u8) G5 vd t3.1 ∧ InK .i64 t3.2.1 ∧ EAll (tInt .i64) G5 c8 t3.2.2.1 ∧ t3.2.2.1.length ≤ SB ∧ EAll TLine G5 c9 t3.2.2.2.1 ∧ t3.2.2.2.1.length ≤ SB ∧ EAll TInstr G5 ca t3.2.2.2.2.1 ∧ t3.2.2.2.2.1.length ≤ SB ∧ EAll TReloc G5 cb t3.2.2.2.2.2 ∧ t3.2.2.2.2.2.length ≤ SB) ⟨_, _, v6, va1_c0_1, va1_c0_6, va1_c0_7, va1_c0_8, ca1_c0_1, ca1_c0_6, ca1_c0_7, ca1_c0_8, (J3 ⟨rfl, rfl, rfl, rfl, trivial⟩), (Ext.refl _), h13, (SRep.mono q0 f1), f2, (EAll.mono e1.ro ha1_c0_1), lha1_c0_1, (EAll.mono e1.ro ha1_c0_6), lha1_c0_6, (EAll.mono e1.ro ha1_c0_7), lha1_c0_7, (EAll.mono e1.ro ha1_c0_8), lha1_c0_8, (by rfl)⟩ ?_ ?_
 ·rintro s0 x0 _ _ hr ⟨σ0, G4, v7, v8, v9, va, vc, c4, c5, c6, c7, rfl, e2, h14, f3, f4, f5, f6, f7, f8, f9, fa, fb, fc, fd⟩
  refine J2 (J1 ?_)
  refine Ji rfl rfl rfl ?_
  refine J0 (J2 ?_)
  refine J7 rfl (fun h15 => ?_) (fun h15 => ?_)
  ·replace hr := Jx hr h15
   refine J9 (J2 (Jb (J2 (J2 (J1 ?_)))))
   refine Jmv (pt ba0 0) rfl rfl ?_
   refine Je rfl rfl ?_
   refine Jfa 1 1 underlying169 rfl ti29 rfl rfl rfl rfl ?_
   refine Jlb [_] (vi a0_1) ti29 h14 rfl rfl rfl ?_
   refine Y1 rfl rfl rfl ?_
   refine J0 ?_
   refine J7 rfl (fun h16 => ?_) (fun h16 => ?_)
   ·exact Jk hr h16
   replace hr := Jf hr h16
   refine J9 (J1 ?_)
   refine Jmv (.func (.func 126) #[] #[(pt ba1_c0 0), (pt ba1_c1 0)]) rfl rfl ?_
   have h17 := St.pick 1 rfl h14
   have h18 := St.pick 7 rfl h17
   have h19 := St.pick 6 rfl h18
   have h1a := St.pick 6 rfl h19
   have h1b := St.pick 6 rfl h1a
   have h1c := St.pick 6 rfl h1b
   have h1d := St.pick 7 rfl h1c
   obtain ⟨t1, h1e, hr⟩ := J6 hr
   refine Yd (N := [_, _, _, _, _, _, _, _]) (R := []) (f := 126) (av := [(pt ba1_c0 0), (pt ba1_c1 0)]) cf126 rfl rfl h1d rfl (fun G6 e3 h1f => fun_Get_4.ok (a1_0_0_ := ({ b := s0.1, at_ := s0.2.1, live := a0_0_.live, bad := a0_0_.bad } : Xoctet_Reader)) h1f ha1_c0_0 (EAll.mono e3.ro f5) f6 ha1_c0_2 ha1_c0_4 ha1_c0_5 (EAll.mono e3.ro f7) f8 (EAll.mono e3.ro f9) fa (EAll.mono e3.ro fb) fc (⟨v7, rfl, (SRep.mono e3.ro f3), f4⟩) ha0_1 h1e) ?_
   rintro vj w1 G7 G8 N1 e4 q1 ⟨vk, vl, vm, vn, vo, cc, cd, ce, cf, rfl, rfl, fe, ff, fg, fh, fj, fk, fl, fm, fn, fo⟩ h1g
   refine J0 (J1 ?_)
   refine Y2 rfl rfl rfl (of_decide_eq_true h15) f0 ?_
   refine Jmv (vi ((s0.2.2.2.2.2.2 + 1 : Nat) : Int)) rfl rfl ?_
   refine J0 ?_
   have h1h := St.pick 7 rfl h1g
   have h1i := St.pick 5 rfl h1h
   have h1j := St.pick 5 rfl h1i
   have h1k := St.pick 5 rfl h1j
   have h1l := St.pick 5 rfl h1k
   have h1m := St.pick 5 rfl h1l
   have h1n := St.pick 7 rfl h1m
   have h1o := St.pick 7 rfl h1n
   exact ⟨_, (Option.some.inj hr).symm, _, _, vo, vk, vl, vm, vn, cc, cd, ce, cf, (J3 ⟨rfl, rfl, rfl, rfl, trivial⟩), (e2.trans e4), h1o, (SRep.mono q1 fn), fo, (EAll.mono q1 fe), ff, (EAll.mono q1 fg), fh, (EAll.mono q1 fj), fk, (EAll.mono q1 fl), fm, (inK_inc (of_decide_eq_true h15) f0)⟩
  replace hr := Jf hr h15
  refine Jr ?_
  have h1p := St.pick 7 rfl h14
  have h1q := St.pick 7 rfl h1p
  have h1r := St.pick 7 rfl h1q
  have h1s := St.pick 7 rfl h1r
  have h1t := St.pick 7 rfl h1s
  have h1u := St.pick 7 rfl h1t
  have h1v := St.pick 7 rfl h1u
  have h1w := St.pick 7 rfl h1v
  exact ⟨_, (Option.some.inj hr).symm, rfl, _, _, v7, v8, v9, va, vc, c4, c5, c6, c7, rfl, e2, h1w, f3, f4, f5, f6, f7, f8, f9, fa, fb, fc⟩
 rintro _ _ ⟨σ1, G5, vd, ve, vf, vg, vh, c8, c9, ca, cb, rfl, e5, h1x, fp, fq, fr, fs, ft, fu, fv, fw, fx, fy⟩
 have h1y := St.pick 7 rfl h1x
 have h1z := St.pick 7 rfl h1y
 have h20 := St.pick 7 rfl h1z
 have h21 := St.pick 7 rfl h20
 have h22 := St.pick 7 rfl h21
 have h23 := St.pick 7 rfl h22
 have h24 := St.pick 7 rfl h23
 have h25 := St.pick 7 rfl h24
 obtain rfl := Option.some.inj hr
 exact ⟨[], trivial, _, _, _, rfl, (e1.trans e5), h25, ⟨vd, ve, vf, vg, vh, c8, c9, ca, cb, rfl, rfl, fp, fq, fr, fs, ft, fu, fv, fw, fx, fy⟩⟩
def fun_Get.f (a0_ : Xoctet_Reader) : Option ((Int × (List Int) × Int × Bool × Int × Int × (List XLine) × (List XInstr) × (List XReloc) × (List Int) × Int)) :=
 (fun_reader_num.f a0_ 0 1).bind fun t0 => (fun_reader_many.f ({ b := t0.2.1, at_ := t0.2.2, live := a0_.live, bad := a0_.bad } : Xoctet_Reader) 0 t0.1 ([] : (List Int)) 0 false 0 0 ([] : (List XLine)) ([] : (List XInstr)) ([] : (List XReloc))).bind fun t1 => (fun_reader_num.f ({ b := t1.1, at_ := t1.2.1, live := a0_.live, bad := a0_.bad } : Xoctet_Reader) 0 2).bind fun t2 => (fun_reader_yes.f ({ b := t2.2.1, at_ := t2.2.2, live := a0_.live, bad := a0_.bad } : Xoctet_Reader) 0).bind fun t3 => (fun_reader_num.f ({ b := t3.2.1, at_ := t3.2.2, live := a0_.live, bad := a0_.bad } : Xoctet_Reader) 0 1).bind fun t4 => (fun_reader_num.f ({ b := t4.2.1, at_ := t4.2.2, live := a0_.live, bad := a0_.bad } : Xoctet_Reader) 0 1).bind fun t5 => (fun_reader_many_s2.f ({ b := t5.2.1, at_ := t5.2.2, live := a0_.live, bad := a0_.bad } : Xoctet_Reader) 0 t0.1 t1.2.2.1 t2.1 t3.1 t4.1 t5.1 t1.2.2.2.1 t1.2.2.2.2.1 t1.2.2.2.2.2).bind fun t6 => (fun_reader_many_s3.f ({ b := t6.1, at_ := t6.2.1, live := a0_.live, bad := a0_.bad } : Xoctet_Reader) 0 t0.1 t6.2.2.1 t2.1 t3.1 t4.1 t5.1 t6.2.2.2.1 t6.2.2.2.2.1 t6.2.2.2.2.2).bind fun t7 => (fun_reader_many_s4.f ({ b := t7.1, at_ := t7.2.1, live := a0_.live, bad := a0_.bad } : Xoctet_Reader) 0 t0.1 t7.2.2.1 t2.1 t3.1 t4.1 t5.1 t7.2.2.2.1 t7.2.2.2.2.1 t7.2.2.2.2.2).bind fun t8 => some (t0.1, t8.2.2.1, t2.1, t3.1, t4.1, t5.1, t8.2.2.2.1, t8.2.2.2.2.1, t8.2.2.2.2.2, t8.1, t8.2.1)
def fun_Get.K (ba0 : Nat) (a0_ : Xoctet_Reader) (r : (Int × (List Int) × Int × Bool × Int × Int × (List XLine) × (List XInstr) × (List XReloc) × (List Int) × Int)) (G0 : GH) (v : Value) (N : List Res) : Prop := ∃ (v0 : Value) (v1 : Value) (v2 : Value) (v3 : Value) (v4 : Value) (c0 : List Value) (c1 : List Value) (c2 : List Value) (c3 : List Value), v = tup [(.agg #[(vi r.1), v0, (vi r.2.2.1), (.bool r.2.2.2.1), (vi r.2.2.2.2.1), (vi r.2.2.2.2.2.1), v1, v2, v3]), (vi 0)] ∧ N = [.row v0 3 1 r.2.1.length c0, .row v1 157 2 r.2.2.2.2.2.2.1.length c1, .row v2 54 5 r.2.2.2.2.2.2.2.1.length c2, .row v3 133 3 r.2.2.2.2.2.2.2.2.1.length c3, .blk ba0 [v4, (vi r.2.2.2.2.2.2.2.2.2.2), (.bool a0_.live), (.bool a0_.bad)] 163] ∧ InK .i64 r.1 ∧ EAll (tInt .i64) G0 c0 r.2.1 ∧ r.2.1.length ≤ SB ∧ InK .i64 r.2.2.1 ∧ InK .i64 r.2.2.2.2.1 ∧ InK .i64 r.2.2.2.2.2.1 ∧ EAll TLine G0 c1 r.2.2.2.2.2.2.1 ∧ r.2.2.2.2.2.2.1.length ≤ SB ∧ EAll TInstr G0 c2 r.2.2.2.2.2.2.2.1 ∧ r.2.2.2.2.2.2.2.1.length ≤ SB ∧ EAll TReloc G0 c3 r.2.2.2.2.2.2.2.2.1 ∧ r.2.2.2.2.2.2.2.2.1.length ≤ SB ∧ SRep 5 (tInt .u8) G0 v4 r.2.2.2.2.2.2.2.2.2.1 ∧ InK .i64 r.2.2.2.2.2.2.2.2.2.2
theorem fun_Get.ok {ba0 : Nat} {ca0_ : List Value} {a0_ : Xoctet_Reader} (st : St B w G [.blk ba0 ca0_ 163]) (ha0_ : Toctet_Reader.rep G ca0_ a0_) {r : (Int × (List Int) × Int × Bool × Int × Int × (List XLine) × (List XInstr) × (List XReloc) × (List Int) × Int)} (hr : fun_Get.f a0_ = some r) :
 Calls Tryz.prog 64 ([(pt ba0 0)] : List Value).toArray w (Ret B G (fun_Get.K ba0 a0_ r)) := by
 obtain ⟨sa0__0, rfl, ha0__0, ha0__1⟩ := ha0_
 refine Jc [.cell 2 44, .tmp 3] func64 rfl ntmps64 rfl rfl ?_
 refine J2 (J1 ?_)
 refine Ju (cs := [(pt ba0 0)]) st rfl rfl rfl ?_
 intro b0 w0 h0
 refine Jo ti44 h0 rfl ?_
 intro b1 w1 h1
 refine Jsv (vi 0) rfl rfl ?_
 refine J0 (J2 (J1 ?_))
 refine Jlb [_] (pt ba0 0) ti104 h1 rfl rfl rfl ?_
 refine Y0 (cells := #[(pt ba0 0), (vi 0)]) rfl (by kernel_rfl) ?_
 refine Ju (cs := [(pt ba0 0), (vi 0)]) h1 rfl rfl rfl ?_
 intro b2 w2 h2
 refine Jo ti167 h2 rfl ?_
 intro b3 w3 h3
 refine Y5 (l1 := []) (v := (pt b2 0)) ti167 h3 rfl rfl rfl rfl ?_
 intro w4 (h4 : St B w4 G [.blk b3 [(pt b2 0)] 167, .blk b2 [(pt ba0 0), (vi 0)] 169, .blk b1 [(vi 0), (.slice none 0 0), (vi 0), (.bool false), (vi 0), (vi 0), (.slice none 0 0), (.slice none 0 0), (.slice none 0 0)] 44, .blk b0 [(pt ba0 0)] 104, .blk ba0 [sa0__0, (vi a0_.at_), (.bool a0_.live), (.bool a0_.bad)] 163])
 refine J0 (J2 (J1 ?_))
 refine Jlb [] (pt b2 0) ti167 h4 rfl rfl rfl ?_
 have h5 := St.pick 4 rfl h4
 have h6 := St.pick 2 rfl h5
 obtain ⟨t0, h7, hr⟩ := J6 hr
 refine Y6 (f := 118) (av := [(pt b2 0), (vi 1)]) cf118 rfl rfl h6 rfl (fun G1 e0 h8 => fun_reader_num.ok (a0_0_ := a0_) h8 (⟨sa0__0, rfl, (SRep.mono e0.ro ha0__0), ha0__1⟩) (by rfl) (by rfl) h7) ?_
 rintro v5 w5 G2 G3 N0 e1 q0 ⟨v6, rfl, rfl, f0, f1, f2⟩ h9
 refine Y0 (cells := #[(vi t0.1), (.slice none 0 0), (vi 0), (.bool false), (vi 0), (vi 0), (.slice none 0 0), (.slice none 0 0), (.slice none 0 0)]) rfl (by kernel_rfl) ?_
 refine Jo ti44 h9 rfl ?_
 intro b4 w6 h10
 refine Jp (l1 := []) (vs := [(vi t0.1), (.slice none 0 0), (vi 0), (.bool false), (vi 0), (vi 0), (.slice none 0 0), (.slice none 0 0), (.slice none 0 0)]) ti44 h10 rfl rfl rfl (J5 rfl (J5 rfl (J5 rfl (J5 rfl (J5 rfl (J5 rfl (J5 rfl (J5 rfl (J5 rfl (fun _ h => nomatch h)))))))))) rfl ?_
 intro w7 (h11 : St B w7 G3 [.blk b4 [(vi t0.1), (.slice none 0 0), (vi 0), (.bool false), (vi 0), (vi 0), (.slice none 0 0), (.slice none 0 0), (.slice none 0 0)] 44, .blk ba0 [v6, (vi t0.2.2), (.bool a0_.live), (.bool a0_.bad)] 163, .blk b2 [(pt ba0 0), (vi 0)] 169, .blk b3 [(pt b2 0)] 167, .blk b1 [(vi 0), (.slice none 0 0), (vi 0), (.bool false), (vi 0), (vi 0), (.slice none 0 0), (.slice none 0 0), (.slice none 0 0)] 44, .blk b0 [(pt ba0 0)] 104])
 refine J0 (J2 (J1 ?_))
 refine Jlb [_, _, _] (pt b2 0) ti167 h11 rfl rfl rfl ?_
 refine Yg (fs := []) (cs := [(pt b4 0), (pt b3 0)]) rfl rfl rfl ?_
 have h12 := St.nilRow h11 3 1
 have h13 := St.row_len (l1 := []) (k := ([] : (List Int)).length) rfl h12
 have h14 := St.nilRow h13 157 2
 have h15 := St.row_len (l1 := []) (k := ([] : (List XLine)).length) rfl h14
 have h16 := St.nilRow h15 54 5
 have h17 := St.row_len (l1 := []) (k := ([] : (List XInstr)).length) rfl h16
 have h18 := St.nilRow h17 133 3
 have h19 := St.row_len (l1 := []) (k := ([] : (List XReloc)).length) rfl h18
 have h1a := St.pick 7 rfl h19
 have h1b := St.pick 1 rfl h1a
 have h1c := St.pick 2 rfl h1b
 have h1d := St.pick 3 rfl h1c
 have h1e := St.pick 4 rfl h1d
 have h1f := St.pick 5 rfl h1e
 have h1g := St.pick 6 rfl h1f
 have h1h := St.pick 7 rfl h1g
 obtain ⟨t1, h1i, hr⟩ := J6 hr
 refine Yd (N := [_, _, _, _, _, _, _, _]) (R := [.blk b1 [(vi 0), (.slice none 0 0), (vi 0), (.bool false), (vi 0), (vi 0), (.slice none 0 0), (.slice none 0 0), (.slice none 0 0)] 44, .blk b0 [(pt ba0 0)] 104]) (f := 119) (av := [(pt b2 0), (.func (.func 120) #[] #[(pt b4 0), (pt b3 0)])]) cf119 rfl rfl h1h rfl (fun G4 e2 h1j => fun_reader_many.ok (a0_0_ := ({ b := t0.2.1, at_ := t0.2.2, live := a0_.live, bad := a0_.bad } : Xoctet_Reader)) h1j (⟨v6, rfl, (SRep.mono e2.ro (SRep.mono q0 f1)), f2⟩) (by rfl) f0 (EAll.mono e2.ro EAll.nil) (le_eq (m := 0) rfl (Nat.zero_le _)) (by rfl) (by rfl) (by rfl) (EAll.mono e2.ro EAll.nil) (le_eq (m := 0) rfl (Nat.zero_le _)) (EAll.mono e2.ro EAll.nil) (le_eq (m := 0) rfl (Nat.zero_le _)) (EAll.mono e2.ro EAll.nil) (le_eq (m := 0) rfl (Nat.zero_le _)) h1i) ?_
 rintro v7 w8 G5 G6 N1 e3 q1 ⟨v8, v9, va, vc, vd, c4, c5, c6, c7, rfl, rfl, f3, f4, f5, f6, f7, f8, f9, fa, fb, fc⟩ h1k
 refine J0 (J2 (J1 ?_))
 refine Jlb [_, _, _, _, _, _, _] (pt b2 0) ti167 h1k rfl rfl rfl ?_
 have h1l := St.pick 1 rfl h1k
 obtain ⟨t2, h1m, hr⟩ := J6 hr
 refine Y6 (f := 118) (av := [(pt b2 0), (vi 2)]) cf118 rfl rfl h1l rfl (fun G7 e4 h1n => fun_reader_num.ok (a0_0_ := ({ b := t1.1, at_ := t1.2.1, live := a0_.live, bad := a0_.bad } : Xoctet_Reader)) h1n (⟨v8, rfl, (SRep.mono e4.ro (SRep.mono q1 f3)), f4⟩) (by rfl) (by rfl) h1m) ?_
 rintro ve w9 G8 G9 N2 e5 q2 ⟨vf, rfl, rfl, fd, fe, ff⟩ h1o
 refine Jfa 2 2 underlying44 rfl ti3 rfl rfl rfl rfl ?_
 refine Y5 (l1 := [_, _, _, _, _, _]) (v := (vi t2.1)) ti3 h1o rfl rfl rfl rfl ?_
 intro wa (h1p : St B wa G9 [.blk ba0 [vf, (vi t2.2.2), (.bool a0_.live), (.bool a0_.bad)] 163, .blk b2 [(pt ba0 0), (vi 0)] 169, .row v9 3 1 t1.2.2.1.length c4, .row va 157 2 t1.2.2.2.1.length c5, .row vc 54 5 t1.2.2.2.2.1.length c6, .row vd 133 3 t1.2.2.2.2.2.length c7, .blk b4 [(vi t0.1), v9, (vi t2.1), (.bool false), (vi 0), (vi 0), va, vc, vd] 44, .blk b3 [(pt b2 0)] 167, .blk b1 [(vi 0), (.slice none 0 0), (vi 0), (.bool false), (vi 0), (vi 0), (.slice none 0 0), (.slice none 0 0), (.slice none 0 0)] 44, .blk b0 [(pt ba0 0)] 104])
 refine J0 (J2 (J1 ?_))
 refine Jlb [_, _, _, _, _, _, _] (pt b2 0) ti167 h1p rfl rfl rfl ?_
 have h1q := St.pick 1 rfl h1p
 obtain ⟨t3, h1r, hr⟩ := J6 hr
 refine Y6 (f := 121) (av := [(pt b2 0)]) cf121 rfl rfl h1q rfl (fun Ga e6 h1s => fun_reader_yes.ok (a0_0_ := ({ b := t2.2.1, at_ := t2.2.2, live := a0_.live, bad := a0_.bad } : Xoctet_Reader)) h1s (⟨vf, rfl, (SRep.mono e6.ro (SRep.mono q2 fe)), ff⟩) (by rfl) h1r) ?_
 rintro vg wb Gb Gc N3 e7 q3 ⟨vh, rfl, rfl, fg, fh⟩ h1t
 refine Jfa 3 3 underlying44 rfl ti4 rfl rfl rfl rfl ?_
 refine Y5 (l1 := [_, _, _, _, _, _]) (v := (.bool t3.1)) ti4 h1t rfl rfl rfl rfl ?_
 intro wc (h1u : St B wc Gc [.blk ba0 [vh, (vi t3.2.2), (.bool a0_.live), (.bool a0_.bad)] 163, .blk b2 [(pt ba0 0), (vi 0)] 169, .row v9 3 1 t1.2.2.1.length c4, .row va 157 2 t1.2.2.2.1.length c5, .row vc 54 5 t1.2.2.2.2.1.length c6, .row vd 133 3 t1.2.2.2.2.2.length c7, .blk b4 [(vi t0.1), v9, (vi t2.1), (.bool t3.1), (vi 0), (vi 0), va, vc, vd] 44, .blk b3 [(pt b2 0)] 167, .blk b1 [(vi 0), (.slice none 0 0), (vi 0), (.bool false), (vi 0), (vi 0), (.slice none 0 0), (.slice none 0 0), (.slice none 0 0)] 44, .blk b0 [(pt ba0 0)] 104])
 refine J0 (J2 (J1 ?_))
 refine Jlb [_, _, _, _, _, _, _] (pt b2 0) ti167 h1u rfl rfl rfl ?_
 have h1v := St.pick 1 rfl h1u
 obtain ⟨t4, h1w, hr⟩ := J6 hr
 refine Y6 (f := 118) (av := [(pt b2 0), (vi 1)]) cf118 rfl rfl h1v rfl (fun Gd e8 h1x => fun_reader_num.ok (a0_0_ := ({ b := t3.2.1, at_ := t3.2.2, live := a0_.live, bad := a0_.bad } : Xoctet_Reader)) h1x (⟨vh, rfl, (SRep.mono e8.ro (SRep.mono q3 fg)), fh⟩) (by rfl) (by rfl) h1w) ?_
 rintro vj wd Ge Gf N4 e9 q4 ⟨vk, rfl, rfl, fj, fk, fl⟩ h1y
 refine Jfa 4 4 underlying44 rfl ti3 rfl rfl rfl rfl ?_
 refine Y5 (l1 := [_, _, _, _, _, _]) (v := (vi t4.1)) ti3 h1y rfl rfl rfl rfl ?_
 intro we (h1z : St B we Gf [.blk ba0 [vk, (vi t4.2.2), (.bool a0_.live), (.bool a0_.bad)] 163, .blk b2 [(pt ba0 0), (vi 0)] 169, .row v9 3 1 t1.2.2.1.length c4, .row va 157 2 t1.2.2.2.1.length c5, .row vc 54 5 t1.2.2.2.2.1.length c6, .row vd 133 3 t1.2.2.2.2.2.length c7, .blk b4 [(vi t0.1), v9, (vi t2.1), (.bool t3.1), (vi t4.1), (vi 0), va, vc, vd] 44, .blk b3 [(pt b2 0)] 167, .blk b1 [(vi 0), (.slice none 0 0), (vi 0), (.bool false), (vi 0), (vi 0), (.slice none 0 0), (.slice none 0 0), (.slice none 0 0)] 44, .blk b0 [(pt ba0 0)] 104])
 refine J0 (J2 (J1 ?_))
 refine Jlb [_, _, _, _, _, _, _] (pt b2 0) ti167 h1z rfl rfl rfl ?_
 have h20 := St.pick 1 rfl h1z
 obtain ⟨t5, h21, hr⟩ := J6 hr
 refine Y6 (f := 118) (av := [(pt b2 0), (vi 1)]) cf118 rfl rfl h20 rfl (fun Gg ea h22 => fun_reader_num.ok (a0_0_ := ({ b := t4.2.1, at_ := t4.2.2, live := a0_.live, bad := a0_.bad } : Xoctet_Reader)) h22 (⟨vk, rfl, (SRep.mono ea.ro (SRep.mono q4 fk)), fl⟩) (by rfl) (by rfl) h21) ?_
 rintro vl wf Gh Gi N5 eb q5 ⟨vm, rfl, rfl, fm, fn, fo⟩ h23
 refine Jfa 5 5 underlying44 rfl ti3 rfl rfl rfl rfl ?_
 refine Y5 (l1 := [_, _, _, _, _, _]) (v := (vi t5.1)) ti3 h23 rfl rfl rfl rfl ?_
 intro wg (h24 : St B wg Gi [.blk ba0 [vm, (vi t5.2.2), (.bool a0_.live), (.bool a0_.bad)] 163, .blk b2 [(pt ba0 0), (vi 0)] 169, .row v9 3 1 t1.2.2.1.length c4, .row va 157 2 t1.2.2.2.1.length c5, .row vc 54 5 t1.2.2.2.2.1.length c6, .row vd 133 3 t1.2.2.2.2.2.length c7, .blk b4 [(vi t0.1), v9, (vi t2.1), (.bool t3.1), (vi t4.1), (vi t5.1), va, vc, vd] 44, .blk b3 [(pt b2 0)] 167, .blk b1 [(vi 0), (.slice none 0 0), (vi 0), (.bool false), (vi 0), (vi 0), (.slice none 0 0), (.slice none 0 0), (.slice none 0 0)] 44, .blk b0 [(pt ba0 0)] 104])
 refine J0 (J2 (J1 ?_))
 refine Jlb [_, _, _, _, _, _, _] (pt b2 0) ti167 h24 rfl rfl rfl ?_
 refine Yg (fs := []) (cs := [(pt b4 0), (pt b3 0)]) rfl rfl rfl ?_
 have h25 := St.pick 7 rfl h24
 have h26 := St.pick 6 rfl h25
 have h27 := St.pick 6 rfl h26
 have h28 := St.pick 6 rfl h27
 have h29 := St.pick 6 rfl h28
 have h2a := St.pick 7 rfl h29
 have h2b := St.pick 6 rfl h2a
 have h2c := St.pick 7 rfl h2b
 obtain ⟨t6, h2d, hr⟩ := J6 hr
 refine Yd (N := [_, _, _, _, _, _, _, _]) (R := [.blk b1 [(vi 0), (.slice none 0 0), (vi 0), (.bool false), (vi 0), (vi 0), (.slice none 0 0), (.slice none 0 0), (.slice none 0 0)] 44, .blk b0 [(pt ba0 0)] 104]) (f := 119) (av := [(pt b2 0), (.func (.func 122) #[] #[(pt b4 0), (pt b3 0)])]) cf119 rfl rfl h2c rfl (fun Gj ec h2e => fun_reader_many_s2.ok (a0_0_ := ({ b := t5.2.1, at_ := t5.2.2, live := a0_.live, bad := a0_.bad } : Xoctet_Reader)) h2e (⟨vm, rfl, (SRep.mono ec.ro (SRep.mono q5 fn)), fo⟩) (by rfl) f0 (EAll.mono ((e5.ro.trans (e7.ro.trans (e9.ro.trans eb.ro))).trans ec.ro) (EAll.mono q1 f5)) f6 fd fj fm (EAll.mono ((e5.ro.trans (e7.ro.trans (e9.ro.trans eb.ro))).trans ec.ro) (EAll.mono q1 f7)) f8 (EAll.mono ((e5.ro.trans (e7.ro.trans (e9.ro.trans eb.ro))).trans ec.ro) (EAll.mono q1 f9)) fa (EAll.mono ((e5.ro.trans (e7.ro.trans (e9.ro.trans eb.ro))).trans ec.ro) (EAll.mono q1 fb)) fc h2d) ?_
 rintro vn wh Gk Gl N6 ed q6 ⟨vo, vp, vq, vr, vt, c8, c9, ca, cb, rfl, rfl, fp, fq, fr, ft, fu, fv, fw, fx, fy, fz⟩ h2f
 refine J0 (J2 (J1 ?_))
 refine Jlb [_, _, _, _, _, _, _] (pt b2 0) ti167 h2f rfl rfl rfl ?_
 refine Yg (fs := []) (cs := [(pt b0 0), (pt b4 0), (pt b3 0)]) rfl rfl rfl ?_
 have h2g := St.pick 7 rfl h2f
 have h2h := St.pick 6 rfl h2g
 have h2i := St.pick 6 rfl h2h
 have h2j := St.pick 6 rfl h2i
 have h2k := St.pick 6 rfl h2j
 have h2l := St.pick 7 rfl h2k
 have h2m := St.pick 9 rfl h2l
 have h2n := St.pick 7 rfl h2m
 have h2o := St.pick 8 rfl h2n
 obtain ⟨t7, h2p, hr⟩ := J6 hr
 refine Yd (N := [_, _, _, _, _, _, _, _, _]) (R := [.blk b1 [(vi 0), (.slice none 0 0), (vi 0), (.bool false), (vi 0), (vi 0), (.slice none 0 0), (.slice none 0 0), (.slice none 0 0)] 44]) (f := 119) (av := [(pt b2 0), (.func (.func 123) #[] #[(pt b0 0), (pt b4 0), (pt b3 0)])]) cf119 rfl rfl h2o rfl (fun Gm ee h2q => fun_reader_many_s3.ok (a0_0_ := ({ b := t6.1, at_ := t6.2.1, live := a0_.live, bad := a0_.bad } : Xoctet_Reader)) h2q (⟨vo, rfl, (SRep.mono ee.ro (SRep.mono q6 fp)), fq⟩) (by rfl) f0 (EAll.mono ee.ro (EAll.mono q6 fr)) ft fd fj fm (EAll.mono ee.ro (EAll.mono q6 fu)) fv (EAll.mono ee.ro (EAll.mono q6 fw)) fx (EAll.mono ee.ro (EAll.mono q6 fy)) fz h2p) ?_
 rintro vu wi Gn Go N7 ef q7 ⟨vv, vw, vx, vy, vz, cc, cd, ce, cf, rfl, rfl, f10, f11, f12, f13, f14, f15, f16, f17, f18, f19⟩ h2r
 refine J0 (J2 (J1 ?_))
 refine Jlb [_, _, _, _, _, _, _, _] (pt b2 0) ti167 h2r rfl rfl rfl ?_
 refine Yg (fs := []) (cs := [(pt b4 0), (pt b3 0)]) rfl rfl rfl ?_
 have h2s := St.pick 8 rfl h2r
 have h2t := St.pick 7 rfl h2s
 have h2u := St.pick 7 rfl h2t
 have h2v := St.pick 7 rfl h2u
 have h2w := St.pick 7 rfl h2v
 have h2x := St.pick 8 rfl h2w
 have h2y := St.pick 6 rfl h2x
 have h2z := St.pick 7 rfl h2y
 obtain ⟨t8, h30, hr⟩ := J6 hr
 refine Yd (N := [_, _, _, _, _, _, _, _]) (R := [.blk b0 [(pt ba0 0)] 104, .blk b1 [(vi 0), (.slice none 0 0), (vi 0), (.bool false), (vi 0), (vi 0), (.slice none 0 0), (.slice none 0 0), (.slice none 0 0)] 44]) (f := 119) (av := [(pt b2 0), (.func (.func 126) #[] #[(pt b4 0), (pt b3 0)])]) cf119 rfl rfl h2z rfl (fun Gp eg h31 => fun_reader_many_s4.ok (a0_0_ := ({ b := t7.1, at_ := t7.2.1, live := a0_.live, bad := a0_.bad } : Xoctet_Reader)) h31 (⟨vv, rfl, (SRep.mono eg.ro (SRep.mono q7 f10)), f11⟩) (by rfl) f0 (EAll.mono eg.ro (EAll.mono q7 f12)) f13 fd fj fm (EAll.mono eg.ro (EAll.mono q7 f14)) f15 (EAll.mono eg.ro (EAll.mono q7 f16)) f17 (EAll.mono eg.ro (EAll.mono q7 f18)) f19 h30) ?_
 rintro v10 wj Gq Gr N8 eh q8 ⟨v11, v12, v13, v14, v15, cg, ch, ci, cj, rfl, rfl, f1a, f1b, f1c, f1d, f1e, f1f, f1g, f1h, f1i, f1j⟩ h32
 refine J0 (J2 (J2 (J1 ?_)))
 refine Jlb [_, _, _, _, _, _, _] (pt b2 0) ti167 h32 rfl rfl rfl ?_
 refine Je rfl rfl ?_
 refine Jfa 1 1 underlying169 rfl ti29 rfl rfl rfl rfl ?_
 refine Jlb [_] (vi 0) ti29 h32 rfl rfl rfl ?_
 refine Y1 rfl rfl rfl ?_
 change WL _ _ _ _ _ _ (upd _ _ (.bool false)) _
 refine J0 ?_
 refine J7 rfl (fun h => nomatch h) (fun _ => ?_)
 refine J9 (J2 (J1 ?_))
 refine Jl (l1 := [_, _, _, _, _, _]) (vs := [(vi t0.1), v12, (vi t2.1), (.bool t3.1), (vi t4.1), (vi t5.1), v13, v14, v15]) ti44 h32 rfl rfl rfl rfl ?_
 refine Jp (l1 := [_, _, _, _, _, _, _, _, _]) (vs := [(vi t0.1), v12, (vi t2.1), (.bool t3.1), (vi t4.1), (vi t5.1), v13, v14, v15]) ti44 h32 rfl rfl rfl (J5 rfl (J5 (row_one (St.mid (l1 := [_, _]) h32)) (J5 rfl (J5 rfl (J5 rfl (J5 rfl (J5 (row_one (St.mid (l1 := [_, _, _]) h32)) (J5 (row_one (St.mid (l1 := [_, _, _, _]) h32)) (J5 (row_one (St.mid (l1 := [_, _, _, _, _]) h32)) (fun _ h => nomatch h)))))))))) rfl ?_
 intro wk (h33 : St B wk Gr [.blk ba0 [v11, (vi t8.2.1), (.bool a0_.live), (.bool a0_.bad)] 163, .blk b2 [(pt ba0 0), (vi 0)] 169, .row v12 3 1 t8.2.2.1.length cg, .row v13 157 2 t8.2.2.2.1.length ch, .row v14 54 5 t8.2.2.2.2.1.length ci, .row v15 133 3 t8.2.2.2.2.2.length cj, .blk b4 [(vi t0.1), v12, (vi t2.1), (.bool t3.1), (vi t4.1), (vi t5.1), v13, v14, v15] 44, .blk b3 [(pt b2 0)] 167, .blk b0 [(pt ba0 0)] 104, .blk b1 [(vi t0.1), v12, (vi t2.1), (.bool t3.1), (vi t4.1), (vi t5.1), v13, v14, v15] 44])
 refine Jsv (vi 0) rfl rfl ?_
 refine J0 (Jg ?_)
 have h34 := St.pick 5 rfl h33
 have h35 := St.pick 5 rfl h34
 have h36 := St.pick 5 rfl h35
 have h37 := St.pick 5 rfl h36
 have h38 := St.takeN 5 h37
 obtain rfl := Option.some.inj hr
 exact ⟨[(.agg #[(vi t0.1), v12, (vi t2.1), (.bool t3.1), (vi t4.1), (vi t5.1), v13, v14, v15]), (vi 0)], ⟨⟨_, rfl, Yl (l1 := [_, _, _, _, _, _, _, _, _]) ti44 h33 rfl⟩, rfl, trivial⟩, _, _, _, rfl, (e1.trans (e3.trans (e5.trans (e7.trans (e9.trans (eb.trans (ed.trans (ef.trans eh)))))))), h38, ⟨v12, v13, v14, v15, v11, cg, ch, ci, cj, rfl, rfl, f0, (EAll.mono q8 f1c), f1d, fd, fj, fm, (EAll.mono q8 f1e), f1f, (EAll.mono q8 f1g), f1h, (EAll.mono q8 f1i), f1j, (SRep.mono q8 f1a), f1b⟩⟩
def api_Func_1.f (a1_0_ : Xoctet_Reader) (a2_0_0 : (List XSymbol)) (a2_0_1 : (List XFunc)) (a2_0_2 : (List XData)) : Option (((List Int) × Int × (List XSymbol) × (List XFunc) × (List XData))) :=
 (fun_Get.f a1_0_).bind fun t0 => bif decide ((a2_0_1.length + [({ Class := t0.1, Kinds := t0.2.1, Pad := t0.2.2.1, Nosplit := t0.2.2.2.1, From := t0.2.2.2.2.1, To := t0.2.2.2.2.2.1, Lines := t0.2.2.2.2.2.2.1, Code := t0.2.2.2.2.2.2.2.1, Relocs := t0.2.2.2.2.2.2.2.2.1 } : XFunc)].length) * 136 ≤ SB) then some (t0.2.2.2.2.2.2.2.2.2.1, t0.2.2.2.2.2.2.2.2.2.2, a2_0_0, (a2_0_1 ++ [({ Class := t0.1, Kinds := t0.2.1, Pad := t0.2.2.1, Nosplit := t0.2.2.2.1, From := t0.2.2.2.2.1, To := t0.2.2.2.2.2.1, Lines := t0.2.2.2.2.2.2.1, Code := t0.2.2.2.2.2.2.2.1, Relocs := t0.2.2.2.2.2.2.2.2.1 } : XFunc)]), a2_0_2) else none
def api_Func_1.K (ba0 : Nat) (ba1_0 : Nat) (a1_0_ : Xoctet_Reader) (ba1 : Nat) (ba2_0 : Nat) (ba2 : Nat) (r : ((List Int) × Int × (List XSymbol) × (List XFunc) × (List XData))) (G0 : GH) (v : Value) (N : List Res) : Prop := ∃ (v0 : Value) (v1 : Value) (v2 : Value) (v3 : Value) (c0 : List Value) (c1 : List Value) (c2 : List Value), v = tup [(vi 0)] ∧ N = [.blk ba0 [(.func (.func 64) #[] #[])] 114, .blk ba1_0 [v0, (vi r.2.1), (.bool a1_0_.live), (.bool a1_0_.bad)] 163, .blk ba1 [(pt ba1_0 0)] 104, .row v1 82 5 r.2.2.1.length c0, .row v2 44 9 r.2.2.2.1.length c1, .row v3 49 3 r.2.2.2.2.length c2, .blk ba2_0 [v1, v2, v3] 61, .blk ba2 [(pt ba2_0 1)] 113] ∧ SRep 5 (tInt .u8) G0 v0 r.1 ∧ InK .i64 r.2.1 ∧ EAll TSymbol G0 c0 r.2.2.1 ∧ r.2.2.1.length ≤ SB ∧ EAll TFunc G0 c1 r.2.2.2.1 ∧ r.2.2.2.1.length ≤ SB ∧ EAll TData G0 c2 r.2.2.2.2 ∧ r.2.2.2.2.length ≤ SB
theorem api_Func_1.ok {ba0 : Nat} {ba1 : Nat} {ba1_0 : Nat} {ca1_0_ : List Value} {a1_0_ : Xoctet_Reader} {ba2 : Nat} {ba2_0 : Nat} {va2_0_0 : Value} {ca2_0_0 : List Value} {a2_0_0 : (List XSymbol)} {va2_0_1 : Value} {ca2_0_1 : List Value} {a2_0_1 : (List XFunc)} {va2_0_2 : Value} {ca2_0_2 : List Value} {a2_0_2 : (List XData)} (st : St B w G [.blk ba0 [(.func (.func 64) #[] #[])] 114, .blk ba1 [(pt ba1_0 0)] 104, .blk ba1_0 ca1_0_ 163, .blk ba2 [(pt ba2_0 1)] 113, .blk ba2_0 [va2_0_0, va2_0_1, va2_0_2] 61, .row va2_0_0 82 5 a2_0_0.length ca2_0_0, .row va2_0_1 44 9 a2_0_1.length ca2_0_1, .row va2_0_2 49 3 a2_0_2.length ca2_0_2]) (ha1_0_ : Toctet_Reader.rep G ca1_0_ a1_0_) (ha2_0_0 : EAll TSymbol G ca2_0_0 a2_0_0) (lha2_0_0 : a2_0_0.length ≤ SB) (ha2_0_1 : EAll TFunc G ca2_0_1 a2_0_1) (lha2_0_1 : a2_0_1.length ≤ SB) (ha2_0_2 : EAll TData G ca2_0_2 a2_0_2) (lha2_0_2 : a2_0_2.length ≤ SB) {r : ((List Int) × Int × (List XSymbol) × (List XFunc) × (List XData))} (hr : api_Func_1.f a1_0_ a2_0_0 a2_0_1 a2_0_2 = some r) :
 Calls Tryz.prog 117 ([(pt ba0 0), (pt ba1 0), (pt ba2 0)] : List Value).toArray w (Ret B G (api_Func_1.K ba0 ba1_0 a1_0_ ba1 ba2_0 ba2 r)) := by
 obtain ⟨sa1_0__0, rfl, ha1_0__0, ha1_0__1⟩ := ha1_0_
 refine Jc [.tmp 3] func117 rfl ntmps117 rfl rfl ?_
 refine J2 (J1 ?_)
 refine Jsv (vi 0) rfl rfl ?_
 refine J0 (J2 (J1 ?_))
 refine Jlb [] (.func (.func 64) #[] #[]) ti114 st rfl rfl rfl ?_
 refine Jlb [_] (pt ba1_0 0) ti104 st rfl rfl rfl ?_
 have h0 := St.pick 2 rfl st
 obtain ⟨t0, h1, hr⟩ := J6 hr
 refine Jn (f := 64) (av := [(pt ba1_0 0)]) cf64 rfl rfl h0 rfl (fun G1 e0 h2 => fun_Get.ok (a0_ := a1_0_) h2 (⟨sa1_0__0, rfl, (SRep.mono e0.ro ha1_0__0), ha1_0__1⟩) h1) ?_
 rintro v4 w0 G2 G3 N0 e1 q0 ⟨v5, v6, v7, v8, v9, c3, c4, c5, c6, rfl, rfl, f0, f1, f2, f3, f4, f5, f6, f7, f8, f9, fa, fb, fc, fd⟩ h3
 refine Jmv (.tuple #[(.agg #[(vi t0.1), v5, (vi t0.2.2.1), (.bool t0.2.2.2.1), (vi t0.2.2.2.2.1), (vi t0.2.2.2.2.2.1), v6, v7, v8]), (vi 0)]) rfl rfl ?_
 refine Jm rfl rfl rfl ?_
 refine Jm rfl rfl rfl ?_
 refine Jo ti44 h3 rfl ?_
 intro b0 w1 h4
 refine Jp (l1 := []) (vs := [(vi t0.1), v5, (vi t0.2.2.1), (.bool t0.2.2.2.1), (vi t0.2.2.2.2.1), (vi t0.2.2.2.2.2.1), v6, v7, v8]) ti44 h4 rfl rfl rfl (J5 rfl (J5 (row_one (St.mid (l1 := [_]) h4)) (J5 rfl (J5 rfl (J5 rfl (J5 rfl (J5 (row_one (St.mid (l1 := [_, _]) h4)) (J5 (row_one (St.mid (l1 := [_, _, _]) h4)) (J5 (row_one (St.mid (l1 := [_, _, _, _]) h4)) (fun _ h => nomatch h)))))))))) rfl ?_
 intro w2 (h5 : St B w2 G3 [.blk b0 [(vi t0.1), v5, (vi t0.2.2.1), (.bool t0.2.2.2.1), (vi t0.2.2.2.2.1), (vi t0.2.2.2.2.2.1), v6, v7, v8] 44, .row v5 3 1 t0.2.1.length c3, .row v6 157 2 t0.2.2.2.2.2.2.1.length c4, .row v7 54 5 t0.2.2.2.2.2.2.2.1.length c5, .row v8 133 3 t0.2.2.2.2.2.2.2.2.1.length c6, .blk ba1_0 [v9, (vi t0.2.2.2.2.2.2.2.2.2.2), (.bool a1_0_.live), (.bool a1_0_.bad)] 163, .blk ba0 [(.func (.func 64) #[] #[])] 114, .blk ba1 [(pt ba1_0 0)] 104, .blk ba2 [(pt ba2_0 1)] 113, .blk ba2_0 [va2_0_0, va2_0_1, va2_0_2] 61, .row va2_0_0 82 5 a2_0_0.length ca2_0_0, .row va2_0_1 44 9 a2_0_1.length ca2_0_1, .row va2_0_2 49 3 a2_0_2.length ca2_0_2])
 refine Jsv (vi 0) rfl rfl ?_
 refine J0 (J2 (J2 (J1 ?_)))
 refine Jmv (vi 0) rfl rfl ?_
 refine Y3 rfl rfl rfl ?_
 change WL _ _ _ _ _ _ (upd _ _ (.bool true)) _
 refine J0 ?_
 refine J7 rfl (fun _ => ?_) (fun h => nomatch h)
 obtain ⟨h6, hr⟩ := Ya hr
 refine Ym 7 [some 14, some 15, some 16, some 17, some 18, some 19, some 20] [5, 6] [Kind.q, Kind.q, Kind.q, Kind.q, Kind.q, Kind.c 0, Kind.c 1] (pkT [(fun vs_ G_ M_ => vs_ = [] ∧ M_ = [.blk b0 [(vi t0.1), v5, (vi t0.2.2.1), (.bool t0.2.2.2.1), (vi t0.2.2.2.2.1), (vi t0.2.2.2.2.2.1), v6, v7, v8] 44, .row v5 3 1 t0.2.1.length c3, .row v6 157 2 t0.2.2.2.2.2.2.1.length c4, .row v7 54 5 t0.2.2.2.2.2.2.2.1.length c5, .row v8 133 3 t0.2.2.2.2.2.2.2.2.1.length c6, .blk ba1_0 [v9, (vi t0.2.2.2.2.2.2.2.2.2.2), (.bool a1_0_.live), (.bool a1_0_.bad)] 163, .blk ba0 [(.func (.func 64) #[] #[])] 114, .blk ba1 [(pt ba1_0 0)] 104, .blk ba2 [(pt ba2_0 1)] 113, .blk ba2_0 [va2_0_0, va2_0_1, va2_0_2] 61, .row va2_0_0 82 5 a2_0_0.length ca2_0_0, .row va2_0_1 44 9 a2_0_1.length ca2_0_1, .row va2_0_2 49 3 a2_0_2.length ca2_0_2]), (fun vs_ G_ M_ => ∃ (va : Value), vs_ = [va] ∧ M_ = [.row va 44 9 1 [(vi t0.1), v5, (vi t0.2.2.1), (.bool t0.2.2.2.1), (vi t0.2.2.2.2.1), (vi t0.2.2.2.2.2.1), v6, v7, v8], .blk b0 [(vi t0.1), v5, (vi t0.2.2.1), (.bool t0.2.2.2.1), (vi t0.2.2.2.2.1), (vi t0.2.2.2.2.2.1), v6, v7, v8] 44, .blk ba1_0 [v9, (vi t0.2.2.2.2.2.2.2.2.2.2), (.bool a1_0_.live), (.bool a1_0_.bad)] 163, .blk ba0 [(.func (.func 64) #[] #[])] 114, .blk ba1 [(pt ba1_0 0)] 104, .blk ba2 [(pt ba2_0 1)] 113, .blk ba2_0 [va2_0_0, va2_0_1, va2_0_2] 61, .row va2_0_0 82 5 a2_0_0.length ca2_0_0, .row va2_0_1 44 9 a2_0_1.length ca2_0_1, .row va2_0_2 49 3 a2_0_2.length ca2_0_2] ∧ EAll TFunc G_ [(vi t0.1), v5, (vi t0.2.2.1), (.bool t0.2.2.2.1), (vi t0.2.2.2.2.1), (vi t0.2.2.2.2.2.1), v6, v7, v8] [({ Class := t0.1, Kinds := t0.2.1, Pad := t0.2.2.1, Nosplit := t0.2.2.2.1, From := t0.2.2.2.2.1, To := t0.2.2.2.2.2.1, Lines := t0.2.2.2.2.2.2.1, Code := t0.2.2.2.2.2.2.2.1, Relocs := t0.2.2.2.2.2.2.2.2.1 } : XFunc)] ∧ [({ Class := t0.1, Kinds := t0.2.1, Pad := t0.2.2.1, Nosplit := t0.2.2.2.1, From := t0.2.2.2.2.1, To := t0.2.2.2.2.2.1, Lines := t0.2.2.2.2.2.2.1, Code := t0.2.2.2.2.2.2.2.1, Relocs := t0.2.2.2.2.2.2.2.2.1 } : XFunc)].length = 1 ∧ 1 ≤ SB ∧ SRep 3 (tInt .i64) G_ v5 t0.2.1 ∧ SRep 157 TLine G_ v6 t0.2.2.2.2.2.2.1 ∧ SRep 54 TInstr G_ v7 t0.2.2.2.2.2.2.2.1 ∧ SRep 133 TReloc G_ v8 t0.2.2.2.2.2.2.2.2.1), (fun vs_ G_ M_ => ∃ (vc : Value) (c7 : List Value) (vd : Value), vs_ = [vd, vc] ∧ M_ = [.blk b0 [(vi t0.1), v5, (vi t0.2.2.1), (.bool t0.2.2.2.1), (vi t0.2.2.2.2.1), (vi t0.2.2.2.2.2.1), v6, v7, v8] 44, .blk ba1_0 [v9, (vi t0.2.2.2.2.2.2.2.2.2.2), (.bool a1_0_.live), (.bool a1_0_.bad)] 163, .blk ba0 [(.func (.func 64) #[] #[])] 114, .blk ba1 [(pt ba1_0 0)] 104, .blk ba2 [(pt ba2_0 1)] 113, .blk ba2_0 [va2_0_0, va2_0_1, va2_0_2] 61, .row va2_0_0 82 5 a2_0_0.length ca2_0_0, .row vc 44 9 (a2_0_1.length + [({ Class := t0.1, Kinds := t0.2.1, Pad := t0.2.2.1, Nosplit := t0.2.2.2.1, From := t0.2.2.2.2.1, To := t0.2.2.2.2.2.1, Lines := t0.2.2.2.2.2.2.1, Code := t0.2.2.2.2.2.2.2.1, Relocs := t0.2.2.2.2.2.2.2.2.1 } : XFunc)].length) c7, .row va2_0_2 49 3 a2_0_2.length ca2_0_2] ∧ SRep 3 (tInt .i64) G_ v5 t0.2.1 ∧ SRep 157 TLine G_ v6 t0.2.2.2.2.2.2.1 ∧ SRep 54 TInstr G_ v7 t0.2.2.2.2.2.2.2.1 ∧ SRep 133 TReloc G_ v8 t0.2.2.2.2.2.2.2.2.1 ∧ EAll TFunc G_ c7 (a2_0_1 ++ [({ Class := t0.1, Kinds := t0.2.1, Pad := t0.2.2.1, Nosplit := t0.2.2.2.1, From := t0.2.2.2.2.1, To := t0.2.2.2.2.2.1, Lines := t0.2.2.2.2.2.2.1, Code := t0.2.2.2.2.2.2.2.1, Relocs := t0.2.2.2.2.2.2.2.2.1 } : XFunc)]) ∧ (a2_0_1 ++ [({ Class := t0.1, Kinds := t0.2.1, Pad := t0.2.2.1, Nosplit := t0.2.2.2.1, From := t0.2.2.2.2.1, To := t0.2.2.2.2.2.1, Lines := t0.2.2.2.2.2.2.1, Code := t0.2.2.2.2.2.2.2.1, Relocs := t0.2.2.2.2.2.2.2.2.1 } : XFunc)]).length = (a2_0_1.length + [({ Class := t0.1, Kinds := t0.2.1, Pad := t0.2.2.1, Nosplit := t0.2.2.2.1, From := t0.2.2.2.2.1, To := t0.2.2.2.2.2.1, Lines := t0.2.2.2.2.2.2.1, Code := t0.2.2.2.2.2.2.2.1, Relocs := t0.2.2.2.2.2.2.2.2.1 } : XFunc)].length) ∧ (a2_0_1.length + [({ Class := t0.1, Kinds := t0.2.1, Pad := t0.2.2.1, Nosplit := t0.2.2.2.1, From := t0.2.2.2.2.1, To := t0.2.2.2.2.2.1, Lines := t0.2.2.2.2.2.2.1, Code := t0.2.2.2.2.2.2.2.1, Relocs := t0.2.2.2.2.2.2.2.2.1 } : XFunc)].length) ≤ SB ∧ SRep 44 TFunc G_ vd [({ Class := t0.1, Kinds := t0.2.1, Pad := t0.2.2.1, Nosplit := t0.2.2.2.1, From := t0.2.2.2.2.1, To := t0.2.2.2.2.2.1, Lines := t0.2.2.2.2.2.2.1, Code := t0.2.2.2.2.2.2.2.1, Relocs := t0.2.2.2.2.2.2.2.2.1 } : XFunc)])]) (pk [(fun G_ v_ => v_ = (pt ba2_0 1)), (fun G_ v_ => v_ = (pt ba2_0 1)), (fun G_ v_ => v_ = (pt ba2_0 1)), (fun G_ v_ => v_ = va2_0_1), (fun G_ v_ => v_ = (.agg #[(vi t0.1), v5, (vi t0.2.2.1), (.bool t0.2.2.2.1), (vi t0.2.2.2.2.1), (vi t0.2.2.2.2.2.1), v6, v7, v8])), (fun _ _ => True), (fun _ _ => True)]) rfl (by kernel_rfl) rfl (by kernel_rfl) [[6]] (by kernel_rfl) rfl h5 (fun _ _ => ⟨rfl, rfl⟩) ?_ ?_
 ·refine Each2.cons ?_ (Each2.cons ?_ (Each2.cons ?_ (Each2.cons ?_ (Each2.cons ?_ (Each2.cons ?_ (Each2.cons ?_ Each2.nil))))))
  ·intro k0 q1 w3 G4 M0 h7 h8 e2 h9 h10 h11 h12 h13 h14
   have h2_ : k0 ≤ 2 := h7
   rcases (show k0 = 0 ∨ k0 = 1 ∨ k0 = 2 from by omega) with rfl | rfl | rfl
   ·obtain ⟨hvs_, rfl⟩ := h10 G4 (Ext.refl _)
    rw [J3 (ρ := q1) (l := [(2, (pt ba2 0))]) ⟨(h11.1 2 (by decide)).trans rfl, trivial⟩]
    refine Jlb [_, _, _, _, _, _, _, _] (pt ba2_0 1) ti113 h9 rfl rfl rfl ?_
    exact J0 (J4 (Ext.refl _) h9 fun G5 e3 => rfl)
   ·obtain ⟨va, hvs_, rfl, fe, ff, fg, fh, fj, fk, fl⟩ := h10 G4 (Ext.refl _)
    have hv19 := (List.cons.inj hvs_).1
    rw [J3 (ρ := q1) (l := [(2, (pt ba2 0)), (19, va)]) ⟨(h11.1 2 (by decide)).trans rfl, hv19, trivial⟩]
    refine Jlb [_, _, _, _, _] (pt ba2_0 1) ti113 h9 rfl rfl rfl ?_
    exact J0 (J4 (Ext.refl _) h9 fun G5 e3 => rfl)
   obtain ⟨vc, c7, vd, hvs_, rfl, fm, fn, fo, fp, fq, fr, fs, ft⟩ := h10 G4 (Ext.refl _)
   have hv19 := (List.cons.inj hvs_).1
   have hv20 := (List.cons.inj (List.cons.inj hvs_).2).1
   rw [J3 (ρ := q1) (l := [(2, (pt ba2 0)), (19, vd), (20, vc)]) ⟨(h11.1 2 (by decide)).trans rfl, hv19, hv20, trivial⟩]
   refine Jlb [_, _, _, _] (pt ba2_0 1) ti113 h9 rfl rfl rfl ?_
   exact J0 (J4 (Ext.refl _) h9 fun G5 e3 => rfl)
  ·intro k0 q1 w3 G4 M0 h7 h8 e2 h9 h10 h11 h12 h13 h14
   have h2_ : k0 ≤ 1 := h13 1 6 [2, 3, 6] rfl (by kernel_rfl) rfl
   rcases (show k0 = 0 ∨ k0 = 1 from by omega) with rfl | rfl
   ·obtain ⟨hvs_, rfl⟩ := h10 G4 (Ext.refl _)
    rw [J3 (ρ := q1) (l := [(2, (pt ba2 0))]) ⟨(h11.1 2 (by decide)).trans rfl, trivial⟩]
    refine Jlb [_, _, _, _, _, _, _, _] (pt ba2_0 1) ti113 h9 rfl rfl rfl ?_
    exact J0 (J4 (Ext.refl _) h9 fun G6 e4 => rfl)
   obtain ⟨va, hvs_, rfl, fe, ff, fg, fh, fj, fk, fl⟩ := h10 G4 (Ext.refl _)
   have hv19 := (List.cons.inj hvs_).1
   rw [J3 (ρ := q1) (l := [(2, (pt ba2 0)), (19, va)]) ⟨(h11.1 2 (by decide)).trans rfl, hv19, trivial⟩]
   refine Jlb [_, _, _, _, _] (pt ba2_0 1) ti113 h9 rfl rfl rfl ?_
   exact J0 (J4 (Ext.refl _) h9 fun G6 e4 => rfl)
  ·intro k0 q1 w3 G4 M0 h7 h8 e2 h9 h10 h11 h12 h13 h14
   have h2_ : k0 ≤ 1 := h13 1 6 [3, 6] rfl (by kernel_rfl) rfl
   rcases (show k0 = 0 ∨ k0 = 1 from by omega) with rfl | rfl
   ·obtain ⟨hvs_, rfl⟩ := h10 G4 (Ext.refl _)
    obtain ⟨hd0_, _⟩ := h14
    have hv15 := hd0_
    rw [J3 (ρ := q1) (l := [(15, (pt ba2_0 1))]) ⟨hv15, trivial⟩]
    refine Je rfl rfl ?_
    exact J0 (J4 (Ext.refl _) h9 fun G7 e5 => rfl)
   obtain ⟨va, hvs_, rfl, fe, ff, fg, fh, fj, fk, fl⟩ := h10 G4 (Ext.refl _)
   have hv19 := (List.cons.inj hvs_).1
   obtain ⟨hd0_, _⟩ := h14
   have hv15 := hd0_
   rw [J3 (ρ := q1) (l := [(15, (pt ba2_0 1)), (19, va)]) ⟨hv15, hv19, trivial⟩]
   refine Je rfl rfl ?_
   exact J0 (J4 (Ext.refl _) h9 fun G7 e5 => rfl)
  ·intro k0 q1 w3 G4 M0 h7 h8 e2 h9 h10 h11 h12 h13 h14
   have h2_ : k0 ≤ 1 := h13 1 6 [6] rfl (by kernel_rfl) rfl
   rcases (show k0 = 0 ∨ k0 = 1 from by omega) with rfl | rfl
   ·obtain ⟨hvs_, rfl⟩ := h10 G4 (Ext.refl _)
    obtain ⟨hd0_, _⟩ := h14
    have hv16 := hd0_
    rw [J3 (ρ := q1) (l := [(16, (pt ba2_0 1))]) ⟨hv16, trivial⟩]
    refine Jlb [_, _, _, _, _, _, _, _, _] va2_0_1 ti58 h9 rfl rfl rfl ?_
    exact J0 (J4 (Ext.refl _) h9 fun G8 e6 => rfl)
   obtain ⟨va, hvs_, rfl, fe, ff, fg, fh, fj, fk, fl⟩ := h10 G4 (Ext.refl _)
   have hv19 := (List.cons.inj hvs_).1
   obtain ⟨hd0_, _⟩ := h14
   have hv16 := hd0_
   rw [J3 (ρ := q1) (l := [(16, (pt ba2_0 1)), (19, va)]) ⟨hv16, hv19, trivial⟩]
   refine Jlb [_, _, _, _, _, _] va2_0_1 ti58 h9 rfl rfl rfl ?_
   exact J0 (J4 (Ext.refl _) h9 fun G8 e6 => rfl)
  ·intro k0 q1 w3 G4 M0 h7 h8 e2 h9 h10 h11 h12 h13 h14
   have h2_ : k0 ≤ 0 := h13 0 5 [5] rfl (by kernel_rfl) rfl
   obtain rfl : k0 = 0 := by omega
   obtain ⟨hvs_, rfl⟩ := h10 G4 (Ext.refl _)
   rw [J3 (ρ := q1) (l := [(4, (pt b0 0))]) ⟨(h11.1 4 (by decide)).trans rfl, trivial⟩]
   refine Jl (l1 := []) (vs := [(vi t0.1), v5, (vi t0.2.2.1), (.bool t0.2.2.2.1), (vi t0.2.2.2.2.1), (vi t0.2.2.2.2.2.1), v6, v7, v8]) ti44 h9 rfl rfl rfl rfl ?_
   exact J0 (J4 (Ext.refl _) h9 fun G9 e7 => rfl)
  ·intro k0 q1 w3 G4 M0 h7 h8 e2 h9 h10 h11 h12 h13 h14
   obtain rfl : k0 = 0 := h8
   obtain ⟨hvs_, rfl⟩ := h10 G4 (Ext.refl _)
   obtain ⟨hd0_, _⟩ := h14
   have hv18 := hd0_
   rw [J3 (ρ := q1) (l := [(18, (.agg #[(vi t0.1), v5, (vi t0.2.2.1), (.bool t0.2.2.2.1), (vi t0.2.2.2.2.1), (vi t0.2.2.2.2.2.1), v6, v7, v8]))]) ⟨hv18, trivial⟩]
   obtain ⟨Ga, h15, e8, fu⟩ := St.rowRep (l1 := [_]) (T := (tInt .i64)) (xs := t0.2.1) h9 (EAll.mono e2.ro (EAll.mono q0 f1)) rfl f2
   obtain ⟨Gb, h16, e9, fv⟩ := St.rowRep (l1 := [_]) (T := TLine) (xs := t0.2.2.2.2.2.2.1) h15 (EAll.mono (e2.ro.trans e8.ro) (EAll.mono q0 f6)) rfl f7
   obtain ⟨Gc, h17, ea, fw⟩ := St.rowRep (l1 := [_]) (T := TInstr) (xs := t0.2.2.2.2.2.2.2.1) h16 (EAll.mono (e2.ro.trans (e8.ro.trans e9.ro)) (EAll.mono q0 f8)) rfl f9
   obtain ⟨Gd, h18, eb, fx⟩ := St.rowRep (l1 := [_]) (T := TReloc) (xs := t0.2.2.2.2.2.2.2.2.1) h17 (EAll.mono (e2.ro.trans (e8.ro.trans (e9.ro.trans ea.ro))) (EAll.mono q0 fa)) rfl fb
   refine Jj (cells := [(vi t0.1), v5, (vi t0.2.2.1), (.bool t0.2.2.2.1), (vi t0.2.2.2.2.1), (vi t0.2.2.2.2.2.1), v6, v7, v8]) underlying58 ti44 h18 rfl rfl rfl rfl rfl (by obtain ⟨_, _, _, e_⟩ := SRep.shape (SRep.mono (e9.ro.trans (ea.ro.trans eb.ro)) fu); subst e_; obtain ⟨_, _, _, e_⟩ := SRep.shape (SRep.mono (ea.ro.trans eb.ro) fv); subst e_; obtain ⟨_, _, _, e_⟩ := SRep.shape (SRep.mono eb.ro fw); subst e_; obtain ⟨_, _, _, e_⟩ := SRep.shape fx; subst e_; kernel_rfl) ?_
   intro ve w4 h19 fy
   have E0 : EAll TFunc Gd [(vi t0.1), v5, (vi t0.2.2.1), (.bool t0.2.2.2.1), (vi t0.2.2.2.2.1), (vi t0.2.2.2.2.2.1), v6, v7, v8] [({ Class := t0.1, Kinds := t0.2.1, Pad := t0.2.2.1, Nosplit := t0.2.2.2.1, From := t0.2.2.2.2.1, To := t0.2.2.2.2.2.1, Lines := t0.2.2.2.2.2.2.1, Code := t0.2.2.2.2.2.2.2.1, Relocs := t0.2.2.2.2.2.2.2.2.1 } : XFunc)] := ⟨_, _, rfl, ⟨v5, v6, v7, v8, rfl, f0, (SRep.mono (e9.ro.trans (ea.ro.trans eb.ro)) fu), f3, f4, f5, (SRep.mono (ea.ro.trans eb.ro) fv), (SRep.mono eb.ro fw), fx⟩, rfl⟩
   exact J0 (Yi (e8.trans (e9.trans (ea.trans eb))) h19 fun Ge ec => ⟨⟨ve, rfl, rfl, (EAll.mono ec.ro E0), (by rfl), (by decide), (SRep.mono (e9.ro.trans (ea.ro.trans (eb.ro.trans ec.ro))) fu), (SRep.mono (ea.ro.trans (eb.ro.trans ec.ro)) fv), (SRep.mono (eb.ro.trans ec.ro) fw), (SRep.mono ec.ro fx)⟩, trivial⟩)
  intro k0 q1 w3 G4 M0 h7 h8 e2 h9 h10 h11 h12 h13 h14
  obtain rfl : k0 = 1 := h8
  obtain ⟨va, hvs_, rfl, fe, ff, fg, fh, fj, fk, fl⟩ := h10 G4 (Ext.refl _)
  have hv19 := (List.cons.inj hvs_).1
  obtain ⟨hd0_, hd1_, _⟩ := h14
  have hv17 := hd0_
  rw [J3 (ρ := q1) (l := [(17, va2_0_1), (19, va)]) ⟨hv17, hv19, trivial⟩]
  obtain ⟨Gf, h1a, ed, fz⟩ := St.rowRep (l1 := []) (T := TFunc) (xs := [({ Class := t0.1, Kinds := t0.2.1, Pad := t0.2.2.1, Nosplit := t0.2.2.2.1, From := t0.2.2.2.2.1, To := t0.2.2.2.2.2.1, Lines := t0.2.2.2.2.2.2.1, Code := t0.2.2.2.2.2.2.2.1, Relocs := t0.2.2.2.2.2.2.2.2.1 } : XFunc)]) h9 fe ff fg
  refine Yf (l1 := [_, _, _, _, _, _, _]) (T := TFunc) (xs := [({ Class := t0.1, Kinds := t0.2.1, Pad := t0.2.2.1, Nosplit := t0.2.2.2.1, From := t0.2.2.2.2.1, To := t0.2.2.2.2.2.1, Lines := t0.2.2.2.2.2.2.1, Code := t0.2.2.2.2.2.2.2.1, Relocs := t0.2.2.2.2.2.2.2.2.1 } : XFunc)]) underlying58 ti44 h1a rfl rfl fz rfl rfl rfl (app_limN rfl h6) (app_leN rfl h6) ?_
  intro vf w5 n0 E1 h1b
  have E2 := EAll.append (T := TFunc) (EAll.mono (e1.ro.trans (e2.ro.trans ed.ro)) ha2_0_1) E1
  exact J0 (Yi ed h1b fun Gg ee => ⟨⟨vf, (ca2_0_1 ++ n0), va, rfl, rfl, (SRep.mono (ed.ro.trans ee.ro) fh), (SRep.mono (ed.ro.trans ee.ro) fj), (SRep.mono (ed.ro.trans ee.ro) fk), (SRep.mono (ed.ro.trans ee.ro) fl), (EAll.mono ee.ro E2), (len_app rfl), (app_leN rfl h6), (SRep.mono ee.ro fz)⟩, trivial⟩)
 intro q1 w3 G4 M0 e2 h9 h10 h11 h14
 obtain ⟨vc, c7, vd, hvs_, rfl, fm, fn, fo, fp, fq, fr, fs, ft⟩ := h10
 have hv20 := (List.cons.inj (List.cons.inj hvs_).2).1
 have hv14 := h14 0 (by decide)
 rw [J3 (ρ := q1) (l := [(5, (vi 0)), (14, (pt ba2_0 1)), (20, vc)]) ⟨(h11.1 5 (by decide)).trans rfl, hv14, hv20, trivial⟩]
 refine Je rfl rfl ?_
 refine Y5 (l1 := [_, _, _, _, _]) (v := vc) ti58 h9 rfl rfl (row_one (St.mid (l1 := [_, _, _, _, _, _, _]) h9)) rfl ?_
 intro w6 (h1c : St B w6 G4 [.blk b0 [(vi t0.1), v5, (vi t0.2.2.1), (.bool t0.2.2.2.1), (vi t0.2.2.2.2.1), (vi t0.2.2.2.2.2.1), v6, v7, v8] 44, .blk ba1_0 [v9, (vi t0.2.2.2.2.2.2.2.2.2.2), (.bool a1_0_.live), (.bool a1_0_.bad)] 163, .blk ba0 [(.func (.func 64) #[] #[])] 114, .blk ba1 [(pt ba1_0 0)] 104, .blk ba2 [(pt ba2_0 1)] 113, .blk ba2_0 [va2_0_0, vc, va2_0_2] 61, .row va2_0_0 82 5 a2_0_0.length ca2_0_0, .row vc 44 9 (a2_0_1.length + [({ Class := t0.1, Kinds := t0.2.1, Pad := t0.2.2.1, Nosplit := t0.2.2.2.1, From := t0.2.2.2.2.1, To := t0.2.2.2.2.2.1, Lines := t0.2.2.2.2.2.2.1, Code := t0.2.2.2.2.2.2.2.1, Relocs := t0.2.2.2.2.2.2.2.2.1 } : XFunc)].length) c7, .row va2_0_2 49 3 a2_0_2.length ca2_0_2])
 refine J0 (J2 (J1 ?_))
 refine Jmv (vi 0) rfl rfl ?_
 refine Jsv (vi 0) rfl rfl ?_
 refine J0 (Jg ?_)
 have h1d := St.row_len (l1 := [_, _, _, _, _, _, _]) (k := (a2_0_1 ++ [({ Class := t0.1, Kinds := t0.2.1, Pad := t0.2.2.1, Nosplit := t0.2.2.2.1, From := t0.2.2.2.2.1, To := t0.2.2.2.2.2.1, Lines := t0.2.2.2.2.2.2.1, Code := t0.2.2.2.2.2.2.2.1, Relocs := t0.2.2.2.2.2.2.2.2.1 } : XFunc)]).length) fr h1c
 have h1e := St.pick 4 rfl h1d
 have h1f := St.pick 5 rfl h1e
 have h1g := St.pick 8 rfl h1f
 have h1h := St.pick 8 rfl h1g
 have h1i := St.pick 8 rfl h1h
 have h1j := St.pick 8 rfl h1i
 have h1k := St.pick 7 rfl h1j
 have h1l := St.pick 8 rfl h1k
 have h1m := St.takeN 8 h1l
 obtain rfl := Option.some.inj hr
 exact ⟨[(vi 0)], ⟨rfl, trivial⟩, _, _, _, rfl, (e1.trans e2), h1m, ⟨v9, va2_0_0, vc, va2_0_2, ca2_0_0, c7, ca2_0_2, rfl, rfl, (SRep.mono e2.ro (SRep.mono q0 fc)), fd, (EAll.mono (e1.ro.trans e2.ro) ha2_0_0), lha2_0_0, fq, (le_eq (m := (a2_0_1.length + [({ Class := t0.1, Kinds := t0.2.1, Pad := t0.2.2.1, Nosplit := t0.2.2.2.1, From := t0.2.2.2.2.1, To := t0.2.2.2.2.2.1, Lines := t0.2.2.2.2.2.2.1, Code := t0.2.2.2.2.2.2.2.1, Relocs := t0.2.2.2.2.2.2.2.2.1 } : XFunc)].length)) fr fs), (EAll.mono (e1.ro.trans e2.ro) ha2_0_2), lha2_0_2⟩⟩
def file_part_1_s2.l0 (t0 : (Int × (List Int) × Int)) (a0_0_ : Xoctet_Reader) (s0 : ((List Int) × Int × (List XSymbol) × (List XFunc) × (List XData) × Nat)) : Option (Step ((List Int) × Int × (List XSymbol) × (List XFunc) × (List XData) × Nat) ((List Int) × Int × (List XSymbol) × (List XFunc) × (List XData))) :=
 bif decide (((s0.2.2.2.2.2 : Nat) : Int) < t0.1) then (api_Func_1.f ({ b := s0.1, at_ := s0.2.1, live := a0_0_.live, bad := a0_0_.bad } : Xoctet_Reader) s0.2.2.1 s0.2.2.2.1 s0.2.2.2.2.1).bind fun t1 => some (.next (t1.1, t1.2.1, t1.2.2.1, t1.2.2.2.1, t1.2.2.2.2, s0.2.2.2.2.2 + 1)) else some (.done (s0.1, s0.2.1, s0.2.2.1, s0.2.2.2.1, s0.2.2.2.2.1))
def file_part_1_s2.f (a0_0_ : Xoctet_Reader) (a1_0_c2_0_0 : (List XSymbol)) (a1_0_c2_0_1 : (List XFunc)) (a1_0_c2_0_2 : (List XData)) : Option (((List Int) × Int × (List XSymbol) × (List XFunc) × (List XData))) :=
 (octet_Reader_Num_s2.f a0_0_ 1).bind fun t0 => (loop (file_part_1_s2.l0 t0 a0_0_) (t0.2.1, t0.2.2, a1_0_c2_0_0, a1_0_c2_0_1, a1_0_c2_0_2, 0)).bind fun t2 => (octet_Reader_Bad_s2.f ({ b := t2.1, at_ := t2.2.1, live := a0_0_.live, bad := a0_0_.bad } : Xoctet_Reader)).bind fun t3 => bif a0_0_.bad then none else some (t2.1, t2.2.1, t2.2.2.1, t2.2.2.2.1, t2.2.2.2.2)
def file_part_1_s2.K (ba0_0 : Nat) (a0_0_ : Xoctet_Reader) (ba0 : Nat) (ba1_0_c0 : Nat) (ba1_0_c1 : Nat) (ba1_0_c2_0 : Nat) (ba1_0_c2 : Nat) (ba1 : Nat) (r : ((List Int) × Int × (List XSymbol) × (List XFunc) × (List XData))) (G0 : GH) (v : Value) (N : List Res) : Prop := ∃ (v0 : Value) (v1 : Value) (v2 : Value) (v3 : Value) (c0 : List Value) (c1 : List Value) (c2 : List Value), v = tup [(vi 0)] ∧ N = [.blk ba0_0 [v0, (vi r.2.1), (.bool a0_0_.live), (.bool a0_0_.bad)] 163, .blk ba0 [(pt ba0_0 0)] 104, .blk ba1_0_c0 [(.func (.func 64) #[] #[])] 114, .blk ba1_0_c1 [(pt ba0_0 0)] 104, .row v1 82 5 r.2.2.1.length c0, .row v2 44 9 r.2.2.2.1.length c1, .row v3 49 3 r.2.2.2.2.length c2, .blk ba1_0_c2_0 [v1, v2, v3] 61, .blk ba1_0_c2 [(pt ba1_0_c2_0 1)] 113, .blk ba1 [(.func (.func 117) #[] #[(pt ba1_0_c0 0), (pt ba1_0_c1 0), (pt ba1_0_c2 0)])] 107] ∧ SRep 5 (tInt .u8) G0 v0 r.1 ∧ InK .i64 r.2.1 ∧ EAll TSymbol G0 c0 r.2.2.1 ∧ r.2.2.1.length ≤ SB ∧ EAll TFunc G0 c1 r.2.2.2.1 ∧ r.2.2.2.1.length ≤ SB ∧ EAll TData G0 c2 r.2.2.2.2 ∧ r.2.2.2.2.length ≤ SB
theorem file_part_1_s2.ok {ba0 : Nat} {ba0_0 : Nat} {ca0_0_ : List Value} {a0_0_ : Xoctet_Reader} {ba1 : Nat} {ba1_0_c0 : Nat} {ba1_0_c1 : Nat} {ba1_0_c2 : Nat} {ba1_0_c2_0 : Nat} {va1_0_c2_0_0 : Value} {ca1_0_c2_0_0 : List Value} {a1_0_c2_0_0 : (List XSymbol)} {va1_0_c2_0_1 : Value} {ca1_0_c2_0_1 : List Value} {a1_0_c2_0_1 : (List XFunc)} {va1_0_c2_0_2 : Value} {ca1_0_c2_0_2 : List Value} {a1_0_c2_0_2 : (List XData)} (st : St B w G [.blk ba0 [(pt ba0_0 0)] 104, .blk ba0_0 ca0_0_ 163, .blk ba1 [(.func (.func 117) #[] #[(pt ba1_0_c0 0), (pt ba1_0_c1 0), (pt ba1_0_c2 0)])] 107, .blk ba1_0_c0 [(.func (.func 64) #[] #[])] 114, .blk ba1_0_c1 [(pt ba0_0 0)] 104, .blk ba1_0_c2 [(pt ba1_0_c2_0 1)] 113, .blk ba1_0_c2_0 [va1_0_c2_0_0, va1_0_c2_0_1, va1_0_c2_0_2] 61, .row va1_0_c2_0_0 82 5 a1_0_c2_0_0.length ca1_0_c2_0_0, .row va1_0_c2_0_1 44 9 a1_0_c2_0_1.length ca1_0_c2_0_1, .row va1_0_c2_0_2 49 3 a1_0_c2_0_2.length ca1_0_c2_0_2]) (ha0_0_ : Toctet_Reader.rep G ca0_0_ a0_0_) (ha1_0_c2_0_0 : EAll TSymbol G ca1_0_c2_0_0 a1_0_c2_0_0) (lha1_0_c2_0_0 : a1_0_c2_0_0.length ≤ SB) (ha1_0_c2_0_1 : EAll TFunc G ca1_0_c2_0_1 a1_0_c2_0_1) (lha1_0_c2_0_1 : a1_0_c2_0_1.length ≤ SB) (ha1_0_c2_0_2 : EAll TData G ca1_0_c2_0_2 a1_0_c2_0_2) (lha1_0_c2_0_2 : a1_0_c2_0_2.length ≤ SB) {r : ((List Int) × Int × (List XSymbol) × (List XFunc) × (List XData))} (hr : file_part_1_s2.f a0_0_ a1_0_c2_0_0 a1_0_c2_0_1 a1_0_c2_0_2 = some r) :
 Calls Tryz.prog 112 ([(pt ba0 0), (pt ba1 0)] : List Value).toArray w (Ret B G (file_part_1_s2.K ba0_0 a0_0_ ba0 ba1_0_c0 ba1_0_c1 ba1_0_c2_0 ba1_0_c2 ba1 r)) := by
 obtain ⟨sa0_0__0, rfl, ha0_0__0, ha0_0__1⟩ := ha0_0_
 refine Jc [.tmp 2] func112 rfl ntmps112 rfl rfl ?_
 refine J2 (J1 ?_)
 refine Jsv (vi 0) rfl rfl ?_
 refine J0 (J2 (J2 (J1 ?_)))
 refine Jlb [] (pt ba0_0 0) ti104 st rfl rfl rfl ?_
 have h0 := St.pick 1 rfl st
 obtain ⟨t0, h1, hr⟩ := J6 hr
 refine Jn (f := 110) (av := [(pt ba0_0 0), (vi 1)]) cf110 rfl rfl h0 rfl (fun G1 e0 h2 => octet_Reader_Num_s2.ok (a0_ := a0_0_) h2 (⟨sa0_0__0, rfl, (SRep.mono e0.ro ha0_0__0), ha0_0__1⟩) (by rfl) h1) ?_
 rintro v4 w0 G2 G3 N0 e1 q0 ⟨v5, rfl, rfl, f0, f1, f2⟩ h3
 refine Jmv (vi 0) rfl rfl ?_
 refine J0 (Jb ?_)
 obtain ⟨t2, h4, hr⟩ := J6 hr
 have h5 := St.pick 2 rfl h3
 have h6 := St.pick 5 rfl h5
 have h7 := St.pick 6 rfl h6
 have h8 := St.pick 9 rfl h7
 have h9 := St.pick 9 rfl h8
 have h10 := St.pick 9 rfl h9
 have h11 := St.pick 9 rfl h10
 have h12 := St.pick 9 rfl h11
 have h13 := St.pick 9 rfl h12
 have h14 := St.pick 9 rfl h13
 refine Js 0 h4 (fun s0 ρ w => ∃ (σ0 : Env) (G4 : GH) (v6 : Value) (v7 : Value) (v8 : Value) (v9 : Value) (c3 : List Value) (c4 : List Value) (c5 : List Value), ρ = En σ0 [(0, (pt ba0 0)), (1, (pt ba1 0)), (5, (vi t0.1)), (6, (vi ((s0.2.2.2.2.2 : Nat) : Int)))] ∧ Ext G3 G4 ∧ St B w G4 [.blk ba0_0 [v6, (vi s0.2.1), (.bool a0_0_.live), (.bool a0_0_.bad)] 163, .blk ba0 [(pt ba0_0 0)] 104, .blk ba1_0_c0 [(.func (.func 64) #[] #[])] 114, .blk ba1_0_c1 [(pt ba0_0 0)] 104, .row v7 82 5 s0.2.2.1.length c3, .row v8 44 9 s0.2.2.2.1.length c4, .row v9 49 3 s0.2.2.2.2.1.length c5, .blk ba1_0_c2_0 [v7, v8, v9] 61, .blk ba1_0_c2 [(pt ba1_0_c2_0 1)] 113, .blk ba1 [(.func (.func 117) #[] #[(pt ba1_0_c0 0), (pt ba1_0_c1 0), (pt ba1_0_c2 0)])] 107] ∧ SRep 5 (tInt .u8) G4 v6 s0.1 ∧ InK .i64 s0.2.1 ∧ EAll TSymbol G4 c3 s0.2.2.1 ∧ s0.2.2.1.length ≤ SB ∧ EAll TFunc G4 c4 s0.2.2.2.1 ∧ s0.2.2.2.1.length ≤ SB ∧ EAll TData G4 c5 s0.2.2.2.2.1 ∧ s0.2.2.2.2.1.length ≤ SB ∧ InK .i64 ((s0.2.2.2.2.2 : Nat) : Int)) (fun t4 ρ w => ∃ (σ1 : Env) (G5 : GH) (va : Value) (vc : Value) (vd : Value) (ve : Value) (c6 : List Value) (c7 : List Value) (c8 : List Value), ρ = En σ1 [(0, (pt ba0 0))] ∧ Ext G3 G5 ∧ St B w G5 [.blk ba0_0 [va, (vi t4.2.1), (.bool a0_0_.live), (.bool a0_0_.bad)] 163, .blk ba0 [(pt ba0_0 0)] 104, .blk ba1_0_c0 [(.func (.func 64) #[] #[])] 114, .blk ba1_0_c1 [(pt ba0_0 0)] 104, .row vc 82 5 t4.2.2.1.length c6, .row vd 44 9 t4.2.2.2.1.length c7, .row ve 49 3 t4.2.2.2.2.length c8, .blk ba1_0_c2_0 [vc, vd, ve] 61, .blk ba1_0_c2 [(pt ba1_0_c2_0 1)] 113, .blk ba1 [(.func (.func 117) #[] #[(pt ba1_0_c0 0), (pt ba1_0_c1 0), (pt ba1_0_c2 0)])] 107] ∧ SRep 5 (tInt .u8) G5 va t4.1 ∧ InK .i64 t4.2.1 ∧ EAll TSymbol G5 c6 t4.2.2.1 ∧ t4.2.2.1.length ≤ SB ∧ EAll TFunc G5 c7 t4.2.2.2.1 ∧ t4.2.2.2.1.length ≤ SB ∧ EAll TData G5 c8 t4.2.2.2.2 ∧ t4.2.2.2.2.length ≤ SB) ⟨_, _, v5, va1_0_c2_0_0, va1_0_c2_0_1, va1_0_c2_0_2, ca1_0_c2_0_0, ca1_0_c2_0_1, ca1_0_c2_0_2, (J3 ⟨rfl, rfl, rfl, rfl, trivial⟩), (Ext.refl _), h14, (SRep.mono q0 f1), f2, (EAll.mono e1.ro ha1_0_c2_0_0), lha1_0_c2_0_0, (EAll.mono e1.ro ha1_0_c2_0_1), lha1_0_c2_0_1, (EAll.mono e1.ro ha1_0_c2_0_2), lha1_0_c2_0_2, (by rfl)⟩ ?_ ?_
 ·rintro s0 x0 _ _ hr ⟨σ0, G4, v6, v7, v8, v9, c3, c4, c5, rfl, e2, h15, f3, f4, f5, f6, f7, f8, f9, fa, fb⟩
  refine J2 (J1 ?_)
  refine Ji rfl rfl rfl ?_
  refine J0 (J2 ?_)
  refine J7 rfl (fun h16 => ?_) (fun h16 => ?_)
  ·replace hr := Jx hr h16
   refine J9 (J2 (Jb (J2 (J1 ?_))))
   refine Jlb [_, _, _, _, _, _, _, _, _] (.func (.func 117) #[] #[(pt ba1_0_c0 0), (pt ba1_0_c1 0), (pt ba1_0_c2 0)]) ti107 h15 rfl rfl rfl ?_
   have h17 := St.pick 6 rfl h15
   have h18 := St.pick 6 rfl h17
   have h19 := St.pick 6 rfl h18
   have h1a := St.pick 7 rfl h19
   have h1b := St.pick 8 rfl h1a
   have h1c := St.pick 5 rfl h1b
   have h1d := St.pick 8 rfl h1c
   have h1e := St.pick 8 rfl h1d
   obtain ⟨t1, h1f, hr⟩ := J6 hr
   refine Yd (N := [_, _, _, _, _, _, _, _]) (R := [.blk ba0 [(pt ba0_0 0)] 104, .blk ba1 [(.func (.func 117) #[] #[(pt ba1_0_c0 0), (pt ba1_0_c1 0), (pt ba1_0_c2 0)])] 107]) (f := 117) (av := [(pt ba1_0_c0 0), (pt ba1_0_c1 0), (pt ba1_0_c2 0)]) cf117 rfl rfl h1e rfl (fun G6 e3 h1g => api_Func_1.ok (a1_0_ := ({ b := s0.1, at_ := s0.2.1, live := a0_0_.live, bad := a0_0_.bad } : Xoctet_Reader)) h1g (⟨v6, rfl, (SRep.mono e3.ro f3), f4⟩) (EAll.mono e3.ro f5) f6 (EAll.mono e3.ro f7) f8 (EAll.mono e3.ro f9) fa h1f) ?_
   rintro vf w1 G7 G8 N1 e4 q1 ⟨vg, vh, vj, vk, c9, ca, cb, rfl, rfl, fc, fd, fe, ff, fg, fh, fj, fk⟩ h1h
   refine Jsv (vi 0) rfl rfl ?_
   refine J0 (J2 (J1 ?_))
   refine Jmv (vi 0) rfl rfl ?_
   refine Y1 rfl rfl rfl ?_
   change WL _ _ _ _ _ _ (upd _ _ (.bool false)) _
   refine J0 ?_
   refine J7 rfl (fun h => nomatch h) (fun _ => ?_)
   refine J9 (J1 ?_)
   refine Y2 rfl rfl rfl (of_decide_eq_true h16) f0 ?_
   refine Jmv (vi ((s0.2.2.2.2.2 + 1 : Nat) : Int)) rfl rfl ?_
   refine J0 ?_
   have h1i := St.pick 9 rfl h1h
   have h1j := St.pick 8 rfl h1i
   have h1k := St.pick 8 rfl h1j
   have h1l := St.pick 8 rfl h1k
   have h1m := St.pick 8 rfl h1l
   have h1n := St.pick 8 rfl h1m
   have h1o := St.pick 8 rfl h1n
   have h1p := St.pick 7 rfl h1o
   have h1q := St.pick 9 rfl h1p
   have h1r := St.pick 9 rfl h1q
   exact ⟨_, (Option.some.inj hr).symm, _, _, vg, vh, vj, vk, c9, ca, cb, (J3 ⟨rfl, rfl, rfl, rfl, trivial⟩), (e2.trans e4), h1r, (SRep.mono q1 fc), fd, (EAll.mono q1 fe), ff, (EAll.mono q1 fg), fh, (EAll.mono q1 fj), fk, (inK_inc (of_decide_eq_true h16) f0)⟩
  replace hr := Jf hr h16
  refine Jr ?_
  have h1s := St.pick 9 rfl h15
  have h1t := St.pick 9 rfl h1s
  have h1u := St.pick 9 rfl h1t
  have h1v := St.pick 9 rfl h1u
  have h1w := St.pick 9 rfl h1v
  have h1x := St.pick 9 rfl h1w
  have h1y := St.pick 9 rfl h1x
  have h1z := St.pick 9 rfl h1y
  have h20 := St.pick 9 rfl h1z
  have h21 := St.pick 9 rfl h20
  exact ⟨_, (Option.some.inj hr).symm, rfl, _, _, v6, v7, v8, v9, c3, c4, c5, (J3 ⟨rfl, trivial⟩), e2, h21, f3, f4, f5, f6, f7, f8, f9, fa⟩
 rintro _ _ ⟨σ1, G5, va, vc, vd, ve, c6, c7, c8, rfl, e5, h22, fl, fm, fn, fo, fp, fq, fr, fs⟩
 refine J2 (J2 (J1 ?_))
 refine Jlb [_] (pt ba0_0 0) ti104 h22 rfl rfl rfl ?_
 obtain ⟨t3, h23, hr⟩ := J6 hr
 refine Jn (f := 113) (av := [(pt ba0_0 0)]) cf113 rfl rfl h22 rfl (fun G9 e6 h24 => octet_Reader_Bad_s2.ok (a0_ := ({ b := t2.1, at_ := t2.2.1, live := a0_0_.live, bad := a0_0_.bad } : Xoctet_Reader)) h24 (⟨va, rfl, (SRep.mono e6.ro fl), fm⟩) h23) ?_
 rintro vl w2 Ga Gb N2 e7 q2 ⟨vm, rfl, rfl, ft⟩ h25
 refine J0 ?_
 refine J7 rfl (fun h26 => ?_) (fun h26 => ?_)
 ·exact Jk hr h26
 replace hr := Jf hr h26
 refine J9 (J2 (J1 ?_))
 refine Jsv (vi 0) rfl rfl ?_
 refine J0 (Jg ?_)
 have h27 := St.pick 9 rfl h25
 have h28 := St.pick 9 rfl h27
 have h29 := St.pick 9 rfl h28
 have h2a := St.pick 9 rfl h29
 have h2b := St.pick 9 rfl h2a
 have h2c := St.pick 9 rfl h2b
 have h2d := St.pick 9 rfl h2c
 have h2e := St.pick 9 rfl h2d
 have h2f := St.pick 9 rfl h2e
 have h2g := St.pick 9 rfl h2f
 obtain rfl := Option.some.inj hr
 exact ⟨[(vi 0)], ⟨rfl, trivial⟩, _, _, _, rfl, (e1.trans (e5.trans e7)), h2g, ⟨vm, vc, vd, ve, c6, c7, c8, rfl, rfl, (SRep.mono q2 ft), fm, (EAll.mono e7.ro fn), fo, (EAll.mono e7.ro fp), fq, (EAll.mono e7.ro fr), fs⟩⟩
def file_part_1_s3.l0 (t0 : (Int × (List Int) × Int)) (a0_0_ : Xoctet_Reader) (s0 : ((List Int) × Int × (List XSymbol) × (List XFunc) × (List XData) × Nat)) : Option (Step ((List Int) × Int × (List XSymbol) × (List XFunc) × (List XData) × Nat) ((List Int) × Int × (List XSymbol) × (List XFunc) × (List XData))) :=
 bif decide (((s0.2.2.2.2.2 : Nat) : Int) < t0.1) then (api_Data_1.f ({ b := s0.1, at_ := s0.2.1, live := a0_0_.live, bad := a0_0_.bad } : Xoctet_Reader) s0.2.2.1 s0.2.2.2.1 s0.2.2.2.2.1).bind fun t1 => some (.next (t1.1, t1.2.1, t1.2.2.1, t1.2.2.2.1, t1.2.2.2.2, s0.2.2.2.2.2 + 1)) else some (.done (s0.1, s0.2.1, s0.2.2.1, s0.2.2.2.1, s0.2.2.2.2.1))
def file_part_1_s3.f (a0_0_ : Xoctet_Reader) (a1_0_c2_0_0 : (List XSymbol)) (a1_0_c2_0_1 : (List XFunc)) (a1_0_c2_0_2 : (List XData)) : Option (((List Int) × Int × (List XSymbol) × (List XFunc) × (List XData))) :=
 (octet_Reader_Num_s2.f a0_0_ 1).bind fun t0 => (loop (file_part_1_s3.l0 t0 a0_0_) (t0.2.1, t0.2.2, a1_0_c2_0_0, a1_0_c2_0_1, a1_0_c2_0_2, 0)).bind fun t2 => (octet_Reader_Bad_s2.f ({ b := t2.1, at_ := t2.2.1, live := a0_0_.live, bad := a0_0_.bad } : Xoctet_Reader)).bind fun t3 => bif a0_0_.bad then none else some (t2.1, t2.2.1, t2.2.2.1, t2.2.2.2.1, t2.2.2.2.2)
def file_part_1_s3.K (ba0_0 : Nat) (a0_0_ : Xoctet_Reader) (ba0 : Nat) (ba1_0_c0 : Nat) (ba1_0_c1 : Nat) (ba1_0_c2_0 : Nat) (ba1_0_c2 : Nat) (ba1 : Nat) (r : ((List Int) × Int × (List XSymbol) × (List XFunc) × (List XData))) (G0 : GH) (v : Value) (N : List Res) : Prop := ∃ (v0 : Value) (v1 : Value) (v2 : Value) (v3 : Value) (c0 : List Value) (c1 : List Value) (c2 : List Value), v = tup [(vi 0)] ∧ N = [.blk ba0_0 [v0, (vi r.2.1), (.bool a0_0_.live), (.bool a0_0_.bad)] 163, .blk ba0 [(pt ba0_0 0)] 104, .blk ba1_0_c0 [(.func (.func 66) #[] #[])] 117, .blk ba1_0_c1 [(pt ba0_0 0)] 104, .row v1 82 5 r.2.2.1.length c0, .row v2 44 9 r.2.2.2.1.length c1, .row v3 49 3 r.2.2.2.2.length c2, .blk ba1_0_c2_0 [v1, v2, v3] 61, .blk ba1_0_c2 [(pt ba1_0_c2_0 2)] 116, .blk ba1 [(.func (.func 127) #[] #[(pt ba1_0_c0 0), (pt ba1_0_c1 0), (pt ba1_0_c2 0)])] 107] ∧ SRep 5 (tInt .u8) G0 v0 r.1 ∧ InK .i64 r.2.1 ∧ EAll TSymbol G0 c0 r.2.2.1 ∧ r.2.2.1.length ≤ SB ∧ EAll TFunc G0 c1 r.2.2.2.1 ∧ r.2.2.2.1.length ≤ SB ∧ EAll TData G0 c2 r.2.2.2.2 ∧ r.2.2.2.2.length ≤ SB
theorem file_part_1_s3.ok {ba0 : Nat} {ba0_0 : Nat} {ca0_0_ : List Value} {a0_0_ : Xoctet_Reader} {ba1 : Nat} {ba1_0_c0 : Nat} {ba1_0_c1 : Nat} {ba1_0_c2 : Nat} {ba1_0_c2_0 : Nat} {va1_0_c2_0_0 : Value} {ca1_0_c2_0_0 : List Value} {a1_0_c2_0_0 : (List XSymbol)} {va1_0_c2_0_1 : Value} {ca1_0_c2_0_1 : List Value} {a1_0_c2_0_1 : (List XFunc)} {va1_0_c2_0_2 : Value} {ca1_0_c2_0_2 : List Value} {a1_0_c2_0_2 : (List XData)} (st : St B w G [.blk ba0 [(pt ba0_0 0)] 104, .blk ba0_0 ca0_0_ 163, .blk ba1 [(.func (.func 127) #[] #[(pt ba1_0_c0 0), (pt ba1_0_c1 0), (pt ba1_0_c2 0)])] 107, .blk ba1_0_c0 [(.func (.func 66) #[] #[])] 117, .blk ba1_0_c1 [(pt ba0_0 0)] 104, .blk ba1_0_c2 [(pt ba1_0_c2_0 2)] 116, .blk ba1_0_c2_0 [va1_0_c2_0_0, va1_0_c2_0_1, va1_0_c2_0_2] 61, .row va1_0_c2_0_0 82 5 a1_0_c2_0_0.length ca1_0_c2_0_0, .row va1_0_c2_0_1 44 9 a1_0_c2_0_1.length ca1_0_c2_0_1, .row va1_0_c2_0_2 49 3 a1_0_c2_0_2.length ca1_0_c2_0_2]) (ha0_0_ : Toctet_Reader.rep G ca0_0_ a0_0_) (ha1_0_c2_0_0 : EAll TSymbol G ca1_0_c2_0_0 a1_0_c2_0_0) (lha1_0_c2_0_0 : a1_0_c2_0_0.length ≤ SB) (ha1_0_c2_0_1 : EAll TFunc G ca1_0_c2_0_1 a1_0_c2_0_1) (lha1_0_c2_0_1 : a1_0_c2_0_1.length ≤ SB) (ha1_0_c2_0_2 : EAll TData G ca1_0_c2_0_2 a1_0_c2_0_2) (lha1_0_c2_0_2 : a1_0_c2_0_2.length ≤ SB) {r : ((List Int) × Int × (List XSymbol) × (List XFunc) × (List XData))} (hr : file_part_1_s3.f a0_0_ a1_0_c2_0_0 a1_0_c2_0_1 a1_0_c2_0_2 = some r) :
 Calls Tryz.prog 112 ([(pt ba0 0), (pt ba1 0)] : List Value).toArray w (Ret B G (file_part_1_s3.K ba0_0 a0_0_ ba0 ba1_0_c0 ba1_0_c1 ba1_0_c2_0 ba1_0_c2 ba1 r)) := by
 obtain ⟨sa0_0__0, rfl, ha0_0__0, ha0_0__1⟩ := ha0_0_
 refine Jc [.tmp 2] func112 rfl ntmps112 rfl rfl ?_
 refine J2 (J1 ?_)
 refine Jsv (vi 0) rfl rfl ?_
 refine J0 (J2 (J2 (J1 ?_)))
 refine Jlb [] (pt ba0_0 0) ti104 st rfl rfl rfl ?_
 have h0 := St.pick 1 rfl st
 obtain ⟨t0, h1, hr⟩ := J6 hr
 refine Jn (f := 110) (av := [(pt ba0_0 0), (vi 1)]) cf110 rfl rfl h0 rfl (fun G1 e0 h2 => octet_Reader_Num_s2.ok (a0_ := a0_0_) h2 (⟨sa0_0__0, rfl, (SRep.mono e0.ro ha0_0__0), ha0_0__1⟩) (by rfl) h1) ?_
 rintro v4 w0 G2 G3 N0 e1 q0 ⟨v5, rfl, rfl, f0, f1, f2⟩ h3
 refine Jmv (vi 0) rfl rfl ?_
 refine J0 (Jb ?_)
 obtain ⟨t2, h4, hr⟩ := J6 hr
 have h5 := St.pick 2 rfl h3
 have h6 := St.pick 5 rfl h5
 have h7 := St.pick 6 rfl h6
 have h8 := St.pick 9 rfl h7
 have h9 := St.pick 9 rfl h8
 have h10 := St.pick 9 rfl h9
 have h11 := St.pick 9 rfl h10
 have h12 := St.pick 9 rfl h11
 have h13 := St.pick 9 rfl h12
 have h14 := St.pick 9 rfl h13
 refine Js 0 h4 (fun s0 ρ w => ∃ (σ0 : Env) (G4 : GH) (v6 : Value) (v7 : Value) (v8 : Value) (v9 : Value) (c3 : List Value) (c4 : List Value) (c5 : List Value), ρ = En σ0 [(0, (pt ba0 0)), (1, (pt ba1 0)), (5, (vi t0.1)), (6, (vi ((s0.2.2.2.2.2 : Nat) : Int)))] ∧ Ext G3 G4 ∧ St B w G4 [.blk ba0_0 [v6, (vi s0.2.1), (.bool a0_0_.live), (.bool a0_0_.bad)] 163, .blk ba0 [(pt ba0_0 0)] 104, .blk ba1_0_c0 [(.func (.func 66) #[] #[])] 117, .blk ba1_0_c1 [(pt ba0_0 0)] 104, .row v7 82 5 s0.2.2.1.length c3, .row v8 44 9 s0.2.2.2.1.length c4, .row v9 49 3 s0.2.2.2.2.1.length c5, .blk ba1_0_c2_0 [v7, v8, v9] 61, .blk ba1_0_c2 [(pt ba1_0_c2_0 2)] 116, .blk ba1 [(.func (.func 127) #[] #[(pt ba1_0_c0 0), (pt ba1_0_c1 0), (pt ba1_0_c2 0)])] 107] ∧ SRep 5 (tInt .u8) G4 v6 s0.1 ∧ InK .i64 s0.2.1 ∧ EAll TSymbol G4 c3 s0.2.2.1 ∧ s0.2.2.1.length ≤ SB ∧ EAll TFunc G4 c4 s0.2.2.2.1 ∧ s0.2.2.2.1.length ≤ SB ∧ EAll TData G4 c5 s0.2.2.2.2.1 ∧ s0.2.2.2.2.1.length ≤ SB ∧ InK .i64 ((s0.2.2.2.2.2 : Nat) : Int)) (fun t4 ρ w => ∃ (σ1 : Env) (G5 : GH) (va : Value) (vc : Value) (vd : Value) (ve : Value) (c6 : List Value) (c7 : List Value) (c8 : List Value), ρ = En σ1 [(0, (pt ba0 0))] ∧ Ext G3 G5 ∧ St B w G5 [.blk ba0_0 [va, (vi t4.2.1), (.bool a0_0_.live), (.bool a0_0_.bad)] 163, .blk ba0 [(pt ba0_0 0)] 104, .blk ba1_0_c0 [(.func (.func 66) #[] #[])] 117, .blk ba1_0_c1 [(pt ba0_0 0)] 104, .row vc 82 5 t4.2.2.1.length c6, .row vd 44 9 t4.2.2.2.1.length c7, .row ve 49 3 t4.2.2.2.2.length c8, .blk ba1_0_c2_0 [vc, vd, ve] 61, .blk ba1_0_c2 [(pt ba1_0_c2_0 2)] 116, .blk ba1 [(.func (.func 127) #[] #[(pt ba1_0_c0 0), (pt ba1_0_c1 0), (pt ba1_0_c2 0)])] 107] ∧ SRep 5 (tInt .u8) G5 va t4.1 ∧ InK .i64 t4.2.1 ∧ EAll TSymbol G5 c6 t4.2.2.1 ∧ t4.2.2.1.length ≤ SB ∧ EAll TFunc G5 c7 t4.2.2.2.1 ∧ t4.2.2.2.1.length ≤ SB ∧ EAll TData G5 c8 t4.2.2.2.2 ∧ t4.2.2.2.2.length ≤ SB) ⟨_, _, v5, va1_0_c2_0_0, va1_0_c2_0_1, va1_0_c2_0_2, ca1_0_c2_0_0, ca1_0_c2_0_1, ca1_0_c2_0_2, (J3 ⟨rfl, rfl, rfl, rfl, trivial⟩), (Ext.refl _), h14, (SRep.mono q0 f1), f2, (EAll.mono e1.ro ha1_0_c2_0_0), lha1_0_c2_0_0, (EAll.mono e1.ro ha1_0_c2_0_1), lha1_0_c2_0_1, (EAll.mono e1.ro ha1_0_c2_0_2), lha1_0_c2_0_2, (by rfl)⟩ ?_ ?_
 ·rintro s0 x0 _ _ hr ⟨σ0, G4, v6, v7, v8, v9, c3, c4, c5, rfl, e2, h15, f3, f4, f5, f6, f7, f8, f9, fa, fb⟩
  refine J2 (J1 ?_)
  refine Ji rfl rfl rfl ?_
  refine J0 (J2 ?_)
  refine J7 rfl (fun h16 => ?_) (fun h16 => ?_)
  ·replace hr := Jx hr h16
   refine J9 (J2 (Jb (J2 (J1 ?_))))
   refine Jlb [_, _, _, _, _, _, _, _, _] (.func (.func 127) #[] #[(pt ba1_0_c0 0), (pt ba1_0_c1 0), (pt ba1_0_c2 0)]) ti107 h15 rfl rfl rfl ?_
   have h17 := St.pick 6 rfl h15
   have h18 := St.pick 6 rfl h17
   have h19 := St.pick 6 rfl h18
   have h1a := St.pick 7 rfl h19
   have h1b := St.pick 8 rfl h1a
   have h1c := St.pick 5 rfl h1b
   have h1d := St.pick 8 rfl h1c
   have h1e := St.pick 8 rfl h1d
   obtain ⟨t1, h1f, hr⟩ := J6 hr
   refine Yd (N := [_, _, _, _, _, _, _, _]) (R := [.blk ba0 [(pt ba0_0 0)] 104, .blk ba1 [(.func (.func 127) #[] #[(pt ba1_0_c0 0), (pt ba1_0_c1 0), (pt ba1_0_c2 0)])] 107]) (f := 127) (av := [(pt ba1_0_c0 0), (pt ba1_0_c1 0), (pt ba1_0_c2 0)]) cf127 rfl rfl h1e rfl (fun G6 e3 h1g => api_Data_1.ok (a1_0_ := ({ b := s0.1, at_ := s0.2.1, live := a0_0_.live, bad := a0_0_.bad } : Xoctet_Reader)) h1g (⟨v6, rfl, (SRep.mono e3.ro f3), f4⟩) (EAll.mono e3.ro f5) f6 (EAll.mono e3.ro f7) f8 (EAll.mono e3.ro f9) fa h1f) ?_
   rintro vf w1 G7 G8 N1 e4 q1 ⟨vg, vh, vj, vk, c9, ca, cb, rfl, rfl, fc, fd, fe, ff, fg, fh, fj, fk⟩ h1h
   refine Jsv (vi 0) rfl rfl ?_
   refine J0 (J2 (J1 ?_))
   refine Jmv (vi 0) rfl rfl ?_
   refine Y1 rfl rfl rfl ?_
   change WL _ _ _ _ _ _ (upd _ _ (.bool false)) _
   refine J0 ?_
   refine J7 rfl (fun h => nomatch h) (fun _ => ?_)
   refine J9 (J1 ?_)
   refine Y2 rfl rfl rfl (of_decide_eq_true h16) f0 ?_
   refine Jmv (vi ((s0.2.2.2.2.2 + 1 : Nat) : Int)) rfl rfl ?_
   refine J0 ?_
   have h1i := St.pick 9 rfl h1h
   have h1j := St.pick 8 rfl h1i
   have h1k := St.pick 8 rfl h1j
   have h1l := St.pick 8 rfl h1k
   have h1m := St.pick 8 rfl h1l
   have h1n := St.pick 8 rfl h1m
   have h1o := St.pick 8 rfl h1n
   have h1p := St.pick 7 rfl h1o
   have h1q := St.pick 9 rfl h1p
   have h1r := St.pick 9 rfl h1q
   exact ⟨_, (Option.some.inj hr).symm, _, _, vg, vh, vj, vk, c9, ca, cb, (J3 ⟨rfl, rfl, rfl, rfl, trivial⟩), (e2.trans e4), h1r, (SRep.mono q1 fc), fd, (EAll.mono q1 fe), ff, (EAll.mono q1 fg), fh, (EAll.mono q1 fj), fk, (inK_inc (of_decide_eq_true h16) f0)⟩
  replace hr := Jf hr h16
  refine Jr ?_
  have h1s := St.pick 9 rfl h15
  have h1t := St.pick 9 rfl h1s
  have h1u := St.pick 9 rfl h1t
  have h1v := St.pick 9 rfl h1u
  have h1w := St.pick 9 rfl h1v
  have h1x := St.pick 9 rfl h1w
  have h1y := St.pick 9 rfl h1x
  have h1z := St.pick 9 rfl h1y
  have h20 := St.pick 9 rfl h1z
  have h21 := St.pick 9 rfl h20
  exact ⟨_, (Option.some.inj hr).symm, rfl, _, _, v6, v7, v8, v9, c3, c4, c5, (J3 ⟨rfl, trivial⟩), e2, h21, f3, f4, f5, f6, f7, f8, f9, fa⟩
 rintro _ _ ⟨σ1, G5, va, vc, vd, ve, c6, c7, c8, rfl, e5, h22, fl, fm, fn, fo, fp, fq, fr, fs⟩
 refine J2 (J2 (J1 ?_))
 refine Jlb [_] (pt ba0_0 0) ti104 h22 rfl rfl rfl ?_
 obtain ⟨t3, h23, hr⟩ := J6 hr
 refine Jn (f := 113) (av := [(pt ba0_0 0)]) cf113 rfl rfl h22 rfl (fun G9 e6 h24 => octet_Reader_Bad_s2.ok (a0_ := ({ b := t2.1, at_ := t2.2.1, live := a0_0_.live, bad := a0_0_.bad } : Xoctet_Reader)) h24 (⟨va, rfl, (SRep.mono e6.ro fl), fm⟩) h23) ?_
 rintro vl w2 Ga Gb N2 e7 q2 ⟨vm, rfl, rfl, ft⟩ h25
 refine J0 ?_
 refine J7 rfl (fun h26 => ?_) (fun h26 => ?_)
 ·exact Jk hr h26
 replace hr := Jf hr h26
 refine J9 (J2 (J1 ?_))
 refine Jsv (vi 0) rfl rfl ?_
 refine J0 (Jg ?_)
 have h27 := St.pick 9 rfl h25
 have h28 := St.pick 9 rfl h27
 have h29 := St.pick 9 rfl h28
 have h2a := St.pick 9 rfl h29
 have h2b := St.pick 9 rfl h2a
 have h2c := St.pick 9 rfl h2b
 have h2d := St.pick 9 rfl h2c
 have h2e := St.pick 9 rfl h2d
 have h2f := St.pick 9 rfl h2e
 have h2g := St.pick 9 rfl h2f
 obtain rfl := Option.some.inj hr
 exact ⟨[(vi 0)], ⟨rfl, trivial⟩, _, _, _, rfl, (e1.trans (e5.trans e7)), h2g, ⟨vm, vc, vd, ve, c6, c7, c8, rfl, rfl, (SRep.mono q2 ft), fm, (EAll.mono e7.ro fn), fo, (EAll.mono e7.ro fp), fq, (EAll.mono e7.ro fr), fs⟩⟩
def file_all.f (a0_0_c0_0_0 : (List Int)) (a0_0_c0_0_1 : Int) (a0_0_c0_0_2 : Bool) (a0_0_c0_0_3 : Bool) (a0_0_c1_0_c2_0_0 : (List XSymbol)) (a0_0_c1_0_c2_0_1 : (List XFunc)) (a0_0_c1_0_c2_0_2 : (List XData)) : Option (((List Int) × Int × Bool × Bool × (List XSymbol) × (List XFunc) × (List XData))) :=
 (file_part_1.f a0_0_c0_0_0 a0_0_c0_0_1 a0_0_c0_0_2 a0_0_c0_0_3 a0_0_c1_0_c2_0_0 a0_0_c1_0_c2_0_1 a0_0_c1_0_c2_0_2).bind fun t0 => (file_part_1_s2.f ({ b := t0.1, at_ := t0.2.1, live := a0_0_c0_0_2, bad := t0.2.2.1 } : Xoctet_Reader) t0.2.2.2.1 t0.2.2.2.2.1 t0.2.2.2.2.2).bind fun t1 => (file_part_1_s3.f ({ b := t1.1, at_ := t1.2.1, live := a0_0_c0_0_2, bad := t0.2.2.1 } : Xoctet_Reader) t1.2.2.1 t1.2.2.2.1 t1.2.2.2.2).bind fun t2 => some (t2.1, t2.2.1, a0_0_c0_0_2, t0.2.2.1, t2.2.2.1, t2.2.2.2.1, t2.2.2.2.2)
def file_all.K (ba0_0_c0_0 : Nat) (ba0_0_c0 : Nat) (ba0_0_c1_0_c0 : Nat) (ba0_0_c1_0_c1 : Nat) (ba0_0_c1_0_c2_0 : Nat) (ba0_0_c1_0_c2 : Nat) (ba0_0_c1 : Nat) (ba0_1_c0 : Nat) (ba0_1_c1_0_c0 : Nat) (ba0_1_c1_0_c1 : Nat) (ba0_1_c1_0_c2 : Nat) (ba0_1_c1 : Nat) (ba0_2_c0 : Nat) (ba0_2_c1_0_c0 : Nat) (ba0_2_c1_0_c1 : Nat) (ba0_2_c1_0_c2 : Nat) (ba0_2_c1 : Nat) (va0 : Value) (r : ((List Int) × Int × Bool × Bool × (List XSymbol) × (List XFunc) × (List XData))) (G0 : GH) (v : Value) (N : List Res) : Prop := ∃ (v0 : Value) (v1 : Value) (v2 : Value) (v3 : Value) (c0 : List Value) (c1 : List Value) (c2 : List Value), v = tup [(vi 0)] ∧ N = [.blk ba0_0_c0_0 [v0, (vi r.2.1), (.bool r.2.2.1), (.bool r.2.2.2.1)] 163, .blk ba0_0_c0 [(pt ba0_0_c0_0 0)] 104, .blk ba0_0_c1_0_c0 [(.func (.func 62) #[] #[])] 111, .blk ba0_0_c1_0_c1 [(pt ba0_0_c0_0 0)] 104, .row v1 82 5 r.2.2.2.2.1.length c0, .row v2 44 9 r.2.2.2.2.2.1.length c1, .row v3 49 3 r.2.2.2.2.2.2.length c2, .blk ba0_0_c1_0_c2_0 [v1, v2, v3] 61, .blk ba0_0_c1_0_c2 [(pt ba0_0_c1_0_c2_0 0)] 110, .blk ba0_0_c1 [(.func (.func 114) #[] #[(pt ba0_0_c1_0_c0 0), (pt ba0_0_c1_0_c1 0), (pt ba0_0_c1_0_c2 0)])] 107, .blk ba0_1_c0 [(pt ba0_0_c0_0 0)] 104, .blk ba0_1_c1_0_c0 [(.func (.func 64) #[] #[])] 114, .blk ba0_1_c1_0_c1 [(pt ba0_0_c0_0 0)] 104, .blk ba0_1_c1_0_c2 [(pt ba0_0_c1_0_c2_0 1)] 113, .blk ba0_1_c1 [(.func (.func 117) #[] #[(pt ba0_1_c1_0_c0 0), (pt ba0_1_c1_0_c1 0), (pt ba0_1_c1_0_c2 0)])] 107, .blk ba0_2_c0 [(pt ba0_0_c0_0 0)] 104, .blk ba0_2_c1_0_c0 [(.func (.func 66) #[] #[])] 117, .blk ba0_2_c1_0_c1 [(pt ba0_0_c0_0 0)] 104, .blk ba0_2_c1_0_c2 [(pt ba0_0_c1_0_c2_0 2)] 116, .blk ba0_2_c1 [(.func (.func 127) #[] #[(pt ba0_2_c1_0_c0 0), (pt ba0_2_c1_0_c1 0), (pt ba0_2_c1_0_c2 0)])] 107, .row va0 107 1 3 [(.func (.func 112) #[] #[(pt ba0_0_c0 0), (pt ba0_0_c1 0)]), (.func (.func 112) #[] #[(pt ba0_1_c0 0), (pt ba0_1_c1 0)]), (.func (.func 112) #[] #[(pt ba0_2_c0 0), (pt ba0_2_c1 0)])]] ∧ SRep 5 (tInt .u8) G0 v0 r.1 ∧ InK .i64 r.2.1 ∧ EAll TSymbol G0 c0 r.2.2.2.2.1 ∧ r.2.2.2.2.1.length ≤ SB ∧ EAll TFunc G0 c1 r.2.2.2.2.2.1 ∧ r.2.2.2.2.2.1.length ≤ SB ∧ EAll TData G0 c2 r.2.2.2.2.2.2 ∧ r.2.2.2.2.2.2.length ≤ SB
theorem file_all.ok {va0 : Value} {ba0_0_c0 : Nat} {ba0_0_c0_0 : Nat} {va0_0_c0_0_0 : Value} {ca0_0_c0_0_0 : List Value} {a0_0_c0_0_0 : (List Int)} {a0_0_c0_0_1 : Int} {a0_0_c0_0_2 : Bool} {a0_0_c0_0_3 : Bool} {ba0_0_c1 : Nat} {ba0_0_c1_0_c0 : Nat} {ba0_0_c1_0_c1 : Nat} {ba0_0_c1_0_c2 : Nat} {ba0_0_c1_0_c2_0 : Nat} {va0_0_c1_0_c2_0_0 : Value} {ca0_0_c1_0_c2_0_0 : List Value} {a0_0_c1_0_c2_0_0 : (List XSymbol)} {va0_0_c1_0_c2_0_1 : Value} {ca0_0_c1_0_c2_0_1 : List Value} {a0_0_c1_0_c2_0_1 : (List XFunc)} {va0_0_c1_0_c2_0_2 : Value} {ca0_0_c1_0_c2_0_2 : List Value} {a0_0_c1_0_c2_0_2 : (List XData)} {ba0_1_c0 : Nat} {ba0_1_c1 : Nat} {ba0_1_c1_0_c0 : Nat} {ba0_1_c1_0_c1 : Nat} {ba0_1_c1_0_c2 : Nat} {ba0_2_c0 : Nat} {ba0_2_c1 : Nat} {ba0_2_c1_0_c0 : Nat} {ba0_2_c1_0_c1 : Nat} {ba0_2_c1_0_c2 : Nat} (st : St B w G [.row va0 107 1 3 [(.func (.func 112) #[] #[(pt ba0_0_c0 0), (pt ba0_0_c1 0)]), (.func (.func 112) #[] #[(pt ba0_1_c0 0), (pt ba0_1_c1 0)]), (.func (.func 112) #[] #[(pt ba0_2_c0 0), (pt ba0_2_c1 0)])], .blk ba0_0_c0 [(pt ba0_0_c0_0 0)] 104, .blk ba0_0_c0_0 [va0_0_c0_0_0, (vi a0_0_c0_0_1), (.bool a0_0_c0_0_2), (.bool a0_0_c0_0_3)] 163, .row va0_0_c0_0_0 5 1 a0_0_c0_0_0.length ca0_0_c0_0_0, .blk ba0_0_c1 [(.func (.func 114) #[] #[(pt ba0_0_c1_0_c0 0), (pt ba0_0_c1_0_c1 0), (pt ba0_0_c1_0_c2 0)])] 107, .blk ba0_0_c1_0_c0 [(.func (.func 62) #[] #[])] 111, .blk ba0_0_c1_0_c1 [(pt ba0_0_c0_0 0)] 104, .blk ba0_0_c1_0_c2 [(pt ba0_0_c1_0_c2_0 0)] 110, .blk ba0_0_c1_0_c2_0 [va0_0_c1_0_c2_0_0, va0_0_c1_0_c2_0_1, va0_0_c1_0_c2_0_2] 61, .row va0_0_c1_0_c2_0_0 82 5 a0_0_c1_0_c2_0_0.length ca0_0_c1_0_c2_0_0, .row va0_0_c1_0_c2_0_1 44 9 a0_0_c1_0_c2_0_1.length ca0_0_c1_0_c2_0_1, .row va0_0_c1_0_c2_0_2 49 3 a0_0_c1_0_c2_0_2.length ca0_0_c1_0_c2_0_2, .blk ba0_1_c0 [(pt ba0_0_c0_0 0)] 104, .blk ba0_1_c1 [(.func (.func 117) #[] #[(pt ba0_1_c1_0_c0 0), (pt ba0_1_c1_0_c1 0), (pt ba0_1_c1_0_c2 0)])] 107, .blk ba0_1_c1_0_c0 [(.func (.func 64) #[] #[])] 114, .blk ba0_1_c1_0_c1 [(pt ba0_0_c0_0 0)] 104, .blk ba0_1_c1_0_c2 [(pt ba0_0_c1_0_c2_0 1)] 113, .blk ba0_2_c0 [(pt ba0_0_c0_0 0)] 104, .blk ba0_2_c1 [(.func (.func 127) #[] #[(pt ba0_2_c1_0_c0 0), (pt ba0_2_c1_0_c1 0), (pt ba0_2_c1_0_c2 0)])] 107, .blk ba0_2_c1_0_c0 [(.func (.func 66) #[] #[])] 117, .blk ba0_2_c1_0_c1 [(pt ba0_0_c0_0 0)] 104, .blk ba0_2_c1_0_c2 [(pt ba0_0_c1_0_c2_0 2)] 116]) (ha0_0_c0_0_0 : EAll (tInt .u8) G ca0_0_c0_0_0 a0_0_c0_0_0) (lha0_0_c0_0_0 : a0_0_c0_0_0.length ≤ SB) (ha0_0_c0_0_1 : InK .i64 a0_0_c0_0_1) (ha0_0_c1_0_c2_0_0 : EAll TSymbol G ca0_0_c1_0_c2_0_0 a0_0_c1_0_c2_0_0) (lha0_0_c1_0_c2_0_0 : a0_0_c1_0_c2_0_0.length ≤ SB) (ha0_0_c1_0_c2_0_1 : EAll TFunc G ca0_0_c1_0_c2_0_1 a0_0_c1_0_c2_0_1) (lha0_0_c1_0_c2_0_1 : a0_0_c1_0_c2_0_1.length ≤ SB) (ha0_0_c1_0_c2_0_2 : EAll TData G ca0_0_c1_0_c2_0_2 a0_0_c1_0_c2_0_2) (lha0_0_c1_0_c2_0_2 : a0_0_c1_0_c2_0_2.length ≤ SB) {r : ((List Int) × Int × Bool × Bool × (List XSymbol) × (List XFunc) × (List XData))} (hr : file_all.f a0_0_c0_0_0 a0_0_c0_0_1 a0_0_c0_0_2 a0_0_c0_0_3 a0_0_c1_0_c2_0_0 a0_0_c1_0_c2_0_1 a0_0_c1_0_c2_0_2 = some r) :
 Calls Tryz.prog 59 ([va0] : List Value).toArray w (Ret B G (file_all.K ba0_0_c0_0 ba0_0_c0 ba0_0_c1_0_c0 ba0_0_c1_0_c1 ba0_0_c1_0_c2_0 ba0_0_c1_0_c2 ba0_0_c1 ba0_1_c0 ba0_1_c1_0_c0 ba0_1_c1_0_c1 ba0_1_c1_0_c2 ba0_1_c1 ba0_2_c0 ba0_2_c1_0_c0 ba0_2_c1_0_c1 ba0_2_c1_0_c2 ba0_2_c1 va0 r)) := by
 refine Jc [.tmp 2] func59 rfl ntmps59 rfl rfl ?_
 refine J2 (J1 ?_)
 refine Jsv (vi 0) rfl rfl ?_
 refine J0 (J2 (J2 (J1 ?_)))
 refine Jmv va0 rfl rfl ?_
 refine WL_lenOwn (l1 := []) underlying164 st rfl rfl ?_
 change WL _ _ _ _ _ _ (upd _ _ (vi 3)) _
 refine Jmv (vi 0) rfl rfl ?_
 refine J0 (Jb ?_)
 refine W_rounds 4 ?_
 refine J2 (J1 ?_)
 refine Ji rfl rfl rfl ?_
 change WL _ _ _ _ _ _ (upd _ _ (.bool true)) _
 refine J0 (J2 ?_)
 refine J7 rfl (fun _ => ?_) (fun h => nomatch h)
 refine J9 (J2 (Jb (J2 (J1 ?_))))
 refine Y7 (l1 := []) underlying164 ti107 st rfl rfl rfl (by decide) (by decide) ?_
 intro g0 k0 l0
 change WL _ _ _ _ _ _ (upd _ _ (pt g0 0)) _
 refine Y4 (v := (.func (.func 112) #[] #[(pt ba0_0_c0 0), (pt ba0_0_c1 0)])) ti107 rfl rfl (Lies.drop 0 (St.liesRow (l1 := []) st k0)) rfl ?_
 refine Jsv (.func (.func 112) #[] #[(pt ba0_0_c0 0), (pt ba0_0_c1 0)]) rfl rfl ?_
 refine J0 (J2 (J1 ?_))
 refine Jmv (.func (.func 112) #[] #[(pt ba0_0_c0 0), (pt ba0_0_c1 0)]) rfl rfl ?_
 have h0 := St.pick 11 rfl st
 have h1 := St.pick 11 rfl h0
 have h2 := St.pick 11 rfl h1
 have h3 := St.pick 11 rfl h2
 have h4 := St.pick 11 rfl h3
 have h5 := St.pick 11 rfl h4
 have h6 : St B _ G [.blk ba0_0_c1_0_c1 [(pt ba0_0_c0_0 0)] 104, .blk ba0_0_c1_0_c2 [(pt ba0_0_c1_0_c2_0 0)] 110, .blk ba0_0_c1_0_c2_0 [va0_0_c1_0_c2_0_0, va0_0_c1_0_c2_0_1, va0_0_c1_0_c2_0_2] 61, .row va0_0_c1_0_c2_0_0 82 5 a0_0_c1_0_c2_0_0.length ca0_0_c1_0_c2_0_0, .row va0_0_c1_0_c2_0_1 44 9 a0_0_c1_0_c2_0_1.length ca0_0_c1_0_c2_0_1, .row va0_0_c1_0_c2_0_2 49 3 a0_0_c1_0_c2_0_2.length ca0_0_c1_0_c2_0_2, .row va0 107 1 3 [(.func (.func 112) #[] #[(pt ba0_0_c0 0), (pt ba0_0_c1 0)]), (.func (.func 112) #[] #[(pt ba0_1_c0 0), (pt ba0_1_c1 0)]), (.func (.func 112) #[] #[(pt ba0_2_c0 0), (pt ba0_2_c1 0)])], .blk ba0_0_c0 [(pt ba0_0_c0_0 0)] 104, .blk ba0_0_c0_0 [va0_0_c0_0_0, (vi a0_0_c0_0_1), (.bool a0_0_c0_0_2), (.bool a0_0_c0_0_3)] 163, .row va0_0_c0_0_0 5 1 a0_0_c0_0_0.length ca0_0_c0_0_0, .blk ba0_0_c1 [(.func (.func 114) #[] #[(pt ba0_0_c1_0_c0 0), (pt ba0_0_c1_0_c1 0), (pt ba0_0_c1_0_c2 0)])] 107, .blk ba0_0_c1_0_c0 [(.func (.func 62) #[] #[])] 111, .blk ba0_1_c0 [(pt ba0_0_c0_0 0)] 104, .blk ba0_1_c1 [(.func (.func 117) #[] #[(pt ba0_1_c1_0_c0 0), (pt ba0_1_c1_0_c1 0), (pt ba0_1_c1_0_c2 0)])] 107, .blk ba0_1_c1_0_c0 [(.func (.func 64) #[] #[])] 114, .blk ba0_1_c1_0_c1 [(pt ba0_0_c0_0 0)] 104, .blk ba0_1_c1_0_c2 [(pt ba0_0_c1_0_c2_0 1)] 113, .blk ba0_2_c0 [(pt ba0_0_c0_0 0)] 104, .blk ba0_2_c1 [(.func (.func 127) #[] #[(pt ba0_2_c1_0_c0 0), (pt ba0_2_c1_0_c1 0), (pt ba0_2_c1_0_c2 0)])] 107, .blk ba0_2_c1_0_c0 [(.func (.func 66) #[] #[])] 117, .blk ba0_2_c1_0_c1 [(pt ba0_0_c0_0 0)] 104, .blk ba0_2_c1_0_c2 [(pt ba0_0_c1_0_c2_0 2)] 116] := h5
 have h7 := St.pick 11 rfl h6
 have h8 := St.pick 11 rfl h7
 have h9 := St.pick 11 rfl h8
 have h10 := St.pick 11 rfl h9
 have h11 := St.pick 11 rfl h10
 have h12 : St B _ G [.blk ba0_0_c0 [(pt ba0_0_c0_0 0)] 104, .blk ba0_0_c0_0 [va0_0_c0_0_0, (vi a0_0_c0_0_1), (.bool a0_0_c0_0_2), (.bool a0_0_c0_0_3)] 163, .row va0_0_c0_0_0 5 1 a0_0_c0_0_0.length ca0_0_c0_0_0, .blk ba0_0_c1 [(.func (.func 114) #[] #[(pt ba0_0_c1_0_c0 0), (pt ba0_0_c1_0_c1 0), (pt ba0_0_c1_0_c2 0)])] 107, .blk ba0_0_c1_0_c0 [(.func (.func 62) #[] #[])] 111, .blk ba0_0_c1_0_c1 [(pt ba0_0_c0_0 0)] 104, .blk ba0_0_c1_0_c2 [(pt ba0_0_c1_0_c2_0 0)] 110, .blk ba0_0_c1_0_c2_0 [va0_0_c1_0_c2_0_0, va0_0_c1_0_c2_0_1, va0_0_c1_0_c2_0_2] 61, .row va0_0_c1_0_c2_0_0 82 5 a0_0_c1_0_c2_0_0.length ca0_0_c1_0_c2_0_0, .row va0_0_c1_0_c2_0_1 44 9 a0_0_c1_0_c2_0_1.length ca0_0_c1_0_c2_0_1, .row va0_0_c1_0_c2_0_2 49 3 a0_0_c1_0_c2_0_2.length ca0_0_c1_0_c2_0_2, .row va0 107 1 3 [(.func (.func 112) #[] #[(pt ba0_0_c0 0), (pt ba0_0_c1 0)]), (.func (.func 112) #[] #[(pt ba0_1_c0 0), (pt ba0_1_c1 0)]), (.func (.func 112) #[] #[(pt ba0_2_c0 0), (pt ba0_2_c1 0)])], .blk ba0_1_c0 [(pt ba0_0_c0_0 0)] 104, .blk ba0_1_c1 [(.func (.func 117) #[] #[(pt ba0_1_c1_0_c0 0), (pt ba0_1_c1_0_c1 0), (pt ba0_1_c1_0_c2 0)])] 107, .blk ba0_1_c1_0_c0 [(.func (.func 64) #[] #[])] 114, .blk ba0_1_c1_0_c1 [(pt ba0_0_c0_0 0)] 104, .blk ba0_1_c1_0_c2 [(pt ba0_0_c1_0_c2_0 1)] 113, .blk ba0_2_c0 [(pt ba0_0_c0_0 0)] 104, .blk ba0_2_c1 [(.func (.func 127) #[] #[(pt ba0_2_c1_0_c0 0), (pt ba0_2_c1_0_c1 0), (pt ba0_2_c1_0_c2 0)])] 107, .blk ba0_2_c1_0_c0 [(.func (.func 66) #[] #[])] 117, .blk ba0_2_c1_0_c1 [(pt ba0_0_c0_0 0)] 104, .blk ba0_2_c1_0_c2 [(pt ba0_0_c1_0_c2_0 2)] 116] := h11
 obtain ⟨t0, h13, hr⟩ := J6 hr
 refine Yd (N := [_, _, _, _, _, _, _, _, _, _, _]) (R := [.row va0 107 1 3 [(.func (.func 112) #[] #[(pt ba0_0_c0 0), (pt ba0_0_c1 0)]), (.func (.func 112) #[] #[(pt ba0_1_c0 0), (pt ba0_1_c1 0)]), (.func (.func 112) #[] #[(pt ba0_2_c0 0), (pt ba0_2_c1 0)])], .blk ba0_1_c0 [(pt ba0_0_c0_0 0)] 104, .blk ba0_1_c1 [(.func (.func 117) #[] #[(pt ba0_1_c1_0_c0 0), (pt ba0_1_c1_0_c1 0), (pt ba0_1_c1_0_c2 0)])] 107, .blk ba0_1_c1_0_c0 [(.func (.func 64) #[] #[])] 114, .blk ba0_1_c1_0_c1 [(pt ba0_0_c0_0 0)] 104, .blk ba0_1_c1_0_c2 [(pt ba0_0_c1_0_c2_0 1)] 113, .blk ba0_2_c0 [(pt ba0_0_c0_0 0)] 104, .blk ba0_2_c1 [(.func (.func 127) #[] #[(pt ba0_2_c1_0_c0 0), (pt ba0_2_c1_0_c1 0), (pt ba0_2_c1_0_c2 0)])] 107, .blk ba0_2_c1_0_c0 [(.func (.func 66) #[] #[])] 117, .blk ba0_2_c1_0_c1 [(pt ba0_0_c0_0 0)] 104, .blk ba0_2_c1_0_c2 [(pt ba0_0_c1_0_c2_0 2)] 116]) (f := 112) (av := [(pt ba0_0_c0 0), (pt ba0_0_c1 0)]) cf112 rfl rfl h12 rfl (fun G1 e0 h14 => file_part_1.ok h14 (EAll.mono e0.ro ha0_0_c0_0_0) lha0_0_c0_0_0 ha0_0_c0_0_1 (EAll.mono e0.ro ha0_0_c1_0_c2_0_0) lha0_0_c1_0_c2_0_0 (EAll.mono e0.ro ha0_0_c1_0_c2_0_1) lha0_0_c1_0_c2_0_1 (EAll.mono e0.ro ha0_0_c1_0_c2_0_2) lha0_0_c1_0_c2_0_2 h13) ?_
 rintro v4 w0 G2 G3 N0 e1 q0 ⟨v5, v6, v7, v8, c3, c4, c5, rfl, rfl, f0, f1, f2, f3, f4, f5, f6, f7⟩ h15
 refine Jsv (vi 0) rfl rfl ?_
 refine J0 (J2 (J1 ?_))
 refine Jmv (vi 0) rfl rfl ?_
 refine Y1 rfl rfl rfl ?_
 change WL _ _ _ _ _ _ (upd _ _ (.bool false)) _
 refine J0 ?_
 refine J7 rfl (fun h => nomatch h) (fun _ => ?_)
 refine J9 (J1 ?_)
 refine Yj rfl rfl rfl ?_
 change WL _ _ _ _ _ _ (upd _ _ (vi 1)) _
 refine Jmv (vi 1) rfl rfl ?_
 refine J0 (J2 (J1 ?_))
 refine Ji rfl rfl rfl ?_
 change WL _ _ _ _ _ _ (upd _ _ (.bool true)) _
 refine J0 (J2 ?_)
 refine J7 rfl (fun _ => ?_) (fun h => nomatch h)
 refine J9 (J2 (Jb (J2 (J1 ?_))))
 refine Y7 (l1 := [_, _, _, _, _, _, _, _, _, _]) underlying164 ti107 h15 rfl rfl rfl (by decide) (by decide) ?_
 intro g1 k1 l3
 change WL _ _ _ _ _ _ (upd _ _ (pt g1 1)) _
 refine Y4 (v := (.func (.func 112) #[] #[(pt ba0_1_c0 0), (pt ba0_1_c1 0)])) ti107 rfl rfl (Lies.drop 1 (St.liesRow (l1 := [_, _, _, _, _, _, _, _, _, _]) h15 k1)) rfl ?_
 refine Jsv (.func (.func 112) #[] #[(pt ba0_1_c0 0), (pt ba0_1_c1 0)]) rfl rfl ?_
 refine J0 (J2 (J1 ?_))
 refine Jmv (.func (.func 112) #[] #[(pt ba0_1_c0 0), (pt ba0_1_c1 0)]) rfl rfl ?_
 have h16 := St.pick 6 rfl h15
 have h17 := St.pick 6 rfl h16
 have h18 := St.pick 6 rfl h17
 have h19 := St.pick 7 rfl h18
 have h1a := St.pick 15 rfl h19
 have h1b := St.pick 15 rfl h1a
 have h1c : St B _ G3 [.blk ba0_1_c1_0_c1 [(pt ba0_0_c0_0 0)] 104, .blk ba0_1_c1_0_c2 [(pt ba0_0_c1_0_c2_0 1)] 113, .blk ba0_0_c1_0_c2_0 [v6, v7, v8] 61, .row v6 82 5 t0.2.2.2.1.length c3, .row v7 44 9 t0.2.2.2.2.1.length c4, .row v8 49 3 t0.2.2.2.2.2.length c5, .blk ba0_0_c0_0 [v5, (vi t0.2.1), (.bool a0_0_c0_0_2), (.bool t0.2.2.1)] 163, .blk ba0_0_c0 [(pt ba0_0_c0_0 0)] 104, .blk ba0_0_c1_0_c0 [(.func (.func 62) #[] #[])] 111, .blk ba0_0_c1_0_c1 [(pt ba0_0_c0_0 0)] 104, .blk ba0_0_c1_0_c2 [(pt ba0_0_c1_0_c2_0 0)] 110, .blk ba0_0_c1 [(.func (.func 114) #[] #[(pt ba0_0_c1_0_c0 0), (pt ba0_0_c1_0_c1 0), (pt ba0_0_c1_0_c2 0)])] 107, .row va0 107 1 3 [(.func (.func 112) #[] #[(pt ba0_0_c0 0), (pt ba0_0_c1 0)]), (.func (.func 112) #[] #[(pt ba0_1_c0 0), (pt ba0_1_c1 0)]), (.func (.func 112) #[] #[(pt ba0_2_c0 0), (pt ba0_2_c1 0)])], .blk ba0_1_c0 [(pt ba0_0_c0_0 0)] 104, .blk ba0_1_c1 [(.func (.func 117) #[] #[(pt ba0_1_c1_0_c0 0), (pt ba0_1_c1_0_c1 0), (pt ba0_1_c1_0_c2 0)])] 107, .blk ba0_1_c1_0_c0 [(.func (.func 64) #[] #[])] 114, .blk ba0_2_c0 [(pt ba0_0_c0_0 0)] 104, .blk ba0_2_c1 [(.func (.func 127) #[] #[(pt ba0_2_c1_0_c0 0), (pt ba0_2_c1_0_c1 0), (pt ba0_2_c1_0_c2 0)])] 107, .blk ba0_2_c1_0_c0 [(.func (.func 66) #[] #[])] 117, .blk ba0_2_c1_0_c1 [(pt ba0_0_c0_0 0)] 104, .blk ba0_2_c1_0_c2 [(pt ba0_0_c1_0_c2_0 2)] 116] := h1b
 have h1d := St.pick 15 rfl h1c
 have h1e := St.pick 15 rfl h1d
 have h1f := St.pick 8 rfl h1e
 have h1g := St.pick 15 rfl h1f
 have h1h : St B _ G3 [.blk ba0_1_c0 [(pt ba0_0_c0_0 0)] 104, .blk ba0_0_c0_0 [v5, (vi t0.2.1), (.bool a0_0_c0_0_2), (.bool t0.2.2.1)] 163, .blk ba0_1_c1 [(.func (.func 117) #[] #[(pt ba0_1_c1_0_c0 0), (pt ba0_1_c1_0_c1 0), (pt ba0_1_c1_0_c2 0)])] 107, .blk ba0_1_c1_0_c0 [(.func (.func 64) #[] #[])] 114, .blk ba0_1_c1_0_c1 [(pt ba0_0_c0_0 0)] 104, .blk ba0_1_c1_0_c2 [(pt ba0_0_c1_0_c2_0 1)] 113, .blk ba0_0_c1_0_c2_0 [v6, v7, v8] 61, .row v6 82 5 t0.2.2.2.1.length c3, .row v7 44 9 t0.2.2.2.2.1.length c4, .row v8 49 3 t0.2.2.2.2.2.length c5, .blk ba0_0_c0 [(pt ba0_0_c0_0 0)] 104, .blk ba0_0_c1_0_c0 [(.func (.func 62) #[] #[])] 111, .blk ba0_0_c1_0_c1 [(pt ba0_0_c0_0 0)] 104, .blk ba0_0_c1_0_c2 [(pt ba0_0_c1_0_c2_0 0)] 110, .blk ba0_0_c1 [(.func (.func 114) #[] #[(pt ba0_0_c1_0_c0 0), (pt ba0_0_c1_0_c1 0), (pt ba0_0_c1_0_c2 0)])] 107, .row va0 107 1 3 [(.func (.func 112) #[] #[(pt ba0_0_c0 0), (pt ba0_0_c1 0)]), (.func (.func 112) #[] #[(pt ba0_1_c0 0), (pt ba0_1_c1 0)]), (.func (.func 112) #[] #[(pt ba0_2_c0 0), (pt ba0_2_c1 0)])], .blk ba0_2_c0 [(pt ba0_0_c0_0 0)] 104, .blk ba0_2_c1 [(.func (.func 127) #[] #[(pt ba0_2_c1_0_c0 0), (pt ba0_2_c1_0_c1 0), (pt ba0_2_c1_0_c2 0)])] 107, .blk ba0_2_c1_0_c0 [(.func (.func 66) #[] #[])] 117, .blk ba0_2_c1_0_c1 [(pt ba0_0_c0_0 0)] 104, .blk ba0_2_c1_0_c2 [(pt ba0_0_c1_0_c2_0 2)] 116] := h1g
 obtain ⟨t1, h1i, hr⟩ := J6 hr
 refine Yd (N := [_, _, _, _, _, _, _, _, _, _]) (R := [.blk ba0_0_c0 [(pt ba0_0_c0_0 0)] 104, .blk ba0_0_c1_0_c0 [(.func (.func 62) #[] #[])] 111, .blk ba0_0_c1_0_c1 [(pt ba0_0_c0_0 0)] 104, .blk ba0_0_c1_0_c2 [(pt ba0_0_c1_0_c2_0 0)] 110, .blk ba0_0_c1 [(.func (.func 114) #[] #[(pt ba0_0_c1_0_c0 0), (pt ba0_0_c1_0_c1 0), (pt ba0_0_c1_0_c2 0)])] 107, .row va0 107 1 3 [(.func (.func 112) #[] #[(pt ba0_0_c0 0), (pt ba0_0_c1 0)]), (.func (.func 112) #[] #[(pt ba0_1_c0 0), (pt ba0_1_c1 0)]), (.func (.func 112) #[] #[(pt ba0_2_c0 0), (pt ba0_2_c1 0)])], .blk ba0_2_c0 [(pt ba0_0_c0_0 0)] 104, .blk ba0_2_c1 [(.func (.func 127) #[] #[(pt ba0_2_c1_0_c0 0), (pt ba0_2_c1_0_c1 0), (pt ba0_2_c1_0_c2 0)])] 107, .blk ba0_2_c1_0_c0 [(.func (.func 66) #[] #[])] 117, .blk ba0_2_c1_0_c1 [(pt ba0_0_c0_0 0)] 104, .blk ba0_2_c1_0_c2 [(pt ba0_0_c1_0_c2_0 2)] 116]) (f := 112) (av := [(pt ba0_1_c0 0), (pt ba0_1_c1 0)]) cf112 rfl rfl h1h rfl (fun G4 e2 h1j => file_part_1_s2.ok (a0_0_ := ({ b := t0.1, at_ := t0.2.1, live := a0_0_c0_0_2, bad := t0.2.2.1 } : Xoctet_Reader)) h1j (⟨v5, rfl, (SRep.mono e2.ro (SRep.mono q0 f0)), f1⟩) (EAll.mono e2.ro (EAll.mono q0 f2)) f3 (EAll.mono e2.ro (EAll.mono q0 f4)) f5 (EAll.mono e2.ro (EAll.mono q0 f6)) f7 h1i) ?_
 rintro v9 w1 G5 G6 N1 e3 q1 ⟨va, vc, vd, ve, c6, c7, c8, rfl, rfl, f8, f9, fa, fb, fc, fd, fe, ff⟩ h1k
 refine Jsv (vi 0) rfl rfl ?_
 refine J0 (J2 (J1 ?_))
 refine Jmv (vi 0) rfl rfl ?_
 refine Y1 rfl rfl rfl ?_
 change WL _ _ _ _ _ _ (upd _ _ (.bool false)) _
 refine J0 ?_
 refine J7 rfl (fun h => nomatch h) (fun _ => ?_)
 refine J9 (J1 ?_)
 refine Yj rfl rfl rfl ?_
 change WL _ _ _ _ _ _ (upd _ _ (vi 2)) _
 refine Jmv (vi 2) rfl rfl ?_
 refine J0 (J2 (J1 ?_))
 refine Ji rfl rfl rfl ?_
 change WL _ _ _ _ _ _ (upd _ _ (.bool true)) _
 refine J0 (J2 ?_)
 refine J7 rfl (fun _ => ?_) (fun h => nomatch h)
 refine J9 (J2 (Jb (J2 (J1 ?_))))
 refine Y7 (l1 := [_, _, _, _, _, _, _, _, _, _, _, _, _, _, _]) underlying164 ti107 h1k rfl rfl rfl (by decide) (by decide) ?_
 intro g2 k2 l4
 change WL _ _ _ _ _ _ (upd _ _ (pt g2 2)) _
 refine Y4 (v := (.func (.func 112) #[] #[(pt ba0_2_c0 0), (pt ba0_2_c1 0)])) ti107 rfl rfl (Lies.drop 2 (St.liesRow (l1 := [_, _, _, _, _, _, _, _, _, _, _, _, _, _, _]) h1k k2)) rfl ?_
 refine Jsv (.func (.func 112) #[] #[(pt ba0_2_c0 0), (pt ba0_2_c1 0)]) rfl rfl ?_
 refine J0 (J2 (J1 ?_))
 refine Jmv (.func (.func 112) #[] #[(pt ba0_2_c0 0), (pt ba0_2_c1 0)]) rfl rfl ?_
 have h1l := St.pick 6 rfl h1k
 have h1m := St.pick 6 rfl h1l
 have h1n := St.pick 6 rfl h1m
 have h1o := St.pick 7 rfl h1n
 have h1p := St.pick 20 rfl h1o
 have h1q := St.pick 20 rfl h1p
 have h1r : St B _ G6 [.blk ba0_2_c1_0_c1 [(pt ba0_0_c0_0 0)] 104, .blk ba0_2_c1_0_c2 [(pt ba0_0_c1_0_c2_0 2)] 116, .blk ba0_0_c1_0_c2_0 [vc, vd, ve] 61, .row vc 82 5 t1.2.2.1.length c6, .row vd 44 9 t1.2.2.2.1.length c7, .row ve 49 3 t1.2.2.2.2.length c8, .blk ba0_0_c0_0 [va, (vi t1.2.1), (.bool a0_0_c0_0_2), (.bool t0.2.2.1)] 163, .blk ba0_1_c0 [(pt ba0_0_c0_0 0)] 104, .blk ba0_1_c1_0_c0 [(.func (.func 64) #[] #[])] 114, .blk ba0_1_c1_0_c1 [(pt ba0_0_c0_0 0)] 104, .blk ba0_1_c1_0_c2 [(pt ba0_0_c1_0_c2_0 1)] 113, .blk ba0_1_c1 [(.func (.func 117) #[] #[(pt ba0_1_c1_0_c0 0), (pt ba0_1_c1_0_c1 0), (pt ba0_1_c1_0_c2 0)])] 107, .blk ba0_0_c0 [(pt ba0_0_c0_0 0)] 104, .blk ba0_0_c1_0_c0 [(.func (.func 62) #[] #[])] 111, .blk ba0_0_c1_0_c1 [(pt ba0_0_c0_0 0)] 104, .blk ba0_0_c1_0_c2 [(pt ba0_0_c1_0_c2_0 0)] 110, .blk ba0_0_c1 [(.func (.func 114) #[] #[(pt ba0_0_c1_0_c0 0), (pt ba0_0_c1_0_c1 0), (pt ba0_0_c1_0_c2 0)])] 107, .row va0 107 1 3 [(.func (.func 112) #[] #[(pt ba0_0_c0 0), (pt ba0_0_c1 0)]), (.func (.func 112) #[] #[(pt ba0_1_c0 0), (pt ba0_1_c1 0)]), (.func (.func 112) #[] #[(pt ba0_2_c0 0), (pt ba0_2_c1 0)])], .blk ba0_2_c0 [(pt ba0_0_c0_0 0)] 104, .blk ba0_2_c1 [(.func (.func 127) #[] #[(pt ba0_2_c1_0_c0 0), (pt ba0_2_c1_0_c1 0), (pt ba0_2_c1_0_c2 0)])] 107, .blk ba0_2_c1_0_c0 [(.func (.func 66) #[] #[])] 117] := h1q
 have h1s := St.pick 20 rfl h1r
 have h1t := St.pick 20 rfl h1s
 have h1u := St.pick 8 rfl h1t
 have h1v := St.pick 20 rfl h1u
 have h1w : St B _ G6 [.blk ba0_2_c0 [(pt ba0_0_c0_0 0)] 104, .blk ba0_0_c0_0 [va, (vi t1.2.1), (.bool a0_0_c0_0_2), (.bool t0.2.2.1)] 163, .blk ba0_2_c1 [(.func (.func 127) #[] #[(pt ba0_2_c1_0_c0 0), (pt ba0_2_c1_0_c1 0), (pt ba0_2_c1_0_c2 0)])] 107, .blk ba0_2_c1_0_c0 [(.func (.func 66) #[] #[])] 117, .blk ba0_2_c1_0_c1 [(pt ba0_0_c0_0 0)] 104, .blk ba0_2_c1_0_c2 [(pt ba0_0_c1_0_c2_0 2)] 116, .blk ba0_0_c1_0_c2_0 [vc, vd, ve] 61, .row vc 82 5 t1.2.2.1.length c6, .row vd 44 9 t1.2.2.2.1.length c7, .row ve 49 3 t1.2.2.2.2.length c8, .blk ba0_1_c0 [(pt ba0_0_c0_0 0)] 104, .blk ba0_1_c1_0_c0 [(.func (.func 64) #[] #[])] 114, .blk ba0_1_c1_0_c1 [(pt ba0_0_c0_0 0)] 104, .blk ba0_1_c1_0_c2 [(pt ba0_0_c1_0_c2_0 1)] 113, .blk ba0_1_c1 [(.func (.func 117) #[] #[(pt ba0_1_c1_0_c0 0), (pt ba0_1_c1_0_c1 0), (pt ba0_1_c1_0_c2 0)])] 107, .blk ba0_0_c0 [(pt ba0_0_c0_0 0)] 104, .blk ba0_0_c1_0_c0 [(.func (.func 62) #[] #[])] 111, .blk ba0_0_c1_0_c1 [(pt ba0_0_c0_0 0)] 104, .blk ba0_0_c1_0_c2 [(pt ba0_0_c1_0_c2_0 0)] 110, .blk ba0_0_c1 [(.func (.func 114) #[] #[(pt ba0_0_c1_0_c0 0), (pt ba0_0_c1_0_c1 0), (pt ba0_0_c1_0_c2 0)])] 107, .row va0 107 1 3 [(.func (.func 112) #[] #[(pt ba0_0_c0 0), (pt ba0_0_c1 0)]), (.func (.func 112) #[] #[(pt ba0_1_c0 0), (pt ba0_1_c1 0)]), (.func (.func 112) #[] #[(pt ba0_2_c0 0), (pt ba0_2_c1 0)])]] := h1v
 obtain ⟨t2, h1x, hr⟩ := J6 hr
 refine Yd (N := [_, _, _, _, _, _, _, _, _, _]) (R := [.blk ba0_1_c0 [(pt ba0_0_c0_0 0)] 104, .blk ba0_1_c1_0_c0 [(.func (.func 64) #[] #[])] 114, .blk ba0_1_c1_0_c1 [(pt ba0_0_c0_0 0)] 104, .blk ba0_1_c1_0_c2 [(pt ba0_0_c1_0_c2_0 1)] 113, .blk ba0_1_c1 [(.func (.func 117) #[] #[(pt ba0_1_c1_0_c0 0), (pt ba0_1_c1_0_c1 0), (pt ba0_1_c1_0_c2 0)])] 107, .blk ba0_0_c0 [(pt ba0_0_c0_0 0)] 104, .blk ba0_0_c1_0_c0 [(.func (.func 62) #[] #[])] 111, .blk ba0_0_c1_0_c1 [(pt ba0_0_c0_0 0)] 104, .blk ba0_0_c1_0_c2 [(pt ba0_0_c1_0_c2_0 0)] 110, .blk ba0_0_c1 [(.func (.func 114) #[] #[(pt ba0_0_c1_0_c0 0), (pt ba0_0_c1_0_c1 0), (pt ba0_0_c1_0_c2 0)])] 107, .row va0 107 1 3 [(.func (.func 112) #[] #[(pt ba0_0_c0 0), (pt ba0_0_c1 0)]), (.func (.func 112) #[] #[(pt ba0_1_c0 0), (pt ba0_1_c1 0)]), (.func (.func 112) #[] #[(pt ba0_2_c0 0), (pt ba0_2_c1 0)])]]) (f := 112) (av := [(pt ba0_2_c0 0), (pt ba0_2_c1 0)]) cf112 rfl rfl h1w rfl (fun G7 e4 h1y => file_part_1_s3.ok (a0_0_ := ({ b := t1.1, at_ := t1.2.1, live := a0_0_c0_0_2, bad := t0.2.2.1 } : Xoctet_Reader)) h1y (⟨va, rfl, (SRep.mono e4.ro (SRep.mono q1 f8)), f9⟩) (EAll.mono e4.ro (EAll.mono q1 fa)) fb (EAll.mono e4.ro (EAll.mono q1 fc)) fd (EAll.mono e4.ro (EAll.mono q1 fe)) ff h1x) ?_
 rintro vf w2 G8 G9 N2 e5 q2 ⟨vg, vh, vj, vk, c9, ca, cb, rfl, rfl, fg, fh, fj, fk, fl, fm, fn, fo⟩ h1z
 refine Jsv (vi 0) rfl rfl ?_
 refine J0 (J2 (J1 ?_))
 refine Jmv (vi 0) rfl rfl ?_
 refine Y1 rfl rfl rfl ?_
 change WL _ _ _ _ _ _ (upd _ _ (.bool false)) _
 refine J0 ?_
 refine J7 rfl (fun h => nomatch h) (fun _ => ?_)
 refine J9 (J1 ?_)
 refine Yj rfl rfl rfl ?_
 change WL _ _ _ _ _ _ (upd _ _ (vi 3)) _
 refine Jmv (vi 3) rfl rfl ?_
 refine J0 (J2 (J1 ?_))
 refine Ji rfl rfl rfl ?_
 change WL _ _ _ _ _ _ (upd _ _ (.bool false)) _
 refine J0 (J2 ?_)
 refine J7 rfl (fun h => nomatch h) (fun _ => ?_)
 refine Jr (J2 (J1 ?_))
 refine Jsv (vi 0) rfl rfl ?_
 refine J0 (Jg ?_)
 have h20 := St.pick 20 rfl h1z
 have h21 := St.pick 10 rfl h20
 have h22 := St.pick 10 rfl h21
 have h23 : St B _ G9 [.blk ba0_2_c1_0_c2 [(pt ba0_0_c1_0_c2_0 2)] 116, .blk ba0_2_c1 [(.func (.func 127) #[] #[(pt ba0_2_c1_0_c0 0), (pt ba0_2_c1_0_c1 0), (pt ba0_2_c1_0_c2 0)])] 107, .row va0 107 1 3 [(.func (.func 112) #[] #[(pt ba0_0_c0 0), (pt ba0_0_c1 0)]), (.func (.func 112) #[] #[(pt ba0_1_c0 0), (pt ba0_1_c1 0)]), (.func (.func 112) #[] #[(pt ba0_2_c0 0), (pt ba0_2_c1 0)])], .blk ba0_0_c0_0 [vg, (vi t2.2.1), (.bool a0_0_c0_0_2), (.bool t0.2.2.1)] 163, .blk ba0_2_c0 [(pt ba0_0_c0_0 0)] 104, .blk ba0_2_c1_0_c0 [(.func (.func 66) #[] #[])] 117, .blk ba0_2_c1_0_c1 [(pt ba0_0_c0_0 0)] 104, .row vh 82 5 t2.2.2.1.length c9, .row vj 44 9 t2.2.2.2.1.length ca, .row vk 49 3 t2.2.2.2.2.length cb, .blk ba0_0_c1_0_c2_0 [vh, vj, vk] 61, .blk ba0_1_c0 [(pt ba0_0_c0_0 0)] 104, .blk ba0_1_c1_0_c0 [(.func (.func 64) #[] #[])] 114, .blk ba0_1_c1_0_c1 [(pt ba0_0_c0_0 0)] 104, .blk ba0_1_c1_0_c2 [(pt ba0_0_c1_0_c2_0 1)] 113, .blk ba0_1_c1 [(.func (.func 117) #[] #[(pt ba0_1_c1_0_c0 0), (pt ba0_1_c1_0_c1 0), (pt ba0_1_c1_0_c2 0)])] 107, .blk ba0_0_c0 [(pt ba0_0_c0_0 0)] 104, .blk ba0_0_c1_0_c0 [(.func (.func 62) #[] #[])] 111, .blk ba0_0_c1_0_c1 [(pt ba0_0_c0_0 0)] 104, .blk ba0_0_c1_0_c2 [(pt ba0_0_c1_0_c2_0 0)] 110, .blk ba0_0_c1 [(.func (.func 114) #[] #[(pt ba0_0_c1_0_c0 0), (pt ba0_0_c1_0_c1 0), (pt ba0_0_c1_0_c2 0)])] 107] := h22
 have h24 := St.pick 6 rfl h23
 have h25 := St.pick 6 rfl h24
 have h26 := St.pick 6 rfl h25
 have h27 : St B _ G9 [.blk ba0_2_c0 [(pt ba0_0_c0_0 0)] 104, .blk ba0_2_c1_0_c0 [(.func (.func 66) #[] #[])] 117, .blk ba0_2_c1_0_c1 [(pt ba0_0_c0_0 0)] 104, .blk ba0_2_c1_0_c2 [(pt ba0_0_c1_0_c2_0 2)] 116, .blk ba0_2_c1 [(.func (.func 127) #[] #[(pt ba0_2_c1_0_c0 0), (pt ba0_2_c1_0_c1 0), (pt ba0_2_c1_0_c2 0)])] 107, .row va0 107 1 3 [(.func (.func 112) #[] #[(pt ba0_0_c0 0), (pt ba0_0_c1 0)]), (.func (.func 112) #[] #[(pt ba0_1_c0 0), (pt ba0_1_c1 0)]), (.func (.func 112) #[] #[(pt ba0_2_c0 0), (pt ba0_2_c1 0)])], .blk ba0_0_c0_0 [vg, (vi t2.2.1), (.bool a0_0_c0_0_2), (.bool t0.2.2.1)] 163, .row vh 82 5 t2.2.2.1.length c9, .row vj 44 9 t2.2.2.2.1.length ca, .row vk 49 3 t2.2.2.2.2.length cb, .blk ba0_0_c1_0_c2_0 [vh, vj, vk] 61, .blk ba0_1_c0 [(pt ba0_0_c0_0 0)] 104, .blk ba0_1_c1_0_c0 [(.func (.func 64) #[] #[])] 114, .blk ba0_1_c1_0_c1 [(pt ba0_0_c0_0 0)] 104, .blk ba0_1_c1_0_c2 [(pt ba0_0_c1_0_c2_0 1)] 113, .blk ba0_1_c1 [(.func (.func 117) #[] #[(pt ba0_1_c1_0_c0 0), (pt ba0_1_c1_0_c1 0), (pt ba0_1_c1_0_c2 0)])] 107, .blk ba0_0_c0 [(pt ba0_0_c0_0 0)] 104, .blk ba0_0_c1_0_c0 [(.func (.func 62) #[] #[])] 111, .blk ba0_0_c1_0_c1 [(pt ba0_0_c0_0 0)] 104, .blk ba0_0_c1_0_c2 [(pt ba0_0_c1_0_c2_0 0)] 110, .blk ba0_0_c1 [(.func (.func 114) #[] #[(pt ba0_0_c1_0_c0 0), (pt ba0_0_c1_0_c1 0), (pt ba0_0_c1_0_c2 0)])] 107] := h26
 have h28 := St.pick 15 rfl h27
 have h29 := St.pick 15 rfl h28
 have h2a := St.pick 15 rfl h29
 have h2b : St B _ G9 [.blk ba0_1_c1_0_c1 [(pt ba0_0_c0_0 0)] 104, .blk ba0_1_c1_0_c2 [(pt ba0_0_c1_0_c2_0 1)] 113, .blk ba0_1_c1 [(.func (.func 117) #[] #[(pt ba0_1_c1_0_c0 0), (pt ba0_1_c1_0_c1 0), (pt ba0_1_c1_0_c2 0)])] 107, .blk ba0_2_c0 [(pt ba0_0_c0_0 0)] 104, .blk ba0_2_c1_0_c0 [(.func (.func 66) #[] #[])] 117, .blk ba0_2_c1_0_c1 [(pt ba0_0_c0_0 0)] 104, .blk ba0_2_c1_0_c2 [(pt ba0_0_c1_0_c2_0 2)] 116, .blk ba0_2_c1 [(.func (.func 127) #[] #[(pt ba0_2_c1_0_c0 0), (pt ba0_2_c1_0_c1 0), (pt ba0_2_c1_0_c2 0)])] 107, .row va0 107 1 3 [(.func (.func 112) #[] #[(pt ba0_0_c0 0), (pt ba0_0_c1 0)]), (.func (.func 112) #[] #[(pt ba0_1_c0 0), (pt ba0_1_c1 0)]), (.func (.func 112) #[] #[(pt ba0_2_c0 0), (pt ba0_2_c1 0)])], .blk ba0_0_c0_0 [vg, (vi t2.2.1), (.bool a0_0_c0_0_2), (.bool t0.2.2.1)] 163, .row vh 82 5 t2.2.2.1.length c9, .row vj 44 9 t2.2.2.2.1.length ca, .row vk 49 3 t2.2.2.2.2.length cb, .blk ba0_0_c1_0_c2_0 [vh, vj, vk] 61, .blk ba0_1_c0 [(pt ba0_0_c0_0 0)] 104, .blk ba0_1_c1_0_c0 [(.func (.func 64) #[] #[])] 114, .blk ba0_0_c0 [(pt ba0_0_c0_0 0)] 104, .blk ba0_0_c1_0_c0 [(.func (.func 62) #[] #[])] 111, .blk ba0_0_c1_0_c1 [(pt ba0_0_c0_0 0)] 104, .blk ba0_0_c1_0_c2 [(pt ba0_0_c1_0_c2_0 0)] 110, .blk ba0_0_c1 [(.func (.func 114) #[] #[(pt ba0_0_c1_0_c0 0), (pt ba0_0_c1_0_c1 0), (pt ba0_0_c1_0_c2 0)])] 107] := h2a
 have h2c := St.pick 15 rfl h2b
 have h2d := St.pick 15 rfl h2c
 have h2e := St.pick 20 rfl h2d
 have h2f : St B _ G9 [.blk ba0_0_c1 [(.func (.func 114) #[] #[(pt ba0_0_c1_0_c0 0), (pt ba0_0_c1_0_c1 0), (pt ba0_0_c1_0_c2 0)])] 107, .blk ba0_1_c0 [(pt ba0_0_c0_0 0)] 104, .blk ba0_1_c1_0_c0 [(.func (.func 64) #[] #[])] 114, .blk ba0_1_c1_0_c1 [(pt ba0_0_c0_0 0)] 104, .blk ba0_1_c1_0_c2 [(pt ba0_0_c1_0_c2_0 1)] 113, .blk ba0_1_c1 [(.func (.func 117) #[] #[(pt ba0_1_c1_0_c0 0), (pt ba0_1_c1_0_c1 0), (pt ba0_1_c1_0_c2 0)])] 107, .blk ba0_2_c0 [(pt ba0_0_c0_0 0)] 104, .blk ba0_2_c1_0_c0 [(.func (.func 66) #[] #[])] 117, .blk ba0_2_c1_0_c1 [(pt ba0_0_c0_0 0)] 104, .blk ba0_2_c1_0_c2 [(pt ba0_0_c1_0_c2_0 2)] 116, .blk ba0_2_c1 [(.func (.func 127) #[] #[(pt ba0_2_c1_0_c0 0), (pt ba0_2_c1_0_c1 0), (pt ba0_2_c1_0_c2 0)])] 107, .row va0 107 1 3 [(.func (.func 112) #[] #[(pt ba0_0_c0 0), (pt ba0_0_c1 0)]), (.func (.func 112) #[] #[(pt ba0_1_c0 0), (pt ba0_1_c1 0)]), (.func (.func 112) #[] #[(pt ba0_2_c0 0), (pt ba0_2_c1 0)])], .blk ba0_0_c0_0 [vg, (vi t2.2.1), (.bool a0_0_c0_0_2), (.bool t0.2.2.1)] 163, .row vh 82 5 t2.2.2.1.length c9, .row vj 44 9 t2.2.2.2.1.length ca, .row vk 49 3 t2.2.2.2.2.length cb, .blk ba0_0_c1_0_c2_0 [vh, vj, vk] 61, .blk ba0_0_c0 [(pt ba0_0_c0_0 0)] 104, .blk ba0_0_c1_0_c0 [(.func (.func 62) #[] #[])] 111, .blk ba0_0_c1_0_c1 [(pt ba0_0_c0_0 0)] 104, .blk ba0_0_c1_0_c2 [(pt ba0_0_c1_0_c2_0 0)] 110] := h2e
 have h2g := St.pick 20 rfl h2f
 have h2h := St.pick 17 rfl h2g
 have h2i := St.pick 17 rfl h2h
 have h2j : St B _ G9 [.row vk 49 3 t2.2.2.2.2.length cb, .blk ba0_0_c1_0_c2_0 [vh, vj, vk] 61, .blk ba0_0_c1_0_c2 [(pt ba0_0_c1_0_c2_0 0)] 110, .blk ba0_0_c1 [(.func (.func 114) #[] #[(pt ba0_0_c1_0_c0 0), (pt ba0_0_c1_0_c1 0), (pt ba0_0_c1_0_c2 0)])] 107, .blk ba0_1_c0 [(pt ba0_0_c0_0 0)] 104, .blk ba0_1_c1_0_c0 [(.func (.func 64) #[] #[])] 114, .blk ba0_1_c1_0_c1 [(pt ba0_0_c0_0 0)] 104, .blk ba0_1_c1_0_c2 [(pt ba0_0_c1_0_c2_0 1)] 113, .blk ba0_1_c1 [(.func (.func 117) #[] #[(pt ba0_1_c1_0_c0 0), (pt ba0_1_c1_0_c1 0), (pt ba0_1_c1_0_c2 0)])] 107, .blk ba0_2_c0 [(pt ba0_0_c0_0 0)] 104, .blk ba0_2_c1_0_c0 [(.func (.func 66) #[] #[])] 117, .blk ba0_2_c1_0_c1 [(pt ba0_0_c0_0 0)] 104, .blk ba0_2_c1_0_c2 [(pt ba0_0_c1_0_c2_0 2)] 116, .blk ba0_2_c1 [(.func (.func 127) #[] #[(pt ba0_2_c1_0_c0 0), (pt ba0_2_c1_0_c1 0), (pt ba0_2_c1_0_c2 0)])] 107, .row va0 107 1 3 [(.func (.func 112) #[] #[(pt ba0_0_c0 0), (pt ba0_0_c1 0)]), (.func (.func 112) #[] #[(pt ba0_1_c0 0), (pt ba0_1_c1 0)]), (.func (.func 112) #[] #[(pt ba0_2_c0 0), (pt ba0_2_c1 0)])], .blk ba0_0_c0_0 [vg, (vi t2.2.1), (.bool a0_0_c0_0_2), (.bool t0.2.2.1)] 163, .row vh 82 5 t2.2.2.1.length c9, .row vj 44 9 t2.2.2.2.1.length ca, .blk ba0_0_c0 [(pt ba0_0_c0_0 0)] 104, .blk ba0_0_c1_0_c0 [(.func (.func 62) #[] #[])] 111, .blk ba0_0_c1_0_c1 [(pt ba0_0_c0_0 0)] 104] := h2i
 have h2k := St.pick 17 rfl h2j
 have h2l := St.pick 17 rfl h2k
 have h2m := St.pick 20 rfl h2l
 have h2n : St B _ G9 [.blk ba0_0_c1_0_c1 [(pt ba0_0_c0_0 0)] 104, .row vh 82 5 t2.2.2.1.length c9, .row vj 44 9 t2.2.2.2.1.length ca, .row vk 49 3 t2.2.2.2.2.length cb, .blk ba0_0_c1_0_c2_0 [vh, vj, vk] 61, .blk ba0_0_c1_0_c2 [(pt ba0_0_c1_0_c2_0 0)] 110, .blk ba0_0_c1 [(.func (.func 114) #[] #[(pt ba0_0_c1_0_c0 0), (pt ba0_0_c1_0_c1 0), (pt ba0_0_c1_0_c2 0)])] 107, .blk ba0_1_c0 [(pt ba0_0_c0_0 0)] 104, .blk ba0_1_c1_0_c0 [(.func (.func 64) #[] #[])] 114, .blk ba0_1_c1_0_c1 [(pt ba0_0_c0_0 0)] 104, .blk ba0_1_c1_0_c2 [(pt ba0_0_c1_0_c2_0 1)] 113, .blk ba0_1_c1 [(.func (.func 117) #[] #[(pt ba0_1_c1_0_c0 0), (pt ba0_1_c1_0_c1 0), (pt ba0_1_c1_0_c2 0)])] 107, .blk ba0_2_c0 [(pt ba0_0_c0_0 0)] 104, .blk ba0_2_c1_0_c0 [(.func (.func 66) #[] #[])] 117, .blk ba0_2_c1_0_c1 [(pt ba0_0_c0_0 0)] 104, .blk ba0_2_c1_0_c2 [(pt ba0_0_c1_0_c2_0 2)] 116, .blk ba0_2_c1 [(.func (.func 127) #[] #[(pt ba0_2_c1_0_c0 0), (pt ba0_2_c1_0_c1 0), (pt ba0_2_c1_0_c2 0)])] 107, .row va0 107 1 3 [(.func (.func 112) #[] #[(pt ba0_0_c0 0), (pt ba0_0_c1 0)]), (.func (.func 112) #[] #[(pt ba0_1_c0 0), (pt ba0_1_c1 0)]), (.func (.func 112) #[] #[(pt ba0_2_c0 0), (pt ba0_2_c1 0)])], .blk ba0_0_c0_0 [vg, (vi t2.2.1), (.bool a0_0_c0_0_2), (.bool t0.2.2.1)] 163, .blk ba0_0_c0 [(pt ba0_0_c0_0 0)] 104, .blk ba0_0_c1_0_c0 [(.func (.func 62) #[] #[])] 111] := h2m
 have h2o := St.pick 20 rfl h2n
 have h2p := St.pick 20 rfl h2o
 have h2q := St.pick 20 rfl h2p
 have h2r : St B _ G9 [.blk ba0_0_c0_0 [vg, (vi t2.2.1), (.bool a0_0_c0_0_2), (.bool t0.2.2.1)] 163, .blk ba0_0_c0 [(pt ba0_0_c0_0 0)] 104, .blk ba0_0_c1_0_c0 [(.func (.func 62) #[] #[])] 111, .blk ba0_0_c1_0_c1 [(pt ba0_0_c0_0 0)] 104, .row vh 82 5 t2.2.2.1.length c9, .row vj 44 9 t2.2.2.2.1.length ca, .row vk 49 3 t2.2.2.2.2.length cb, .blk ba0_0_c1_0_c2_0 [vh, vj, vk] 61, .blk ba0_0_c1_0_c2 [(pt ba0_0_c1_0_c2_0 0)] 110, .blk ba0_0_c1 [(.func (.func 114) #[] #[(pt ba0_0_c1_0_c0 0), (pt ba0_0_c1_0_c1 0), (pt ba0_0_c1_0_c2 0)])] 107, .blk ba0_1_c0 [(pt ba0_0_c0_0 0)] 104, .blk ba0_1_c1_0_c0 [(.func (.func 64) #[] #[])] 114, .blk ba0_1_c1_0_c1 [(pt ba0_0_c0_0 0)] 104, .blk ba0_1_c1_0_c2 [(pt ba0_0_c1_0_c2_0 1)] 113, .blk ba0_1_c1 [(.func (.func 117) #[] #[(pt ba0_1_c1_0_c0 0), (pt ba0_1_c1_0_c1 0), (pt ba0_1_c1_0_c2 0)])] 107, .blk ba0_2_c0 [(pt ba0_0_c0_0 0)] 104, .blk ba0_2_c1_0_c0 [(.func (.func 66) #[] #[])] 117, .blk ba0_2_c1_0_c1 [(pt ba0_0_c0_0 0)] 104, .blk ba0_2_c1_0_c2 [(pt ba0_0_c1_0_c2_0 2)] 116, .blk ba0_2_c1 [(.func (.func 127) #[] #[(pt ba0_2_c1_0_c0 0), (pt ba0_2_c1_0_c1 0), (pt ba0_2_c1_0_c2 0)])] 107, .row va0 107 1 3 [(.func (.func 112) #[] #[(pt ba0_0_c0 0), (pt ba0_0_c1 0)]), (.func (.func 112) #[] #[(pt ba0_1_c0 0), (pt ba0_1_c1 0)]), (.func (.func 112) #[] #[(pt ba0_2_c0 0), (pt ba0_2_c1 0)])]] := h2q
 obtain rfl := Option.some.inj hr
 exact ⟨[(vi 0)], ⟨rfl, trivial⟩, _, _, _, rfl, (e1.trans (e3.trans e5)), h2r, ⟨vg, vh, vj, vk, c9, ca, cb, rfl, rfl, (SRep.mono q2 fg), fh, (EAll.mono q2 fj), fk, (EAll.mono q2 fl), fm, (EAll.mono q2 fn), fo⟩⟩
def file_Get.f (a0 : (List Int)) : Option (((List XSymbol) × (List XFunc) × (List XData) × Int)) :=
 (sum_Open.f a0).bind fun t0 => bif decide (t0.2 ≠ 0) then some ([], [], [], t0.2) else bif decide ((t0.1.length : Int) < 4) then none else bif (decide (0 ≤ 4) && decide (4 ≤ (t0.1.length : Int))) then bif !(seq (bytesOf (List.take (Int.toNat (4)) t0.1)) ({data := #[83, 72, 76, 49]} : ByteArray)) then none else bif (decide (0 ≤ 4) && decide (4 ≤ (t0.1.length : Int))) then (octet_New.f (List.drop (Int.toNat (4)) t0.1)).bind fun t1 => (api_Symbol_61.f ([] : (List XSymbol)) ([] : (List XFunc)) ([] : (List XData)) t1 0 true false).bind fun t2 => (file_part.f t2.1 0 true false t2.2.1 t2.2.2.1 t2.2.2.2).bind fun t3 => (api_Func.f t3.2.1 t3.2.2.1 t3.2.2.2 t3.1 0 true false).bind fun t4 => (file_part_s2.f t4.1 0 true false t4.2.1 t4.2.2.1 t4.2.2.2).bind fun t5 => (api_Data.f t5.2.1 t5.2.2.1 t5.2.2.2 t5.1 0 true false).bind fun t6 => (file_part_s3.f t6.1 0 true false t6.2.1 t6.2.2.1 t6.2.2.2).bind fun t7 => (file_all.f t7.1 0 true false t7.2.1 t7.2.2.1 t7.2.2.2).bind fun t8 => (octet_Reader_Left_s2.f ({ b := t8.1, at_ := t8.2.1, live := t8.2.2.1, bad := t8.2.2.2.1 } : Xoctet_Reader)).bind fun t9 => bif decide (t9 > 0) then none else some (t8.2.2.2.2.1, t8.2.2.2.2.2.1, t8.2.2.2.2.2.2, 0) else none else none
def file_Get.K (r : ((List XSymbol) × (List XFunc) × (List XData) × Int)) (G0 : GH) (v : Value) (N : List Res) : Prop := ∃ (v0 : Value) (v1 : Value) (v2 : Value) (c0 : List Value) (c1 : List Value) (c2 : List Value), v = tup [(.agg #[v0, v1, v2]), (vi r.2.2.2)] ∧ N = [.row v0 82 5 r.1.length c0, .row v1 44 9 r.2.1.length c1, .row v2 49 3 r.2.2.1.length c2] ∧ EAll TSymbol G0 c0 r.1 ∧ r.1.length ≤ SB ∧ EAll TFunc G0 c1 r.2.1 ∧ r.2.1.length ≤ SB ∧ EAll TData G0 c2 r.2.2.1 ∧ r.2.2.1.length ≤ SB ∧ InK .i64 r.2.2.2
theorem file_Get.ok {va0 : Value} {a0 : (List Int)} (st : St B w G []) (ha0 : SRep 5 (tInt .u8) G va0 a0) {r : ((List XSymbol) × (List XFunc) × (List XData) × Int)} (hr : file_Get.f a0 = some r) :
 Calls Tryz.prog 21 ([va0] : List Value).toArray w (Ret B G (file_Get.K r)) := by
 refine Jc [.cell 2 61, .tmp 3] func21 rfl ntmps21 rfl rfl ?_
 refine J2 (J1 ?_)
 refine Jo ti61 st rfl ?_
 intro b0 w0 h0
 refine Jsv (vi 0) rfl rfl ?_
 refine J0 (J2 (J1 ?_))
 refine Jmv va0 rfl rfl ?_
 obtain ⟨t0, h1, hr⟩ := J6 hr
 refine J8 (f := 57) (av := [va0]) cf57 rfl rfl h0 rfl (fun G1 e0 h2 => sum_Open.ok h2 (SRep.mono e0.ro ha0) h1) ?_
 rintro v3 w1 G2 G3 N0 e1 q0 ⟨v4, c3, rfl, rfl, f0, f1, f2⟩ h3
 refine Jmv (.tuple #[v4, (vi t0.2)]) rfl rfl ?_
 refine Jm rfl rfl rfl ?_
 refine Jm rfl rfl rfl ?_
 refine Jsv v4 rfl rfl ?_
 refine Jsv (vi t0.2) rfl rfl ?_
 refine J0 (J2 (J2 (J1 ?_)))
 refine Jmv (vi t0.2) rfl rfl ?_
 refine Y1 rfl rfl rfl ?_
 refine J0 ?_
 refine J7 rfl (fun h4 => ?_) (fun h4 => ?_)
 ·replace hr := Jx hr h4
  refine J2 (J1 ?_)
  refine Y0 (cells := #[(.slice none 0 0), (.slice none 0 0), (.slice none 0 0)]) rfl (by kernel_rfl) ?_
  refine Jmv (vi t0.2) rfl rfl ?_
  refine Jp (l1 := [_]) (vs := [(.slice none 0 0), (.slice none 0 0), (.slice none 0 0)]) ti61 h3 rfl rfl rfl (J5 rfl (J5 rfl (J5 rfl (fun _ h => nomatch h)))) rfl ?_
  intro w2 (h5 : St B w2 G3 [.row v4 5 1 t0.1.length c3, .blk b0 [(.slice none 0 0), (.slice none 0 0), (.slice none 0 0)] 61])
  refine Jsv (vi t0.2) rfl rfl ?_
  refine J0 (Jg ?_)
  have h6 := St.nilRow h5 82 5
  have h7 := St.row_len (l1 := []) (k := ([] : List XSymbol).length) rfl h6
  have h8 := St.nilRow h7 44 9
  have h9 := St.row_len (l1 := []) (k := ([] : List XFunc).length) rfl h8
  have h10 := St.nilRow h9 49 3
  have h11 := St.row_len (l1 := []) (k := ([] : List XData).length) rfl h10
  have h12 := St.pick 1 rfl h11
  have h13 := St.pick 2 rfl h12
  have h14 := St.takeN 3 h13
  obtain rfl := Option.some.inj hr
  exact ⟨[(.agg #[(.slice none 0 0), (.slice none 0 0), (.slice none 0 0)]), (vi t0.2)], ⟨⟨_, rfl, Yl (l1 := [_, _, _, _]) ti61 h11 rfl⟩, rfl, trivial⟩, _, _, _, rfl, e1, h14, ⟨(.slice none 0 0), (.slice none 0 0), (.slice none 0 0), [], [], [], rfl, rfl, EAll.nil, (le_eq (m := 0) rfl (Nat.zero_le _)), EAll.nil, (le_eq (m := 0) rfl (Nat.zero_le _)), EAll.nil, (le_eq (m := 0) rfl (Nat.zero_le _)), f2⟩⟩
 replace hr := Jf hr h4
 refine J9 (J2 (Jb (J2 (J1 ?_))))
 refine Jmv v4 rfl rfl ?_
 refine WL_lenOwn (l1 := []) underlying63 h3 rfl rfl ?_
 refine Ji rfl rfl rfl ?_
 refine Jsv (.bool (decide ((t0.1.length : Int) < 4))) rfl rfl ?_
 refine J0 ?_
 refine J7 rfl (fun h15 => ?_) (fun h15 => ?_)
 ·exact Jk hr h15
 replace hr := Jf hr h15
 refine J2 (J1 ?_)
 refine Jmv v4 rfl rfl ?_
 obtain ⟨G4, h16, e2, f3⟩ := St.rowRep (l1 := []) (T := (tInt .u8)) (xs := t0.1) h3 (EAll.mono q0 f0) rfl f1
 obtain ⟨h17, hr⟩ := Ya hr
 refine WL_sliceH (T := (tInt .u8)) underlying63 ti5 f3 rfl rfl rfl (of_decide_eq_true (band h17).1) (of_decide_eq_true (band h17).2) ?_
 intro v5 f4
 refine WL_convBS underlying63 underlying5 underlying9 h16 f4 rfl rfl ?_
 refine WL_sneq rfl rfl rfl ?_
 refine Jsv (.bool (!(seq (bytesOf (List.take (Int.toNat (4)) t0.1)) ({data := #[83, 72, 76, 49]} : ByteArray)))) rfl rfl ?_
 refine J0 ?_
 refine J7 rfl (fun h18 => ?_) (fun h18 => ?_)
 ·exact Jk hr h18
 replace hr := Jf hr h18
 refine J9 (J2 (J1 ?_))
 refine Jo ti61 h16 rfl ?_
 intro b1 w3 h19
 refine J0 (J2 (J1 ?_))
 refine Jmv v4 rfl rfl ?_
 obtain ⟨h1a, hr⟩ := Ya hr
 refine WL_sliceL (T := (tInt .u8)) underlying63 ti5 f3 rfl rfl rfl (of_decide_eq_true (band h1a).1) (of_decide_eq_true (band h1a).2) ?_
 intro v6 f5
 obtain ⟨t1, h1b, hr⟩ := J6 hr
 refine J8 (f := 58) (av := [v6]) cf58 rfl rfl h19 rfl (fun G5 e3 h1c => octet_New.ok h1c (SRep.mono e3.ro f5) h1b) ?_
 rintro v7 w4 G6 G7 N1 e4 q1 ⟨v8, c4, b2, rfl, rfl, f6, f7⟩ h1d
 refine Jsv (pt b2 0) rfl rfl ?_
 refine J0 (J2 (J1 ?_))
 refine Jmv (pt b2 0) rfl rfl ?_
 refine Jfa 0 0 underlying61 rfl ti57 rfl rfl rfl rfl ?_
 refine Jmv (pt b2 0) rfl rfl ?_
 have h1e := St.nilRow h1d 82 5
 have h1f := St.row_len (l1 := []) (k := ([] : (List XSymbol)).length) rfl h1e
 have h1g := St.nilRow h1f 44 9
 have h1h := St.row_len (l1 := []) (k := ([] : (List XFunc)).length) rfl h1g
 have h1i := St.nilRow h1h 49 3
 have h1j := St.row_len (l1 := []) (k := ([] : (List XData)).length) rfl h1i
 have h1k := St.pick 3 rfl h1j
 have h1l := St.pick 4 rfl h1k
 have h1m := St.pick 2 rfl h1l
 have h1n := St.pick 3 rfl h1m
 have h1o := St.pick 4 rfl h1n
 have h1p := St.pick 5 rfl h1o
 obtain ⟨t2, h1q, hr⟩ := J6 hr
 refine Yd (N := [_, _, _, _, _, _]) (R := [.blk b0 [(.slice none 0 0), (.slice none 0 0), (.slice none 0 0)] 61]) (f := 61) (av := [(pt b1 0), (.func (.func 62) #[] #[]), (pt b2 0)]) cf61 rfl rfl h1p rfl (fun G8 e5 h1r => api_Symbol_61.ok h1r (EAll.mono e5.ro EAll.nil) (le_eq (m := 0) rfl (Nat.zero_le _)) (EAll.mono e5.ro EAll.nil) (le_eq (m := 0) rfl (Nat.zero_le _)) (EAll.mono e5.ro EAll.nil) (le_eq (m := 0) rfl (Nat.zero_le _)) (EAll.mono e5.ro (EAll.mono q1 f6)) f7 (by rfl) h1q) ?_
 rintro v9 w5 G9 Ga N2 e6 q2 ⟨va, vc, vd, ve, c5, c6, c7, c8, b3, b4, b5, rfl, rfl, f8, f9, fa, fb, fc, fd, fe, ff⟩ h1s
 have h1t := St.pick 6 rfl h1s
 have h1u := St.pick 6 rfl h1t
 have h1v := St.pick 6 rfl h1u
 have h1w := St.pick 7 rfl h1v
 have h1x := St.pick 8 rfl h1w
 have h1y := St.pick 8 rfl h1x
 have h1z := St.pick 6 rfl h1y
 have h20 := St.pick 7 rfl h1z
 have h21 := St.pick 8 rfl h20
 have h22 : St B _ Ga [.blk b2 [va, (vi 0), (.bool true), (.bool false)] 163, .row va 5 1 t2.1.length c5, .blk b3 [(.func (.func 62) #[] #[])] 111, .blk b4 [(pt b2 0)] 104, .blk b5 [(pt b1 0)] 110, .blk b1 [vc, vd, ve] 61, .row vc 82 5 t2.2.1.length c6, .row vd 44 9 t2.2.2.1.length c7, .row ve 49 3 t2.2.2.2.length c8, .blk b0 [(.slice none 0 0), (.slice none 0 0), (.slice none 0 0)] 61] := h21
 obtain ⟨t3, h23, hr⟩ := J6 hr
 refine Yd (N := [_, _, _, _, _, _, _, _, _]) (R := [.blk b0 [(.slice none 0 0), (.slice none 0 0), (.slice none 0 0)] 61]) (f := 60) (av := [(pt b2 0), (.func (.func 114) #[] #[(pt b3 0), (pt b4 0), (pt b5 0)])]) cf60 rfl rfl h22 rfl (fun Gb e7 h24 => file_part.ok h24 (EAll.mono e7.ro (EAll.mono q2 f8)) f9 (by rfl) (EAll.mono e7.ro (EAll.mono q2 fa)) fb (EAll.mono e7.ro (EAll.mono q2 fc)) fd (EAll.mono e7.ro (EAll.mono q2 fe)) ff h23) ?_
 rintro vf w6 Gc Gd N3 e8 q3 ⟨vg, vh, vj, vk, c9, ca, cb, cc, b6, b7, rfl, rfl, fg, fh, fj, fk, fl, fm, fn, fo⟩ h25
 refine Jmv (pt b2 0) rfl rfl ?_
 refine Jfa 1 1 underlying61 rfl ti58 rfl rfl rfl rfl ?_
 refine Jmv (pt b2 0) rfl rfl ?_
 have h26 := St.pick 1 rfl h25
 have h27 := St.pick 7 rfl h26
 have h28 := St.pick 7 rfl h27
 have h29 := St.pick 7 rfl h28
 have h2a := St.pick 8 rfl h29
 have h2b : St B _ Gd [.blk b1 [vh, vj, vk] 61, .row vh 82 5 t3.2.1.length ca, .row vj 44 9 t3.2.2.1.length cb, .row vk 49 3 t3.2.2.2.length cc, .blk b2 [vg, (vi 0), (.bool true), (.bool false)] 163, .row vg 5 1 t3.1.length c9, .blk b6 [(pt b2 0)] 104, .blk b3 [(.func (.func 62) #[] #[])] 111, .blk b4 [(pt b2 0)] 104, .blk b5 [(pt b1 0)] 110, .blk b7 [(.func (.func 114) #[] #[(pt b3 0), (pt b4 0), (pt b5 0)])] 107, .blk b0 [(.slice none 0 0), (.slice none 0 0), (.slice none 0 0)] 61] := h2a
 obtain ⟨t4, h2c, hr⟩ := J6 hr
 refine Yd (N := [_, _, _, _, _, _]) (R := [.blk b6 [(pt b2 0)] 104, .blk b3 [(.func (.func 62) #[] #[])] 111, .blk b4 [(pt b2 0)] 104, .blk b5 [(pt b1 0)] 110, .blk b7 [(.func (.func 114) #[] #[(pt b3 0), (pt b4 0), (pt b5 0)])] 107, .blk b0 [(.slice none 0 0), (.slice none 0 0), (.slice none 0 0)] 61]) (f := 63) (av := [(pt b1 1), (.func (.func 64) #[] #[]), (pt b2 0)]) cf63 rfl rfl h2b rfl (fun Ge e9 h2d => api_Func.ok h2d (EAll.mono e9.ro (EAll.mono q3 fj)) fk (EAll.mono e9.ro (EAll.mono q3 fl)) fm (EAll.mono e9.ro (EAll.mono q3 fn)) fo (EAll.mono e9.ro (EAll.mono q3 fg)) fh (by rfl) h2c) ?_
 rintro vl w7 Gf Gg N4 ea q4 ⟨vm, vn, vo, vp, cd, ce, cf, cg, b8, b9, ba, rfl, rfl, fp, fq, fr, fs, ft, fu, fv, fw⟩ h2e
 have h2f := St.pick 6 rfl h2e
 have h2g := St.pick 6 rfl h2f
 have h2h := St.pick 6 rfl h2g
 have h2i := St.pick 7 rfl h2h
 have h2j := St.pick 8 rfl h2i
 have h2k := St.pick 8 rfl h2j
 have h2l : St B _ Gg [.blk b9 [(pt b2 0)] 104, .blk ba [(pt b1 1)] 113, .blk b1 [vn, vo, vp] 61, .row vn 82 5 t4.2.1.length ce, .row vo 44 9 t4.2.2.1.length cf, .row vp 49 3 t4.2.2.2.length cg, .blk b8 [(.func (.func 64) #[] #[])] 114, .row vm 5 1 t4.1.length cd, .blk b2 [vm, (vi 0), (.bool true), (.bool false)] 163, .blk b6 [(pt b2 0)] 104, .blk b3 [(.func (.func 62) #[] #[])] 111, .blk b4 [(pt b2 0)] 104, .blk b5 [(pt b1 0)] 110, .blk b7 [(.func (.func 114) #[] #[(pt b3 0), (pt b4 0), (pt b5 0)])] 107, .blk b0 [(.slice none 0 0), (.slice none 0 0), (.slice none 0 0)] 61] := h2k
 have h2m := St.pick 6 rfl h2l
 have h2n := St.pick 7 rfl h2m
 have h2o := St.pick 8 rfl h2n
 have h2p : St B _ Gg [.blk b2 [vm, (vi 0), (.bool true), (.bool false)] 163, .row vm 5 1 t4.1.length cd, .blk b8 [(.func (.func 64) #[] #[])] 114, .blk b9 [(pt b2 0)] 104, .blk ba [(pt b1 1)] 113, .blk b1 [vn, vo, vp] 61, .row vn 82 5 t4.2.1.length ce, .row vo 44 9 t4.2.2.1.length cf, .row vp 49 3 t4.2.2.2.length cg, .blk b6 [(pt b2 0)] 104, .blk b3 [(.func (.func 62) #[] #[])] 111, .blk b4 [(pt b2 0)] 104, .blk b5 [(pt b1 0)] 110, .blk b7 [(.func (.func 114) #[] #[(pt b3 0), (pt b4 0), (pt b5 0)])] 107, .blk b0 [(.slice none 0 0), (.slice none 0 0), (.slice none 0 0)] 61] := h2o
 obtain ⟨t5, h2q, hr⟩ := J6 hr
 refine Yd (N := [_, _, _, _, _, _, _, _, _]) (R := [.blk b6 [(pt b2 0)] 104, .blk b3 [(.func (.func 62) #[] #[])] 111, .blk b4 [(pt b2 0)] 104, .blk b5 [(pt b1 0)] 110, .blk b7 [(.func (.func 114) #[] #[(pt b3 0), (pt b4 0), (pt b5 0)])] 107, .blk b0 [(.slice none 0 0), (.slice none 0 0), (.slice none 0 0)] 61]) (f := 60) (av := [(pt b2 0), (.func (.func 117) #[] #[(pt b8 0), (pt b9 0), (pt ba 0)])]) cf60 rfl rfl h2p rfl (fun Gh eb h2r => file_part_s2.ok h2r (EAll.mono eb.ro (EAll.mono q4 fp)) fq (by rfl) (EAll.mono eb.ro (EAll.mono q4 fr)) fs (EAll.mono eb.ro (EAll.mono q4 ft)) fu (EAll.mono eb.ro (EAll.mono q4 fv)) fw h2q) ?_
 rintro vq w8 Gi Gj N5 ec q5 ⟨vr, vt, vu, vv, ch, ci, cj, ck, bb, bc, rfl, rfl, fx, fy, fz, f10, f11, f12, f13, f14⟩ h2s
 refine Jmv (pt b2 0) rfl rfl ?_
 refine Jfa 2 2 underlying61 rfl ti59 rfl rfl rfl rfl ?_
 refine Jmv (pt b2 0) rfl rfl ?_
 have h2t := St.pick 1 rfl h2s
 have h2u := St.pick 7 rfl h2t
 have h2v := St.pick 7 rfl h2u
 have h2w := St.pick 7 rfl h2v
 have h2x := St.pick 8 rfl h2w
 have h2y : St B _ Gj [.blk b1 [vt, vu, vv] 61, .row vt 82 5 t5.2.1.length ci, .row vu 44 9 t5.2.2.1.length cj, .row vv 49 3 t5.2.2.2.length ck, .blk b2 [vr, (vi 0), (.bool true), (.bool false)] 163, .row vr 5 1 t5.1.length ch, .blk bb [(pt b2 0)] 104, .blk b8 [(.func (.func 64) #[] #[])] 114, .blk b9 [(pt b2 0)] 104, .blk ba [(pt b1 1)] 113, .blk bc [(.func (.func 117) #[] #[(pt b8 0), (pt b9 0), (pt ba 0)])] 107, .blk b6 [(pt b2 0)] 104, .blk b3 [(.func (.func 62) #[] #[])] 111, .blk b4 [(pt b2 0)] 104, .blk b5 [(pt b1 0)] 110, .blk b7 [(.func (.func 114) #[] #[(pt b3 0), (pt b4 0), (pt b5 0)])] 107, .blk b0 [(.slice none 0 0), (.slice none 0 0), (.slice none 0 0)] 61] := h2x
 obtain ⟨t6, h2z, hr⟩ := J6 hr
 refine Yd (N := [_, _, _, _, _, _]) (R := [.blk bb [(pt b2 0)] 104, .blk b8 [(.func (.func 64) #[] #[])] 114, .blk b9 [(pt b2 0)] 104, .blk ba [(pt b1 1)] 113, .blk bc [(.func (.func 117) #[] #[(pt b8 0), (pt b9 0), (pt ba 0)])] 107, .blk b6 [(pt b2 0)] 104, .blk b3 [(.func (.func 62) #[] #[])] 111, .blk b4 [(pt b2 0)] 104, .blk b5 [(pt b1 0)] 110, .blk b7 [(.func (.func 114) #[] #[(pt b3 0), (pt b4 0), (pt b5 0)])] 107, .blk b0 [(.slice none 0 0), (.slice none 0 0), (.slice none 0 0)] 61]) (f := 65) (av := [(pt b1 2), (.func (.func 66) #[] #[]), (pt b2 0)]) cf65 rfl rfl h2y rfl (fun Gk ed h30 => api_Data.ok h30 (EAll.mono ed.ro (EAll.mono q5 fz)) f10 (EAll.mono ed.ro (EAll.mono q5 f11)) f12 (EAll.mono ed.ro (EAll.mono q5 f13)) f14 (EAll.mono ed.ro (EAll.mono q5 fx)) fy (by rfl) h2z) ?_
 rintro vw w9 Gl Gm N6 ee q6 ⟨vx, vy, vz, v10, cl, cm, cn, co, bd, be, bf, rfl, rfl, f15, f16, f17, f18, f19, f1a, f1b, f1c⟩ h31
 have h32 := St.pick 6 rfl h31
 have h33 := St.pick 6 rfl h32
 have h34 := St.pick 6 rfl h33
 have h35 := St.pick 7 rfl h34
 have h36 := St.pick 8 rfl h35
 have h37 := St.pick 8 rfl h36
 have h38 : St B _ Gm [.blk be [(pt b2 0)] 104, .blk bf [(pt b1 2)] 116, .blk b1 [vy, vz, v10] 61, .row vy 82 5 t6.2.1.length cm, .row vz 44 9 t6.2.2.1.length cn, .row v10 49 3 t6.2.2.2.length co, .blk bd [(.func (.func 66) #[] #[])] 117, .row vx 5 1 t6.1.length cl, .blk b2 [vx, (vi 0), (.bool true), (.bool false)] 163, .blk bb [(pt b2 0)] 104, .blk b8 [(.func (.func 64) #[] #[])] 114, .blk b9 [(pt b2 0)] 104, .blk ba [(pt b1 1)] 113, .blk bc [(.func (.func 117) #[] #[(pt b8 0), (pt b9 0), (pt ba 0)])] 107, .blk b6 [(pt b2 0)] 104, .blk b3 [(.func (.func 62) #[] #[])] 111, .blk b4 [(pt b2 0)] 104, .blk b5 [(pt b1 0)] 110, .blk b7 [(.func (.func 114) #[] #[(pt b3 0), (pt b4 0), (pt b5 0)])] 107, .blk b0 [(.slice none 0 0), (.slice none 0 0), (.slice none 0 0)] 61] := h37
 have h39 := St.pick 6 rfl h38
 have h3a := St.pick 7 rfl h39
 have h3b := St.pick 8 rfl h3a
 have h3c : St B _ Gm [.blk b2 [vx, (vi 0), (.bool true), (.bool false)] 163, .row vx 5 1 t6.1.length cl, .blk bd [(.func (.func 66) #[] #[])] 117, .blk be [(pt b2 0)] 104, .blk bf [(pt b1 2)] 116, .blk b1 [vy, vz, v10] 61, .row vy 82 5 t6.2.1.length cm, .row vz 44 9 t6.2.2.1.length cn, .row v10 49 3 t6.2.2.2.length co, .blk bb [(pt b2 0)] 104, .blk b8 [(.func (.func 64) #[] #[])] 114, .blk b9 [(pt b2 0)] 104, .blk ba [(pt b1 1)] 113, .blk bc [(.func (.func 117) #[] #[(pt b8 0), (pt b9 0), (pt ba 0)])] 107, .blk b6 [(pt b2 0)] 104, .blk b3 [(.func (.func 62) #[] #[])] 111, .blk b4 [(pt b2 0)] 104, .blk b5 [(pt b1 0)] 110, .blk b7 [(.func (.func 114) #[] #[(pt b3 0), (pt b4 0), (pt b5 0)])] 107, .blk b0 [(.slice none 0 0), (.slice none 0 0), (.slice none 0 0)] 61] := h3b
 obtain ⟨t7, h3d, hr⟩ := J6 hr
 refine Yd (N := [_, _, _, _, _, _, _, _, _]) (R := [.blk bb [(pt b2 0)] 104, .blk b8 [(.func (.func 64) #[] #[])] 114, .blk b9 [(pt b2 0)] 104, .blk ba [(pt b1 1)] 113, .blk bc [(.func (.func 117) #[] #[(pt b8 0), (pt b9 0), (pt ba 0)])] 107, .blk b6 [(pt b2 0)] 104, .blk b3 [(.func (.func 62) #[] #[])] 111, .blk b4 [(pt b2 0)] 104, .blk b5 [(pt b1 0)] 110, .blk b7 [(.func (.func 114) #[] #[(pt b3 0), (pt b4 0), (pt b5 0)])] 107, .blk b0 [(.slice none 0 0), (.slice none 0 0), (.slice none 0 0)] 61]) (f := 60) (av := [(pt b2 0), (.func (.func 127) #[] #[(pt bd 0), (pt be 0), (pt bf 0)])]) cf60 rfl rfl h3c rfl (fun Gn ef h3e => file_part_s3.ok h3e (EAll.mono ef.ro (EAll.mono q6 f15)) f16 (by rfl) (EAll.mono ef.ro (EAll.mono q6 f17)) f18 (EAll.mono ef.ro (EAll.mono q6 f19)) f1a (EAll.mono ef.ro (EAll.mono q6 f1b)) f1c h3d) ?_
 rintro v11 wa Go Gp N7 eg q7 ⟨v12, v13, v14, v15, cp, cq, cr, cs, bg, bh, rfl, rfl, f1d, f1e, f1f, f1g, f1h, f1i, f1j, f1k⟩ h3f
 refine Jj (cells := [(.func (.func 112) #[] #[(pt b6 0), (pt b7 0)]), (.func (.func 112) #[] #[(pt bb 0), (pt bc 0)]), (.func (.func 112) #[] #[(pt bg 0), (pt bh 0)])]) underlying164 ti107 h3f rfl rfl rfl rfl rfl (by kernel_rfl) ?_
 intro v16 wb h3g f1l
 have h3h := St.pick 10 rfl h3g
 have h3i := St.pick 6 rfl h3h
 have h3j := St.pick 6 rfl h3i
 have h3k := St.pick 11 rfl h3j
 have h3l := St.pick 7 rfl h3k
 have h3m := St.pick 15 rfl h3l
 have h3n : St B _ Gp [.blk ba [(pt b1 1)] 113, .blk bg [(pt b2 0)] 104, .blk bh [(.func (.func 127) #[] #[(pt bd 0), (pt be 0), (pt bf 0)])] 107, .blk bd [(.func (.func 66) #[] #[])] 117, .blk be [(pt b2 0)] 104, .blk bf [(pt b1 2)] 116, .row v16 107 1 3 [(.func (.func 112) #[] #[(pt b6 0), (pt b7 0)]), (.func (.func 112) #[] #[(pt bb 0), (pt bc 0)]), (.func (.func 112) #[] #[(pt bg 0), (pt bh 0)])], .row v12 5 1 t7.1.length cp, .blk b2 [v12, (vi 0), (.bool true), (.bool false)] 163, .row v13 82 5 t7.2.1.length cq, .row v14 44 9 t7.2.2.1.length cr, .row v15 49 3 t7.2.2.2.length cs, .blk b1 [v13, v14, v15] 61, .blk bb [(pt b2 0)] 104, .blk b8 [(.func (.func 64) #[] #[])] 114, .blk b9 [(pt b2 0)] 104, .blk bc [(.func (.func 117) #[] #[(pt b8 0), (pt b9 0), (pt ba 0)])] 107, .blk b6 [(pt b2 0)] 104, .blk b3 [(.func (.func 62) #[] #[])] 111, .blk b4 [(pt b2 0)] 104, .blk b5 [(pt b1 0)] 110, .blk b7 [(.func (.func 114) #[] #[(pt b3 0), (pt b4 0), (pt b5 0)])] 107, .blk b0 [(.slice none 0 0), (.slice none 0 0), (.slice none 0 0)] 61] := h3m
 have h3o := St.pick 15 rfl h3n
 have h3p := St.pick 15 rfl h3o
 have h3q := St.pick 16 rfl h3p
 have h3r := St.pick 16 rfl h3q
 have h3s := St.pick 15 rfl h3r
 have h3t := St.pick 15 rfl h3s
 have h3u : St B _ Gp [.row v14 44 9 t7.2.2.1.length cr, .row v15 49 3 t7.2.2.2.length cs, .blk bb [(pt b2 0)] 104, .blk bc [(.func (.func 117) #[] #[(pt b8 0), (pt b9 0), (pt ba 0)])] 107, .blk b8 [(.func (.func 64) #[] #[])] 114, .blk b9 [(pt b2 0)] 104, .blk ba [(pt b1 1)] 113, .blk bg [(pt b2 0)] 104, .blk bh [(.func (.func 127) #[] #[(pt bd 0), (pt be 0), (pt bf 0)])] 107, .blk bd [(.func (.func 66) #[] #[])] 117, .blk be [(pt b2 0)] 104, .blk bf [(pt b1 2)] 116, .row v16 107 1 3 [(.func (.func 112) #[] #[(pt b6 0), (pt b7 0)]), (.func (.func 112) #[] #[(pt bb 0), (pt bc 0)]), (.func (.func 112) #[] #[(pt bg 0), (pt bh 0)])], .row v12 5 1 t7.1.length cp, .blk b2 [v12, (vi 0), (.bool true), (.bool false)] 163, .row v13 82 5 t7.2.1.length cq, .blk b1 [v13, v14, v15] 61, .blk b6 [(pt b2 0)] 104, .blk b3 [(.func (.func 62) #[] #[])] 111, .blk b4 [(pt b2 0)] 104, .blk b5 [(pt b1 0)] 110, .blk b7 [(.func (.func 114) #[] #[(pt b3 0), (pt b4 0), (pt b5 0)])] 107, .blk b0 [(.slice none 0 0), (.slice none 0 0), (.slice none 0 0)] 61] := h3t
 have h3v := St.pick 15 rfl h3u
 have h3w := St.pick 16 rfl h3v
 have h3x := St.pick 20 rfl h3w
 have h3y := St.pick 20 rfl h3x
 have h3z := St.pick 20 rfl h3y
 have h40 := St.pick 21 rfl h3z
 have h41 : St B _ Gp [.blk b7 [(.func (.func 114) #[] #[(pt b3 0), (pt b4 0), (pt b5 0)])] 107, .blk b3 [(.func (.func 62) #[] #[])] 111, .blk b4 [(pt b2 0)] 104, .blk b5 [(pt b1 0)] 110, .blk b1 [v13, v14, v15] 61, .row v13 82 5 t7.2.1.length cq, .row v14 44 9 t7.2.2.1.length cr, .row v15 49 3 t7.2.2.2.length cs, .blk bb [(pt b2 0)] 104, .blk bc [(.func (.func 117) #[] #[(pt b8 0), (pt b9 0), (pt ba 0)])] 107, .blk b8 [(.func (.func 64) #[] #[])] 114, .blk b9 [(pt b2 0)] 104, .blk ba [(pt b1 1)] 113, .blk bg [(pt b2 0)] 104, .blk bh [(.func (.func 127) #[] #[(pt bd 0), (pt be 0), (pt bf 0)])] 107, .blk bd [(.func (.func 66) #[] #[])] 117, .blk be [(pt b2 0)] 104, .blk bf [(pt b1 2)] 116, .row v16 107 1 3 [(.func (.func 112) #[] #[(pt b6 0), (pt b7 0)]), (.func (.func 112) #[] #[(pt bb 0), (pt bc 0)]), (.func (.func 112) #[] #[(pt bg 0), (pt bh 0)])], .row v12 5 1 t7.1.length cp, .blk b2 [v12, (vi 0), (.bool true), (.bool false)] 163, .blk b6 [(pt b2 0)] 104, .blk b0 [(.slice none 0 0), (.slice none 0 0), (.slice none 0 0)] 61] := h40
 have h42 := St.pick 19 rfl h41
 have h43 := St.pick 20 rfl h42
 have h44 := St.pick 21 rfl h43
 have h45 := St.pick 21 rfl h44
 have h46 : St B _ Gp [.row v16 107 1 3 [(.func (.func 112) #[] #[(pt b6 0), (pt b7 0)]), (.func (.func 112) #[] #[(pt bb 0), (pt bc 0)]), (.func (.func 112) #[] #[(pt bg 0), (pt bh 0)])], .blk b6 [(pt b2 0)] 104, .blk b2 [v12, (vi 0), (.bool true), (.bool false)] 163, .row v12 5 1 t7.1.length cp, .blk b7 [(.func (.func 114) #[] #[(pt b3 0), (pt b4 0), (pt b5 0)])] 107, .blk b3 [(.func (.func 62) #[] #[])] 111, .blk b4 [(pt b2 0)] 104, .blk b5 [(pt b1 0)] 110, .blk b1 [v13, v14, v15] 61, .row v13 82 5 t7.2.1.length cq, .row v14 44 9 t7.2.2.1.length cr, .row v15 49 3 t7.2.2.2.length cs, .blk bb [(pt b2 0)] 104, .blk bc [(.func (.func 117) #[] #[(pt b8 0), (pt b9 0), (pt ba 0)])] 107, .blk b8 [(.func (.func 64) #[] #[])] 114, .blk b9 [(pt b2 0)] 104, .blk ba [(pt b1 1)] 113, .blk bg [(pt b2 0)] 104, .blk bh [(.func (.func 127) #[] #[(pt bd 0), (pt be 0), (pt bf 0)])] 107, .blk bd [(.func (.func 66) #[] #[])] 117, .blk be [(pt b2 0)] 104, .blk bf [(pt b1 2)] 116, .blk b0 [(.slice none 0 0), (.slice none 0 0), (.slice none 0 0)] 61] := h45
 obtain ⟨t8, h47, hr⟩ := J6 hr
 refine Yd (N := [_, _, _, _, _, _, _, _, _, _, _, _, _, _, _, _, _, _, _, _, _, _]) (R := [.blk b0 [(.slice none 0 0), (.slice none 0 0), (.slice none 0 0)] 61]) (f := 59) (av := [v16]) cf59 rfl rfl h46 rfl (fun Gq eh h48 => file_all.ok h48 (EAll.mono eh.ro (EAll.mono q7 f1d)) f1e (by rfl) (EAll.mono eh.ro (EAll.mono q7 f1f)) f1g (EAll.mono eh.ro (EAll.mono q7 f1h)) f1i (EAll.mono eh.ro (EAll.mono q7 f1j)) f1k h47) ?_
 rintro v17 wc Gr Gs N8 ei q8 ⟨v18, v19, v1a, v1b, ct, cu, cv, rfl, rfl, f1m, f1n, f1o, f1p, f1q, f1r, f1s, f1t⟩ h49
 refine Jsv (vi 0) rfl rfl ?_
 refine J0 (J2 (J2 (J1 ?_)))
 refine Jmv (vi 0) rfl rfl ?_
 refine Y3 rfl rfl rfl ?_
 change WL _ _ _ _ _ _ (upd _ _ (.bool true)) _
 refine Jmv (.bool true) rfl rfl ?_
 refine Jq rfl rfl rfl rfl (fun _ => ?_) (fun h => nomatch h)
 refine Jmv (pt b2 0) rfl rfl ?_
 refine Jq rfl rfl rfl rfl (fun _ => ?_) (fun h => nomatch h)
 obtain ⟨t9, h4a, hr⟩ := J6 hr
 refine Jn (f := 67) (av := [(pt b2 0)]) cf67 rfl rfl h49 rfl (fun Gt ej h4b => octet_Reader_Left_s2.ok (a0_ := ({ b := t8.1, at_ := t8.2.1, live := t8.2.2.1, bad := t8.2.2.2.1 } : Xoctet_Reader)) h4b (⟨v18, rfl, (SRep.mono ej.ro (SRep.mono q8 f1m)), f1n⟩) h4a) ?_
 rintro v1c wd Gu Gv N9 ek q9 ⟨v1d, rfl, rfl, f1u, f1v⟩ h4c
 refine Jq rfl rfl rfl rfl (fun _ => ?_) (fun h => nomatch h)
 refine Yh rfl rfl rfl ?_
 refine Y9 (v := (.bool (decide (t9 > 0)))) rfl rfl rfl rfl ?_
 refine J0 ?_
 refine J7 rfl (fun h4d => ?_) (fun h4d => ?_)
 ·exact Jk hr h4d
 replace hr := Jf hr h4d
 refine J9 (J2 (J2 (J1 ?_)))
 refine Jmv (vi 0) rfl rfl ?_
 refine Y1 rfl rfl rfl ?_
 change WL _ _ _ _ _ _ (upd _ _ (.bool false)) _
 refine J0 ?_
 refine J7 rfl (fun h => nomatch h) (fun _ => ?_)
 refine J9 (J2 (J1 ?_))
 refine Jl (l1 := [_, _, _, _, _, _, _]) (vs := [v19, v1a, v1b]) ti61 h4c rfl rfl rfl rfl ?_
 refine Jp (l1 := [_, _, _, _, _, _, _, _, _, _, _, _, _, _, _, _, _, _, _, _, _]) (vs := [v19, v1a, v1b]) ti61 h4c rfl rfl rfl (J5 (row_one (St.mid (l1 := [_, _, _, _]) h4c)) (J5 (row_one (St.mid (l1 := [_, _, _, _, _]) h4c)) (J5 (row_one (St.mid (l1 := [_, _, _, _, _, _]) h4c)) (fun _ h => nomatch h)))) rfl ?_
 intro we (h4e : St B we Gv [.blk b2 [v1d, (vi t8.2.1), (.bool t8.2.2.1), (.bool t8.2.2.2.1)] 163, .blk b6 [(pt b2 0)] 104, .blk b3 [(.func (.func 62) #[] #[])] 111, .blk b4 [(pt b2 0)] 104, .row v19 82 5 t8.2.2.2.2.1.length ct, .row v1a 44 9 t8.2.2.2.2.2.1.length cu, .row v1b 49 3 t8.2.2.2.2.2.2.length cv, .blk b1 [v19, v1a, v1b] 61, .blk b5 [(pt b1 0)] 110, .blk b7 [(.func (.func 114) #[] #[(pt b3 0), (pt b4 0), (pt b5 0)])] 107, .blk bb [(pt b2 0)] 104, .blk b8 [(.func (.func 64) #[] #[])] 114, .blk b9 [(pt b2 0)] 104, .blk ba [(pt b1 1)] 113, .blk bc [(.func (.func 117) #[] #[(pt b8 0), (pt b9 0), (pt ba 0)])] 107, .blk bg [(pt b2 0)] 104, .blk bd [(.func (.func 66) #[] #[])] 117, .blk be [(pt b2 0)] 104, .blk bf [(pt b1 2)] 116, .blk bh [(.func (.func 127) #[] #[(pt bd 0), (pt be 0), (pt bf 0)])] 107, .row v16 107 1 3 [(.func (.func 112) #[] #[(pt b6 0), (pt b7 0)]), (.func (.func 112) #[] #[(pt bb 0), (pt bc 0)]), (.func (.func 112) #[] #[(pt bg 0), (pt bh 0)])], .blk b0 [v19, v1a, v1b] 61])
 refine Jsv (vi 0) rfl rfl ?_
 refine J0 (Jg ?_)
 have h4f := St.pick 6 rfl h4e
 have h4g := St.pick 6 rfl h4f
 have h4h := St.pick 6 rfl h4g
 have h4i : St B _ Gv [.row v19 82 5 t8.2.2.2.2.1.length ct, .row v1a 44 9 t8.2.2.2.2.2.1.length cu, .row v1b 49 3 t8.2.2.2.2.2.2.length cv, .blk b2 [v1d, (vi t8.2.1), (.bool t8.2.2.1), (.bool t8.2.2.2.1)] 163, .blk b6 [(pt b2 0)] 104, .blk b3 [(.func (.func 62) #[] #[])] 111, .blk b4 [(pt b2 0)] 104, .blk b1 [v19, v1a, v1b] 61, .blk b5 [(pt b1 0)] 110, .blk b7 [(.func (.func 114) #[] #[(pt b3 0), (pt b4 0), (pt b5 0)])] 107, .blk bb [(pt b2 0)] 104, .blk b8 [(.func (.func 64) #[] #[])] 114, .blk b9 [(pt b2 0)] 104, .blk ba [(pt b1 1)] 113, .blk bc [(.func (.func 117) #[] #[(pt b8 0), (pt b9 0), (pt ba 0)])] 107, .blk bg [(pt b2 0)] 104, .blk bd [(.func (.func 66) #[] #[])] 117, .blk be [(pt b2 0)] 104, .blk bf [(pt b1 2)] 116, .blk bh [(.func (.func 127) #[] #[(pt bd 0), (pt be 0), (pt bf 0)])] 107, .row v16 107 1 3 [(.func (.func 112) #[] #[(pt b6 0), (pt b7 0)]), (.func (.func 112) #[] #[(pt bb 0), (pt bc 0)]), (.func (.func 112) #[] #[(pt bg 0), (pt bh 0)])], .blk b0 [v19, v1a, v1b] 61] := h4h
 have h4j := St.takeN 3 h4i
 obtain rfl := Option.some.inj hr
 exact ⟨[(.agg #[v19, v1a, v1b]), (vi 0)], ⟨⟨_, rfl, Yl (l1 := [_, _, _, _, _, _, _, _, _, _, _, _, _, _, _, _, _, _, _, _, _]) ti61 h4e rfl⟩, rfl, trivial⟩, _, _, _, rfl, (e1.trans (e2.trans (e4.trans (e6.trans (e8.trans (ea.trans (ec.trans (ee.trans (eg.trans (ei.trans ek)))))))))), h4j, ⟨v19, v1a, v1b, ct, cu, cv, rfl, rfl, (EAll.mono ek.ro (EAll.mono q8 f1o)), f1p, (EAll.mono ek.ro (EAll.mono q8 f1q)), f1r, (EAll.mono ek.ro (EAll.mono q8 f1s)), f1t, (by rfl)⟩⟩
def file_Read.f (a0 : (List Int)) : Option (((List XSymbol) × (List XFunc) × (List XData))) :=
 (file_Get.f a0).bind fun t0 => bif decide (t0.2.2.2 = 0) then (object_Check.f ({ Symbols := t0.1, Funcs := t0.2.1, Datas := t0.2.2.1 } : XObject)).bind fun t1 => some (t0.1, t0.2.1, t0.2.2.1) else none
def file_Read.K (r : ((List XSymbol) × (List XFunc) × (List XData))) (G0 : GH) (v : Value) (N : List Res) : Prop := ∃ (v0 : Value) (v1 : Value) (v2 : Value), v = tup [(.agg #[v0, v1, v2]), (vi 0), (vi (-1))] ∧ N = [] ∧ SRep 82 TSymbol G0 v0 r.1 ∧ SRep 44 TFunc G0 v1 r.2.1 ∧ SRep 49 TData G0 v2 r.2.2
theorem file_Read.ok {va0 : Value} {a0 : (List Int)} (st : St B w G []) (ha0 : SRep 5 (tInt .u8) G va0 a0) {r : ((List XSymbol) × (List XFunc) × (List XData))} (hr : file_Read.f a0 = some r) :
 Calls Tryz.prog 23 ([va0] : List Value).toArray w (Ret B G (file_Read.K r)) := by
 refine Jc [.cell 2 61, .tmp 3, .tmp 4] func23 rfl ntmps23 rfl rfl ?_
 refine J2 (J1 ?_)
 refine Jo ti61 st rfl ?_
 intro b0 w0 h0
 refine Jsv (vi 0) rfl rfl ?_
 refine Jsv (vi 0) rfl rfl ?_
 refine J0 (J2 (J1 ?_))
 refine Jmv va0 rfl rfl ?_
 obtain ⟨t0, h1, hr⟩ := J6 hr
 refine J8 (f := 21) (av := [va0]) cf21 rfl rfl h0 rfl (fun G1 e0 h2 => file_Get.ok h2 (SRep.mono e0.ro ha0) h1) ?_
 rintro v3 w1 G2 G3 N0 e1 q0 ⟨v4, v5, v6, c0, c1, c2, rfl, rfl, f0, f1, f2, f3, f4, f5, f6⟩ h3
 refine Jmv (.tuple #[(.agg #[v4, v5, v6]), (vi t0.2.2.2)]) rfl rfl ?_
 refine Jm rfl rfl rfl ?_
 refine Jm rfl rfl rfl ?_
 refine Jo ti61 h3 rfl ?_
 intro b1 w2 h4
 refine Jp (l1 := []) (vs := [v4, v5, v6]) ti61 h4 rfl rfl rfl (J5 (row_one (St.mid (l1 := [_]) h4)) (J5 (row_one (St.mid (l1 := [_, _]) h4)) (J5 (row_one (St.mid (l1 := [_, _, _]) h4)) (fun _ h => nomatch h)))) rfl ?_
 intro w3 (h5 : St B w3 G3 [.blk b1 [v4, v5, v6] 61, .row v4 82 5 t0.1.length c0, .row v5 44 9 t0.2.1.length c1, .row v6 49 3 t0.2.2.1.length c2, .blk b0 [(.slice none 0 0), (.slice none 0 0), (.slice none 0 0)] 61])
 refine Jsv (vi t0.2.2.2) rfl rfl ?_
 refine J0 (J2 (J1 ?_))
 refine Jsv (vi (-1)) rfl rfl ?_
 refine J0 (J2 (J2 (J1 ?_)))
 refine Jmv (vi t0.2.2.2) rfl rfl ?_
 refine Y3 rfl rfl rfl ?_
 refine J0 ?_
 refine J7 rfl (fun h6 => ?_) (fun h6 => ?_)
 ·replace hr := Jx hr h6
  refine J1 ?_
  refine Jl (l1 := []) (vs := [v4, v5, v6]) ti61 h5 rfl rfl rfl rfl ?_
  obtain ⟨G4, h7, e2, f7⟩ := St.rowRep (l1 := [_]) (T := TSymbol) (xs := t0.1) h5 (EAll.mono q0 f0) rfl f1
  obtain ⟨G5, h8, e3, f8⟩ := St.rowRep (l1 := [_]) (T := TFunc) (xs := t0.2.1) h7 (EAll.mono e2.ro (EAll.mono q0 f2)) rfl f3
  obtain ⟨G6, h9, e4, f9⟩ := St.rowRep (l1 := [_]) (T := TData) (xs := t0.2.2.1) h8 (EAll.mono (e2.ro.trans e3.ro) (EAll.mono q0 f4)) rfl f5
  obtain ⟨t1, h10, hr⟩ := J6 hr
  refine J8 (f := 30) (av := [(.agg #[v4, v5, v6])]) cf30 rfl rfl h9 rfl (fun G7 e5 h11 => object_Check.ok (a0 := ({ Symbols := t0.1, Funcs := t0.2.1, Datas := t0.2.2.1 } : XObject)) h11 (⟨v4, v5, v6, rfl, (SRep.mono ((e3.ro.trans e4.ro).trans e5.ro) f7), (SRep.mono (e4.ro.trans e5.ro) f8), (SRep.mono e5.ro f9)⟩) h10) ?_
  rintro v7 w4 G8 G9 N1 e6 q1 ⟨rfl, rfl⟩ h12
  refine Jmv (.tuple #[(vi 0), (vi (-1))]) rfl rfl ?_
  refine Jm rfl rfl rfl ?_
  refine Jm rfl rfl rfl ?_
  refine Jsv (vi 0) rfl rfl ?_
  refine Jsv (vi (-1)) rfl rfl ?_
  refine J0 (J2 (J2 (J1 ?_)))
  refine Jmv (vi 0) rfl rfl ?_
  refine Y1 rfl rfl rfl ?_
  change WL _ _ _ _ _ _ (upd _ _ (.bool false)) _
  refine J0 ?_
  refine J7 rfl (fun h => nomatch h) (fun _ => ?_)
  refine J9 (J2 (J1 ?_))
  refine Jl (l1 := []) (vs := [v4, v5, v6]) ti61 h12 rfl rfl rfl rfl ?_
  refine Jp (l1 := [_]) (vs := [v4, v5, v6]) ti61 h12 rfl rfl rfl (J5 (SRep.one (SRep.mono (e3.ro.trans (e4.ro.trans e6.ro)) f7)) (J5 (SRep.one (SRep.mono (e4.ro.trans e6.ro) f8)) (J5 (SRep.one (SRep.mono e6.ro f9)) (fun _ h => nomatch h)))) rfl ?_
  intro w5 (h13 : St B w5 G9 [.blk b1 [v4, v5, v6] 61, .blk b0 [v4, v5, v6] 61])
  refine Jsv (vi 0) rfl rfl ?_
  refine Jsv (vi (-1)) rfl rfl ?_
  refine J0 (Jg ?_)
  have h14 := St.takeN 0 h13
  obtain rfl := Option.some.inj hr
  exact ⟨[(.agg #[v4, v5, v6]), (vi 0), (vi (-1))], ⟨⟨_, rfl, Yl (l1 := [_]) ti61 h13 rfl⟩, rfl, rfl, trivial⟩, _, _, _, rfl, (e1.trans (e2.trans (e3.trans (e4.trans e6)))), h14, ⟨v4, v5, v6, rfl, rfl, (SRep.mono (e3.ro.trans (e4.ro.trans e6.ro)) f7), (SRep.mono (e4.ro.trans e6.ro) f8), (SRep.mono e6.ro f9)⟩⟩
 exact Yo hr h6
def sheerleglaw20_known.f : Option (Bool) :=
 (sheerleglaw19_One.f).bind fun t0 => (file_Write.f ({ Symbols := t0.1, Funcs := t0.2.1, Datas := t0.2.2 } : XObject)).bind fun t1 => (file_Read.f t1).bind fun t2 => (file_Get.f [97, 98, 99]).bind fun t3 => (sheerleglaw19_One.f).bind fun t4 => (sheerlegref19_Same.f ({ Symbols := t2.1, Funcs := t2.2.1, Datas := t2.2.2 } : XObject) ({ Symbols := t4.1, Funcs := t4.2.1, Datas := t4.2.2 } : XObject)).bind fun t5 => (bif decide (t3.2.2.2 = 5) then (file_Put.f ({ Symbols := [], Funcs := [], Datas := [] } : XObject)).bind fun t6 => some (decide ((t6.length : Int) = 11)) else none).bind fun t7 => some t7
def sheerleglaw20_known.K (r : Bool) (G0 : GH) (v : Value) (N : List Res) : Prop := v = tup [(.bool r)] ∧ N = []
theorem sheerleglaw20_known.ok (st : St B w G []) {r : Bool} (hr : sheerleglaw20_known.f = some r) :
 Calls Tryz.prog 20 ([] : List Value).toArray w (Ret B G (sheerleglaw20_known.K r)) := by
 refine Jc [.tmp 0] func20 rfl ntmps20 rfl rfl ?_
 refine J2 (J1 ?_)
 refine Jsv (.bool false) rfl rfl ?_
 refine J0 (J2 (J1 ?_))
 obtain ⟨t0, h0, hr⟩ := J6 hr
 refine J8 (f := 31) (av := []) cf31 rfl rfl st rfl (fun G1 e0 h1 => sheerleglaw19_One.ok h1 h0) ?_
 rintro v0 w0 G2 G3 N0 e1 q0 ⟨v1, v2, v3, c0, c1, c2, rfl, rfl, f0, f1, f2, f3, f4, f5⟩ h2
 obtain ⟨G4, h3, e2, f6⟩ := St.rowRep (l1 := []) (T := TSymbol) (xs := t0.1) h2 (EAll.mono q0 f0) rfl f1
 obtain ⟨G5, h4, e3, f7⟩ := St.rowRep (l1 := []) (T := TFunc) (xs := t0.2.1) h3 (EAll.mono e2.ro (EAll.mono q0 f2)) rfl f3
 obtain ⟨G6, h5, e4, f8⟩ := St.rowRep (l1 := []) (T := TData) (xs := t0.2.2) h4 (EAll.mono (e2.ro.trans e3.ro) (EAll.mono q0 f4)) rfl f5
 obtain ⟨t1, h6, hr⟩ := J6 hr
 refine J8 (f := 26) (av := [(.agg #[v1, v2, v3])]) cf26 rfl rfl h5 rfl (fun G7 e5 h7 => file_Write.ok (a0 := ({ Symbols := t0.1, Funcs := t0.2.1, Datas := t0.2.2 } : XObject)) h7 (⟨v1, v2, v3, rfl, (SRep.mono ((e3.ro.trans e4.ro).trans e5.ro) f6), (SRep.mono (e4.ro.trans e5.ro) f7), (SRep.mono e5.ro f8)⟩) h6) ?_
 rintro v4 w1 G8 G9 N1 e6 q1 ⟨v5, c3, rfl, rfl, f9, fa⟩ h8
 refine Jmv (.tuple #[v5, (vi 0), (vi (-1))]) rfl rfl ?_
 refine Jm rfl rfl rfl ?_
 refine Jm rfl rfl rfl ?_
 refine Jm rfl rfl rfl ?_
 refine Jsv v5 rfl rfl ?_
 refine Jsv (vi 0) rfl rfl ?_
 refine Jsv (vi (-1)) rfl rfl ?_
 refine J0 (J2 (J1 ?_))
 refine Jmv v5 rfl rfl ?_
 obtain ⟨Ga, h9, e7, fb⟩ := St.rowRep (l1 := []) (T := (tInt .u8)) (xs := t1) h8 (EAll.mono q1 f9) rfl fa
 obtain ⟨t2, h10, hr⟩ := J6 hr
 refine J8 (f := 23) (av := [v5]) cf23 rfl rfl h9 rfl (fun Gb e8 h11 => file_Read.ok h11 (SRep.mono e8.ro fb) h10) ?_
 rintro v6 w2 Gc Gd N2 e9 q2 ⟨v7, v8, v9, rfl, rfl, fc, fd, fe⟩ h12
 refine Jmv (.tuple #[(.agg #[v7, v8, v9]), (vi 0), (vi (-1))]) rfl rfl ?_
 refine Jm rfl rfl rfl ?_
 refine Jm rfl rfl rfl ?_
 refine Jm rfl rfl rfl ?_
 refine Jo ti61 h12 rfl ?_
 intro b0 w3 h13
 refine Jp (l1 := []) (vs := [v7, v8, v9]) ti61 h13 rfl rfl rfl (J5 (SRep.one (SRep.mono q2 fc)) (J5 (SRep.one (SRep.mono q2 fd)) (J5 (SRep.one (SRep.mono q2 fe)) (fun _ h => nomatch h)))) rfl ?_
 intro w4 (h14 : St B w4 Gd [.blk b0 [v7, v8, v9] 61])
 refine Jsv (vi 0) rfl rfl ?_
 refine Jsv (vi (-1)) rfl rfl ?_
 refine J0 (J2 (J1 ?_))
 refine Jj (cells := [(.int .u8 97), (.int .u8 98), (.int .u8 99)]) underlying63 ti5 h14 rfl rfl rfl rfl rfl (by kernel_rfl) ?_
 intro va w5 h15 ff
 have E0 : EAll (tInt .u8) Gd [(.int .u8 97), (.int .u8 98), (.int .u8 99)] [97, 98, 99] := ⟨_, _, rfl, ⟨rfl, rfl⟩, ⟨_, _, rfl, ⟨rfl, rfl⟩, ⟨_, _, rfl, ⟨rfl, rfl⟩, rfl⟩⟩⟩
 refine WL_convMark (l1 := []) underlying63 underlying5 h15 ⟨_, ((ff).choose_spec).1⟩ E0 rfl (by decide) rfl rfl ?_
 intro w6 Ge ea fg h16
 obtain ⟨t3, h17, hr⟩ := J6 hr
 refine J8 (f := 21) (av := [va]) cf21 rfl rfl h16 rfl (fun Gf eb h18 => file_Get.ok h18 (SRep.mono eb.ro fg) h17) ?_
 rintro vc w7 Gg Gh N3 ec q3 ⟨vd, ve, vf, c4, c5, c6, rfl, rfl, fh, fj, fk, fl, fm, fn, fo⟩ h19
 refine Jmv (.tuple #[(.agg #[vd, ve, vf]), (vi t3.2.2.2)]) rfl rfl ?_
 refine Jm rfl rfl rfl ?_
 refine Jm rfl rfl rfl ?_
 refine Jo ti61 h19 rfl ?_
 intro b1 w8 h1a
 refine Jp (l1 := []) (vs := [vd, ve, vf]) ti61 h1a rfl rfl rfl (J5 (row_one (St.mid (l1 := [_]) h1a)) (J5 (row_one (St.mid (l1 := [_, _]) h1a)) (J5 (row_one (St.mid (l1 := [_, _, _]) h1a)) (fun _ h => nomatch h)))) rfl ?_
 intro w9 (h1b : St B w9 Gh [.blk b1 [vd, ve, vf] 61, .row vd 82 5 t3.1.length c4, .row ve 44 9 t3.2.1.length c5, .row vf 49 3 t3.2.2.1.length c6, .blk b0 [v7, v8, v9] 61])
 refine Jsv (vi t3.2.2.2) rfl rfl ?_
 refine J0 (J2 ?_)
 obtain ⟨t4, h1c, hr⟩ := J6 hr
 refine Ym 9 [some 27, some 28, some 29, some 30, some 31, some 32, some 33, some 34, some 35] [8] [Kind.q, Kind.q, Kind.q, Kind.q, Kind.q, Kind.q, Kind.q, Kind.q, Kind.c 0] (pkT [(fun vs_ G_ M_ => vs_ = [] ∧ M_ = [.blk b1 [vd, ve, vf] 61, .row vd 82 5 t3.1.length c4, .row ve 44 9 t3.2.1.length c5, .row vf 49 3 t3.2.2.1.length c6, .blk b0 [v7, v8, v9] 61]), (fun vs_ G_ M_ => ∃ (vg : Value) (c7 : List Value) (vh : Value) (c8 : List Value) (vj : Value) (c9 : List Value), vs_ = [(.agg #[vg, vh, vj])] ∧ M_ = [.row vg 82 5 t4.1.length c7, .row vh 44 9 t4.2.1.length c8, .row vj 49 3 t4.2.2.length c9, .blk b1 [vd, ve, vf] 61, .row vd 82 5 t3.1.length c4, .row ve 44 9 t3.2.1.length c5, .row vf 49 3 t3.2.2.1.length c6, .blk b0 [v7, v8, v9] 61] ∧ EAll TSymbol G_ c7 t4.1 ∧ t4.1.length = t4.1.length ∧ t4.1.length ≤ SB ∧ EAll TFunc G_ c8 t4.2.1 ∧ t4.2.1.length = t4.2.1.length ∧ t4.2.1.length ≤ SB ∧ EAll TData G_ c9 t4.2.2 ∧ t4.2.2.length = t4.2.2.length ∧ t4.2.2.length ≤ SB)]) (pk [(fun G_ v_ => v_ = (vi 0)), (fun G_ v_ => v_ = (.bool true)), (fun G_ v_ => v_ = (.bool true)), (fun G_ v_ => v_ = (vi (-1))), (fun G_ v_ => v_ = (.bool true)), (fun G_ v_ => v_ = (.bool true)), (fun G_ v_ => v_ = (.bool true)), (fun G_ v_ => v_ = (.agg #[v7, v8, v9])), (fun _ _ => True)]) rfl (by kernel_rfl) rfl (by kernel_rfl) [] (by kernel_rfl) rfl h1b (fun _ _ => ⟨rfl, rfl⟩) ?_ ?_
 ·refine Each2.cons ?_ (Each2.cons ?_ (Each2.cons ?_ (Each2.cons ?_ (Each2.cons ?_ (Each2.cons ?_ (Each2.cons ?_ (Each2.cons ?_ (Each2.cons ?_ Each2.nil))))))))
  ·intro k0 q4 wa Gi M0 h1d h1e ed h1f h1g h1h h1i h1j h1k
   have h2_ : k0 ≤ 0 := h1j 0 8 [1, 2, 6, 8] rfl (by kernel_rfl) rfl
   obtain rfl : k0 = 0 := by omega
   obtain ⟨hvs_, rfl⟩ := h1g Gi (Ext.refl _)
   rw [J3 (ρ := q4) (l := [(2, (vi 0))]) ⟨(h1h.1 2 (by decide)).trans rfl, trivial⟩]
   refine Jmv (vi 0) rfl rfl ?_
   exact J0 (J4 (Ext.refl _) h1f fun Gj ee => rfl)
  ·intro k0 q4 wa Gi M0 h1d h1e ed h1f h1g h1h h1i h1j h1k
   have h2_ : k0 ≤ 0 := h1j 0 8 [2, 6, 8] rfl (by kernel_rfl) rfl
   obtain rfl : k0 = 0 := by omega
   obtain ⟨hvs_, rfl⟩ := h1g Gi (Ext.refl _)
   obtain ⟨hd0_, _⟩ := h1k
   have hv27 := hd0_
   rw [J3 (ρ := q4) (l := [(27, (vi 0))]) ⟨hv27, trivial⟩]
   refine Y3 rfl rfl rfl ?_
   change WL _ _ _ _ _ _ (upd _ _ (.bool true)) _
   exact J0 (J4 (Ext.refl _) h1f fun Gk ef => rfl)
  ·intro k0 q4 wa Gi M0 h1d h1e ed h1f h1g h1h h1i h1j h1k
   have h2_ : k0 ≤ 0 := h1j 0 8 [6, 8] rfl (by kernel_rfl) rfl
   obtain rfl : k0 = 0 := by omega
   obtain ⟨hvs_, rfl⟩ := h1g Gi (Ext.refl _)
   obtain ⟨hd0_, _⟩ := h1k
   have hv28 := hd0_
   rw [J3 (ρ := q4) (l := [(28, (.bool true))]) ⟨hv28, trivial⟩]
   refine Jmv (.bool true) rfl rfl ?_
   exact J0 (J4 (Ext.refl _) h1f fun Gl eg => rfl)
  ·intro k0 q4 wa Gi M0 h1d h1e ed h1f h1g h1h h1i h1j h1k
   have h2_ : k0 ≤ 0 := h1j 0 8 [4, 5, 6, 8] rfl (by kernel_rfl) rfl
   obtain rfl : k0 = 0 := by omega
   obtain ⟨hvs_, rfl⟩ := h1g Gi (Ext.refl _)
   obtain ⟨hd0_, _⟩ := h1k
   have hv29 := hd0_
   rw [J3 (ρ := q4) (l := [(3, (vi (-1))), (29, (.bool true))]) ⟨(h1h.1 3 (by decide)).trans rfl, hv29, trivial⟩]
   refine Jq rfl rfl rfl rfl (fun _ => ?_) (fun h => nomatch h)
   refine Jmv (vi (-1)) rfl rfl ?_
   exact J0 (J4 (Ext.refl _) h1f fun Gm eh => rfl)
  ·intro k0 q4 wa Gi M0 h1d h1e ed h1f h1g h1h h1i h1j h1k
   have h2_ : k0 ≤ 0 := h1j 0 8 [5, 6, 8] rfl (by kernel_rfl) rfl
   obtain rfl : k0 = 0 := by omega
   obtain ⟨hvs_, rfl⟩ := h1g Gi (Ext.refl _)
   obtain ⟨hd0_, hd1_, _⟩ := h1k
   have hv30 := hd0_
   have hv29 := hd1_
   rw [J3 (ρ := q4) (l := [(29, (.bool true)), (30, (vi (-1)))]) ⟨hv29, hv30, trivial⟩]
   refine Jq rfl rfl rfl rfl (fun _ => ?_) (fun h => nomatch h)
   refine Y3 rfl rfl rfl ?_
   change WL _ _ _ _ _ _ (upd _ _ (.bool true)) _
   exact J0 (J4 (Ext.refl _) h1f fun Gn ei => rfl)
  ·intro k0 q4 wa Gi M0 h1d h1e ed h1f h1g h1h h1i h1j h1k
   have h2_ : k0 ≤ 0 := h1j 0 8 [6, 8] rfl (by kernel_rfl) rfl
   obtain rfl : k0 = 0 := by omega
   obtain ⟨hvs_, rfl⟩ := h1g Gi (Ext.refl _)
   obtain ⟨hd0_, hd1_, _⟩ := h1k
   have hv29 := hd0_
   have hv31 := hd1_
   rw [J3 (ρ := q4) (l := [(29, (.bool true)), (31, (.bool true))]) ⟨hv29, hv31, trivial⟩]
   refine Y9 (v := (.bool true)) rfl rfl rfl rfl ?_
   exact J0 (J4 (Ext.refl _) h1f fun Go ej => rfl)
  ·intro k0 q4 wa Gi M0 h1d h1e ed h1f h1g h1h h1i h1j h1k
   have h2_ : k0 ≤ 0 := h1j 0 8 [8] rfl (by kernel_rfl) rfl
   obtain rfl : k0 = 0 := by omega
   obtain ⟨hvs_, rfl⟩ := h1g Gi (Ext.refl _)
   obtain ⟨hd0_, hd1_, _⟩ := h1k
   have hv32 := hd0_
   rw [J3 (ρ := q4) (l := [(32, (.bool true))]) ⟨hv32, trivial⟩]
   refine Jmv (.bool true) rfl rfl ?_
   exact J0 (J4 (Ext.refl _) h1f fun Gp ek => rfl)
  ·intro k0 q4 wa Gi M0 h1d h1e ed h1f h1g h1h h1i h1j h1k
   have h2_ : k0 ≤ 1 := h1d
   rcases (show k0 = 0 ∨ k0 = 1 from by omega) with rfl | rfl
   ·obtain ⟨hvs_, rfl⟩ := h1g Gi (Ext.refl _)
    obtain ⟨hd0_, _⟩ := h1k
    have hv33 := hd0_
    rw [J3 (ρ := q4) (l := [(4, (pt b0 0)), (33, (.bool true))]) ⟨(h1h.1 4 (by decide)).trans rfl, hv33, trivial⟩]
    refine Jq rfl rfl rfl rfl (fun _ => ?_) (fun h => nomatch h)
    refine Jl (l1 := [_, _, _, _]) (vs := [v7, v8, v9]) ti61 h1f rfl rfl rfl rfl ?_
    exact J0 (J4 (Ext.refl _) h1f fun Gq el => rfl)
   obtain ⟨vg, c7, vh, c8, vj, c9, hvs_, rfl, fp, fq, fr, fs, ft, fu, fv, fw, fx⟩ := h1g Gi (Ext.refl _)
   have hv35 := (List.cons.inj hvs_).1
   obtain ⟨hd0_, _⟩ := h1k
   have hv33 := hd0_
   rw [J3 (ρ := q4) (l := [(4, (pt b0 0)), (33, (.bool true)), (35, (.agg #[vg, vh, vj]))]) ⟨(h1h.1 4 (by decide)).trans rfl, hv33, hv35, trivial⟩]
   refine Jq rfl rfl rfl rfl (fun _ => ?_) (fun h => nomatch h)
   refine Jl (l1 := [_, _, _, _, _, _, _]) (vs := [v7, v8, v9]) ti61 h1f rfl rfl rfl rfl ?_
   exact J0 (J4 (Ext.refl _) h1f fun Gq el => rfl)
  intro k0 q4 wa Gi M0 h1d h1e ed h1f h1g h1h h1i h1j h1k
  obtain rfl : k0 = 0 := h1e
  obtain ⟨hvs_, rfl⟩ := h1g Gi (Ext.refl _)
  obtain ⟨hd0_, hd1_, _⟩ := h1k
  have hv33 := hd0_
  rw [J3 (ρ := q4) (l := [(33, (.bool true))]) ⟨hv33, trivial⟩]
  refine Jq rfl rfl rfl rfl (fun _ => ?_) (fun h => nomatch h)
  refine J8 (f := 31) (av := []) cf31 rfl rfl h1f rfl (fun Gr em h1l => sheerleglaw19_One.ok h1l h1c) ?_
  rintro vk wb Gs Gt N4 en q5 ⟨vl, vm, vn, ca, cb, cc, rfl, rfl, fy, fz, f10, f11, f12, f13⟩ h1m
  exact J0 (Yi en h1m fun Gu eo => ⟨⟨vl, ca, vm, cb, vn, cc, rfl, rfl, (EAll.mono eo.ro (EAll.mono q5 fy)), (by rfl), fz, (EAll.mono eo.ro (EAll.mono q5 f10)), (by rfl), f11, (EAll.mono eo.ro (EAll.mono q5 f12)), (by rfl), f13⟩, trivial⟩)
 intro q4 wa Gi M0 ed h1f h1g h1h h1k
 obtain ⟨vg, c7, vh, c8, vj, c9, hvs_, rfl, fp, fq, fr, fs, ft, fu, fv, fw, fx⟩ := h1g
 have hv35 := (List.cons.inj hvs_).1
 have hv33 := h1k 6 (by decide)
 have hv34 := h1k 7 (by decide)
 rw [J3 (ρ := q4) (l := [(5, (vi 0)), (6, (vi (-1))), (8, (vi t3.2.2.2)), (33, (.bool true)), (34, (.agg #[v7, v8, v9])), (35, (.agg #[vg, vh, vj]))]) ⟨(h1h.1 5 (by decide)).trans rfl, (h1h.1 6 (by decide)).trans rfl, (h1h.1 8 (by decide)).trans rfl, hv33, hv34, hv35, trivial⟩]
 refine Jq rfl rfl rfl rfl (fun _ => ?_) (fun h => nomatch h)
 obtain ⟨Gv, h1n, ep, f14⟩ := St.rowRep (l1 := []) (T := TSymbol) (xs := t4.1) h1f fp fq fr
 obtain ⟨Gw, h1o, er, f15⟩ := St.rowRep (l1 := []) (T := TFunc) (xs := t4.2.1) h1n (EAll.mono ep.ro fs) ft fu
 obtain ⟨Gx, h1p, es, f16⟩ := St.rowRep (l1 := []) (T := TData) (xs := t4.2.2) h1o (EAll.mono (ep.ro.trans er.ro) fv) fw fx
 obtain ⟨t5, h1q, hr⟩ := J6 hr
 refine J8 (f := 25) (av := [(.agg #[v7, v8, v9]), (.agg #[vg, vh, vj])]) cf25 rfl rfl h1p rfl (fun Gy et h1r => sheerlegref19_Same.ok (a0 := ({ Symbols := t2.1, Funcs := t2.2.1, Datas := t2.2.2 } : XObject)) (a1 := ({ Symbols := t4.1, Funcs := t4.2.1, Datas := t4.2.2 } : XObject)) h1r (⟨v7, v8, v9, rfl, (SRep.mono ((ea.ro.trans (ec.ro.trans (ed.ro.trans (ep.ro.trans (er.ro.trans es.ro))))).trans et.ro) (SRep.mono q2 fc)), (SRep.mono ((ea.ro.trans (ec.ro.trans (ed.ro.trans (ep.ro.trans (er.ro.trans es.ro))))).trans et.ro) (SRep.mono q2 fd)), (SRep.mono ((ea.ro.trans (ec.ro.trans (ed.ro.trans (ep.ro.trans (er.ro.trans es.ro))))).trans et.ro) (SRep.mono q2 fe))⟩) (⟨vg, vh, vj, rfl, (SRep.mono ((er.ro.trans es.ro).trans et.ro) f14), (SRep.mono (es.ro.trans et.ro) f15), (SRep.mono et.ro f16)⟩) h1q) ?_
 rintro vo wc Gz G10 N5 eu q6 ⟨rfl, rfl⟩ h1s
 refine Y9 (v := (.bool true)) rfl rfl rfl rfl ?_
 refine Jmv (.bool true) rfl rfl ?_
 refine Jq rfl rfl rfl rfl (fun _ => ?_) (fun h => nomatch h)
 refine Jmv (vi 0) rfl rfl ?_
 refine Jq rfl rfl rfl rfl (fun _ => ?_) (fun h => nomatch h)
 refine Y3 rfl rfl rfl ?_
 change WL _ _ _ _ _ _ (upd _ _ (.bool true)) _
 refine Y9 (v := (.bool true)) rfl rfl rfl rfl ?_
 refine Jmv (.bool true) rfl rfl ?_
 refine Jq rfl rfl rfl rfl (fun _ => ?_) (fun h => nomatch h)
 refine Jmv (vi (-1)) rfl rfl ?_
 refine Jq rfl rfl rfl rfl (fun _ => ?_) (fun h => nomatch h)
 refine Y3 rfl rfl rfl ?_
 change WL _ _ _ _ _ _ (upd _ _ (.bool true)) _
 refine Y9 (v := (.bool true)) rfl rfl rfl rfl ?_
 refine Jmv (.bool true) rfl rfl ?_
 refine Jq rfl rfl rfl rfl (fun _ => ?_) (fun h => nomatch h)
 refine Jmv (vi t3.2.2.2) rfl rfl ?_
 refine Jq rfl rfl rfl rfl (fun _ => ?_) (fun h => nomatch h)
 refine Y3 rfl rfl rfl ?_
 refine Y9 (v := (.bool (decide (t3.2.2.2 = 5)))) rfl rfl rfl rfl ?_
 refine Jmv (.bool (decide (t3.2.2.2 = 5))) rfl rfl ?_
 obtain ⟨t7, hr, o0⟩ := J6 hr
 refine Jw 5 (fun ρ w => ∃ (σ0 : Env) (G11 : GH), ρ = En σ0 [(55, (.bool t7))] ∧ Ext G10 G11 ∧ St B w G11 []) ?_ ?_
 ·rcases Y8 (decide (t3.2.2.2 = 5)) with hb_ | hb_
  ·have h1t : (decide (t3.2.2.2 = 5)) = true := hb_
   replace hr := Jx hr h1t
   refine Ja rfl rfl rfl rfl h1t ?_
   refine Y0 (cells := #[(.slice none 0 0), (.slice none 0 0), (.slice none 0 0)]) rfl (by kernel_rfl) ?_
   refine Ja rfl rfl rfl rfl h1t ?_
   obtain ⟨t6, h1u, hr⟩ := J6 hr
   refine J8 (f := 28) (av := [(.agg #[(.slice none 0 0), (.slice none 0 0), (.slice none 0 0)])]) cf28 rfl rfl h1s rfl (fun G12 ev h1v => file_Put.ok (a0 := ({ Symbols := [], Funcs := [], Datas := [] } : XObject)) h1v (⟨(.slice none 0 0), (.slice none 0 0), (.slice none 0 0), rfl, SRep.nil, SRep.nil, SRep.nil⟩) h1u) ?_
   rintro vp wd G13 G14 N6 ew q7 ⟨_, cd, rfl, rfl, f17, f18⟩ h1w
   refine Ja rfl rfl rfl rfl h1t ?_
   refine WL_lenOwn (l1 := []) underlying63 h1w rfl rfl ?_
   refine Ja rfl rfl rfl rfl h1t ?_
   refine Y3 rfl rfl rfl ?_
   refine Y9 (v := (.bool (decide ((t6.length : Int) = 11)))) rfl rfl h1t rfl ?_
   refine J0 ?_
   have h1x := St.takeN 0 h1w
   obtain rfl := Option.some.inj hr
   exact ⟨_, _, (J3 ⟨rfl, trivial⟩), ew, h1x⟩
  exact Yo hr hb_
 rintro _ _ ⟨σ0, G11, rfl, ex, h1y⟩
 replace hr := o0
 refine Jsv (.bool t7) rfl rfl ?_
 refine J0 (Jg ?_)
 obtain rfl := Option.some.inj hr
 exact ⟨[(.bool t7)], ⟨rfl, trivial⟩, _, _, _, rfl, (e1.trans (e2.trans (e3.trans (e4.trans (e6.trans (e7.trans (e9.trans (ea.trans (ec.trans (ed.trans (ep.trans (er.trans (es.trans (eu.trans ex)))))))))))))), h1y, ⟨rfl, rfl⟩⟩
end Go.Proofs.YtnglgjgflohkmaaGreat.Sk
