/- Walks, printed by gen.py. No condition. -/
import Derived.Test.YtnglgjgflohkmaaGreatSkTy
import Derived.Test.YtnglgjgflohkmaaGreatSkW2
import Derived.Test.YtnglgjgflohkmaaGreatSkW3
import Derived.Test.YtnglgjgflohkmaaGreatSkW4
import Derived.Test.YtnglgjgflohkmaaGreatSkW5
import Derived.Test.YtnglgjgflohkmaaGreatSkW6
import Derived.Test.YtnglgjgflohkmaaGreatSkW7
import Derived.Test.YtnglgjgflohkmaaGreatSkW8
namespace Go.Proofs.YtnglgjgflohkmaaGreat.Sk
open Go Go.Proofs.Tryz
set_option linter.unusedVariables false
set_option linter.unusedSimpArgs false
variable {B w : World} {G : GH}
set_option linter.unusedVariables false
set_option maxHeartbeats 4000000
set_option maxRecDepth 100000
def verify_refers.f (a0 : XFunc) (a1 : (List XSymbol)) (a2 : Int) : Option ((ByteArray × Bool × Int × Int × Int)) :=
 (idx a0.Code a2).bind fun x0 => (op_Need.f x0.Op).bind fun t0 => (verify_mark.f a0 a2).bind fun t1 => (bif decide (t0 = 0) then some (decide (t1 < 0)) else some false).bind fun t2 => bif t2 then some ((⟨#[]⟩ : ByteArray), false, 0, 0, 0) else bif decide (t0 = 0) then none else bif decide (t1 < 0) then none else (idx a0.Relocs t1).bind fun x1 => bif decide (x1.Sym < 0) then none else (idx a0.Relocs t1).bind fun x2 => bif decide (x2.Sym ≥ (a1.length : Int)) then none else (idx a0.Relocs t1).bind fun x3 => (idx a1 x3.Sym).bind fun x4 => (verify_fits.f t0 x4).bind fun t3 => bif !t3 then none else some (x4.Name, x4.Local, x4.Sort_, x4.Kind, x4.Def)
def verify_refers.K (r : (ByteArray × Bool × Int × Int × Int)) (G0 : GH) (v : Value) (N : List Res) : Prop := v = tup [(.agg #[(.string r.1), (.bool r.2.1), (vi r.2.2.1), (vi r.2.2.2.1), (vi r.2.2.2.2)]), (vi 0)] ∧ N = [] ∧ r.1.size ≤ SB ∧ InK .i64 r.2.2.1 ∧ InK .i64 r.2.2.2.1 ∧ InK .i64 r.2.2.2.2
theorem verify_refers.ok {ca0 : List Value} {a0 : XFunc} {va1 : Value} {a1 : (List XSymbol)} {a2 : Int} (st : St B w G []) (ha0 : TFunc.rep G ca0 a0) (ha1 : SRep 82 TSymbol G va1 a1) (ha2 : InK .i64 a2) {r : (ByteArray × Bool × Int × Int × Int)} (hr : verify_refers.f a0 a1 a2 = some r) :
 Calls Tryz.prog 224 ([(.agg ca0.toArray), va1, (vi a2)] : List Value).toArray w (Ret B G (verify_refers.K r)) := by
 obtain ⟨sa0_1, sa0_6, sa0_7, sa0_8, rfl, ha0_0, ha0_1, ha0_2, ha0_4, ha0_5, ha0_6, ha0_7, ha0_8⟩ := ha0
 refine Jc [.cell 6 82, .tmp 7] func224 rfl ntmps224 rfl rfl ?_
 refine J2 (J1 ?_)
 refine Ju (cs := [(vi a0.Class), sa0_1, (vi a0.Pad), (.bool a0.Nosplit), (vi a0.From), (vi a0.To), sa0_6, sa0_7, sa0_8]) st rfl rfl rfl ?_
 intro b0 w0 h0
 refine Jo ti82 h0 rfl ?_
 intro b1 w1 h1
 refine Jsv (vi 0) rfl rfl ?_
 refine J0 (J2 ?_)
 obtain ⟨x0, h2, hr⟩ := J6 hr
 obtain ⟨t0, h3, hr⟩ := J6 hr
 refine Ye 9 [some 11, some 12, some 13, some 14, some 15, some 16, some 17, some 18, some 19] (pk [(fun G_ v_ => v_ = (pt b0 7)), (fun G_ v_ => v_ = sa0_7), (fun G_ v_ => v_ = (vi a2)), (fun G_ v_ => ∃ (b2 : Nat) (b3 : Nat), v_ = (pt b2 b3) ∧ InK .i64 x0.Op ∧ InK .i64 x0.A ∧ InK .i64 x0.B ∧ InK .i64 x0.C ∧ InK .i64 x0.N ∧ LiesG G_ b2 b3 [(vi x0.Op), (vi x0.A), (vi x0.B), (vi x0.C), (vi x0.N)]), (fun G_ v_ => ∃ (b4 : Nat) (b5 : Nat), v_ = (pt b4 b5) ∧ InK .i64 x0.Op ∧ InK .i64 x0.A ∧ InK .i64 x0.B ∧ InK .i64 x0.C ∧ InK .i64 x0.N ∧ LiesG G_ b4 b5 [(vi x0.Op), (vi x0.A), (vi x0.B), (vi x0.C), (vi x0.N)]), (fun G_ v_ => v_ = (vi x0.Op) ∧ InK .i64 x0.Op), (fun G_ v_ => v_ = (vi t0) ∧ InK .i64 t0), (fun G_ v_ => v_ = (.agg #[(vi a0.Class), sa0_1, (vi a0.Pad), (.bool a0.Nosplit), (vi a0.From), (vi a0.To), sa0_6, sa0_7, sa0_8])), (fun G_ v_ => v_ = (vi a2))]) rfl (by kernel_rfl) rfl h1 ?_ ?_
 ·refine Each.cons ?_ (Each.cons ?_ (Each.cons ?_ (Each.cons ?_ (Each.cons ?_ (Each.cons ?_ (Each.cons ?_ (Each.cons ?_ (Each.cons ?_ Each.nil))))))))
  ·intro q0 w2 G1 e0 h4 h5 h6
   rw [J3 (ρ := q0) (l := [(3, (pt b0 0))]) ⟨(h5.1 3 (by decide)).trans rfl, trivial⟩]
   refine Jfa 7 7 underlying44 rfl ti41 rfl rfl rfl rfl ?_
   exact J0 (J4 (Ext.refl _) h4 fun G2 e1 => rfl)
  ·intro q0 w2 G1 e0 h4 h5 h6
   obtain ⟨hd0_, _⟩ := h6
   have hv11 := hd0_
   rw [J3 (ρ := q0) (l := [(11, (pt b0 7))]) ⟨hv11, trivial⟩]
   refine Jlb [_] sa0_7 ti41 h4 rfl rfl rfl ?_
   exact J0 (J4 (Ext.refl _) h4 fun G3 e2 => rfl)
  ·intro q0 w2 G1 e0 h4 h5 h6
   rw [J3 (ρ := q0) (l := [(2, (vi a2))]) ⟨(h5.1 2 (by decide)).trans rfl, trivial⟩]
   refine Jmv (vi a2) rfl rfl ?_
   exact J0 (J4 (Ext.refl _) h4 fun G4 e3 => rfl)
  ·intro q0 w2 G1 e0 h4 h5 h6
   obtain ⟨hd0_, hd1_, _⟩ := h6
   have hv12 := hd0_
   have hv13 := hd1_
   rw [J3 (ρ := q0) (l := [(12, sa0_7), (13, (vi a2))]) ⟨hv12, hv13, trivial⟩]
   refine Jh (T := TInstr) underlying41 ti54 h4 (SRep.mono e0.ro ha0_7) rfl rfl rfl h2 ?_
   intro b6 o0 c0 l0 f0
   obtain ⟨rfl, f1, f2, f3, f4, f5⟩ := f0
   exact J0 (J4 (Ext.refl _) h4 fun G5 e4 => ⟨b6, o0, rfl, f1, f2, f3, f4, f5, (LiesG.mono e4.ro l0)⟩)
  ·intro q0 w2 G1 e0 h4 h5 h6
   obtain ⟨hd0_, _⟩ := h6
   obtain ⟨b2, b3, hv14, f6, f7, f8, f9, fa, fb⟩ := hd0_
   rw [J3 (ρ := q0) (l := [(14, (pt b2 b3))]) ⟨hv14, trivial⟩]
   refine Jfa 0 b3 underlying54 rfl ti3 rfl rfl rfl rfl ?_
   exact J0 (J4 (Ext.refl _) h4 fun G6 e5 => ⟨b2, b3, rfl, f6, f7, f8, f9, fa, (LiesG.mono e5.ro fb)⟩)
  ·intro q0 w2 G1 e0 h4 h5 h6
   obtain ⟨hd0_, _⟩ := h6
   obtain ⟨b4, b5, hv15, fc, fd, fe, ff, fg, fh⟩ := hd0_
   rw [J3 (ρ := q0) (l := [(15, (pt b4 b5))]) ⟨hv15, trivial⟩]
   refine Y4 (v := (vi x0.Op)) ti3 rfl rfl (LiesG.lies fh h4) rfl ?_
   exact J0 (J4 (Ext.refl _) h4 fun G7 e6 => ⟨rfl, fc⟩)
  ·intro q0 w2 G1 e0 h4 h5 h6
   obtain ⟨hd0_, _⟩ := h6
   obtain ⟨hv16, fj⟩ := hd0_
   rw [J3 (ρ := q0) (l := [(16, (vi x0.Op))]) ⟨hv16, trivial⟩]
   refine J8 (f := 49) (av := [(vi x0.Op)]) cf49 rfl rfl h4 rfl (fun G8 e7 h7 => op_Need.ok h7 fj h3) ?_
   rintro v0 w3 G9 Ga N0 e8 q1 ⟨rfl, rfl, fk⟩ h8
   exact J0 (J4 e8 h8 fun Gb e9 => ⟨rfl, fk⟩)
  ·intro q0 w2 G1 e0 h4 h5 h6
   rw [J3 (ρ := q0) (l := [(3, (pt b0 0))]) ⟨(h5.1 3 (by decide)).trans rfl, trivial⟩]
   refine Jl (l1 := [_]) (vs := [(vi a0.Class), sa0_1, (vi a0.Pad), (.bool a0.Nosplit), (vi a0.From), (vi a0.To), sa0_6, sa0_7, sa0_8]) ti44 h4 rfl rfl rfl rfl ?_
   exact J0 (J4 (Ext.refl _) h4 fun Gc ea => rfl)
  intro q0 w2 G1 e0 h4 h5 h6
  rw [J3 (ρ := q0) (l := [(2, (vi a2))]) ⟨(h5.1 2 (by decide)).trans rfl, trivial⟩]
  refine Jmv (vi a2) rfl rfl ?_
  exact J0 (J4 (Ext.refl _) h4 fun Gd eb => rfl)
 intro q0 w2 G1 e0 h4 h5 h6
 obtain ⟨hv17, fl⟩ := h6 6 (by decide)
 have hv18 := h6 7 (by decide)
 have hv19 := h6 8 (by decide)
 rw [J3 (ρ := q0) (l := [(1, va1), (3, (pt b0 0)), (6, (pt b1 0)), (17, (vi t0)), (18, (.agg #[(vi a0.Class), sa0_1, (vi a0.Pad), (.bool a0.Nosplit), (vi a0.From), (vi a0.To), sa0_6, sa0_7, sa0_8])), (19, (vi a2))]) ⟨(h5.1 1 (by decide)).trans rfl, (h5.1 3 (by decide)).trans rfl, (h5.1 6 (by decide)).trans rfl, hv17, hv18, hv19, trivial⟩]
 obtain ⟨t1, h9, hr⟩ := J6 hr
 refine J8 (f := 109) (av := [(.agg #[(vi a0.Class), sa0_1, (vi a0.Pad), (.bool a0.Nosplit), (vi a0.From), (vi a0.To), sa0_6, sa0_7, sa0_8]), (vi a2)]) cf109 rfl rfl h4 rfl (fun Ge ec h10 => verify_mark.ok (a0 := a0) h10 (⟨sa0_1, sa0_6, sa0_7, sa0_8, rfl, ha0_0, (SRep.mono (e0.ro.trans ec.ro) ha0_1), ha0_2, ha0_4, ha0_5, (SRep.mono (e0.ro.trans ec.ro) ha0_6), (SRep.mono (e0.ro.trans ec.ro) ha0_7), (SRep.mono (e0.ro.trans ec.ro) ha0_8)⟩) ha2 h9) ?_
 rintro v1 w4 Gf Gg N1 ed q2 ⟨rfl, rfl, fm⟩ h11
 refine Jsv (vi t0) rfl rfl ?_
 refine Jsv (vi t1) rfl rfl ?_
 refine J0 (J2 (Jb (J2 (J1 ?_))))
 refine Jmv (vi t0) rfl rfl ?_
 refine Y3 rfl rfl rfl ?_
 refine Jmv (.bool (decide (t0 = 0))) rfl rfl ?_
 obtain ⟨t2, hr, o1⟩ := J6 hr
 refine Jw 3 (fun ρ w => ∃ (σ0 : Env) (Gh : GH), ρ = En σ0 [(1, va1), (3, (pt b0 0)), (6, (pt b1 0)), (8, (vi t0)), (9, (vi t1)), (27, (.bool t2))] ∧ Ext Gg Gh ∧ St B w Gh [.blk b0 [(vi a0.Class), sa0_1, (vi a0.Pad), (.bool a0.Nosplit), (vi a0.From), (vi a0.To), sa0_6, sa0_7, sa0_8] 44, .blk b1 [(.string (⟨#[]⟩ : ByteArray)), (.bool false), (vi 0), (vi 0), (vi 0)] 82]) ?_ ?_
 ·rcases Y8 (decide (t0 = 0)) with hb_ | hb_
  ·have h12 : (decide (t0 = 0)) = true := hb_
   replace hr := Jx hr h12
   refine Ja rfl rfl rfl rfl h12 ?_
   refine Jmv (vi t1) rfl rfl ?_
   refine Ja rfl rfl rfl rfl h12 ?_
   refine Ji rfl rfl rfl ?_
   refine Y9 (v := (.bool (decide (t1 < 0)))) rfl rfl h12 rfl ?_
   refine J0 ?_
   have h13 := St.pick 1 rfl h11
   obtain rfl := Option.some.inj hr
   exact ⟨_, _, (J3 ⟨rfl, rfl, rfl, rfl, rfl, rfl, trivial⟩), (Ext.refl _), h13⟩
  have h14 : (decide (t0 = 0)) = false := hb_
  replace hr := Jf hr h14
  refine Jv rfl rfl rfl rfl h14 ?_
  refine Jv rfl rfl rfl rfl h14 ?_
  refine Jt (v := (.bool false)) rfl rfl h14 rfl ?_
  refine J0 ?_
  have h15 := St.pick 1 rfl h11
  obtain rfl := Option.some.inj hr
  exact ⟨_, _, (J3 ⟨rfl, rfl, rfl, rfl, rfl, rfl, trivial⟩), (Ext.refl _), h15⟩
 rintro _ _ ⟨σ0, Gh, rfl, ee, h16⟩
 replace hr := o1
 refine Jsv (.bool t2) rfl rfl ?_
 refine J0 ?_
 refine J7 rfl (fun h17 => ?_) (fun h17 => ?_)
 ·replace hr := Jx hr h17
  refine J2 (J1 ?_)
  refine Y0 (cells := #[(.string (⟨#[]⟩ : ByteArray)), (.bool false), (vi 0), (vi 0), (vi 0)]) rfl (by kernel_rfl) ?_
  refine Jp (l1 := [_]) (vs := [(.string (⟨#[]⟩ : ByteArray)), (.bool false), (vi 0), (vi 0), (vi 0)]) ti82 h16 rfl rfl rfl (J5 rfl (J5 rfl (J5 rfl (J5 rfl (J5 rfl (fun _ h => nomatch h)))))) rfl ?_
  intro w5 (h18 : St B w5 Gh [.blk b0 [(vi a0.Class), sa0_1, (vi a0.Pad), (.bool a0.Nosplit), (vi a0.From), (vi a0.To), sa0_6, sa0_7, sa0_8] 44, .blk b1 [(.string (⟨#[]⟩ : ByteArray)), (.bool false), (vi 0), (vi 0), (vi 0)] 82])
  refine Jsv (vi 0) rfl rfl ?_
  refine J0 (Jg ?_)
  have h19 := St.takeN 0 h18
  obtain rfl := Option.some.inj hr
  exact ⟨[(.agg #[(.string (⟨#[]⟩ : ByteArray)), (.bool false), (vi 0), (vi 0), (vi 0)]), (vi 0)], ⟨⟨_, rfl, Yl (l1 := [_]) ti82 h18 rfl⟩, rfl, trivial⟩, _, _, _, rfl, (e0.trans (ed.trans ee)), h19, ⟨rfl, rfl, (Nat.le_of_ble_eq_true rfl), (by rfl), (by rfl), (by rfl)⟩⟩
 replace hr := Jf hr h17
 refine J2 (J2 (J1 ?_))
 refine Jmv (vi t0) rfl rfl ?_
 refine Y3 rfl rfl rfl ?_
 refine Jsv (.bool (decide (t0 = 0))) rfl rfl ?_
 refine J0 ?_
 refine J7 rfl (fun h1a => ?_) (fun h1a => ?_)
 ·exact Jk hr h1a
 replace hr := Jf hr h1a
 refine J2 (J1 ?_)
 refine Jmv (vi t1) rfl rfl ?_
 refine Ji rfl rfl rfl ?_
 refine Jsv (.bool (decide (t1 < 0))) rfl rfl ?_
 refine J0 ?_
 refine J7 rfl (fun h1b => ?_) (fun h1b => ?_)
 ·exact Jk hr h1b
 replace hr := Jf hr h1b
 refine J2 (J1 ?_)
 refine Jfa 8 8 underlying44 rfl ti42 rfl rfl rfl rfl ?_
 refine Jlb [] sa0_8 ti42 h16 rfl rfl rfl ?_
 refine Jmv (vi t1) rfl rfl ?_
 obtain ⟨x1, h1c, hr⟩ := J6 hr
 refine Jh (T := TReloc) underlying42 ti133 h16 (SRep.mono (e0.ro.trans (ed.ro.trans ee.ro)) ha0_8) rfl rfl rfl h1c ?_
 intro b7 o2 c1 l3 fn
 obtain ⟨rfl, fo, fp⟩ := fn
 refine Jfa 1 (o2 + 1) underlying133 rfl ti3 rfl rfl rfl rfl ?_
 refine Y4 (v := (vi x1.Sym)) ti3 rfl rfl (Lies.drop 1 (LiesG.lies l3 h16)) rfl ?_
 refine Ji rfl rfl rfl ?_
 refine Jsv (.bool (decide (x1.Sym < 0))) rfl rfl ?_
 refine J0 ?_
 refine J7 rfl (fun h1d => ?_) (fun h1d => ?_)
 ·exact Jk hr h1d
 replace hr := Jf hr h1d
 refine J1 ?_
 refine Jfa 8 8 underlying44 rfl ti42 rfl rfl rfl rfl ?_
 refine Jlb [] sa0_8 ti42 h16 rfl rfl rfl ?_
 refine Jmv (vi t1) rfl rfl ?_
 obtain ⟨x2, h1e, hr⟩ := J6 hr
 refine Jh (T := TReloc) underlying42 ti133 h16 (SRep.mono (e0.ro.trans (ed.ro.trans ee.ro)) ha0_8) rfl rfl rfl h1e ?_
 intro b8 o3 c2 l4 fq
 obtain ⟨rfl, fr, fs⟩ := fq
 refine Jfa 1 (o3 + 1) underlying133 rfl ti3 rfl rfl rfl rfl ?_
 refine Y4 (v := (vi x2.Sym)) ti3 rfl rfl (Lies.drop 1 (LiesG.lies l4 h16)) rfl ?_
 refine Jmv va1 rfl rfl ?_
 refine Jd (T := TSymbol) underlying57 (SRep.mono (e0.ro.trans (ed.ro.trans ee.ro)) ha1) rfl rfl ?_
 refine Yk rfl rfl rfl ?_
 refine Jsv (.bool (decide (x2.Sym ≥ (a1.length : Int)))) rfl rfl ?_
 refine J0 ?_
 refine J7 rfl (fun h1f => ?_) (fun h1f => ?_)
 ·exact Jk hr h1f
 replace hr := Jf hr h1f
 refine J9 (J2 (J1 ?_))
 refine Jmv va1 rfl rfl ?_
 refine Jfa 8 8 underlying44 rfl ti42 rfl rfl rfl rfl ?_
 refine Jlb [] sa0_8 ti42 h16 rfl rfl rfl ?_
 refine Jmv (vi t1) rfl rfl ?_
 obtain ⟨x3, h1g, hr⟩ := J6 hr
 refine Jh (T := TReloc) underlying42 ti133 h16 (SRep.mono (e0.ro.trans (ed.ro.trans ee.ro)) ha0_8) rfl rfl rfl h1g ?_
 intro b9 o4 c3 l5 ft
 obtain ⟨rfl, fu, fv⟩ := ft
 refine Jfa 1 (o4 + 1) underlying133 rfl ti3 rfl rfl rfl rfl ?_
 refine Y4 (v := (vi x3.Sym)) ti3 rfl rfl (Lies.drop 1 (LiesG.lies l5 h16)) rfl ?_
 obtain ⟨x4, h1h, hr⟩ := J6 hr
 refine Jh (T := TSymbol) underlying57 ti82 h16 (SRep.mono (e0.ro.trans (ed.ro.trans ee.ro)) ha1) rfl rfl rfl h1h ?_
 intro ba o5 c4 l6 fw
 obtain ⟨rfl, fx, fy, fz, f10⟩ := fw
 refine Jy ti82 rfl rfl (LiesG.lies l6 h16) (Nat.le_of_ble_eq_true rfl) ?_
 change WL _ _ _ _ _ _ (upd _ _ (.agg #[(.string x4.Name), (.bool x4.Local), (vi x4.Sort_), (vi x4.Kind), (vi x4.Def)])) _
 refine Jo ti82 h16 rfl ?_
 intro bb w6 h1i
 refine Jp (l1 := []) (vs := [(.string x4.Name), (.bool x4.Local), (vi x4.Sort_), (vi x4.Kind), (vi x4.Def)]) ti82 h1i rfl rfl rfl (J5 rfl (J5 rfl (J5 rfl (J5 rfl (J5 rfl (fun _ h => nomatch h)))))) rfl ?_
 intro w7 (h1j : St B w7 Gh [.blk bb [(.string x4.Name), (.bool x4.Local), (vi x4.Sort_), (vi x4.Kind), (vi x4.Def)] 82, .blk b0 [(vi a0.Class), sa0_1, (vi a0.Pad), (.bool a0.Nosplit), (vi a0.From), (vi a0.To), sa0_6, sa0_7, sa0_8] 44, .blk b1 [(.string (⟨#[]⟩ : ByteArray)), (.bool false), (vi 0), (vi 0), (vi 0)] 82])
 refine J0 (J2 (J2 (J1 ?_)))
 refine Jmv (vi t0) rfl rfl ?_
 refine Jl (l1 := []) (vs := [(.string x4.Name), (.bool x4.Local), (vi x4.Sort_), (vi x4.Kind), (vi x4.Def)]) ti82 h1j rfl rfl rfl rfl ?_
 obtain ⟨t3, h1k, hr⟩ := J6 hr
 refine J8 (f := 247) (av := [(vi t0), (.agg #[(.string x4.Name), (.bool x4.Local), (vi x4.Sort_), (vi x4.Kind), (vi x4.Def)])]) cf247 rfl rfl h1j rfl (fun Gi ef h1l => verify_fits.ok (a1 := x4) h1l fl (⟨rfl, fx, fy, fz, f10⟩) h1k) ?_
 rintro v2 w8 Gj Gk N2 eg q3 ⟨rfl, rfl⟩ h1m
 refine Yc rfl rfl ?_
 refine J0 ?_
 refine J7 rfl (fun h1n => ?_) (fun h1n => ?_)
 ·exact Jk hr h1n
 replace hr := Jf hr h1n
 refine J9 (J2 (J1 ?_))
 refine Jl (l1 := []) (vs := [(.string x4.Name), (.bool x4.Local), (vi x4.Sort_), (vi x4.Kind), (vi x4.Def)]) ti82 h1m rfl rfl rfl rfl ?_
 refine Jp (l1 := [_, _]) (vs := [(.string x4.Name), (.bool x4.Local), (vi x4.Sort_), (vi x4.Kind), (vi x4.Def)]) ti82 h1m rfl rfl rfl (J5 rfl (J5 rfl (J5 rfl (J5 rfl (J5 rfl (fun _ h => nomatch h)))))) rfl ?_
 intro w9 (h1o : St B w9 Gk [.blk bb [(.string x4.Name), (.bool x4.Local), (vi x4.Sort_), (vi x4.Kind), (vi x4.Def)] 82, .blk b0 [(vi a0.Class), sa0_1, (vi a0.Pad), (.bool a0.Nosplit), (vi a0.From), (vi a0.To), sa0_6, sa0_7, sa0_8] 44, .blk b1 [(.string x4.Name), (.bool x4.Local), (vi x4.Sort_), (vi x4.Kind), (vi x4.Def)] 82])
 refine Jsv (vi 0) rfl rfl ?_
 refine J0 (Jg ?_)
 have h1p := St.takeN 0 h1o
 obtain rfl := Option.some.inj hr
 exact ⟨[(.agg #[(.string x4.Name), (.bool x4.Local), (vi x4.Sort_), (vi x4.Kind), (vi x4.Def)]), (vi 0)], ⟨⟨_, rfl, Yl (l1 := [_, _]) ti82 h1o rfl⟩, rfl, trivial⟩, _, _, _, rfl, (e0.trans (ed.trans (ee.trans eg))), h1p, ⟨rfl, rfl, fx, fy, fz, f10⟩⟩
def verify_checker_operands.l0 (t0 : ByteArray) (t1 : (ByteArray × ByteArray × ByteArray × ByteArray × ByteArray × ByteArray)) (a0_ : Xverify_checker) (s0 : ((List Int) × (List XLine) × (List XInstr) × (List XReloc) × Nat)) : Option (Step ((List Int) × (List XLine) × (List XInstr) × (List XReloc) × Nat) ((List Int) × (List XLine) × (List XInstr) × (List XReloc))) :=
 bif decide (s0.2.2.2.2 < t0.size) then (bif decide (t1.1.size ≤ 70368744177664) then (slices_Contains_rune_rune.f (runes t1.1) (((dec t0 s0.2.2.2.2).1 : Nat) : Int)).bind fun t2 => bif !t2 then some (s0.1, s0.2.1, s0.2.2.1, s0.2.2.2.1) else (instr_Operand.f a0_.x ((s0.2.2.2.2 : Nat) : Int)).bind fun t3 => (verify_checker_number.f ({ f := ({ Class := a0_.f.Class, Kinds := s0.1, Pad := a0_.f.Pad, Nosplit := a0_.f.Nosplit, From := a0_.f.From, To := a0_.f.To, Lines := s0.2.1, Code := s0.2.2.1, Relocs := s0.2.2.2.1 } : XFunc), x := ({ Op := a0_.x.Op, A := a0_.x.A, B := a0_.x.B, C := a0_.x.C, N := a0_.x.N } : XInstr), sym := ({ Name := a0_.sym.Name, Local := a0_.sym.Local, Sort_ := a0_.sym.Sort_, Kind := a0_.sym.Kind, Def := a0_.sym.Def } : XSymbol), class_ := a0_.class_ } : Xverify_checker) t3).bind fun t4 => some (s0.1, s0.2.1, s0.2.2.1, s0.2.2.2.1) else none).bind fun t5 => bif decide (t1.2.1.size ≤ 70368744177664) then (slices_Contains_rune_rune.f (runes t1.2.1) (((dec t0 s0.2.2.2.2).1 : Nat) : Int)).bind fun t6 => bif !t6 then bif decide (t1.2.2.1.size ≤ 70368744177664) then (slices_Contains_rune_rune.f (runes t1.2.2.1) (((dec t0 s0.2.2.2.2).1 : Nat) : Int)).bind fun t7 => bif !t7 then bif decide (t1.2.2.2.1.size ≤ 70368744177664) then (slices_Contains_rune_rune.f (runes t1.2.2.2.1) (((dec t0 s0.2.2.2.2).1 : Nat) : Int)).bind fun t8 => bif !t8 then (bif decide (t1.2.2.2.2.1.size ≤ 70368744177664) then (slices_Contains_rune_rune.f (runes t1.2.2.2.2.1) (((dec t0 s0.2.2.2.2).1 : Nat) : Int)).bind fun t9 => bif !t9 then some (t5.1, t5.2.1, t5.2.2.1, t5.2.2.2) else (instr_Operand.f a0_.x ((s0.2.2.2.2 : Nat) : Int)).bind fun ta => (verify_checker_answer.f ({ f := ({ Class := a0_.f.Class, Kinds := t5.1, Pad := a0_.f.Pad, Nosplit := a0_.f.Nosplit, From := a0_.f.From, To := a0_.f.To, Lines := t5.2.1, Code := t5.2.2.1, Relocs := t5.2.2.2 } : XFunc), x := ({ Op := a0_.x.Op, A := a0_.x.A, B := a0_.x.B, C := a0_.x.C, N := a0_.x.N } : XInstr), sym := ({ Name := a0_.sym.Name, Local := a0_.sym.Local, Sort_ := a0_.sym.Sort_, Kind := a0_.sym.Kind, Def := a0_.sym.Def } : XSymbol), class_ := a0_.class_ } : Xverify_checker) ta).bind fun tb => some (t5.1, t5.2.1, t5.2.2.1, t5.2.2.2) else none).bind fun tc => (bif decide (t1.2.2.2.2.2.size ≤ 70368744177664) then (slices_Contains_rune_rune.f (runes t1.2.2.2.2.2) (((dec t0 s0.2.2.2.2).1 : Nat) : Int)).bind fun td => bif !td then some (tc.1, tc.2.1, tc.2.2.1, tc.2.2.2) else (instr_Operand.f a0_.x ((s0.2.2.2.2 : Nat) : Int)).bind fun te => (verify_checker_fine.f ({ f := ({ Class := a0_.f.Class, Kinds := tc.1, Pad := a0_.f.Pad, Nosplit := a0_.f.Nosplit, From := a0_.f.From, To := a0_.f.To, Lines := tc.2.1, Code := tc.2.2.1, Relocs := tc.2.2.2 } : XFunc), x := ({ Op := a0_.x.Op, A := a0_.x.A, B := a0_.x.B, C := a0_.x.C, N := a0_.x.N } : XInstr), sym := ({ Name := a0_.sym.Name, Local := a0_.sym.Local, Sort_ := a0_.sym.Sort_, Kind := a0_.sym.Kind, Def := a0_.sym.Def } : XSymbol), class_ := a0_.class_ } : Xverify_checker) te).bind fun tf => some (tc.1, tc.2.1, tc.2.2.1, tc.2.2.2) else none).bind fun tg => some (.next (tg.1, tg.2.1, tg.2.2.1, tg.2.2.2, (s0.2.2.2.2 + (dec t0 s0.2.2.2.2).2))) else none else none else none else none else none else none else some (.done (s0.1, s0.2.1, s0.2.2.1, s0.2.2.2.1))
def verify_checker_operands.f (a0_ : Xverify_checker) : Option (((List Int) × (List XLine) × (List XInstr) × (List XReloc))) :=
 (verify_looks.f).bind fun t1 => (op_Shape.f a0_.x.Op).bind fun t0 => (loop (verify_checker_operands.l0 t0 t1 a0_) (a0_.f.Kinds, a0_.f.Lines, a0_.f.Code, a0_.f.Relocs, 0)).bind fun th => some (th.1, th.2.1, th.2.2.1, th.2.2.2)
def verify_checker_operands.K (ba0 : Nat) (a0_ : Xverify_checker) (r : ((List Int) × (List XLine) × (List XInstr) × (List XReloc))) (G0 : GH) (v : Value) (N : List Res) : Prop := ∃ (v0 : Value) (v1 : Value) (v2 : Value) (v3 : Value), v = tup [(vi 0)] ∧ N = [.blk ba0 [(vi a0_.f.Class), v0, (vi a0_.f.Pad), (.bool a0_.f.Nosplit), (vi a0_.f.From), (vi a0_.f.To), v1, v2, v3, (vi a0_.x.Op), (vi a0_.x.A), (vi a0_.x.B), (vi a0_.x.C), (vi a0_.x.N), (.string a0_.sym.Name), (.bool a0_.sym.Local), (vi a0_.sym.Sort_), (vi a0_.sym.Kind), (vi a0_.sym.Def), (vi a0_.class_)] 269] ∧ SRep 3 (tInt .i64) G0 v0 r.1 ∧ SRep 157 TLine G0 v1 r.2.1 ∧ SRep 54 TInstr G0 v2 r.2.2.1 ∧ SRep 133 TReloc G0 v3 r.2.2.2
theorem verify_checker_operands.ok {ba0 : Nat} {ca0_ : List Value} {a0_ : Xverify_checker} (st : St B w G [.blk ba0 ca0_ 269]) (ha0_ : Tverify_checker.rep G ca0_ a0_) {r : ((List Int) × (List XLine) × (List XInstr) × (List XReloc))} (hr : verify_checker_operands.f a0_ = some r) :
 Calls Tryz.prog 226 ([(pt ba0 0)] : List Value).toArray w (Ret B G (verify_checker_operands.K ba0 a0_ r)) := by
 obtain ⟨sa0__1, sa0__6, sa0__7, sa0__8, rfl, ha0__0, ha0__1, ha0__2, ha0__4, ha0__5, ha0__6, ha0__7, ha0__8, ha0__9, ha0__10, ha0__11, ha0__12, ha0__13, ha0__14, ha0__16, ha0__17, ha0__18, ha0__19⟩ := ha0_
 refine Jc [.tmp 2] func226 rfl ntmps226 rfl rfl ?_
 refine J2 (J1 ?_)
 refine Jsv (vi 0) rfl rfl ?_
 refine J0 (J2 (J1 ?_))
 obtain ⟨t1, h0, hr⟩ := J6 hr
 refine J8 (f := 249) (av := []) cf249 rfl rfl st rfl (fun G1 e0 h1 => verify_looks.ok h1 h0) ?_
 rintro v4 w0 G2 G3 N0 e1 q0 ⟨_, rfl, rfl, f0, f1, f2, f3, f4, f5⟩ h2
 refine Jsv v4 rfl rfl ?_
 refine J0 (J2 (J2 (J1 ?_)))
 refine Jmv (pt ba0 0) rfl rfl ?_
 refine Je rfl rfl ?_
 refine Jfa 9 9 underlying269 rfl ti54 rfl rfl rfl rfl ?_
 refine Jfa 0 9 underlying54 rfl ti3 rfl rfl rfl rfl ?_
 refine Jlb [_] (vi a0_.x.Op) ti3 h2 rfl rfl rfl ?_
 obtain ⟨t0, h3, hr⟩ := J6 hr
 refine J8 (f := 209) (av := [(vi a0_.x.Op)]) cf209 rfl rfl h2 rfl (fun G4 e2 h4 => op_Shape.ok h4 ha0__9 h3) ?_
 rintro v5 w1 G5 G6 N1 e3 q1 ⟨rfl, rfl, f6⟩ h5
 refine WL_rangeS underlying9 h5 rfl rfl ?_
 intro b0 w2 h6
 refine J0 (Jb ?_)
 obtain ⟨th, h7, hr⟩ := J6 hr
 have h8 := St.pick 1 rfl h6
 have h9 := St.pick 2 rfl h8
 refine Js 0 h7 (fun s0 ρ w => ∃ (σ0 : Env) (G7 : GH) (v6 : Value) (v7 : Value) (v8 : Value) (v9 : Value), ρ = En σ0 [(0, (pt ba0 0)), (3, v4), (16, (pt b0 0))] ∧ Ext G6 G7 ∧ St B w G7 [.blk ba0 [(vi a0_.f.Class), v6, (vi a0_.f.Pad), (.bool a0_.f.Nosplit), (vi a0_.f.From), (vi a0_.f.To), v7, v8, v9, (vi a0_.x.Op), (vi a0_.x.A), (vi a0_.x.B), (vi a0_.x.C), (vi a0_.x.N), (.string a0_.sym.Name), (.bool a0_.sym.Local), (vi a0_.sym.Sort_), (vi a0_.sym.Kind), (vi a0_.sym.Def), (vi a0_.class_)] 269, .row v4 287 2 6 [(.string t1.1), (.func (.func 266) #[] #[]), (.string t1.2.1), (.func (.func 267) #[] #[]), (.string t1.2.2.1), (.func (.func 268) #[] #[]), (.string t1.2.2.2.1), (.func (.func 269) #[] #[]), (.string t1.2.2.2.2.1), (.func (.func 270) #[] #[]), (.string t1.2.2.2.2.2), (.func (.func 271) #[] #[])], .obj b0 (.stringIter t0 s0.2.2.2.2)] ∧ SRep 3 (tInt .i64) G7 v6 s0.1 ∧ SRep 157 TLine G7 v7 s0.2.1 ∧ SRep 54 TInstr G7 v8 s0.2.2.1 ∧ SRep 133 TReloc G7 v9 s0.2.2.2.1) (fun ti ρ w => ∃ (σ1 : Env) (G8 : GH) (va : Value) (vc : Value) (vd : Value) (ve : Value), ρ = En σ1 [] ∧ Ext G6 G8 ∧ St B w G8 [.blk ba0 [(vi a0_.f.Class), va, (vi a0_.f.Pad), (.bool a0_.f.Nosplit), (vi a0_.f.From), (vi a0_.f.To), vc, vd, ve, (vi a0_.x.Op), (vi a0_.x.A), (vi a0_.x.B), (vi a0_.x.C), (vi a0_.x.N), (.string a0_.sym.Name), (.bool a0_.sym.Local), (vi a0_.sym.Sort_), (vi a0_.sym.Kind), (vi a0_.sym.Def), (vi a0_.class_)] 269] ∧ SRep 3 (tInt .i64) G8 va ti.1 ∧ SRep 157 TLine G8 vc ti.2.1 ∧ SRep 54 TInstr G8 vd ti.2.2.1 ∧ SRep 133 TReloc G8 ve ti.2.2.2) ⟨_, _, sa0__1, sa0__6, sa0__7, sa0__8, (J3 ⟨rfl, rfl, rfl, trivial⟩), (Ext.refl _), h9, (SRep.mono (e1.ro.trans e3.ro) ha0__1), (SRep.mono (e1.ro.trans e3.ro) ha0__6), (SRep.mono (e1.ro.trans e3.ro) ha0__7), (SRep.mono (e1.ro.trans e3.ro) ha0__8)⟩ ?_ ?_
 ·rintro s0 x0 _ _ hr ⟨σ0, G7, v6, v7, v8, v9, rfl, e4, h10, f7, f8, f9, fa⟩
  refine J2 (J1 ?_)
  rcases Y8 (decide (s0.2.2.2.2 < t0.size)) with hb_ | hb_
  ·have h11 : (decide (s0.2.2.2.2 < t0.size)) = true := hb_
   replace hr := Jx hr h11
   refine WL_nextT (l1 := [_, _]) h10 rfl rfl h11 ?_
   intro w3 h12
   refine Jm rfl rfl rfl ?_
   refine J0 (J2 ?_)
   refine J7 rfl (fun _ => ?_) (fun h => nomatch h)
   refine J9 (Jb (J2 (J1 ?_)))
   refine Jm rfl rfl rfl ?_
   refine Jm rfl rfl rfl ?_
   refine Jsv (vi ((s0.2.2.2.2 : Nat) : Int)) rfl rfl ?_
   refine Jsv (.int .i32 (((dec t0 s0.2.2.2.2).1 : Nat) : Int)) rfl rfl ?_
   refine J0 (J2 (J1 ?_))
   refine Jmv v4 rfl rfl ?_
   refine WL_lenOwn (l1 := [_]) underlying283 h12 rfl rfl ?_
   change WL _ _ _ _ _ _ (upd _ _ (vi 6)) _
   refine Jmv (vi 0) rfl rfl ?_
   refine J0 (Jb ?_)
   refine W_rounds 7 ?_
   refine J2 (J1 ?_)
   refine Ji rfl rfl rfl ?_
   change WL _ _ _ _ _ _ (upd _ _ (.bool true)) _
   refine J0 (J2 ?_)
   refine J7 rfl (fun _ => ?_) (fun h => nomatch h)
   refine J9 (J2 ?_)
   obtain ⟨t5, hr, o0⟩ := J6 hr
   refine W_join (fun ρ w => ∃ (σ2 : Env) (G9 : GH) (vf : Value) (vg : Value) (vh : Value) (vj : Value), ρ = En σ2 [(0, (pt ba0 0)), (3, v4), (4, (vi ((s0.2.2.2.2 : Nat) : Int))), (5, (.int .i32 (((dec t0 s0.2.2.2.2).1 : Nat) : Int))), (16, (pt b0 0)), (21, v4), (22, (vi 6)), (23, (vi 0))] ∧ Ext G7 G9 ∧ St B w G9 [.blk ba0 [(vi a0_.f.Class), vf, (vi a0_.f.Pad), (.bool a0_.f.Nosplit), (vi a0_.f.From), (vi a0_.f.To), vg, vh, vj, (vi a0_.x.Op), (vi a0_.x.A), (vi a0_.x.B), (vi a0_.x.C), (vi a0_.x.N), (.string a0_.sym.Name), (.bool a0_.sym.Local), (vi a0_.sym.Sort_), (vi a0_.sym.Kind), (vi a0_.sym.Def), (vi a0_.class_)] 269, .row v4 287 2 6 [(.string t1.1), (.func (.func 266) #[] #[]), (.string t1.2.1), (.func (.func 267) #[] #[]), (.string t1.2.2.1), (.func (.func 268) #[] #[]), (.string t1.2.2.2.1), (.func (.func 269) #[] #[]), (.string t1.2.2.2.2.1), (.func (.func 270) #[] #[]), (.string t1.2.2.2.2.2), (.func (.func 271) #[] #[])], .obj b0 (.stringIter t0 (s0.2.2.2.2 + (dec t0 s0.2.2.2.2).2))] ∧ SRep 3 (tInt .i64) G9 vf t5.1 ∧ SRep 157 TLine G9 vg t5.2.1 ∧ SRep 54 TInstr G9 vh t5.2.2.1 ∧ SRep 133 TReloc G9 vj t5.2.2.2) ?_ ?_
   ·refine Jb (J2 (J1 ?_))
    refine Y7 (l1 := [_]) underlying283 ti287 h12 rfl rfl rfl (by decide) (by decide) ?_
    intro g0 k0 l3
    change WL _ _ _ _ _ _ (upd _ _ (pt g0 0)) _
    refine Jy ti287 rfl rfl (Lies.drop 0 (St.liesRow (l1 := [_]) h12 k0)) (Nat.le_of_ble_eq_true rfl) ?_
    change WL _ _ _ _ _ _ (upd _ _ (.agg #[(.string t1.1), (.func (.func 266) #[] #[])])) _
    refine Jo ti287 h12 rfl ?_
    intro b1 w4 h13
    refine Jp (l1 := []) (vs := [(.string t1.1), (.func (.func 266) #[] #[])]) ti287 h13 rfl rfl rfl (J5 rfl (J5 rfl (fun _ h => nomatch h))) rfl ?_
    intro w5 (h14 : St B w5 G7 [.blk b1 [(.string t1.1), (.func (.func 266) #[] #[])] 287, .blk ba0 [(vi a0_.f.Class), v6, (vi a0_.f.Pad), (.bool a0_.f.Nosplit), (vi a0_.f.From), (vi a0_.f.To), v7, v8, v9, (vi a0_.x.Op), (vi a0_.x.A), (vi a0_.x.B), (vi a0_.x.C), (vi a0_.x.N), (.string a0_.sym.Name), (.bool a0_.sym.Local), (vi a0_.sym.Sort_), (vi a0_.sym.Kind), (vi a0_.sym.Def), (vi a0_.class_)] 269, .row v4 287 2 6 [(.string t1.1), (.func (.func 266) #[] #[]), (.string t1.2.1), (.func (.func 267) #[] #[]), (.string t1.2.2.1), (.func (.func 268) #[] #[]), (.string t1.2.2.2.1), (.func (.func 269) #[] #[]), (.string t1.2.2.2.2.1), (.func (.func 270) #[] #[]), (.string t1.2.2.2.2.2), (.func (.func 271) #[] #[])], .obj b0 (.stringIter t0 (s0.2.2.2.2 + (dec t0 s0.2.2.2.2).2))])
    refine J0 (J2 (J2 (J1 ?_)))
    refine Jfa 0 0 underlying287 rfl ti9 rfl rfl rfl rfl ?_
    refine Jlb [] (.string t1.1) ti9 h14 rfl rfl rfl ?_
    obtain ⟨h15, hr⟩ := Ya hr
    refine WL_convSR underlying9 underlying289 underlying21 h14 rfl rfl h15 ?_
    intro vk w6 Ga e5 fb h16
    refine Jmv (.int .i32 (((dec t0 s0.2.2.2.2).1 : Nat) : Int)) rfl rfl ?_
    obtain ⟨t2, h17, hr⟩ := J6 hr
    refine J8 (f := 250) (av := [vk, (.int .i32 (((dec t0 s0.2.2.2.2).1 : Nat) : Int))]) cf250 rfl rfl h16 rfl (fun Gb e6 h18 => slices_Contains_rune_rune.ok h18 (SRep.mono e6.ro fb) (inK_dec _ _) h17) ?_
    rintro vl w7 Gc Gd N2 e7 q2 ⟨rfl, rfl⟩ h19
    refine Yc rfl rfl ?_
    refine J0 ?_
    refine J7 rfl (fun h1a => ?_) (fun h1a => ?_)
    ·replace hr := Jx hr h1a
     refine Jr ?_
     have h1b := St.pick 3 rfl h19
     have h1c := St.pick 3 rfl h1b
     have h1d := St.pick 3 rfl h1c
     have h1e := St.takeN 3 h1d
     obtain rfl := Option.some.inj hr
     exact ⟨_, _, v6, v7, v8, v9, (J3 ⟨rfl, rfl, rfl, rfl, rfl, rfl, rfl, rfl, trivial⟩), (e5.trans e7), h1e, (SRep.mono (e5.ro.trans e7.ro) f7), (SRep.mono (e5.ro.trans e7.ro) f8), (SRep.mono (e5.ro.trans e7.ro) f9), (SRep.mono (e5.ro.trans e7.ro) fa)⟩
    replace hr := Jf hr h1a
    refine J9 (J2 ?_)
    obtain ⟨t3, h1f, hr⟩ := J6 hr
    refine Ye 9 [some 33, some 34, some 35, some 36, some 37, some 38, some 39, some 40, some 41] (pk [(fun G_ v_ => v_ = (pt b1 1)), (fun G_ v_ => v_ = (.func (.func 266) #[] #[])), (fun G_ v_ => v_ = (pt ba0 0)), (fun G_ v_ => v_ = (pt ba0 0)), (fun G_ v_ => v_ = (pt ba0 0)), (fun G_ v_ => v_ = (pt ba0 9)), (fun G_ v_ => v_ = (.agg #[(vi a0_.x.Op), (vi a0_.x.A), (vi a0_.x.B), (vi a0_.x.C), (vi a0_.x.N)])), (fun G_ v_ => v_ = (vi ((s0.2.2.2.2 : Nat) : Int))), (fun G_ v_ => v_ = (vi t3) ∧ InK .i64 t3)]) rfl (by kernel_rfl) rfl h19 ?_ ?_
    ·refine Each.cons ?_ (Each.cons ?_ (Each.cons ?_ (Each.cons ?_ (Each.cons ?_ (Each.cons ?_ (Each.cons ?_ (Each.cons ?_ (Each.cons ?_ Each.nil))))))))
     ·intro q3 w8 Ge e8 h1g h1h h1i
      rw [J3 (ρ := q3) (l := [(7, (pt b1 0))]) ⟨(h1h.1 7 (by decide)).trans rfl, trivial⟩]
      refine Jfa 1 1 underlying287 rfl ti285 rfl rfl rfl rfl ?_
      exact J0 (J4 (Ext.refl _) h1g fun Gf e9 => rfl)
     ·intro q3 w8 Ge e8 h1g h1h h1i
      obtain ⟨hd0_, _⟩ := h1i
      have hv33 := hd0_
      rw [J3 (ρ := q3) (l := [(33, (pt b1 1))]) ⟨hv33, trivial⟩]
      refine Jlb [] (.func (.func 266) #[] #[]) ti285 h1g rfl rfl rfl ?_
      exact J0 (J4 (Ext.refl _) h1g fun Gg ea => rfl)
     ·intro q3 w8 Ge e8 h1g h1h h1i
      rw [J3 (ρ := q3) (l := [(0, (pt ba0 0))]) ⟨(h1h.1 0 (by decide)).trans rfl, trivial⟩]
      refine Jmv (pt ba0 0) rfl rfl ?_
      exact J0 (J4 (Ext.refl _) h1g fun Gh eb => rfl)
     ·intro q3 w8 Ge e8 h1g h1h h1i
      rw [J3 (ρ := q3) (l := [(0, (pt ba0 0))]) ⟨(h1h.1 0 (by decide)).trans rfl, trivial⟩]
      refine Jmv (pt ba0 0) rfl rfl ?_
      exact J0 (J4 (Ext.refl _) h1g fun Gi ec => rfl)
     ·intro q3 w8 Ge e8 h1g h1h h1i
      obtain ⟨hd0_, _⟩ := h1i
      have hv36 := hd0_
      rw [J3 (ρ := q3) (l := [(36, (pt ba0 0))]) ⟨hv36, trivial⟩]
      refine Je rfl rfl ?_
      exact J0 (J4 (Ext.refl _) h1g fun Gj ed => rfl)
     ·intro q3 w8 Ge e8 h1g h1h h1i
      obtain ⟨hd0_, _⟩ := h1i
      have hv37 := hd0_
      rw [J3 (ρ := q3) (l := [(37, (pt ba0 0))]) ⟨hv37, trivial⟩]
      refine Jfa 9 9 underlying269 rfl ti54 rfl rfl rfl rfl ?_
      exact J0 (J4 (Ext.refl _) h1g fun Gk ee => rfl)
     ·intro q3 w8 Ge e8 h1g h1h h1i
      obtain ⟨hd0_, _⟩ := h1i
      have hv38 := hd0_
      rw [J3 (ρ := q3) (l := [(38, (pt ba0 9))]) ⟨hv38, trivial⟩]
      refine Jl (l1 := [_]) (vs := [(vi a0_.x.Op), (vi a0_.x.A), (vi a0_.x.B), (vi a0_.x.C), (vi a0_.x.N)]) ti54 h1g rfl rfl rfl rfl ?_
      exact J0 (J4 (Ext.refl _) h1g fun Gl ef => rfl)
     ·intro q3 w8 Ge e8 h1g h1h h1i
      rw [J3 (ρ := q3) (l := [(4, (vi ((s0.2.2.2.2 : Nat) : Int)))]) ⟨(h1h.1 4 (by decide)).trans rfl, trivial⟩]
      refine Jmv (vi ((s0.2.2.2.2 : Nat) : Int)) rfl rfl ?_
      exact J0 (J4 (Ext.refl _) h1g fun Gm eg => rfl)
     intro q3 w8 Ge e8 h1g h1h h1i
     obtain ⟨hd0_, hd1_, _⟩ := h1i
     have hv39 := hd0_
     have hv40 := hd1_
     rw [J3 (ρ := q3) (l := [(39, (.agg #[(vi a0_.x.Op), (vi a0_.x.A), (vi a0_.x.B), (vi a0_.x.C), (vi a0_.x.N)])), (40, (vi ((s0.2.2.2.2 : Nat) : Int)))]) ⟨hv39, hv40, trivial⟩]
     refine J8 (f := 251) (av := [(.agg #[(vi a0_.x.Op), (vi a0_.x.A), (vi a0_.x.B), (vi a0_.x.C), (vi a0_.x.N)]), (vi ((s0.2.2.2.2 : Nat) : Int))]) cf251 rfl rfl h1g rfl (fun Gn eh h1j => instr_Operand.ok (a0 := a0_.x) h1j (⟨rfl, ha0__9, ha0__10, ha0__11, ha0__12, ha0__13⟩) (inK_pos f6 h11) h1f) ?_
     rintro vm w9 Go Gp N3 ei q4 ⟨rfl, rfl, fc⟩ h1k
     exact J0 (J4 ei h1k fun Gq ej => ⟨rfl, fc⟩)
    intro q3 w8 Ge e8 h1g h1h h1i
    have hv34 := h1i 1 (by decide)
    have hv35 := h1i 2 (by decide)
    obtain ⟨hv41, fd⟩ := h1i 8 (by decide)
    rw [J3 (ρ := q3) (l := [(0, (pt ba0 0)), (3, v4), (4, (vi ((s0.2.2.2.2 : Nat) : Int))), (5, (.int .i32 (((dec t0 s0.2.2.2.2).1 : Nat) : Int))), (16, (pt b0 0)), (21, v4), (22, (vi 6)), (23, (vi 0)), (34, (.func (.func 266) #[] #[])), (35, (pt ba0 0)), (41, (vi t3))]) ⟨(h1h.1 0 (by decide)).trans rfl, (h1h.1 3 (by decide)).trans rfl, (h1h.1 4 (by decide)).trans rfl, (h1h.1 5 (by decide)).trans rfl, (h1h.1 16 (by decide)).trans rfl, (h1h.1 21 (by decide)).trans rfl, (h1h.1 22 (by decide)).trans rfl, (h1h.1 23 (by decide)).trans rfl, hv34, hv35, hv41, trivial⟩]
    have h1l := St.pick 1 rfl h1g
    obtain ⟨t4, h1m, hr⟩ := J6 hr
    refine Jn (f := 266) (av := [(pt ba0 0), (vi t3)]) cf266 rfl rfl h1l rfl (fun Gr ek h1n => verify_checker_number.ok (a0_ := ({ f := ({ Class := a0_.f.Class, Kinds := s0.1, Pad := a0_.f.Pad, Nosplit := a0_.f.Nosplit, From := a0_.f.From, To := a0_.f.To, Lines := s0.2.1, Code := s0.2.2.1, Relocs := s0.2.2.2.1 } : XFunc), x := ({ Op := a0_.x.Op, A := a0_.x.A, B := a0_.x.B, C := a0_.x.C, N := a0_.x.N } : XInstr), sym := ({ Name := a0_.sym.Name, Local := a0_.sym.Local, Sort_ := a0_.sym.Sort_, Kind := a0_.sym.Kind, Def := a0_.sym.Def } : XSymbol), class_ := a0_.class_ } : Xverify_checker)) h1n (⟨v6, v7, v8, v9, rfl, ha0__0, (SRep.mono ((e5.ro.trans (e7.ro.trans e8.ro)).trans ek.ro) f7), ha0__2, ha0__4, ha0__5, (SRep.mono ((e5.ro.trans (e7.ro.trans e8.ro)).trans ek.ro) f8), (SRep.mono ((e5.ro.trans (e7.ro.trans e8.ro)).trans ek.ro) f9), (SRep.mono ((e5.ro.trans (e7.ro.trans e8.ro)).trans ek.ro) fa), ha0__9, ha0__10, ha0__11, ha0__12, ha0__13, ha0__14, ha0__16, ha0__17, ha0__18, ha0__19⟩) fd h1m) ?_
    rintro vn wa Gs Gt N4 el q5 ⟨vo, vp, vq, vr, rfl, rfl, fe, ff, fg, fh⟩ h1o
    refine Jsv (vi 0) rfl rfl ?_
    refine J0 (J2 (J1 ?_))
    refine Jmv (vi 0) rfl rfl ?_
    refine Y1 rfl rfl rfl ?_
    change WL _ _ _ _ _ _ (upd _ _ (.bool false)) _
    refine J0 ?_
    refine J7 rfl (fun h => nomatch h) (fun _ => ?_)
    refine J9 ?_
    have h1p := St.pick 3 rfl h1o
    have h1q := St.pick 3 rfl h1p
    have h1r := St.pick 2 rfl h1q
    have h1s := St.takeN 3 h1r
    obtain rfl := Option.some.inj hr
    exact ⟨_, _, vo, vp, vq, vr, (J3 ⟨rfl, rfl, rfl, rfl, rfl, rfl, rfl, rfl, trivial⟩), (e5.trans (e7.trans (e8.trans el))), h1s, (SRep.mono q5 fe), (SRep.mono q5 ff), (SRep.mono q5 fg), (SRep.mono q5 fh)⟩
   rintro _ _ ⟨σ2, G9, vf, vg, vh, vj, rfl, em, h1t, fj, fk, fl, fm⟩
   replace hr := o0
   refine J1 ?_
   refine Yj rfl rfl rfl ?_
   change WL _ _ _ _ _ _ (upd _ _ (vi 1)) _
   refine Jmv (vi 1) rfl rfl ?_
   refine J0 (J2 (J1 ?_))
   refine Ji rfl rfl rfl ?_
   change WL _ _ _ _ _ _ (upd _ _ (.bool true)) _
   refine J0 (J2 ?_)
   refine J7 rfl (fun _ => ?_) (fun h => nomatch h)
   refine J9 (J2 (Jb (J2 (J1 ?_))))
   refine Y7 (l1 := [_]) underlying283 ti287 h1t rfl rfl rfl (by decide) (by decide) ?_
   intro g1 k1 l4
   change WL _ _ _ _ _ _ (upd _ _ (pt g1 2)) _
   refine Jy ti287 rfl rfl (Lies.drop 2 (St.liesRow (l1 := [_]) h1t k1)) (Nat.le_of_ble_eq_true rfl) ?_
   change WL _ _ _ _ _ _ (upd _ _ (.agg #[(.string t1.2.1), (.func (.func 267) #[] #[])])) _
   refine Jo ti287 h1t rfl ?_
   intro b2 wb h1u
   refine Jp (l1 := []) (vs := [(.string t1.2.1), (.func (.func 267) #[] #[])]) ti287 h1u rfl rfl rfl (J5 rfl (J5 rfl (fun _ h => nomatch h))) rfl ?_
   intro wc (h1v : St B wc G9 [.blk b2 [(.string t1.2.1), (.func (.func 267) #[] #[])] 287, .blk ba0 [(vi a0_.f.Class), vf, (vi a0_.f.Pad), (.bool a0_.f.Nosplit), (vi a0_.f.From), (vi a0_.f.To), vg, vh, vj, (vi a0_.x.Op), (vi a0_.x.A), (vi a0_.x.B), (vi a0_.x.C), (vi a0_.x.N), (.string a0_.sym.Name), (.bool a0_.sym.Local), (vi a0_.sym.Sort_), (vi a0_.sym.Kind), (vi a0_.sym.Def), (vi a0_.class_)] 269, .row v4 287 2 6 [(.string t1.1), (.func (.func 266) #[] #[]), (.string t1.2.1), (.func (.func 267) #[] #[]), (.string t1.2.2.1), (.func (.func 268) #[] #[]), (.string t1.2.2.2.1), (.func (.func 269) #[] #[]), (.string t1.2.2.2.2.1), (.func (.func 270) #[] #[]), (.string t1.2.2.2.2.2), (.func (.func 271) #[] #[])], .obj b0 (.stringIter t0 (s0.2.2.2.2 + (dec t0 s0.2.2.2.2).2))])
   refine J0 (J2 (J2 (J1 ?_)))
   refine Jfa 0 0 underlying287 rfl ti9 rfl rfl rfl rfl ?_
   refine Jlb [] (.string t1.2.1) ti9 h1v rfl rfl rfl ?_
   obtain ⟨h1w, hr⟩ := Ya hr
   refine WL_convSR underlying9 underlying289 underlying21 h1v rfl rfl h1w ?_
   intro vt wd Gu en fn h1x
   refine Jmv (.int .i32 (((dec t0 s0.2.2.2.2).1 : Nat) : Int)) rfl rfl ?_
   obtain ⟨t6, h1y, hr⟩ := J6 hr
   refine J8 (f := 250) (av := [vt, (.int .i32 (((dec t0 s0.2.2.2.2).1 : Nat) : Int))]) cf250 rfl rfl h1x rfl (fun Gv eo h1z => slices_Contains_rune_rune.ok h1z (SRep.mono eo.ro fn) (inK_dec _ _) h1y) ?_
   rintro vu we Gw Gx N5 ep q6 ⟨rfl, rfl⟩ h20
   refine Yc rfl rfl ?_
   refine J0 ?_
   refine J7 rfl (fun h21 => ?_) (fun h21 => ?_)
   ·replace hr := Jx hr h21
    refine Jr (J1 ?_)
    refine Yj rfl rfl rfl ?_
    change WL _ _ _ _ _ _ (upd _ _ (vi 2)) _
    refine Jmv (vi 2) rfl rfl ?_
    refine J0 (J2 (J1 ?_))
    refine Ji rfl rfl rfl ?_
    change WL _ _ _ _ _ _ (upd _ _ (.bool true)) _
    refine J0 (J2 ?_)
    refine J7 rfl (fun _ => ?_) (fun h => nomatch h)
    refine J9 (J2 (Jb (J2 (J1 ?_))))
    refine Y7 (l1 := [_, _]) underlying283 ti287 h20 rfl rfl rfl (by decide) (by decide) ?_
    intro g2 k2 l5
    change WL _ _ _ _ _ _ (upd _ _ (pt g2 4)) _
    refine Jy ti287 rfl rfl (Lies.drop 4 (St.liesRow (l1 := [_, _]) h20 k2)) (Nat.le_of_ble_eq_true rfl) ?_
    change WL _ _ _ _ _ _ (upd _ _ (.agg #[(.string t1.2.2.1), (.func (.func 268) #[] #[])])) _
    refine Jo ti287 h20 rfl ?_
    intro b3 wf h22
    refine Jp (l1 := []) (vs := [(.string t1.2.2.1), (.func (.func 268) #[] #[])]) ti287 h22 rfl rfl rfl (J5 rfl (J5 rfl (fun _ h => nomatch h))) rfl ?_
    intro wg (h23 : St B wg Gx [.blk b3 [(.string t1.2.2.1), (.func (.func 268) #[] #[])] 287, .blk b2 [(.string t1.2.1), (.func (.func 267) #[] #[])] 287, .blk ba0 [(vi a0_.f.Class), vf, (vi a0_.f.Pad), (.bool a0_.f.Nosplit), (vi a0_.f.From), (vi a0_.f.To), vg, vh, vj, (vi a0_.x.Op), (vi a0_.x.A), (vi a0_.x.B), (vi a0_.x.C), (vi a0_.x.N), (.string a0_.sym.Name), (.bool a0_.sym.Local), (vi a0_.sym.Sort_), (vi a0_.sym.Kind), (vi a0_.sym.Def), (vi a0_.class_)] 269, .row v4 287 2 6 [(.string t1.1), (.func (.func 266) #[] #[]), (.string t1.2.1), (.func (.func 267) #[] #[]), (.string t1.2.2.1), (.func (.func 268) #[] #[]), (.string t1.2.2.2.1), (.func (.func 269) #[] #[]), (.string t1.2.2.2.2.1), (.func (.func 270) #[] #[]), (.string t1.2.2.2.2.2), (.func (.func 271) #[] #[])], .obj b0 (.stringIter t0 (s0.2.2.2.2 + (dec t0 s0.2.2.2.2).2))])
    refine J0 (J2 (J2 (J1 ?_)))
    refine Jfa 0 0 underlying287 rfl ti9 rfl rfl rfl rfl ?_
    refine Jlb [] (.string t1.2.2.1) ti9 h23 rfl rfl rfl ?_
    obtain ⟨h24, hr⟩ := Ya hr
    refine WL_convSR underlying9 underlying289 underlying21 h23 rfl rfl h24 ?_
    intro vv wh Gy er fo h25
    refine Jmv (.int .i32 (((dec t0 s0.2.2.2.2).1 : Nat) : Int)) rfl rfl ?_
    obtain ⟨t7, h26, hr⟩ := J6 hr
    refine J8 (f := 250) (av := [vv, (.int .i32 (((dec t0 s0.2.2.2.2).1 : Nat) : Int))]) cf250 rfl rfl h25 rfl (fun Gz es h27 => slices_Contains_rune_rune.ok h27 (SRep.mono es.ro fo) (inK_dec _ _) h26) ?_
    rintro vw wi G10 G11 N6 et q7 ⟨rfl, rfl⟩ h28
    refine Yc rfl rfl ?_
    refine J0 ?_
    refine J7 rfl (fun h29 => ?_) (fun h29 => ?_)
    ·replace hr := Jx hr h29
     refine Jr (J1 ?_)
     refine Yj rfl rfl rfl ?_
     change WL _ _ _ _ _ _ (upd _ _ (vi 3)) _
     refine Jmv (vi 3) rfl rfl ?_
     refine J0 (J2 (J1 ?_))
     refine Ji rfl rfl rfl ?_
     change WL _ _ _ _ _ _ (upd _ _ (.bool true)) _
     refine J0 (J2 ?_)
     refine J7 rfl (fun _ => ?_) (fun h => nomatch h)
     refine J9 (J2 (Jb (J2 (J1 ?_))))
     refine Y7 (l1 := [_, _, _]) underlying283 ti287 h28 rfl rfl rfl (by decide) (by decide) ?_
     intro g3 k3 l6
     change WL _ _ _ _ _ _ (upd _ _ (pt g3 6)) _
     refine Jy ti287 rfl rfl (Lies.drop 6 (St.liesRow (l1 := [_, _, _]) h28 k3)) (Nat.le_of_ble_eq_true rfl) ?_
     change WL _ _ _ _ _ _ (upd _ _ (.agg #[(.string t1.2.2.2.1), (.func (.func 269) #[] #[])])) _
     refine Jo ti287 h28 rfl ?_
     intro b4 wj h2a
     refine Jp (l1 := []) (vs := [(.string t1.2.2.2.1), (.func (.func 269) #[] #[])]) ti287 h2a rfl rfl rfl (J5 rfl (J5 rfl (fun _ h => nomatch h))) rfl ?_
     intro wk (h2b : St B wk G11 [.blk b4 [(.string t1.2.2.2.1), (.func (.func 269) #[] #[])] 287, .blk b3 [(.string t1.2.2.1), (.func (.func 268) #[] #[])] 287, .blk b2 [(.string t1.2.1), (.func (.func 267) #[] #[])] 287, .blk ba0 [(vi a0_.f.Class), vf, (vi a0_.f.Pad), (.bool a0_.f.Nosplit), (vi a0_.f.From), (vi a0_.f.To), vg, vh, vj, (vi a0_.x.Op), (vi a0_.x.A), (vi a0_.x.B), (vi a0_.x.C), (vi a0_.x.N), (.string a0_.sym.Name), (.bool a0_.sym.Local), (vi a0_.sym.Sort_), (vi a0_.sym.Kind), (vi a0_.sym.Def), (vi a0_.class_)] 269, .row v4 287 2 6 [(.string t1.1), (.func (.func 266) #[] #[]), (.string t1.2.1), (.func (.func 267) #[] #[]), (.string t1.2.2.1), (.func (.func 268) #[] #[]), (.string t1.2.2.2.1), (.func (.func 269) #[] #[]), (.string t1.2.2.2.2.1), (.func (.func 270) #[] #[]), (.string t1.2.2.2.2.2), (.func (.func 271) #[] #[])], .obj b0 (.stringIter t0 (s0.2.2.2.2 + (dec t0 s0.2.2.2.2).2))])
     refine J0 (J2 (J2 (J1 ?_)))
     refine Jfa 0 0 underlying287 rfl ti9 rfl rfl rfl rfl ?_
     refine Jlb [] (.string t1.2.2.2.1) ti9 h2b rfl rfl rfl ?_
     obtain ⟨h2c, hr⟩ := Ya hr
     refine WL_convSR underlying9 underlying289 underlying21 h2b rfl rfl h2c ?_
     intro vx wl G12 eu fp h2d
     refine Jmv (.int .i32 (((dec t0 s0.2.2.2.2).1 : Nat) : Int)) rfl rfl ?_
     obtain ⟨t8, h2e, hr⟩ := J6 hr
     refine J8 (f := 250) (av := [vx, (.int .i32 (((dec t0 s0.2.2.2.2).1 : Nat) : Int))]) cf250 rfl rfl h2d rfl (fun G13 ev h2f => slices_Contains_rune_rune.ok h2f (SRep.mono ev.ro fp) (inK_dec _ _) h2e) ?_
     rintro vy wm G14 G15 N7 ew q8 ⟨rfl, rfl⟩ h2g
     refine Yc rfl rfl ?_
     refine J0 ?_
     refine J7 rfl (fun h2h => ?_) (fun h2h => ?_)
     ·replace hr := Jx hr h2h
      refine Jr (J1 ?_)
      refine Yj rfl rfl rfl ?_
      change WL _ _ _ _ _ _ (upd _ _ (vi 4)) _
      refine Jmv (vi 4) rfl rfl ?_
      refine J0 (J2 (J1 ?_))
      refine Ji rfl rfl rfl ?_
      change WL _ _ _ _ _ _ (upd _ _ (.bool true)) _
      refine J0 (J2 ?_)
      refine J7 rfl (fun _ => ?_) (fun h => nomatch h)
      refine J9 (J2 ?_)
      obtain ⟨tc, hr, o1⟩ := J6 hr
      refine W_join (fun ρ w => ∃ (σ3 : Env) (G16 : GH) (vz : Value) (v10 : Value) (v11 : Value) (v12 : Value), ρ = En σ3 [(0, (pt ba0 0)), (3, v4), (4, (vi ((s0.2.2.2.2 : Nat) : Int))), (5, (.int .i32 (((dec t0 s0.2.2.2.2).1 : Nat) : Int))), (16, (pt b0 0)), (21, v4), (22, (vi 6)), (23, (vi 4))] ∧ Ext G15 G16 ∧ St B w G16 [.blk ba0 [(vi a0_.f.Class), vz, (vi a0_.f.Pad), (.bool a0_.f.Nosplit), (vi a0_.f.From), (vi a0_.f.To), v10, v11, v12, (vi a0_.x.Op), (vi a0_.x.A), (vi a0_.x.B), (vi a0_.x.C), (vi a0_.x.N), (.string a0_.sym.Name), (.bool a0_.sym.Local), (vi a0_.sym.Sort_), (vi a0_.sym.Kind), (vi a0_.sym.Def), (vi a0_.class_)] 269, .row v4 287 2 6 [(.string t1.1), (.func (.func 266) #[] #[]), (.string t1.2.1), (.func (.func 267) #[] #[]), (.string t1.2.2.1), (.func (.func 268) #[] #[]), (.string t1.2.2.2.1), (.func (.func 269) #[] #[]), (.string t1.2.2.2.2.1), (.func (.func 270) #[] #[]), (.string t1.2.2.2.2.2), (.func (.func 271) #[] #[])], .obj b0 (.stringIter t0 (s0.2.2.2.2 + (dec t0 s0.2.2.2.2).2))] ∧ SRep 3 (tInt .i64) G16 vz tc.1 ∧ SRep 157 TLine G16 v10 tc.2.1 ∧ SRep 54 TInstr G16 v11 tc.2.2.1 ∧ SRep 133 TReloc G16 v12 tc.2.2.2) ?_ ?_
      ·refine Jb (J2 (J1 ?_))
       refine Y7 (l1 := [_, _, _, _]) underlying283 ti287 h2g rfl rfl rfl (by decide) (by decide) ?_
       intro g4 k4 l7
       change WL _ _ _ _ _ _ (upd _ _ (pt g4 8)) _
       refine Jy ti287 rfl rfl (Lies.drop 8 (St.liesRow (l1 := [_, _, _, _]) h2g k4)) (Nat.le_of_ble_eq_true rfl) ?_
       change WL _ _ _ _ _ _ (upd _ _ (.agg #[(.string t1.2.2.2.2.1), (.func (.func 270) #[] #[])])) _
       refine Jo ti287 h2g rfl ?_
       intro b5 wn h2i
       refine Jp (l1 := []) (vs := [(.string t1.2.2.2.2.1), (.func (.func 270) #[] #[])]) ti287 h2i rfl rfl rfl (J5 rfl (J5 rfl (fun _ h => nomatch h))) rfl ?_
       intro wo (h2j : St B wo G15 [.blk b5 [(.string t1.2.2.2.2.1), (.func (.func 270) #[] #[])] 287, .blk b4 [(.string t1.2.2.2.1), (.func (.func 269) #[] #[])] 287, .blk b3 [(.string t1.2.2.1), (.func (.func 268) #[] #[])] 287, .blk b2 [(.string t1.2.1), (.func (.func 267) #[] #[])] 287, .blk ba0 [(vi a0_.f.Class), vf, (vi a0_.f.Pad), (.bool a0_.f.Nosplit), (vi a0_.f.From), (vi a0_.f.To), vg, vh, vj, (vi a0_.x.Op), (vi a0_.x.A), (vi a0_.x.B), (vi a0_.x.C), (vi a0_.x.N), (.string a0_.sym.Name), (.bool a0_.sym.Local), (vi a0_.sym.Sort_), (vi a0_.sym.Kind), (vi a0_.sym.Def), (vi a0_.class_)] 269, .row v4 287 2 6 [(.string t1.1), (.func (.func 266) #[] #[]), (.string t1.2.1), (.func (.func 267) #[] #[]), (.string t1.2.2.1), (.func (.func 268) #[] #[]), (.string t1.2.2.2.1), (.func (.func 269) #[] #[]), (.string t1.2.2.2.2.1), (.func (.func 270) #[] #[]), (.string t1.2.2.2.2.2), (.func (.func 271) #[] #[])], .obj b0 (.stringIter t0 (s0.2.2.2.2 + (dec t0 s0.2.2.2.2).2))])
       refine J0 (J2 (J2 (J1 ?_)))
       refine Jfa 0 0 underlying287 rfl ti9 rfl rfl rfl rfl ?_
       refine Jlb [] (.string t1.2.2.2.2.1) ti9 h2j rfl rfl rfl ?_
       obtain ⟨h2k, hr⟩ := Ya hr
       refine WL_convSR underlying9 underlying289 underlying21 h2j rfl rfl h2k ?_
       intro v13 wp G17 ex fq h2l
       refine Jmv (.int .i32 (((dec t0 s0.2.2.2.2).1 : Nat) : Int)) rfl rfl ?_
       obtain ⟨t9, h2m, hr⟩ := J6 hr
       refine J8 (f := 250) (av := [v13, (.int .i32 (((dec t0 s0.2.2.2.2).1 : Nat) : Int))]) cf250 rfl rfl h2l rfl (fun G18 ey h2n => slices_Contains_rune_rune.ok h2n (SRep.mono ey.ro fq) (inK_dec _ _) h2m) ?_
       rintro v14 wq G19 G1a N8 ez q9 ⟨rfl, rfl⟩ h2o
       refine Yc rfl rfl ?_
       refine J0 ?_
       refine J7 rfl (fun h2p => ?_) (fun h2p => ?_)
       ·replace hr := Jx hr h2p
        refine Jr ?_
        have h2q := St.pick 6 rfl h2o
        have h2r := St.pick 6 rfl h2q
        have h2s := St.pick 6 rfl h2r
        have h2t := St.takeN 3 h2s
        obtain rfl := Option.some.inj hr
        exact ⟨_, _, vf, vg, vh, vj, (J3 ⟨rfl, rfl, rfl, rfl, rfl, rfl, rfl, rfl, trivial⟩), (ex.trans ez), h2t, (SRep.mono (en.ro.trans (ep.ro.trans (er.ro.trans (et.ro.trans (eu.ro.trans (ew.ro.trans (ex.ro.trans ez.ro))))))) fj), (SRep.mono (en.ro.trans (ep.ro.trans (er.ro.trans (et.ro.trans (eu.ro.trans (ew.ro.trans (ex.ro.trans ez.ro))))))) fk), (SRep.mono (en.ro.trans (ep.ro.trans (er.ro.trans (et.ro.trans (eu.ro.trans (ew.ro.trans (ex.ro.trans ez.ro))))))) fl), (SRep.mono (en.ro.trans (ep.ro.trans (er.ro.trans (et.ro.trans (eu.ro.trans (ew.ro.trans (ex.ro.trans ez.ro))))))) fm)⟩
       replace hr := Jf hr h2p
       refine J9 (J2 ?_)
       obtain ⟨ta, h2u, hr⟩ := J6 hr
       refine Ye 9 [some 33, some 34, some 35, some 36, some 37, some 38, some 39, some 40, some 41] (pk [(fun G_ v_ => v_ = (pt b5 1)), (fun G_ v_ => v_ = (.func (.func 270) #[] #[])), (fun G_ v_ => v_ = (pt ba0 0)), (fun G_ v_ => v_ = (pt ba0 0)), (fun G_ v_ => v_ = (pt ba0 0)), (fun G_ v_ => v_ = (pt ba0 9)), (fun G_ v_ => v_ = (.agg #[(vi a0_.x.Op), (vi a0_.x.A), (vi a0_.x.B), (vi a0_.x.C), (vi a0_.x.N)])), (fun G_ v_ => v_ = (vi ((s0.2.2.2.2 : Nat) : Int))), (fun G_ v_ => v_ = (vi ta) ∧ InK .i64 ta)]) rfl (by kernel_rfl) rfl h2o ?_ ?_
       ·refine Each.cons ?_ (Each.cons ?_ (Each.cons ?_ (Each.cons ?_ (Each.cons ?_ (Each.cons ?_ (Each.cons ?_ (Each.cons ?_ (Each.cons ?_ Each.nil))))))))
        ·intro qa wr G1b e10 h2v h2w h2x
         rw [J3 (ρ := qa) (l := [(7, (pt b5 0))]) ⟨(h2w.1 7 (by decide)).trans rfl, trivial⟩]
         refine Jfa 1 1 underlying287 rfl ti285 rfl rfl rfl rfl ?_
         exact J0 (J4 (Ext.refl _) h2v fun G1c e11 => rfl)
        ·intro qa wr G1b e10 h2v h2w h2x
         obtain ⟨hd0_, _⟩ := h2x
         have hv33 := hd0_
         rw [J3 (ρ := qa) (l := [(33, (pt b5 1))]) ⟨hv33, trivial⟩]
         refine Jlb [] (.func (.func 270) #[] #[]) ti285 h2v rfl rfl rfl ?_
         exact J0 (J4 (Ext.refl _) h2v fun G1d e12 => rfl)
        ·intro qa wr G1b e10 h2v h2w h2x
         rw [J3 (ρ := qa) (l := [(0, (pt ba0 0))]) ⟨(h2w.1 0 (by decide)).trans rfl, trivial⟩]
         refine Jmv (pt ba0 0) rfl rfl ?_
         exact J0 (J4 (Ext.refl _) h2v fun G1e e13 => rfl)
        ·intro qa wr G1b e10 h2v h2w h2x
         rw [J3 (ρ := qa) (l := [(0, (pt ba0 0))]) ⟨(h2w.1 0 (by decide)).trans rfl, trivial⟩]
         refine Jmv (pt ba0 0) rfl rfl ?_
         exact J0 (J4 (Ext.refl _) h2v fun G1f e14 => rfl)
        ·intro qa wr G1b e10 h2v h2w h2x
         obtain ⟨hd0_, _⟩ := h2x
         have hv36 := hd0_
         rw [J3 (ρ := qa) (l := [(36, (pt ba0 0))]) ⟨hv36, trivial⟩]
         refine Je rfl rfl ?_
         exact J0 (J4 (Ext.refl _) h2v fun G1g e15 => rfl)
        ·intro qa wr G1b e10 h2v h2w h2x
         obtain ⟨hd0_, _⟩ := h2x
         have hv37 := hd0_
         rw [J3 (ρ := qa) (l := [(37, (pt ba0 0))]) ⟨hv37, trivial⟩]
         refine Jfa 9 9 underlying269 rfl ti54 rfl rfl rfl rfl ?_
         exact J0 (J4 (Ext.refl _) h2v fun G1h e16 => rfl)
        ·intro qa wr G1b e10 h2v h2w h2x
         obtain ⟨hd0_, _⟩ := h2x
         have hv38 := hd0_
         rw [J3 (ρ := qa) (l := [(38, (pt ba0 9))]) ⟨hv38, trivial⟩]
         refine Jl (l1 := [_, _, _, _]) (vs := [(vi a0_.x.Op), (vi a0_.x.A), (vi a0_.x.B), (vi a0_.x.C), (vi a0_.x.N)]) ti54 h2v rfl rfl rfl rfl ?_
         exact J0 (J4 (Ext.refl _) h2v fun G1i e17 => rfl)
        ·intro qa wr G1b e10 h2v h2w h2x
         rw [J3 (ρ := qa) (l := [(4, (vi ((s0.2.2.2.2 : Nat) : Int)))]) ⟨(h2w.1 4 (by decide)).trans rfl, trivial⟩]
         refine Jmv (vi ((s0.2.2.2.2 : Nat) : Int)) rfl rfl ?_
         exact J0 (J4 (Ext.refl _) h2v fun G1j e18 => rfl)
        intro qa wr G1b e10 h2v h2w h2x
        obtain ⟨hd0_, hd1_, _⟩ := h2x
        have hv39 := hd0_
        have hv40 := hd1_
        rw [J3 (ρ := qa) (l := [(39, (.agg #[(vi a0_.x.Op), (vi a0_.x.A), (vi a0_.x.B), (vi a0_.x.C), (vi a0_.x.N)])), (40, (vi ((s0.2.2.2.2 : Nat) : Int)))]) ⟨hv39, hv40, trivial⟩]
        refine J8 (f := 251) (av := [(.agg #[(vi a0_.x.Op), (vi a0_.x.A), (vi a0_.x.B), (vi a0_.x.C), (vi a0_.x.N)]), (vi ((s0.2.2.2.2 : Nat) : Int))]) cf251 rfl rfl h2v rfl (fun G1k e19 h2y => instr_Operand.ok (a0 := a0_.x) h2y (⟨rfl, ha0__9, ha0__10, ha0__11, ha0__12, ha0__13⟩) (inK_pos f6 h11) h2u) ?_
        rintro v15 ws G1l G1m N9 e1a qb ⟨rfl, rfl, fr⟩ h2z
        exact J0 (J4 e1a h2z fun G1n e1b => ⟨rfl, fr⟩)
       intro qa wr G1b e10 h2v h2w h2x
       have hv34 := h2x 1 (by decide)
       have hv35 := h2x 2 (by decide)
       obtain ⟨hv41, fs⟩ := h2x 8 (by decide)
       rw [J3 (ρ := qa) (l := [(0, (pt ba0 0)), (3, v4), (4, (vi ((s0.2.2.2.2 : Nat) : Int))), (5, (.int .i32 (((dec t0 s0.2.2.2.2).1 : Nat) : Int))), (16, (pt b0 0)), (21, v4), (22, (vi 6)), (23, (vi 4)), (34, (.func (.func 270) #[] #[])), (35, (pt ba0 0)), (41, (vi ta))]) ⟨(h2w.1 0 (by decide)).trans rfl, (h2w.1 3 (by decide)).trans rfl, (h2w.1 4 (by decide)).trans rfl, (h2w.1 5 (by decide)).trans rfl, (h2w.1 16 (by decide)).trans rfl, (h2w.1 21 (by decide)).trans rfl, (h2w.1 22 (by decide)).trans rfl, (h2w.1 23 (by decide)).trans rfl, hv34, hv35, hv41, trivial⟩]
       have h30 := St.pick 4 rfl h2v
       obtain ⟨tb, h31, hr⟩ := J6 hr
       refine Jn (f := 270) (av := [(pt ba0 0), (vi ta)]) cf270 rfl rfl h30 rfl (fun G1o e1c h32 => verify_checker_answer.ok (a0_ := ({ f := ({ Class := a0_.f.Class, Kinds := t5.1, Pad := a0_.f.Pad, Nosplit := a0_.f.Nosplit, From := a0_.f.From, To := a0_.f.To, Lines := t5.2.1, Code := t5.2.2.1, Relocs := t5.2.2.2 } : XFunc), x := ({ Op := a0_.x.Op, A := a0_.x.A, B := a0_.x.B, C := a0_.x.C, N := a0_.x.N } : XInstr), sym := ({ Name := a0_.sym.Name, Local := a0_.sym.Local, Sort_ := a0_.sym.Sort_, Kind := a0_.sym.Kind, Def := a0_.sym.Def } : XSymbol), class_ := a0_.class_ } : Xverify_checker)) h32 (⟨vf, vg, vh, vj, rfl, ha0__0, (SRep.mono ((en.ro.trans (ep.ro.trans (er.ro.trans (et.ro.trans (eu.ro.trans (ew.ro.trans (ex.ro.trans (ez.ro.trans e10.ro)))))))).trans e1c.ro) fj), ha0__2, ha0__4, ha0__5, (SRep.mono ((en.ro.trans (ep.ro.trans (er.ro.trans (et.ro.trans (eu.ro.trans (ew.ro.trans (ex.ro.trans (ez.ro.trans e10.ro)))))))).trans e1c.ro) fk), (SRep.mono ((en.ro.trans (ep.ro.trans (er.ro.trans (et.ro.trans (eu.ro.trans (ew.ro.trans (ex.ro.trans (ez.ro.trans e10.ro)))))))).trans e1c.ro) fl), (SRep.mono ((en.ro.trans (ep.ro.trans (er.ro.trans (et.ro.trans (eu.ro.trans (ew.ro.trans (ex.ro.trans (ez.ro.trans e10.ro)))))))).trans e1c.ro) fm), ha0__9, ha0__10, ha0__11, ha0__12, ha0__13, ha0__14, ha0__16, ha0__17, ha0__18, ha0__19⟩) fs h31) ?_
       rintro v16 wt G1p G1q Na e1d qc ⟨v17, v18, v19, v1a, rfl, rfl, ft, fu, fv, fw⟩ h33
       refine Jsv (vi 0) rfl rfl ?_
       refine J0 (J2 (J1 ?_))
       refine Jmv (vi 0) rfl rfl ?_
       refine Y1 rfl rfl rfl ?_
       change WL _ _ _ _ _ _ (upd _ _ (.bool false)) _
       refine J0 ?_
       refine J7 rfl (fun h => nomatch h) (fun _ => ?_)
       refine J9 ?_
       have h34 := St.pick 6 rfl h33
       have h35 := St.pick 6 rfl h34
       have h36 := St.pick 2 rfl h35
       have h37 := St.takeN 3 h36
       obtain rfl := Option.some.inj hr
       exact ⟨_, _, v17, v18, v19, v1a, (J3 ⟨rfl, rfl, rfl, rfl, rfl, rfl, rfl, rfl, trivial⟩), (ex.trans (ez.trans (e10.trans e1d))), h37, (SRep.mono qc ft), (SRep.mono qc fu), (SRep.mono qc fv), (SRep.mono qc fw)⟩
      rintro _ _ ⟨σ3, G16, vz, v10, v11, v12, rfl, e1e, h38, fx, fy, fz, f10⟩
      replace hr := o1
      refine J1 ?_
      refine Yj rfl rfl rfl ?_
      change WL _ _ _ _ _ _ (upd _ _ (vi 5)) _
      refine Jmv (vi 5) rfl rfl ?_
      refine J0 (J2 (J1 ?_))
      refine Ji rfl rfl rfl ?_
      change WL _ _ _ _ _ _ (upd _ _ (.bool true)) _
      refine J0 (J2 ?_)
      refine J7 rfl (fun _ => ?_) (fun h => nomatch h)
      refine J9 (J2 ?_)
      obtain ⟨tg, hr, o2⟩ := J6 hr
      refine W_join (fun ρ w => ∃ (σ4 : Env) (G1r : GH) (v1b : Value) (v1c : Value) (v1d : Value) (v1e : Value), ρ = En σ4 [(0, (pt ba0 0)), (3, v4), (4, (vi ((s0.2.2.2.2 : Nat) : Int))), (5, (.int .i32 (((dec t0 s0.2.2.2.2).1 : Nat) : Int))), (16, (pt b0 0)), (21, v4), (22, (vi 6)), (23, (vi 5))] ∧ Ext G16 G1r ∧ St B w G1r [.blk ba0 [(vi a0_.f.Class), v1b, (vi a0_.f.Pad), (.bool a0_.f.Nosplit), (vi a0_.f.From), (vi a0_.f.To), v1c, v1d, v1e, (vi a0_.x.Op), (vi a0_.x.A), (vi a0_.x.B), (vi a0_.x.C), (vi a0_.x.N), (.string a0_.sym.Name), (.bool a0_.sym.Local), (vi a0_.sym.Sort_), (vi a0_.sym.Kind), (vi a0_.sym.Def), (vi a0_.class_)] 269, .row v4 287 2 6 [(.string t1.1), (.func (.func 266) #[] #[]), (.string t1.2.1), (.func (.func 267) #[] #[]), (.string t1.2.2.1), (.func (.func 268) #[] #[]), (.string t1.2.2.2.1), (.func (.func 269) #[] #[]), (.string t1.2.2.2.2.1), (.func (.func 270) #[] #[]), (.string t1.2.2.2.2.2), (.func (.func 271) #[] #[])], .obj b0 (.stringIter t0 (s0.2.2.2.2 + (dec t0 s0.2.2.2.2).2))] ∧ SRep 3 (tInt .i64) G1r v1b tg.1 ∧ SRep 157 TLine G1r v1c tg.2.1 ∧ SRep 54 TInstr G1r v1d tg.2.2.1 ∧ SRep 133 TReloc G1r v1e tg.2.2.2) ?_ ?_
      ·refine Jb (J2 (J1 ?_))
       refine Y7 (l1 := [_]) underlying283 ti287 h38 rfl rfl rfl (by decide) (by decide) ?_
       intro g5 k5 l8
       change WL _ _ _ _ _ _ (upd _ _ (pt g5 10)) _
       refine Jy ti287 rfl rfl (Lies.drop 10 (St.liesRow (l1 := [_]) h38 k5)) (Nat.le_of_ble_eq_true rfl) ?_
       change WL _ _ _ _ _ _ (upd _ _ (.agg #[(.string t1.2.2.2.2.2), (.func (.func 271) #[] #[])])) _
       refine Jo ti287 h38 rfl ?_
       intro b6 wu h39
       refine Jp (l1 := []) (vs := [(.string t1.2.2.2.2.2), (.func (.func 271) #[] #[])]) ti287 h39 rfl rfl rfl (J5 rfl (J5 rfl (fun _ h => nomatch h))) rfl ?_
       intro wv (h3a : St B wv G16 [.blk b6 [(.string t1.2.2.2.2.2), (.func (.func 271) #[] #[])] 287, .blk ba0 [(vi a0_.f.Class), vz, (vi a0_.f.Pad), (.bool a0_.f.Nosplit), (vi a0_.f.From), (vi a0_.f.To), v10, v11, v12, (vi a0_.x.Op), (vi a0_.x.A), (vi a0_.x.B), (vi a0_.x.C), (vi a0_.x.N), (.string a0_.sym.Name), (.bool a0_.sym.Local), (vi a0_.sym.Sort_), (vi a0_.sym.Kind), (vi a0_.sym.Def), (vi a0_.class_)] 269, .row v4 287 2 6 [(.string t1.1), (.func (.func 266) #[] #[]), (.string t1.2.1), (.func (.func 267) #[] #[]), (.string t1.2.2.1), (.func (.func 268) #[] #[]), (.string t1.2.2.2.1), (.func (.func 269) #[] #[]), (.string t1.2.2.2.2.1), (.func (.func 270) #[] #[]), (.string t1.2.2.2.2.2), (.func (.func 271) #[] #[])], .obj b0 (.stringIter t0 (s0.2.2.2.2 + (dec t0 s0.2.2.2.2).2))])
       refine J0 (J2 (J2 (J1 ?_)))
       refine Jfa 0 0 underlying287 rfl ti9 rfl rfl rfl rfl ?_
       refine Jlb [] (.string t1.2.2.2.2.2) ti9 h3a rfl rfl rfl ?_
       obtain ⟨h3b, hr⟩ := Ya hr
       refine WL_convSR underlying9 underlying289 underlying21 h3a rfl rfl h3b ?_
       intro v1f ww G1s e1f f11 h3c
       refine Jmv (.int .i32 (((dec t0 s0.2.2.2.2).1 : Nat) : Int)) rfl rfl ?_
       obtain ⟨td, h3d, hr⟩ := J6 hr
       refine J8 (f := 250) (av := [v1f, (.int .i32 (((dec t0 s0.2.2.2.2).1 : Nat) : Int))]) cf250 rfl rfl h3c rfl (fun G1t e1g h3e => slices_Contains_rune_rune.ok h3e (SRep.mono e1g.ro f11) (inK_dec _ _) h3d) ?_
       rintro v1g wx G1u G1v Nb e1h qd ⟨rfl, rfl⟩ h3f
       refine Yc rfl rfl ?_
       refine J0 ?_
       refine J7 rfl (fun h3g => ?_) (fun h3g => ?_)
       ·replace hr := Jx hr h3g
        refine Jr ?_
        have h3h := St.pick 3 rfl h3f
        have h3i := St.pick 3 rfl h3h
        have h3j := St.pick 3 rfl h3i
        have h3k := St.takeN 3 h3j
        obtain rfl := Option.some.inj hr
        exact ⟨_, _, vz, v10, v11, v12, (J3 ⟨rfl, rfl, rfl, rfl, rfl, rfl, rfl, rfl, trivial⟩), (e1f.trans e1h), h3k, (SRep.mono (e1f.ro.trans e1h.ro) fx), (SRep.mono (e1f.ro.trans e1h.ro) fy), (SRep.mono (e1f.ro.trans e1h.ro) fz), (SRep.mono (e1f.ro.trans e1h.ro) f10)⟩
       replace hr := Jf hr h3g
       refine J9 (J2 ?_)
       obtain ⟨te, h3l, hr⟩ := J6 hr
       refine Ye 9 [some 33, some 34, some 35, some 36, some 37, some 38, some 39, some 40, some 41] (pk [(fun G_ v_ => v_ = (pt b6 1)), (fun G_ v_ => v_ = (.func (.func 271) #[] #[])), (fun G_ v_ => v_ = (pt ba0 0)), (fun G_ v_ => v_ = (pt ba0 0)), (fun G_ v_ => v_ = (pt ba0 0)), (fun G_ v_ => v_ = (pt ba0 9)), (fun G_ v_ => v_ = (.agg #[(vi a0_.x.Op), (vi a0_.x.A), (vi a0_.x.B), (vi a0_.x.C), (vi a0_.x.N)])), (fun G_ v_ => v_ = (vi ((s0.2.2.2.2 : Nat) : Int))), (fun G_ v_ => v_ = (vi te) ∧ InK .i64 te)]) rfl (by kernel_rfl) rfl h3f ?_ ?_
       ·refine Each.cons ?_ (Each.cons ?_ (Each.cons ?_ (Each.cons ?_ (Each.cons ?_ (Each.cons ?_ (Each.cons ?_ (Each.cons ?_ (Each.cons ?_ Each.nil))))))))
        ·intro qe wy G1w e1i h3m h3n h3o
         rw [J3 (ρ := qe) (l := [(7, (pt b6 0))]) ⟨(h3n.1 7 (by decide)).trans rfl, trivial⟩]
         refine Jfa 1 1 underlying287 rfl ti285 rfl rfl rfl rfl ?_
         exact J0 (J4 (Ext.refl _) h3m fun G1x e1j => rfl)
        ·intro qe wy G1w e1i h3m h3n h3o
         obtain ⟨hd0_, _⟩ := h3o
         have hv33 := hd0_
         rw [J3 (ρ := qe) (l := [(33, (pt b6 1))]) ⟨hv33, trivial⟩]
         refine Jlb [] (.func (.func 271) #[] #[]) ti285 h3m rfl rfl rfl ?_
         exact J0 (J4 (Ext.refl _) h3m fun G1y e1k => rfl)
        ·intro qe wy G1w e1i h3m h3n h3o
         rw [J3 (ρ := qe) (l := [(0, (pt ba0 0))]) ⟨(h3n.1 0 (by decide)).trans rfl, trivial⟩]
         refine Jmv (pt ba0 0) rfl rfl ?_
         exact J0 (J4 (Ext.refl _) h3m fun G1z e1l => rfl)
        ·intro qe wy G1w e1i h3m h3n h3o
         rw [J3 (ρ := qe) (l := [(0, (pt ba0 0))]) ⟨(h3n.1 0 (by decide)).trans rfl, trivial⟩]
         refine Jmv (pt ba0 0) rfl rfl ?_
         exact J0 (J4 (Ext.refl _) h3m fun G20 e1m => rfl)
        ·intro qe wy G1w e1i h3m h3n h3o
         obtain ⟨hd0_, _⟩ := h3o
         have hv36 := hd0_
         rw [J3 (ρ := qe) (l := [(36, (pt ba0 0))]) ⟨hv36, trivial⟩]
         refine Je rfl rfl ?_
         exact J0 (J4 (Ext.refl _) h3m fun G21 e1n => rfl)
        ·intro qe wy G1w e1i h3m h3n h3o
         obtain ⟨hd0_, _⟩ := h3o
         have hv37 := hd0_
         rw [J3 (ρ := qe) (l := [(37, (pt ba0 0))]) ⟨hv37, trivial⟩]
         refine Jfa 9 9 underlying269 rfl ti54 rfl rfl rfl rfl ?_
         exact J0 (J4 (Ext.refl _) h3m fun G22 e1o => rfl)
        ·intro qe wy G1w e1i h3m h3n h3o
         obtain ⟨hd0_, _⟩ := h3o
         have hv38 := hd0_
         rw [J3 (ρ := qe) (l := [(38, (pt ba0 9))]) ⟨hv38, trivial⟩]
         refine Jl (l1 := [_]) (vs := [(vi a0_.x.Op), (vi a0_.x.A), (vi a0_.x.B), (vi a0_.x.C), (vi a0_.x.N)]) ti54 h3m rfl rfl rfl rfl ?_
         exact J0 (J4 (Ext.refl _) h3m fun G23 e1p => rfl)
        ·intro qe wy G1w e1i h3m h3n h3o
         rw [J3 (ρ := qe) (l := [(4, (vi ((s0.2.2.2.2 : Nat) : Int)))]) ⟨(h3n.1 4 (by decide)).trans rfl, trivial⟩]
         refine Jmv (vi ((s0.2.2.2.2 : Nat) : Int)) rfl rfl ?_
         exact J0 (J4 (Ext.refl _) h3m fun G24 e1q => rfl)
        intro qe wy G1w e1i h3m h3n h3o
        obtain ⟨hd0_, hd1_, _⟩ := h3o
        have hv39 := hd0_
        have hv40 := hd1_
        rw [J3 (ρ := qe) (l := [(39, (.agg #[(vi a0_.x.Op), (vi a0_.x.A), (vi a0_.x.B), (vi a0_.x.C), (vi a0_.x.N)])), (40, (vi ((s0.2.2.2.2 : Nat) : Int)))]) ⟨hv39, hv40, trivial⟩]
        refine J8 (f := 251) (av := [(.agg #[(vi a0_.x.Op), (vi a0_.x.A), (vi a0_.x.B), (vi a0_.x.C), (vi a0_.x.N)]), (vi ((s0.2.2.2.2 : Nat) : Int))]) cf251 rfl rfl h3m rfl (fun G25 e1r h3p => instr_Operand.ok (a0 := a0_.x) h3p (⟨rfl, ha0__9, ha0__10, ha0__11, ha0__12, ha0__13⟩) (inK_pos f6 h11) h3l) ?_
        rintro v1h wz G26 G27 Nc e1s qf ⟨rfl, rfl, f12⟩ h3q
        exact J0 (J4 e1s h3q fun G28 e1t => ⟨rfl, f12⟩)
       intro qe wy G1w e1i h3m h3n h3o
       have hv34 := h3o 1 (by decide)
       have hv35 := h3o 2 (by decide)
       obtain ⟨hv41, f13⟩ := h3o 8 (by decide)
       rw [J3 (ρ := qe) (l := [(0, (pt ba0 0)), (3, v4), (4, (vi ((s0.2.2.2.2 : Nat) : Int))), (5, (.int .i32 (((dec t0 s0.2.2.2.2).1 : Nat) : Int))), (16, (pt b0 0)), (21, v4), (22, (vi 6)), (23, (vi 5)), (34, (.func (.func 271) #[] #[])), (35, (pt ba0 0)), (41, (vi te))]) ⟨(h3n.1 0 (by decide)).trans rfl, (h3n.1 3 (by decide)).trans rfl, (h3n.1 4 (by decide)).trans rfl, (h3n.1 5 (by decide)).trans rfl, (h3n.1 16 (by decide)).trans rfl, (h3n.1 21 (by decide)).trans rfl, (h3n.1 22 (by decide)).trans rfl, (h3n.1 23 (by decide)).trans rfl, hv34, hv35, hv41, trivial⟩]
       have h3r := St.pick 1 rfl h3m
       obtain ⟨tf, h3s, hr⟩ := J6 hr
       refine Jn (f := 271) (av := [(pt ba0 0), (vi te)]) cf271 rfl rfl h3r rfl (fun G29 e1u h3t => verify_checker_fine.ok (a0_ := ({ f := ({ Class := a0_.f.Class, Kinds := tc.1, Pad := a0_.f.Pad, Nosplit := a0_.f.Nosplit, From := a0_.f.From, To := a0_.f.To, Lines := tc.2.1, Code := tc.2.2.1, Relocs := tc.2.2.2 } : XFunc), x := ({ Op := a0_.x.Op, A := a0_.x.A, B := a0_.x.B, C := a0_.x.C, N := a0_.x.N } : XInstr), sym := ({ Name := a0_.sym.Name, Local := a0_.sym.Local, Sort_ := a0_.sym.Sort_, Kind := a0_.sym.Kind, Def := a0_.sym.Def } : XSymbol), class_ := a0_.class_ } : Xverify_checker)) h3t (⟨vz, v10, v11, v12, rfl, ha0__0, (SRep.mono ((e1f.ro.trans (e1h.ro.trans e1i.ro)).trans e1u.ro) fx), ha0__2, ha0__4, ha0__5, (SRep.mono ((e1f.ro.trans (e1h.ro.trans e1i.ro)).trans e1u.ro) fy), (SRep.mono ((e1f.ro.trans (e1h.ro.trans e1i.ro)).trans e1u.ro) fz), (SRep.mono ((e1f.ro.trans (e1h.ro.trans e1i.ro)).trans e1u.ro) f10), ha0__9, ha0__10, ha0__11, ha0__12, ha0__13, ha0__14, ha0__16, ha0__17, ha0__18, ha0__19⟩) f13 h3s) ?_
       rintro v1i w10 G2a G2b Nd e1v qg ⟨v1j, v1k, v1l, v1m, rfl, rfl, f14, f15, f16, f17⟩ h3u
       refine Jsv (vi 0) rfl rfl ?_
       refine J0 (J2 (J1 ?_))
       refine Jmv (vi 0) rfl rfl ?_
       refine Y1 rfl rfl rfl ?_
       change WL _ _ _ _ _ _ (upd _ _ (.bool false)) _
       refine J0 ?_
       refine J7 rfl (fun h => nomatch h) (fun _ => ?_)
       refine J9 ?_
       have h3v := St.pick 3 rfl h3u
       have h3w := St.pick 3 rfl h3v
       have h3x := St.pick 2 rfl h3w
       have h3y := St.takeN 3 h3x
       obtain rfl := Option.some.inj hr
       exact ⟨_, _, v1j, v1k, v1l, v1m, (J3 ⟨rfl, rfl, rfl, rfl, rfl, rfl, rfl, rfl, trivial⟩), (e1f.trans (e1h.trans (e1i.trans e1v))), h3y, (SRep.mono qg f14), (SRep.mono qg f15), (SRep.mono qg f16), (SRep.mono qg f17)⟩
      rintro _ _ ⟨σ4, G1r, v1b, v1c, v1d, v1e, rfl, e1w, h3z, f18, f19, f1a, f1b⟩
      replace hr := o2
      refine J1 ?_
      refine Yj rfl rfl rfl ?_
      change WL _ _ _ _ _ _ (upd _ _ (vi 6)) _
      refine Jmv (vi 6) rfl rfl ?_
      refine J0 (J2 (J1 ?_))
      refine Ji rfl rfl rfl ?_
      change WL _ _ _ _ _ _ (upd _ _ (.bool false)) _
      refine J0 (J2 ?_)
      refine J7 rfl (fun h => nomatch h) (fun _ => ?_)
      refine Jr ?_
      have h40 := St.pick 2 rfl h3z
      have h41 := St.pick 2 rfl h40
      have h42 := St.pick 2 rfl h41
      exact ⟨_, (Option.some.inj hr).symm, _, _, v1b, v1c, v1d, v1e, (J3 ⟨rfl, rfl, rfl, trivial⟩), (e4.trans (em.trans (en.trans (ep.trans (er.trans (et.trans (eu.trans (ew.trans (e1e.trans e1w))))))))), h42, f18, f19, f1a, f1b⟩
     exact Yo hr h2h
    exact Yo hr h29
   exact Yo hr h21
  have h11 : (decide (s0.2.2.2.2 < t0.size)) = false := hb_
  replace hr := Jf hr h11
  refine WL_nextF (l1 := [_, _]) h10 rfl rfl h11 ?_
  refine Jm rfl rfl rfl ?_
  refine J0 (J2 ?_)
  refine J7 rfl (fun h => nomatch h) (fun _ => ?_)
  refine Jr ?_
  have h43 := St.takeN 1 h10
  exact ⟨_, (Option.some.inj hr).symm, rfl, _, _, v6, v7, v8, v9, rfl, e4, h43, f7, f8, f9, fa⟩
 rintro _ _ ⟨σ1, G8, va, vc, vd, ve, rfl, e1x, h44, f1c, f1d, f1e, f1f⟩
 refine J2 (J1 ?_)
 refine Jsv (vi 0) rfl rfl ?_
 refine J0 (Jg ?_)
 obtain rfl := Option.some.inj hr
 exact ⟨[(vi 0)], ⟨rfl, trivial⟩, _, _, _, rfl, (e1.trans (e3.trans e1x)), h44, ⟨va, vc, vd, ve, rfl, rfl, f1c, f1d, f1e, f1f⟩⟩
def verify_Instr.f (a0 : XFunc) (a1 : (List XSymbol)) (a2 : Int) : Option (Unit) :=
 (bif decide (a2 < 0) then none else some ()).bind fun t0 => bif decide (a2 ≥ (a0.Code.length : Int)) then none else (verify_refers.f a0 a1 a2).bind fun t1 => (idx a0.Code a2).bind fun x0 => bif decide (x0.Op = 20) then none else bif decide (x0.Op = 21) then none else bif decide (x0.Op = 18) then none else (verify_checker_operands.f ({ f := ({ Class := a0.Class, Kinds := a0.Kinds, Pad := a0.Pad, Nosplit := a0.Nosplit, From := a0.From, To := a0.To, Lines := a0.Lines, Code := a0.Code, Relocs := a0.Relocs } : XFunc), x := ({ Op := x0.Op, A := x0.A, B := x0.B, C := x0.C, N := x0.N } : XInstr), sym := ({ Name := t1.1, Local := t1.2.1, Sort_ := t1.2.2.1, Kind := t1.2.2.2.1, Def := t1.2.2.2.2 } : XSymbol), class_ := t1.2.2.2.1 } : Xverify_checker)).bind fun t2 => some ()
def verify_Instr.K (r : Unit) (G0 : GH) (v : Value) (N : List Res) : Prop := v = tup [(vi 0)] ∧ N = []
theorem verify_Instr.ok {ca0 : List Value} {a0 : XFunc} {va1 : Value} {a1 : (List XSymbol)} {a2 : Int} (st : St B w G []) (ha0 : TFunc.rep G ca0 a0) (ha1 : SRep 82 TSymbol G va1 a1) (ha2 : InK .i64 a2) {r : Unit} (hr : verify_Instr.f a0 a1 a2 = some r) :
 Calls Tryz.prog 194 ([(.agg ca0.toArray), va1, (vi a2)] : List Value).toArray w (Ret B G (verify_Instr.K r)) := by
 obtain ⟨sa0_1, sa0_6, sa0_7, sa0_8, rfl, ha0_0, ha0_1, ha0_2, ha0_4, ha0_5, ha0_6, ha0_7, ha0_8⟩ := ha0
 refine Jc [.tmp 6] func194 rfl ntmps194 rfl rfl ?_
 refine J2 (J1 ?_)
 refine Ju (cs := [(vi a0.Class), sa0_1, (vi a0.Pad), (.bool a0.Nosplit), (vi a0.From), (vi a0.To), sa0_6, sa0_7, sa0_8]) st rfl rfl rfl ?_
 intro b0 w0 h0
 refine Jsv (vi 0) rfl rfl ?_
 refine J0 (J2 (J2 (J1 ?_)))
 refine Jmv (vi a2) rfl rfl ?_
 refine Ji rfl rfl rfl ?_
 refine Jmv (.bool (decide (a2 < 0))) rfl rfl ?_
 obtain ⟨t0, hr, o0⟩ := J6 hr
 refine Jw 6 (fun ρ w => ∃ (σ0 : Env) (G1 : GH), ρ = En σ0 [(1, va1), (2, (vi a2)), (3, (pt b0 0)), (18, (.bool (decide (a2 ≥ (a0.Code.length : Int)))))] ∧ Ext G G1 ∧ St B w G1 [.blk b0 [(vi a0.Class), sa0_1, (vi a0.Pad), (.bool a0.Nosplit), (vi a0.From), (vi a0.To), sa0_6, sa0_7, sa0_8] 44]) ?_ ?_
 ·rcases Y8 (decide (a2 < 0)) with hb_ | hb_
  ·exact Jk hr hb_
  have h1 : (decide (a2 < 0)) = false := hb_
  replace hr := Jf hr h1
  refine Ja rfl rfl rfl rfl h1 ?_
  refine Jmv (vi a2) rfl rfl ?_
  refine Ja rfl rfl rfl rfl h1 ?_
  refine Jfa 7 7 underlying44 rfl ti41 rfl rfl rfl rfl ?_
  refine Ja rfl rfl rfl rfl h1 ?_
  refine Jlb [] sa0_7 ti41 h0 rfl rfl rfl ?_
  refine Ja rfl rfl rfl rfl h1 ?_
  refine Jd (T := TInstr) underlying41 ha0_7 rfl rfl ?_
  refine Ja rfl rfl rfl rfl h1 ?_
  refine Yk rfl rfl rfl ?_
  refine Jt (v := (.bool (decide (a2 ≥ (a0.Code.length : Int))))) rfl rfl h1 rfl ?_
  refine J0 ?_
  obtain rfl := Option.some.inj hr
  exact ⟨_, _, (J3 ⟨rfl, rfl, rfl, rfl, trivial⟩), (Ext.refl _), h0⟩
 rintro _ _ ⟨σ0, G1, rfl, e0, h2⟩
 replace hr := o0
 refine J0 ?_
 refine J7 rfl (fun h3 => ?_) (fun h3 => ?_)
 ·exact Jk hr h3
 replace hr := Jf hr h3
 refine J9 (J2 (J1 ?_))
 refine Jl (l1 := []) (vs := [(vi a0.Class), sa0_1, (vi a0.Pad), (.bool a0.Nosplit), (vi a0.From), (vi a0.To), sa0_6, sa0_7, sa0_8]) ti44 h2 rfl rfl rfl rfl ?_
 refine Jmv va1 rfl rfl ?_
 refine Jmv (vi a2) rfl rfl ?_
 obtain ⟨t1, h4, hr⟩ := J6 hr
 refine J8 (f := 224) (av := [(.agg #[(vi a0.Class), sa0_1, (vi a0.Pad), (.bool a0.Nosplit), (vi a0.From), (vi a0.To), sa0_6, sa0_7, sa0_8]), va1, (vi a2)]) cf224 rfl rfl h2 rfl (fun G2 e1 h5 => verify_refers.ok (a0 := a0) h5 (⟨sa0_1, sa0_6, sa0_7, sa0_8, rfl, ha0_0, (SRep.mono (e0.ro.trans e1.ro) ha0_1), ha0_2, ha0_4, ha0_5, (SRep.mono (e0.ro.trans e1.ro) ha0_6), (SRep.mono (e0.ro.trans e1.ro) ha0_7), (SRep.mono (e0.ro.trans e1.ro) ha0_8)⟩) (SRep.mono (e0.ro.trans e1.ro) ha1) ha2 h4) ?_
 rintro v0 w1 G3 G4 N0 e2 q0 ⟨rfl, rfl, f0, f1, f2, f3⟩ h6
 refine Jmv (.tuple #[(.agg #[(.string t1.1), (.bool t1.2.1), (vi t1.2.2.1), (vi t1.2.2.2.1), (vi t1.2.2.2.2)]), (vi 0)]) rfl rfl ?_
 refine Jm rfl rfl rfl ?_
 refine Jm rfl rfl rfl ?_
 refine Jo ti82 h6 rfl ?_
 intro b1 w2 h7
 refine Jp (l1 := []) (vs := [(.string t1.1), (.bool t1.2.1), (vi t1.2.2.1), (vi t1.2.2.2.1), (vi t1.2.2.2.2)]) ti82 h7 rfl rfl rfl (J5 rfl (J5 rfl (J5 rfl (J5 rfl (J5 rfl (fun _ h => nomatch h)))))) rfl ?_
 intro w3 (h8 : St B w3 G4 [.blk b1 [(.string t1.1), (.bool t1.2.1), (vi t1.2.2.1), (vi t1.2.2.2.1), (vi t1.2.2.2.2)] 82, .blk b0 [(vi a0.Class), sa0_1, (vi a0.Pad), (.bool a0.Nosplit), (vi a0.From), (vi a0.To), sa0_6, sa0_7, sa0_8] 44])
 refine Jsv (vi 0) rfl rfl ?_
 refine J0 (J2 (J2 (J1 ?_)))
 refine Jmv (vi 0) rfl rfl ?_
 refine Y1 rfl rfl rfl ?_
 change WL _ _ _ _ _ _ (upd _ _ (.bool false)) _
 refine J0 ?_
 refine J7 rfl (fun h => nomatch h) (fun _ => ?_)
 refine J9 (J2 ?_)
 obtain ⟨x0, h9, hr⟩ := J6 hr
 refine Ye 9 [some 29, some 30, some 31, some 32, some 33, some 34, some 35, some 36, some 37] (pk [(fun G_ v_ => v_ = (.agg #[(vi a0.Class), sa0_1, (vi a0.Pad), (.bool a0.Nosplit), (vi a0.From), (vi a0.To), sa0_6, sa0_7, sa0_8])), (fun G_ v_ => v_ = (pt b0 7)), (fun G_ v_ => v_ = sa0_7), (fun G_ v_ => v_ = (vi a2)), (fun G_ v_ => ∃ (b2 : Nat) (b3 : Nat), v_ = (pt b2 b3) ∧ InK .i64 x0.Op ∧ InK .i64 x0.A ∧ InK .i64 x0.B ∧ InK .i64 x0.C ∧ InK .i64 x0.N ∧ LiesG G_ b2 b3 [(vi x0.Op), (vi x0.A), (vi x0.B), (vi x0.C), (vi x0.N)]), (fun G_ v_ => v_ = (.agg #[(vi x0.Op), (vi x0.A), (vi x0.B), (vi x0.C), (vi x0.N)]) ∧ InK .i64 x0.Op ∧ InK .i64 x0.A ∧ InK .i64 x0.B ∧ InK .i64 x0.C ∧ InK .i64 x0.N), (fun G_ v_ => v_ = (.agg #[(.string t1.1), (.bool t1.2.1), (vi t1.2.2.1), (vi t1.2.2.2.1), (vi t1.2.2.2.2)])), (fun G_ v_ => v_ = (pt b1 3)), (fun G_ v_ => v_ = (vi t1.2.2.2.1))]) rfl (by kernel_rfl) rfl h8 ?_ ?_
 ·refine Each.cons ?_ (Each.cons ?_ (Each.cons ?_ (Each.cons ?_ (Each.cons ?_ (Each.cons ?_ (Each.cons ?_ (Each.cons ?_ (Each.cons ?_ Each.nil))))))))
  ·intro q1 w4 G5 e3 h10 h11 h12
   rw [J3 (ρ := q1) (l := [(3, (pt b0 0))]) ⟨(h11.1 3 (by decide)).trans rfl, trivial⟩]
   refine Jl (l1 := [_]) (vs := [(vi a0.Class), sa0_1, (vi a0.Pad), (.bool a0.Nosplit), (vi a0.From), (vi a0.To), sa0_6, sa0_7, sa0_8]) ti44 h10 rfl rfl rfl rfl ?_
   exact J0 (J4 (Ext.refl _) h10 fun G6 e4 => rfl)
  ·intro q1 w4 G5 e3 h10 h11 h12
   rw [J3 (ρ := q1) (l := [(3, (pt b0 0))]) ⟨(h11.1 3 (by decide)).trans rfl, trivial⟩]
   refine Jfa 7 7 underlying44 rfl ti41 rfl rfl rfl rfl ?_
   exact J0 (J4 (Ext.refl _) h10 fun G7 e5 => rfl)
  ·intro q1 w4 G5 e3 h10 h11 h12
   obtain ⟨hd0_, _⟩ := h12
   have hv30 := hd0_
   rw [J3 (ρ := q1) (l := [(30, (pt b0 7))]) ⟨hv30, trivial⟩]
   refine Jlb [_] sa0_7 ti41 h10 rfl rfl rfl ?_
   exact J0 (J4 (Ext.refl _) h10 fun G8 e6 => rfl)
  ·intro q1 w4 G5 e3 h10 h11 h12
   rw [J3 (ρ := q1) (l := [(2, (vi a2))]) ⟨(h11.1 2 (by decide)).trans rfl, trivial⟩]
   refine Jmv (vi a2) rfl rfl ?_
   exact J0 (J4 (Ext.refl _) h10 fun G9 e7 => rfl)
  ·intro q1 w4 G5 e3 h10 h11 h12
   obtain ⟨hd0_, hd1_, _⟩ := h12
   have hv31 := hd0_
   have hv32 := hd1_
   rw [J3 (ρ := q1) (l := [(31, sa0_7), (32, (vi a2))]) ⟨hv31, hv32, trivial⟩]
   refine Jh (T := TInstr) underlying41 ti54 h10 (SRep.mono (e0.ro.trans (e2.ro.trans e3.ro)) ha0_7) rfl rfl rfl h9 ?_
   intro b4 o1 c0 l0 f4
   obtain ⟨rfl, f5, f6, f7, f8, f9⟩ := f4
   exact J0 (J4 (Ext.refl _) h10 fun Ga e8 => ⟨b4, o1, rfl, f5, f6, f7, f8, f9, (LiesG.mono e8.ro l0)⟩)
  ·intro q1 w4 G5 e3 h10 h11 h12
   obtain ⟨hd0_, _⟩ := h12
   obtain ⟨b2, b3, hv33, fa, fb, fc, fd, fe, ff⟩ := hd0_
   rw [J3 (ρ := q1) (l := [(33, (pt b2 b3))]) ⟨hv33, trivial⟩]
   refine Jy ti54 rfl rfl (LiesG.lies ff h10) (Nat.le_of_ble_eq_true rfl) ?_
   change WL _ _ _ _ _ _ (upd _ _ (.agg #[(vi x0.Op), (vi x0.A), (vi x0.B), (vi x0.C), (vi x0.N)])) _
   exact J0 (J4 (Ext.refl _) h10 fun Gb e9 => ⟨rfl, fa, fb, fc, fd, fe⟩)
  ·intro q1 w4 G5 e3 h10 h11 h12
   rw [J3 (ρ := q1) (l := [(7, (pt b1 0))]) ⟨(h11.1 7 (by decide)).trans rfl, trivial⟩]
   refine Jl (l1 := []) (vs := [(.string t1.1), (.bool t1.2.1), (vi t1.2.2.1), (vi t1.2.2.2.1), (vi t1.2.2.2.2)]) ti82 h10 rfl rfl rfl rfl ?_
   exact J0 (J4 (Ext.refl _) h10 fun Gc ea => rfl)
  ·intro q1 w4 G5 e3 h10 h11 h12
   rw [J3 (ρ := q1) (l := [(7, (pt b1 0))]) ⟨(h11.1 7 (by decide)).trans rfl, trivial⟩]
   refine Jfa 3 3 underlying82 rfl ti3 rfl rfl rfl rfl ?_
   exact J0 (J4 (Ext.refl _) h10 fun Gd eb => rfl)
  intro q1 w4 G5 e3 h10 h11 h12
  obtain ⟨hd0_, _⟩ := h12
  have hv36 := hd0_
  rw [J3 (ρ := q1) (l := [(36, (pt b1 3))]) ⟨hv36, trivial⟩]
  refine Jlb [] (vi t1.2.2.2.1) ti3 h10 rfl rfl rfl ?_
  exact J0 (J4 (Ext.refl _) h10 fun Ge ec => rfl)
 intro q1 w4 G5 e3 h10 h11 h12
 have hv29 := h12 0 (by decide)
 obtain ⟨hv34, fg, fh, fj, fk, fl⟩ := h12 5 (by decide)
 have hv35 := h12 6 (by decide)
 have hv37 := h12 8 (by decide)
 rw [J3 (ρ := q1) (l := [(29, (.agg #[(vi a0.Class), sa0_1, (vi a0.Pad), (.bool a0.Nosplit), (vi a0.From), (vi a0.To), sa0_6, sa0_7, sa0_8])), (34, (.agg #[(vi x0.Op), (vi x0.A), (vi x0.B), (vi x0.C), (vi x0.N)])), (35, (.agg #[(.string t1.1), (.bool t1.2.1), (vi t1.2.2.1), (vi t1.2.2.2.1), (vi t1.2.2.2.2)])), (37, (vi t1.2.2.2.1))]) ⟨hv29, hv34, hv35, hv37, trivial⟩]
 refine Y0 (cells := #[(vi a0.Class), sa0_1, (vi a0.Pad), (.bool a0.Nosplit), (vi a0.From), (vi a0.To), sa0_6, sa0_7, sa0_8, (vi x0.Op), (vi x0.A), (vi x0.B), (vi x0.C), (vi x0.N), (.string t1.1), (.bool t1.2.1), (vi t1.2.2.1), (vi t1.2.2.2.1), (vi t1.2.2.2.2), (vi t1.2.2.2.1)]) rfl (by obtain ⟨_, _, _, e_⟩ := SRep.shape (SRep.mono (e0.ro.trans (e2.ro.trans e3.ro)) ha0_1); subst e_; obtain ⟨_, _, _, e_⟩ := SRep.shape (SRep.mono (e0.ro.trans (e2.ro.trans e3.ro)) ha0_6); subst e_; obtain ⟨_, _, _, e_⟩ := SRep.shape (SRep.mono (e0.ro.trans (e2.ro.trans e3.ro)) ha0_7); subst e_; obtain ⟨_, _, _, e_⟩ := SRep.shape (SRep.mono (e0.ro.trans (e2.ro.trans e3.ro)) ha0_8); subst e_; kernel_rfl) ?_
 refine Ju (cs := [(vi a0.Class), sa0_1, (vi a0.Pad), (.bool a0.Nosplit), (vi a0.From), (vi a0.To), sa0_6, sa0_7, sa0_8, (vi x0.Op), (vi x0.A), (vi x0.B), (vi x0.C), (vi x0.N), (.string t1.1), (.bool t1.2.1), (vi t1.2.2.1), (vi t1.2.2.2.1), (vi t1.2.2.2.2), (vi t1.2.2.2.1)]) h10 rfl rfl rfl ?_
 intro b5 w5 h13
 refine Jsv (pt b5 0) rfl rfl ?_
 refine J0 (J2 (J2 (J1 ?_)))
 refine Jmv (pt b5 0) rfl rfl ?_
 refine Je rfl rfl ?_
 refine Jfa 9 9 underlying269 rfl ti54 rfl rfl rfl rfl ?_
 refine Jfa 0 9 underlying54 rfl ti3 rfl rfl rfl rfl ?_
 refine Jlb [] (vi x0.Op) ti3 h13 rfl rfl rfl ?_
 refine J0 (Jb (J2 (J1 ?_)))
 refine Y3 rfl rfl rfl ?_
 refine Jsv (.bool (decide (x0.Op = 20))) rfl rfl ?_
 refine J0 ?_
 refine J7 rfl (fun h14 => ?_) (fun h14 => ?_)
 ·exact Jk hr h14
 replace hr := Jf hr h14
 refine J2 (J1 ?_)
 refine Y3 rfl rfl rfl ?_
 refine Jsv (.bool (decide (x0.Op = 21))) rfl rfl ?_
 refine J0 ?_
 refine J7 rfl (fun h15 => ?_) (fun h15 => ?_)
 ·exact Jk hr h15
 replace hr := Jf hr h15
 refine J2 (J1 ?_)
 refine Y3 rfl rfl rfl ?_
 refine Jsv (.bool (decide (x0.Op = 18))) rfl rfl ?_
 refine J0 ?_
 refine J7 rfl (fun h16 => ?_) (fun h16 => ?_)
 ·exact Jk hr h16
 replace hr := Jf hr h16
 refine J9 (J2 (J1 ?_))
 refine Jmv (pt b5 0) rfl rfl ?_
 obtain ⟨t2, h17, hr⟩ := J6 hr
 refine Jn (f := 226) (av := [(pt b5 0)]) cf226 rfl rfl h13 rfl (fun Gf ed h18 => verify_checker_operands.ok (a0_ := ({ f := ({ Class := a0.Class, Kinds := a0.Kinds, Pad := a0.Pad, Nosplit := a0.Nosplit, From := a0.From, To := a0.To, Lines := a0.Lines, Code := a0.Code, Relocs := a0.Relocs } : XFunc), x := ({ Op := x0.Op, A := x0.A, B := x0.B, C := x0.C, N := x0.N } : XInstr), sym := ({ Name := t1.1, Local := t1.2.1, Sort_ := t1.2.2.1, Kind := t1.2.2.2.1, Def := t1.2.2.2.2 } : XSymbol), class_ := t1.2.2.2.1 } : Xverify_checker)) h18 (⟨sa0_1, sa0_6, sa0_7, sa0_8, rfl, ha0_0, (SRep.mono ((e0.ro.trans (e2.ro.trans e3.ro)).trans ed.ro) ha0_1), ha0_2, ha0_4, ha0_5, (SRep.mono ((e0.ro.trans (e2.ro.trans e3.ro)).trans ed.ro) ha0_6), (SRep.mono ((e0.ro.trans (e2.ro.trans e3.ro)).trans ed.ro) ha0_7), (SRep.mono ((e0.ro.trans (e2.ro.trans e3.ro)).trans ed.ro) ha0_8), fg, fh, fj, fk, fl, f0, f1, f2, f3, f2⟩) h17) ?_
 rintro v1 w6 Gg Gh N1 ee q2 ⟨v2, v3, v4, v5, rfl, rfl, fm, fn, fo, fp⟩ h19
 refine Jsv (vi 0) rfl rfl ?_
 refine J0 (Jg ?_)
 have h1a := St.takeN 0 h19
 obtain rfl := Option.some.inj hr
 exact ⟨[(vi 0)], ⟨rfl, trivial⟩, _, _, _, rfl, (e0.trans (e2.trans (e3.trans ee))), h1a, ⟨rfl, rfl⟩⟩
end Go.Proofs.YtnglgjgflohkmaaGreat.Sk
