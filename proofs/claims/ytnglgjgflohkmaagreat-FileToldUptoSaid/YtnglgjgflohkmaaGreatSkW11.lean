/- Walks, printed by gen.py. No condition. -/
import Derived.Test.YtnglgjgflohkmaaGreatSkTy
import Derived.Test.YtnglgjgflohkmaaGreatSkW1
import Derived.Test.YtnglgjgflohkmaaGreatSkW2
import Derived.Test.YtnglgjgflohkmaaGreatSkW3
import Derived.Test.YtnglgjgflohkmaaGreatSkW6
import Derived.Test.YtnglgjgflohkmaaGreatSkW7
import Derived.Test.YtnglgjgflohkmaaGreatSkW8
namespace Go.Proofs.YtnglgjgflohkmaaGreat.Sk
open Go Go.Proofs.Tryz
set_option linter.unusedVariables false
set_option linter.unusedSimpArgs false
variable {B w : World} {G : GH}
set_option linter.unusedVariables false
set_option maxHeartbeats 4000000
set_option maxRecDepth 100000
def object_symbol.l0 (a1 : Int) (a0 : XObject) (x0 : XSymbol) (s0 : Nat) : Option (Step Nat Unit) :=
 bif decide (((s0 : Nat) : Int) < ((List.take (Int.toNat (a1)) a0.Symbols).length : Int)) then (idx (List.take (Int.toNat (a1)) a0.Symbols) ((s0 : Nat) : Int)).bind fun x1 => (bif decide (x1.Sort_ = x0.Sort_) then none else some ()).bind fun t0 => some (.next (s0 + 1)) else some (.done ())
def object_symbol.f (a0 : XObject) (a1 : Int) : Option (Unit) :=
 (idx a0.Symbols a1).bind fun x0 => (bif decide (x0.Sort_ = 2) then some (a0.Datas.length : Int) else some (a0.Funcs.length : Int)).bind fun t1 => bif (decide (0 ≤ a1) && decide (a1 ≤ (a0.Symbols.length : Int))) then (loop (object_symbol.l0 a1 a0 x0) 0).bind fun t2 => (name_Check.f x0.Name).bind fun t3 => (object_kind.f x0).bind fun t4 => (object_when.f t4 8).bind fun t5 => bif (decide (0 ≤ a1) && decide (a1 ≤ (a0.Symbols.length : Int))) then (api_Symbol_144.f (List.take (Int.toNat (a1)) a0.Symbols) x0).bind fun t6 => (object_when.f false 12).bind fun t7 => bif decide (x0.Def ≠ (-1)) then bif decide (x0.Def ≠ 0) then none else (object_when.f (decide (0 ≥ t1)) 9).bind fun t8 => (bif x0.Local then some (decide (x0.Def = (-1))) else some false).bind fun t9 => (object_when.f t9 13).bind fun ta => (object_first.f [0, 0, 0, 0, 0]).bind fun tb => some () else none else none else none
def object_symbol.K (r : Unit) (G0 : GH) (v : Value) (N : List Res) : Prop := v = tup [(vi 0)] ∧ N = []
theorem object_symbol.ok {ca0 : List Value} {a0 : XObject} {a1 : Int} (st : St B w G []) (ha0 : TObject.rep G ca0 a0) (ha1 : InK .i64 a1) {r : Unit} (hr : object_symbol.f a0 a1 = some r) :
 Calls Tryz.prog 83 ([(.agg ca0.toArray), (vi a1)] : List Value).toArray w (Ret B G (object_symbol.K r)) := by
 obtain ⟨sa0_0, sa0_1, sa0_2, rfl, ha0_0, ha0_1, ha0_2⟩ := ha0
 refine Jc [.tmp 4] func83 rfl ntmps83 rfl rfl ?_
 refine J2 (J1 ?_)
 refine Ju (cs := [sa0_0, sa0_1, sa0_2]) st rfl rfl rfl ?_
 intro b0 w0 h0
 refine Jsv (vi 0) rfl rfl ?_
 refine J0 (J2 (J1 ?_))
 refine Jfa 0 0 underlying61 rfl ti57 rfl rfl rfl rfl ?_
 refine Jlb [] sa0_0 ti57 h0 rfl rfl rfl ?_
 refine Jmv (vi a1) rfl rfl ?_
 obtain ⟨x0, h1, hr⟩ := J6 hr
 refine Jh (T := TSymbol) underlying57 ti82 h0 ha0_0 rfl rfl rfl h1 ?_
 intro b1 o0 c0 l3 f0
 obtain ⟨rfl, f1, f2, f3, f4⟩ := f0
 refine Jy ti82 rfl rfl (LiesG.lies l3 h0) (Nat.le_of_ble_eq_true rfl) ?_
 change WL _ _ _ _ _ _ (upd _ _ (.agg #[(.string x0.Name), (.bool x0.Local), (vi x0.Sort_), (vi x0.Kind), (vi x0.Def)])) _
 refine Jo ti82 h0 rfl ?_
 intro b2 w1 h2
 refine Jp (l1 := []) (vs := [(.string x0.Name), (.bool x0.Local), (vi x0.Sort_), (vi x0.Kind), (vi x0.Def)]) ti82 h2 rfl rfl rfl (J5 rfl (J5 rfl (J5 rfl (J5 rfl (J5 rfl (fun _ h => nomatch h)))))) rfl ?_
 intro w2 (h3 : St B w2 G [.blk b2 [(.string x0.Name), (.bool x0.Local), (vi x0.Sort_), (vi x0.Kind), (vi x0.Def)] 82, .blk b0 [sa0_0, sa0_1, sa0_2] 61])
 refine J0 (J2 (J1 ?_))
 refine Jfa 1 1 underlying61 rfl ti58 rfl rfl rfl rfl ?_
 refine Jlb [_] sa0_1 ti58 h3 rfl rfl rfl ?_
 refine Jd (T := TFunc) underlying58 ha0_1 rfl rfl ?_
 refine Jsv (vi (a0.Funcs.length : Int)) rfl rfl ?_
 refine J0 (J2 ?_)
 obtain ⟨t1, hr, o1⟩ := J6 hr
 refine W_join (fun ρ w => ∃ (σ0 : Env) (G1 : GH), ρ = En σ0 [(1, (vi a1)), (2, (pt b0 0)), (5, (pt b2 0)), (6, (vi t1))] ∧ Ext G G1 ∧ St B w G1 [.blk b0 [sa0_0, sa0_1, sa0_2] 61, .blk b2 [(.string x0.Name), (.bool x0.Local), (vi x0.Sort_), (vi x0.Kind), (vi x0.Def)] 82] ∧ InK .i64 t1) ?_ ?_
 ·refine J2 (J1 ?_)
  refine Jfa 2 2 underlying82 rfl ti3 rfl rfl rfl rfl ?_
  refine Jlb [] (vi x0.Sort_) ti3 h3 rfl rfl rfl ?_
  refine Y3 rfl rfl rfl ?_
  refine J0 ?_
  refine J7 rfl (fun h4 => ?_) (fun h4 => ?_)
  ·replace hr := Jx hr h4
   refine J1 ?_
   refine Jfa 2 2 underlying61 rfl ti59 rfl rfl rfl rfl ?_
   refine Jlb [_] sa0_2 ti59 h3 rfl rfl rfl ?_
   refine Jd (T := TData) underlying59 ha0_2 rfl rfl ?_
   refine Jsv (vi (a0.Datas.length : Int)) rfl rfl ?_
   refine J0 ?_
   have h5 := St.pick 1 rfl h3
   obtain rfl := Option.some.inj hr
   exact ⟨_, _, (J3 ⟨rfl, rfl, rfl, rfl, trivial⟩), (Ext.refl _), h5, (inK_len (SRep.le ha0_2))⟩
  replace hr := Jf hr h4
  refine J9 ?_
  have h6 := St.pick 1 rfl h3
  obtain rfl := Option.some.inj hr
  exact ⟨_, _, (J3 ⟨rfl, rfl, rfl, rfl, trivial⟩), (Ext.refl _), h6, (inK_len (SRep.le ha0_1))⟩
 rintro _ _ ⟨σ0, G1, rfl, e0, h7, f5⟩
 replace hr := o1
 refine J2 (J1 ?_)
 refine Yg (fs := []) (cs := [(pt b2 0)]) rfl rfl rfl ?_
 refine Jsv (.func (.func 139) #[] #[(pt b2 0)]) rfl rfl ?_
 refine J0 (J2 (J1 ?_))
 refine Jsv (vi 0) rfl rfl ?_
 refine J0 (J2 (J2 (J1 ?_)))
 refine Jfa 0 0 underlying61 rfl ti57 rfl rfl rfl rfl ?_
 refine Jlb [] sa0_0 ti57 h7 rfl rfl rfl ?_
 refine Jmv (vi a1) rfl rfl ?_
 obtain ⟨h8, hr⟩ := Ya hr
 refine WL_sliceH (T := TSymbol) underlying57 ti82 (SRep.mono e0.ro ha0_0) rfl rfl rfl (of_decide_eq_true (band h8).1) (of_decide_eq_true (band h8).2) ?_
 intro v0 f6
 refine Jd (T := TSymbol) underlying57 f6 rfl rfl ?_
 refine Jmv (vi 0) rfl rfl ?_
 refine J0 (Jb ?_)
 obtain ⟨t2, h9, hr⟩ := J6 hr
 have h10 := St.pick 1 rfl h7
 have h11 := St.pick 1 rfl h10
 refine Js 0 h9 (fun s0 ρ w => ∃ (σ1 : Env) (G2 : GH), ρ = En σ1 [(1, (vi a1)), (2, (pt b0 0)), (5, (pt b2 0)), (6, (vi t1)), (7, (.func (.func 139) #[] #[(pt b2 0)])), (8, (vi 0)), (29, v0), (30, (vi ((List.take (Int.toNat (a1)) a0.Symbols).length : Int))), (31, (vi ((s0 : Nat) : Int)))] ∧ Ext G1 G2 ∧ St B w G2 [.blk b0 [sa0_0, sa0_1, sa0_2] 61, .blk b2 [(.string x0.Name), (.bool x0.Local), (vi x0.Sort_), (vi x0.Kind), (vi x0.Def)] 82] ∧ InK .i64 ((s0 : Nat) : Int)) (fun tc ρ w => ∃ (σ2 : Env) (G3 : GH), ρ = En σ2 [(1, (vi a1)), (2, (pt b0 0)), (5, (pt b2 0)), (6, (vi t1)), (7, (.func (.func 139) #[] #[(pt b2 0)])), (8, (vi 0))] ∧ Ext G1 G3 ∧ St B w G3 [.blk b0 [sa0_0, sa0_1, sa0_2] 61, .blk b2 [(.string x0.Name), (.bool x0.Local), (vi x0.Sort_), (vi x0.Kind), (vi x0.Def)] 82]) ⟨_, _, (J3 ⟨rfl, rfl, rfl, rfl, rfl, rfl, rfl, rfl, rfl, trivial⟩), (Ext.refl _), h11, (by rfl)⟩ ?_ ?_
 ·rintro s0 x2 _ _ hr ⟨σ1, G2, rfl, e1, h12, f7⟩
  refine J2 (J1 ?_)
  refine Ji rfl rfl rfl ?_
  refine J0 (J2 ?_)
  refine J7 rfl (fun h13 => ?_) (fun h13 => ?_)
  ·replace hr := Jx hr h13
   refine J9 (J2 (Jb (J2 (J1 ?_))))
   obtain ⟨x1, h14, hr⟩ := J6 hr
   refine Jh (T := TSymbol) underlying57 ti82 h12 (SRep.mono e1.ro f6) rfl rfl rfl h14 ?_
   intro b3 o2 c1 l4 f8
   obtain ⟨rfl, f9, fa, fb, fc⟩ := f8
   refine Jy ti82 rfl rfl (LiesG.lies l4 h12) (Nat.le_of_ble_eq_true rfl) ?_
   change WL _ _ _ _ _ _ (upd _ _ (.agg #[(.string x1.Name), (.bool x1.Local), (vi x1.Sort_), (vi x1.Kind), (vi x1.Def)])) _
   refine Jo ti82 h12 rfl ?_
   intro b4 w3 h15
   refine Jp (l1 := []) (vs := [(.string x1.Name), (.bool x1.Local), (vi x1.Sort_), (vi x1.Kind), (vi x1.Def)]) ti82 h15 rfl rfl rfl (J5 rfl (J5 rfl (J5 rfl (J5 rfl (J5 rfl (fun _ h => nomatch h)))))) rfl ?_
   intro w4 (h16 : St B w4 G2 [.blk b4 [(.string x1.Name), (.bool x1.Local), (vi x1.Sort_), (vi x1.Kind), (vi x1.Def)] 82, .blk b0 [sa0_0, sa0_1, sa0_2] 61, .blk b2 [(.string x0.Name), (.bool x0.Local), (vi x0.Sort_), (vi x0.Kind), (vi x0.Def)] 82])
   refine J0 (J2 (J1 ?_))
   refine Jfa 2 2 underlying82 rfl ti3 rfl rfl rfl rfl ?_
   refine Jlb [] (vi x1.Sort_) ti3 h16 rfl rfl rfl ?_
   refine Jfa 2 2 underlying82 rfl ti3 rfl rfl rfl rfl ?_
   refine Jlb [_, _] (vi x0.Sort_) ti3 h16 rfl rfl rfl ?_
   refine Y3 rfl rfl rfl ?_
   refine Jmv (.bool (decide (x1.Sort_ = x0.Sort_))) rfl rfl ?_
   obtain ⟨t0, hr, o3⟩ := J6 hr
   refine Jw 4 (fun ρ w => ∃ (σ3 : Env) (G4 : GH), ρ = En σ3 [(1, (vi a1)), (2, (pt b0 0)), (5, (pt b2 0)), (6, (vi t1)), (7, (.func (.func 139) #[] #[(pt b2 0)])), (8, (vi 0)), (29, v0), (30, (vi ((List.take (Int.toNat (a1)) a0.Symbols).length : Int))), (31, (vi ((s0 : Nat) : Int))), (44, (.bool false))] ∧ Ext G2 G4 ∧ St B w G4 [.blk b0 [sa0_0, sa0_1, sa0_2] 61, .blk b2 [(.string x0.Name), (.bool x0.Local), (vi x0.Sort_), (vi x0.Kind), (vi x0.Def)] 82]) ?_ ?_
   ·rcases Y8 (decide (x1.Sort_ = x0.Sort_)) with hb_ | hb_
    ·exact Jk hr hb_
    have h17 : (decide (x1.Sort_ = x0.Sort_)) = false := hb_
    replace hr := Jf hr h17
    refine Jv rfl rfl rfl rfl h17 ?_
    refine Jv rfl rfl rfl rfl h17 ?_
    refine Jv rfl rfl rfl rfl h17 ?_
    refine Jt (v := (.bool false)) rfl rfl h17 rfl ?_
    refine J0 ?_
    have h18 := St.pick 2 rfl h16
    have h19 := St.pick 2 rfl h18
    have h1a := St.takeN 2 h19
    obtain rfl := Option.some.inj hr
    exact ⟨_, _, (J3 ⟨rfl, rfl, rfl, rfl, rfl, rfl, rfl, rfl, rfl, rfl, trivial⟩), (Ext.refl _), h1a⟩
   rintro _ _ ⟨σ3, G4, rfl, e2, h1b⟩
   replace hr := o3
   refine J0 ?_
   refine J7 rfl (fun h => nomatch h) (fun _ => ?_)
   refine J9 (J1 ?_)
   refine Y2 rfl rfl rfl (of_decide_eq_true h13) (inK_len (SRep.le f6)) ?_
   refine Jmv (vi ((s0 + 1 : Nat) : Int)) rfl rfl ?_
   refine J0 ?_
   have h1c := St.pick 1 rfl h1b
   have h1d := St.pick 1 rfl h1c
   exact ⟨_, (Option.some.inj hr).symm, _, _, (J3 ⟨rfl, rfl, rfl, rfl, rfl, rfl, rfl, rfl, rfl, trivial⟩), (e1.trans e2), h1d, (inK_inc (of_decide_eq_true h13) (inK_len (SRep.le f6)))⟩
  replace hr := Jf hr h13
  refine Jr ?_
  have h1e := St.pick 1 rfl h12
  have h1f := St.pick 1 rfl h1e
  exact ⟨_, (Option.some.inj hr).symm, rfl, _, _, (J3 ⟨rfl, rfl, rfl, rfl, rfl, rfl, trivial⟩), e1, h1f⟩
 rintro _ _ ⟨σ2, G3, rfl, e3, h1g⟩
 refine J2 ?_
 obtain ⟨t3, h1h, hr⟩ := J6 hr
 obtain ⟨t4, h1i, hr⟩ := J6 hr
 obtain ⟨t5, h1j, hr⟩ := J6 hr
 obtain ⟨h1k, hr⟩ := Ya hr
 obtain ⟨t6, h1l, hr⟩ := J6 hr
 obtain ⟨t7, h1m, hr⟩ := J6 hr
 rcases Y8 (decide (x0.Def ≠ (-1))) with hb_ | hb_
 ·have h1n : (decide (x0.Def ≠ (-1))) = true := hb_
  replace hr := Jx hr h1n
  rcases Y8 (decide (x0.Def ≠ 0)) with hb_ | hb_
  ·exact Jk hr hb_
  have h1o : (decide (x0.Def ≠ 0)) = false := hb_
  replace hr := Jf hr h1o
  obtain ⟨t8, h1p, hr⟩ := J6 hr
  refine Ym 30 [some 48, some 49, some 50, some 51, some 52, some 53, some 54, some 55, some 56, some 57, some 58, some 59, some 60, some 61, some 62, some 63, some 64, some 65, some 66, some 67, some 68, some 69, some 70, some 71, some 72, some 73, some 74, some 75, some 76, some 77] [11] [Kind.q, Kind.q, Kind.q, Kind.q, Kind.q, Kind.q, Kind.q, Kind.q, Kind.q, Kind.q, Kind.q, Kind.c 0, Kind.q, Kind.q, Kind.q, Kind.q, Kind.q, Kind.q, Kind.q, Kind.q, Kind.q, Kind.q, Kind.q, Kind.q, Kind.q, Kind.q, Kind.q, Kind.q, Kind.q, Kind.q] (pkT [(fun vs_ G_ M_ => vs_ = [] ∧ M_ = [.blk b0 [sa0_0, sa0_1, sa0_2] 61, .blk b2 [(.string x0.Name), (.bool x0.Local), (vi x0.Sort_), (vi x0.Kind), (vi x0.Def)] 82]), (fun vs_ G_ M_ => vs_ = [(.bool false)] ∧ M_ = [.blk b2 [(.string x0.Name), (.bool x0.Local), (vi x0.Sort_), (vi x0.Kind), (vi x0.Def)] 82, .blk b0 [sa0_0, sa0_1, sa0_2] 61])]) (pk [(fun G_ v_ => v_ = (pt b2 0)), (fun G_ v_ => v_ = (.string x0.Name)), (fun G_ v_ => v_ = (vi 0)), (fun G_ v_ => v_ = (.agg #[(.string x0.Name), (.bool x0.Local), (vi x0.Sort_), (vi x0.Kind), (vi x0.Def)])), (fun G_ v_ => v_ = (.bool t4)), (fun G_ v_ => v_ = (vi 0)), (fun G_ v_ => v_ = (pt b0 0)), (fun G_ v_ => v_ = sa0_0), (fun G_ v_ => v_ = (vi a1)), (fun G_ v_ => ∃ (v1 : Value), v_ = v1 ∧ SRep 82 TSymbol G_ v1 (List.take (Int.toNat (a1)) a0.Symbols)), (fun G_ v_ => v_ = (.func (.func 139) #[] #[(pt b2 0)])), (fun _ _ => True), (fun G_ v_ => v_ = (vi 0)), (fun G_ v_ => v_ = (pt b2 4)), (fun G_ v_ => v_ = (vi x0.Def)), (fun G_ v_ => v_ = (.bool (decide (x0.Def ≠ (-1))))), (fun G_ v_ => v_ = (.bool (decide (x0.Def ≠ (-1))))), (fun G_ v_ => v_ = (pt b2 4)), (fun G_ v_ => v_ = (vi x0.Def)), (fun G_ v_ => v_ = (vi 0)), (fun G_ v_ => v_ = (.bool (decide (x0.Def ≠ 0)))), (fun G_ v_ => v_ = (.bool (decide (x0.Def ≠ 0)))), (fun G_ v_ => v_ = (vi 0)), (fun G_ v_ => v_ = (vi t1)), (fun G_ v_ => v_ = (.bool (decide (0 ≥ t1)))), (fun G_ v_ => v_ = (.bool (decide (0 ≥ t1)))), (fun G_ v_ => v_ = (.bool (decide (0 ≥ t1)))), (fun G_ v_ => v_ = (vi 0)), (fun G_ v_ => v_ = (pt b2 1)), (fun G_ v_ => v_ = (.bool x0.Local))]) rfl (by kernel_rfl) rfl (by kernel_rfl) [] (by kernel_rfl) rfl h1g (fun _ _ => ⟨rfl, rfl⟩) ?_ ?_
  ·refine Each2.cons ?_ (Each2.cons ?_ (Each2.cons ?_ (Each2.cons ?_ (Each2.cons ?_ (Each2.cons ?_ (Each2.cons ?_ (Each2.cons ?_ (Each2.cons ?_ (Each2.cons ?_ (Each2.cons ?_ (Each2.cons ?_ (Each2.cons ?_ (Each2.cons ?_ (Each2.cons ?_ (Each2.cons ?_ (Each2.cons ?_ (Each2.cons ?_ (Each2.cons ?_ (Each2.cons ?_ (Each2.cons ?_ (Each2.cons ?_ (Each2.cons ?_ (Each2.cons ?_ (Each2.cons ?_ (Each2.cons ?_ (Each2.cons ?_ (Each2.cons ?_ (Each2.cons ?_ (Each2.cons ?_ Each2.nil)))))))))))))))))))))))))))))
   ·intro k0 q0 w5 G5 M0 h1q h1r e4 h1s h1t h1u h1v h1w h1x
    have h2_ : k0 ≤ 0 := h1w 0 11 [1, 2, 4, 5, 11] rfl (by kernel_rfl) rfl
    obtain rfl : k0 = 0 := by omega
    obtain ⟨hvs_, rfl⟩ := h1t G5 (Ext.refl _)
    rw [J3 (ρ := q0) (l := [(5, (pt b2 0))]) ⟨(h1u.1 5 (by decide)).trans rfl, trivial⟩]
    refine Jfa 0 0 underlying82 rfl ti9 rfl rfl rfl rfl ?_
    exact J0 (J4 (Ext.refl _) h1s fun G6 e5 => rfl)
   ·intro k0 q0 w5 G5 M0 h1q h1r e4 h1s h1t h1u h1v h1w h1x
    have h2_ : k0 ≤ 0 := h1w 0 11 [2, 4, 5, 11] rfl (by kernel_rfl) rfl
    obtain rfl : k0 = 0 := by omega
    obtain ⟨hvs_, rfl⟩ := h1t G5 (Ext.refl _)
    obtain ⟨hd0_, _⟩ := h1x
    have hv48 := hd0_
    rw [J3 (ρ := q0) (l := [(48, (pt b2 0))]) ⟨hv48, trivial⟩]
    refine Jlb [_] (.string x0.Name) ti9 h1s rfl rfl rfl ?_
    exact J0 (J4 (Ext.refl _) h1s fun G7 e6 => rfl)
   ·intro k0 q0 w5 G5 M0 h1q h1r e4 h1s h1t h1u h1v h1w h1x
    have h2_ : k0 ≤ 0 := h1w 0 11 [4, 5, 11] rfl (by kernel_rfl) rfl
    obtain rfl : k0 = 0 := by omega
    obtain ⟨hvs_, rfl⟩ := h1t G5 (Ext.refl _)
    obtain ⟨hd0_, _⟩ := h1x
    have hv49 := hd0_
    rw [J3 (ρ := q0) (l := [(49, (.string x0.Name))]) ⟨hv49, trivial⟩]
    refine J8 (f := 141) (av := [(.string x0.Name)]) cf141 rfl rfl h1s rfl (fun G8 e7 h1y => name_Check.ok h1y f1 h1h) ?_
    rintro v2 w6 G9 Ga N0 e8 q1 ⟨rfl, rfl⟩ h1z
    exact J0 (J4 e8 h1z fun Gb e9 => rfl)
   ·intro k0 q0 w5 G5 M0 h1q h1r e4 h1s h1t h1u h1v h1w h1x
    have h2_ : k0 ≤ 0 := h1w 0 11 [4, 5, 11] rfl (by kernel_rfl) rfl
    obtain rfl : k0 = 0 := by omega
    obtain ⟨hvs_, rfl⟩ := h1t G5 (Ext.refl _)
    rw [J3 (ρ := q0) (l := [(5, (pt b2 0))]) ⟨(h1u.1 5 (by decide)).trans rfl, trivial⟩]
    refine Jl (l1 := [_]) (vs := [(.string x0.Name), (.bool x0.Local), (vi x0.Sort_), (vi x0.Kind), (vi x0.Def)]) ti82 h1s rfl rfl rfl rfl ?_
    exact J0 (J4 (Ext.refl _) h1s fun Gc ea => rfl)
   ·intro k0 q0 w5 G5 M0 h1q h1r e4 h1s h1t h1u h1v h1w h1x
    have h2_ : k0 ≤ 0 := h1w 0 11 [5, 11] rfl (by kernel_rfl) rfl
    obtain rfl : k0 = 0 := by omega
    obtain ⟨hvs_, rfl⟩ := h1t G5 (Ext.refl _)
    obtain ⟨hd0_, hd1_, _⟩ := h1x
    have hv51 := hd0_
    rw [J3 (ρ := q0) (l := [(51, (.agg #[(.string x0.Name), (.bool x0.Local), (vi x0.Sort_), (vi x0.Kind), (vi x0.Def)]))]) ⟨hv51, trivial⟩]
    refine J8 (f := 143) (av := [(.agg #[(.string x0.Name), (.bool x0.Local), (vi x0.Sort_), (vi x0.Kind), (vi x0.Def)])]) cf143 rfl rfl h1s rfl (fun Gd eb h20 => object_kind.ok (a0 := x0) h20 (⟨rfl, f1, f2, f3, f4⟩) h1i) ?_
    rintro v3 w7 Ge Gf N1 ec q2 ⟨rfl, rfl⟩ h21
    exact J0 (J4 ec h21 fun Gg ed => rfl)
   ·intro k0 q0 w5 G5 M0 h1q h1r e4 h1s h1t h1u h1v h1w h1x
    have h2_ : k0 ≤ 0 := h1w 0 11 [11] rfl (by kernel_rfl) rfl
    obtain rfl : k0 = 0 := by omega
    obtain ⟨hvs_, rfl⟩ := h1t G5 (Ext.refl _)
    obtain ⟨hd0_, hd1_, _⟩ := h1x
    have hv52 := hd0_
    rw [J3 (ρ := q0) (l := [(52, (.bool t4))]) ⟨hv52, trivial⟩]
    refine J8 (f := 142) (av := [(.bool t4), (vi 8)]) cf142 rfl rfl h1s rfl (fun Gh ee h22 => object_when.ok h22 (by rfl) h1j) ?_
    rintro v4 w8 Gi Gj N2 ef q3 ⟨rfl, rfl⟩ h23
    exact J0 (J4 ef h23 fun Gk eg => rfl)
   ·intro k0 q0 w5 G5 M0 h1q h1r e4 h1s h1t h1u h1v h1w h1x
    have h2_ : k0 ≤ 0 := h1w 0 11 [7, 9, 11] rfl (by kernel_rfl) rfl
    obtain rfl : k0 = 0 := by omega
    obtain ⟨hvs_, rfl⟩ := h1t G5 (Ext.refl _)
    rw [J3 (ρ := q0) (l := [(2, (pt b0 0))]) ⟨(h1u.1 2 (by decide)).trans rfl, trivial⟩]
    refine Jfa 0 0 underlying61 rfl ti57 rfl rfl rfl rfl ?_
    exact J0 (J4 (Ext.refl _) h1s fun Gl eh => rfl)
   ·intro k0 q0 w5 G5 M0 h1q h1r e4 h1s h1t h1u h1v h1w h1x
    have h2_ : k0 ≤ 0 := h1w 0 11 [9, 11] rfl (by kernel_rfl) rfl
    obtain rfl : k0 = 0 := by omega
    obtain ⟨hvs_, rfl⟩ := h1t G5 (Ext.refl _)
    obtain ⟨hd0_, _⟩ := h1x
    have hv54 := hd0_
    rw [J3 (ρ := q0) (l := [(54, (pt b0 0))]) ⟨hv54, trivial⟩]
    refine Jlb [] sa0_0 ti57 h1s rfl rfl rfl ?_
    exact J0 (J4 (Ext.refl _) h1s fun Gm ei => rfl)
   ·intro k0 q0 w5 G5 M0 h1q h1r e4 h1s h1t h1u h1v h1w h1x
    have h2_ : k0 ≤ 0 := h1w 0 11 [9, 11] rfl (by kernel_rfl) rfl
    obtain rfl : k0 = 0 := by omega
    obtain ⟨hvs_, rfl⟩ := h1t G5 (Ext.refl _)
    rw [J3 (ρ := q0) (l := [(1, (vi a1))]) ⟨(h1u.1 1 (by decide)).trans rfl, trivial⟩]
    refine Jmv (vi a1) rfl rfl ?_
    exact J0 (J4 (Ext.refl _) h1s fun Gn ej => rfl)
   ·intro k0 q0 w5 G5 M0 h1q h1r e4 h1s h1t h1u h1v h1w h1x
    have h2_ : k0 ≤ 0 := h1w 0 11 [11] rfl (by kernel_rfl) rfl
    obtain rfl : k0 = 0 := by omega
    obtain ⟨hvs_, rfl⟩ := h1t G5 (Ext.refl _)
    obtain ⟨hd0_, hd1_, _⟩ := h1x
    have hv55 := hd0_
    have hv56 := hd1_
    rw [J3 (ρ := q0) (l := [(55, sa0_0), (56, (vi a1))]) ⟨hv55, hv56, trivial⟩]
    refine WL_sliceH (T := TSymbol) underlying57 ti82 (SRep.mono (e0.ro.trans (e3.ro.trans e4.ro)) ha0_0) rfl rfl rfl (of_decide_eq_true (band h1k).1) (of_decide_eq_true (band h1k).2) ?_
    intro v5 fd
    exact J0 (J4 (Ext.refl _) h1s fun Go ek => ⟨v5, rfl, (SRep.mono ek.ro fd)⟩)
   ·intro k0 q0 w5 G5 M0 h1q h1r e4 h1s h1t h1u h1v h1w h1x
    have h2_ : k0 ≤ 0 := h1w 0 11 [11] rfl (by kernel_rfl) rfl
    obtain rfl : k0 = 0 := by omega
    obtain ⟨hvs_, rfl⟩ := h1t G5 (Ext.refl _)
    rw [J3 (ρ := q0) (l := [(7, (.func (.func 139) #[] #[(pt b2 0)]))]) ⟨(h1u.1 7 (by decide)).trans rfl, trivial⟩]
    refine Jmv (.func (.func 139) #[] #[(pt b2 0)]) rfl rfl ?_
    exact J0 (J4 (Ext.refl _) h1s fun Gp el => rfl)
   ·intro k0 q0 w5 G5 M0 h1q h1r e4 h1s h1t h1u h1v h1w h1x
    obtain rfl : k0 = 0 := h1r
    obtain ⟨hvs_, rfl⟩ := h1t G5 (Ext.refl _)
    obtain ⟨hd0_, hd1_, hd2_, _⟩ := h1x
    obtain ⟨v1, hv57, fe⟩ := hd0_
    have hv58 := hd1_
    rw [J3 (ρ := q0) (l := [(57, v1), (58, (.func (.func 139) #[] #[(pt b2 0)]))]) ⟨hv57, hv58, trivial⟩]
    have h24 := St.pick 1 rfl h1s
    refine Jn (f := 144) (av := [v1, (.func (.func 139) #[] #[(pt b2 0)])]) cf144 rfl rfl h24 rfl (fun Gq em h25 => api_Symbol_144.ok (a1_c0_ := x0) h25 (SRep.mono em.ro fe) (⟨rfl, f1, f2, f3, f4⟩) h1l) ?_
    rintro v6 w9 Gr Gs N3 en q4 ⟨rfl, rfl⟩ h26
    exact J0 (Yi en h26 fun Gt eo => ⟨⟨rfl, rfl⟩, trivial⟩)
   ·intro k0 q0 w5 G5 M0 h1q h1r e4 h1s h1t h1u h1v h1w h1x
    have h1_ : 0 < k0 := h1v 0 11 12 [] rfl (by kernel_rfl) rfl
    have h2_ : k0 ≤ 1 := h1q
    obtain rfl : k0 = 1 := by omega
    obtain ⟨hvs_, rfl⟩ := h1t G5 (Ext.refl _)
    have hv59 := (List.cons.inj hvs_).1
    rw [J3 (ρ := q0) (l := [(59, (.bool false))]) ⟨hv59, trivial⟩]
    refine J8 (f := 142) (av := [(.bool false), (vi 12)]) cf142 rfl rfl h1s rfl (fun Gu ep h27 => object_when.ok h27 (by rfl) h1m) ?_
    rintro v7 wa Gv Gw N4 er q5 ⟨rfl, rfl⟩ h28
    exact J0 (J4 er h28 fun Gx es => rfl)
   ·intro k0 q0 w5 G5 M0 h1q h1r e4 h1s h1t h1u h1v h1w h1x
    have h2_ : k0 ≤ 1 := h1q
    rcases (show k0 = 0 ∨ k0 = 1 from by omega) with rfl | rfl
    ·obtain ⟨hvs_, rfl⟩ := h1t G5 (Ext.refl _)
     rw [J3 (ρ := q0) (l := [(5, (pt b2 0))]) ⟨(h1u.1 5 (by decide)).trans rfl, trivial⟩]
     refine Jfa 4 4 underlying82 rfl ti3 rfl rfl rfl rfl ?_
     exact J0 (J4 (Ext.refl _) h1s fun Gy et => rfl)
    obtain ⟨hvs_, rfl⟩ := h1t G5 (Ext.refl _)
    have hv59 := (List.cons.inj hvs_).1
    rw [J3 (ρ := q0) (l := [(5, (pt b2 0)), (59, (.bool false))]) ⟨(h1u.1 5 (by decide)).trans rfl, hv59, trivial⟩]
    refine Jfa 4 4 underlying82 rfl ti3 rfl rfl rfl rfl ?_
    exact J0 (J4 (Ext.refl _) h1s fun Gy et => rfl)
   ·intro k0 q0 w5 G5 M0 h1q h1r e4 h1s h1t h1u h1v h1w h1x
    have h2_ : k0 ≤ 1 := h1q
    rcases (show k0 = 0 ∨ k0 = 1 from by omega) with rfl | rfl
    ·obtain ⟨hvs_, rfl⟩ := h1t G5 (Ext.refl _)
     obtain ⟨hd0_, _⟩ := h1x
     have hv61 := hd0_
     rw [J3 (ρ := q0) (l := [(61, (pt b2 4))]) ⟨hv61, trivial⟩]
     refine Jlb [_] (vi x0.Def) ti3 h1s rfl rfl rfl ?_
     exact J0 (J4 (Ext.refl _) h1s fun Gz eu => rfl)
    obtain ⟨hvs_, rfl⟩ := h1t G5 (Ext.refl _)
    have hv59 := (List.cons.inj hvs_).1
    obtain ⟨hd0_, _⟩ := h1x
    have hv61 := hd0_
    rw [J3 (ρ := q0) (l := [(59, (.bool false)), (61, (pt b2 4))]) ⟨hv59, hv61, trivial⟩]
    refine Jlb [] (vi x0.Def) ti3 h1s rfl rfl rfl ?_
    exact J0 (J4 (Ext.refl _) h1s fun Gz eu => rfl)
   ·intro k0 q0 w5 G5 M0 h1q h1r e4 h1s h1t h1u h1v h1w h1x
    have h2_ : k0 ≤ 1 := h1q
    rcases (show k0 = 0 ∨ k0 = 1 from by omega) with rfl | rfl
    ·obtain ⟨hvs_, rfl⟩ := h1t G5 (Ext.refl _)
     obtain ⟨hd0_, _⟩ := h1x
     have hv62 := hd0_
     rw [J3 (ρ := q0) (l := [(62, (vi x0.Def))]) ⟨hv62, trivial⟩]
     refine Y1 rfl rfl rfl ?_
     exact J0 (J4 (Ext.refl _) h1s fun G10 ev => rfl)
    obtain ⟨hvs_, rfl⟩ := h1t G5 (Ext.refl _)
    have hv59 := (List.cons.inj hvs_).1
    obtain ⟨hd0_, _⟩ := h1x
    have hv62 := hd0_
    rw [J3 (ρ := q0) (l := [(59, (.bool false)), (62, (vi x0.Def))]) ⟨hv59, hv62, trivial⟩]
    refine Y1 rfl rfl rfl ?_
    exact J0 (J4 (Ext.refl _) h1s fun G10 ev => rfl)
   ·intro k0 q0 w5 G5 M0 h1q h1r e4 h1s h1t h1u h1v h1w h1x
    have h1_ : 0 < k0 := h1v 0 11 12 [16] rfl (by kernel_rfl) rfl
    have h2_ : k0 ≤ 1 := h1q
    obtain rfl : k0 = 1 := by omega
    obtain ⟨hvs_, rfl⟩ := h1t G5 (Ext.refl _)
    have hv59 := (List.cons.inj hvs_).1
    obtain ⟨hd0_, hd1_, _⟩ := h1x
    have hv63 := hd0_
    rw [J3 (ρ := q0) (l := [(59, (.bool false)), (63, (.bool (decide (x0.Def ≠ (-1)))))]) ⟨hv59, hv63, trivial⟩]
    refine Jmv (.bool (decide (x0.Def ≠ (-1)))) rfl rfl ?_
    exact J0 (J4 (Ext.refl _) h1s fun G11 ew => rfl)
   ·intro k0 q0 w5 G5 M0 h1q h1r e4 h1s h1t h1u h1v h1w h1x
    have h1_ : 0 < k0 := h1v 0 11 12 [16, 17] rfl (by kernel_rfl) rfl
    have h2_ : k0 ≤ 1 := h1q
    obtain rfl : k0 = 1 := by omega
    obtain ⟨hvs_, rfl⟩ := h1t G5 (Ext.refl _)
    have hv59 := (List.cons.inj hvs_).1
    obtain ⟨hd0_, _⟩ := h1x
    have hv64 := hd0_
    rw [J3 (ρ := q0) (l := [(5, (pt b2 0)), (59, (.bool false)), (64, (.bool (decide (x0.Def ≠ (-1)))))]) ⟨(h1u.1 5 (by decide)).trans rfl, hv59, hv64, trivial⟩]
    refine Ja rfl rfl rfl rfl h1n ?_
    refine Jfa 4 4 underlying82 rfl ti3 rfl rfl rfl rfl ?_
    exact J0 (J4 (Ext.refl _) h1s fun G12 ex => rfl)
   ·intro k0 q0 w5 G5 M0 h1q h1r e4 h1s h1t h1u h1v h1w h1x
    have h1_ : 0 < k0 := h1v 0 11 12 [16, 18] rfl (by kernel_rfl) rfl
    have h2_ : k0 ≤ 1 := h1q
    obtain rfl : k0 = 1 := by omega
    obtain ⟨hvs_, rfl⟩ := h1t G5 (Ext.refl _)
    have hv59 := (List.cons.inj hvs_).1
    obtain ⟨hd0_, hd1_, _⟩ := h1x
    have hv65 := hd0_
    have hv64 := hd1_
    rw [J3 (ρ := q0) (l := [(59, (.bool false)), (64, (.bool (decide (x0.Def ≠ (-1))))), (65, (pt b2 4))]) ⟨hv59, hv64, hv65, trivial⟩]
    refine Ja rfl rfl rfl rfl h1n ?_
    refine Jlb [] (vi x0.Def) ti3 h1s rfl rfl rfl ?_
    exact J0 (J4 (Ext.refl _) h1s fun G13 ey => rfl)
   ·intro k0 q0 w5 G5 M0 h1q h1r e4 h1s h1t h1u h1v h1w h1x
    have h1_ : 0 < k0 := h1v 0 11 12 [16, 19] rfl (by kernel_rfl) rfl
    have h2_ : k0 ≤ 1 := h1q
    obtain rfl : k0 = 1 := by omega
    obtain ⟨hvs_, rfl⟩ := h1t G5 (Ext.refl _)
    have hv59 := (List.cons.inj hvs_).1
    obtain ⟨hd0_, _⟩ := h1x
    have hv64 := hd0_
    rw [J3 (ρ := q0) (l := [(8, (vi 0)), (59, (.bool false)), (64, (.bool (decide (x0.Def ≠ (-1)))))]) ⟨(h1u.1 8 (by decide)).trans rfl, hv59, hv64, trivial⟩]
    refine Ja rfl rfl rfl rfl h1n ?_
    refine Jmv (vi 0) rfl rfl ?_
    exact J0 (J4 (Ext.refl _) h1s fun G14 ez => rfl)
   ·intro k0 q0 w5 G5 M0 h1q h1r e4 h1s h1t h1u h1v h1w h1x
    have h1_ : 0 < k0 := h1v 0 11 12 [16, 20] rfl (by kernel_rfl) rfl
    have h2_ : k0 ≤ 1 := h1q
    obtain rfl : k0 = 1 := by omega
    obtain ⟨hvs_, rfl⟩ := h1t G5 (Ext.refl _)
    have hv59 := (List.cons.inj hvs_).1
    obtain ⟨hd0_, hd1_, hd2_, _⟩ := h1x
    have hv66 := hd0_
    have hv67 := hd1_
    have hv64 := hd2_
    rw [J3 (ρ := q0) (l := [(59, (.bool false)), (64, (.bool (decide (x0.Def ≠ (-1))))), (66, (vi x0.Def)), (67, (vi 0))]) ⟨hv59, hv64, hv66, hv67, trivial⟩]
    refine Ja rfl rfl rfl rfl h1n ?_
    refine Y1 rfl rfl rfl ?_
    exact J0 (J4 (Ext.refl _) h1s fun G15 e10 => rfl)
   ·intro k0 q0 w5 G5 M0 h1q h1r e4 h1s h1t h1u h1v h1w h1x
    have h1_ : 0 < k0 := h1v 0 11 12 [16, 21] rfl (by kernel_rfl) rfl
    have h2_ : k0 ≤ 1 := h1q
    obtain rfl : k0 = 1 := by omega
    obtain ⟨hvs_, rfl⟩ := h1t G5 (Ext.refl _)
    have hv59 := (List.cons.inj hvs_).1
    obtain ⟨hd0_, hd1_, hd2_, _⟩ := h1x
    have hv68 := hd0_
    have hv64 := hd1_
    rw [J3 (ρ := q0) (l := [(59, (.bool false)), (64, (.bool (decide (x0.Def ≠ (-1))))), (68, (.bool (decide (x0.Def ≠ 0))))]) ⟨hv59, hv64, hv68, trivial⟩]
    refine Ja rfl rfl rfl rfl h1n ?_
    refine Jmv (.bool (decide (x0.Def ≠ 0))) rfl rfl ?_
    exact J0 (J4 (Ext.refl _) h1s fun G16 e11 => rfl)
   ·intro k0 q0 w5 G5 M0 h1q h1r e4 h1s h1t h1u h1v h1w h1x
    have h1_ : 0 < k0 := h1v 0 11 12 [16, 21, 22] rfl (by kernel_rfl) rfl
    have h2_ : k0 ≤ 1 := h1q
    obtain rfl : k0 = 1 := by omega
    obtain ⟨hvs_, rfl⟩ := h1t G5 (Ext.refl _)
    have hv59 := (List.cons.inj hvs_).1
    obtain ⟨hd0_, _⟩ := h1x
    have hv69 := hd0_
    rw [J3 (ρ := q0) (l := [(8, (vi 0)), (59, (.bool false)), (69, (.bool (decide (x0.Def ≠ 0))))]) ⟨(h1u.1 8 (by decide)).trans rfl, hv59, hv69, trivial⟩]
    refine Ja rfl rfl rfl rfl h1o ?_
    refine Jmv (vi 0) rfl rfl ?_
    exact J0 (J4 (Ext.refl _) h1s fun G17 e12 => rfl)
   ·intro k0 q0 w5 G5 M0 h1q h1r e4 h1s h1t h1u h1v h1w h1x
    have h1_ : 0 < k0 := h1v 0 11 12 [16, 21, 23] rfl (by kernel_rfl) rfl
    have h2_ : k0 ≤ 1 := h1q
    obtain rfl : k0 = 1 := by omega
    obtain ⟨hvs_, rfl⟩ := h1t G5 (Ext.refl _)
    have hv59 := (List.cons.inj hvs_).1
    obtain ⟨hd0_, _⟩ := h1x
    have hv69 := hd0_
    rw [J3 (ρ := q0) (l := [(6, (vi t1)), (59, (.bool false)), (69, (.bool (decide (x0.Def ≠ 0))))]) ⟨(h1u.1 6 (by decide)).trans rfl, hv59, hv69, trivial⟩]
    refine Ja rfl rfl rfl rfl h1o ?_
    refine Jmv (vi t1) rfl rfl ?_
    exact J0 (J4 (Ext.refl _) h1s fun G18 e13 => rfl)
   ·intro k0 q0 w5 G5 M0 h1q h1r e4 h1s h1t h1u h1v h1w h1x
    have h1_ : 0 < k0 := h1v 0 11 12 [16, 21, 24] rfl (by kernel_rfl) rfl
    have h2_ : k0 ≤ 1 := h1q
    obtain rfl : k0 = 1 := by omega
    obtain ⟨hvs_, rfl⟩ := h1t G5 (Ext.refl _)
    have hv59 := (List.cons.inj hvs_).1
    obtain ⟨hd0_, hd1_, hd2_, _⟩ := h1x
    have hv70 := hd0_
    have hv71 := hd1_
    have hv69 := hd2_
    rw [J3 (ρ := q0) (l := [(59, (.bool false)), (69, (.bool (decide (x0.Def ≠ 0)))), (70, (vi 0)), (71, (vi t1))]) ⟨hv59, hv69, hv70, hv71, trivial⟩]
    refine Ja rfl rfl rfl rfl h1o ?_
    refine Yk rfl rfl rfl ?_
    exact J0 (J4 (Ext.refl _) h1s fun G19 e14 => rfl)
   ·intro k0 q0 w5 G5 M0 h1q h1r e4 h1s h1t h1u h1v h1w h1x
    have h1_ : 0 < k0 := h1v 0 11 12 [16, 25] rfl (by kernel_rfl) rfl
    have h2_ : k0 ≤ 1 := h1q
    obtain rfl : k0 = 1 := by omega
    obtain ⟨hvs_, rfl⟩ := h1t G5 (Ext.refl _)
    have hv59 := (List.cons.inj hvs_).1
    obtain ⟨hd0_, hd1_, hd2_, _⟩ := h1x
    have hv69 := hd0_
    have hv72 := hd1_
    have hv64 := hd2_
    rw [J3 (ρ := q0) (l := [(59, (.bool false)), (64, (.bool (decide (x0.Def ≠ (-1))))), (69, (.bool (decide (x0.Def ≠ 0)))), (72, (.bool (decide (0 ≥ t1))))]) ⟨hv59, hv64, hv69, hv72, trivial⟩]
    refine Ja rfl rfl rfl rfl h1n ?_
    refine Jt (v := (.bool (decide (0 ≥ t1)))) rfl rfl h1o rfl ?_
    exact J0 (J4 (Ext.refl _) h1s fun G1a e15 => rfl)
   ·intro k0 q0 w5 G5 M0 h1q h1r e4 h1s h1t h1u h1v h1w h1x
    have h1_ : 0 < k0 := h1v 0 11 12 [16, 26] rfl (by kernel_rfl) rfl
    have h2_ : k0 ≤ 1 := h1q
    obtain rfl : k0 = 1 := by omega
    obtain ⟨hvs_, rfl⟩ := h1t G5 (Ext.refl _)
    have hv59 := (List.cons.inj hvs_).1
    obtain ⟨hd0_, hd1_, _⟩ := h1x
    have hv64 := hd0_
    have hv73 := hd1_
    rw [J3 (ρ := q0) (l := [(59, (.bool false)), (64, (.bool (decide (x0.Def ≠ (-1))))), (73, (.bool (decide (0 ≥ t1))))]) ⟨hv59, hv64, hv73, trivial⟩]
    refine Y9 (v := (.bool (decide (0 ≥ t1)))) rfl rfl h1n rfl ?_
    exact J0 (J4 (Ext.refl _) h1s fun G1b e16 => rfl)
   ·intro k0 q0 w5 G5 M0 h1q h1r e4 h1s h1t h1u h1v h1w h1x
    have h1_ : 0 < k0 := h1v 0 11 12 [16, 26, 27] rfl (by kernel_rfl) rfl
    have h2_ : k0 ≤ 1 := h1q
    obtain rfl : k0 = 1 := by omega
    obtain ⟨hvs_, rfl⟩ := h1t G5 (Ext.refl _)
    have hv59 := (List.cons.inj hvs_).1
    obtain ⟨hd0_, hd1_, _⟩ := h1x
    have hv74 := hd0_
    rw [J3 (ρ := q0) (l := [(59, (.bool false)), (74, (.bool (decide (0 ≥ t1))))]) ⟨hv59, hv74, trivial⟩]
    refine J8 (f := 142) (av := [(.bool (decide (0 ≥ t1))), (vi 9)]) cf142 rfl rfl h1s rfl (fun G1c e17 h29 => object_when.ok h29 (by rfl) h1p) ?_
    rintro v8 wb G1d G1e N5 e18 q6 ⟨rfl, rfl⟩ h2a
    exact J0 (J4 e18 h2a fun G1f e19 => rfl)
   ·intro k0 q0 w5 G5 M0 h1q h1r e4 h1s h1t h1u h1v h1w h1x
    have h2_ : k0 ≤ 1 := h1q
    rcases (show k0 = 0 ∨ k0 = 1 from by omega) with rfl | rfl
    ·obtain ⟨hvs_, rfl⟩ := h1t G5 (Ext.refl _)
     rw [J3 (ρ := q0) (l := [(5, (pt b2 0))]) ⟨(h1u.1 5 (by decide)).trans rfl, trivial⟩]
     refine Jfa 1 1 underlying82 rfl ti4 rfl rfl rfl rfl ?_
     exact J0 (J4 (Ext.refl _) h1s fun G1g e1a => rfl)
    obtain ⟨hvs_, rfl⟩ := h1t G5 (Ext.refl _)
    have hv59 := (List.cons.inj hvs_).1
    rw [J3 (ρ := q0) (l := [(5, (pt b2 0)), (59, (.bool false))]) ⟨(h1u.1 5 (by decide)).trans rfl, hv59, trivial⟩]
    refine Jfa 1 1 underlying82 rfl ti4 rfl rfl rfl rfl ?_
    exact J0 (J4 (Ext.refl _) h1s fun G1g e1a => rfl)
   intro k0 q0 w5 G5 M0 h1q h1r e4 h1s h1t h1u h1v h1w h1x
   have h2_ : k0 ≤ 1 := h1q
   rcases (show k0 = 0 ∨ k0 = 1 from by omega) with rfl | rfl
   ·obtain ⟨hvs_, rfl⟩ := h1t G5 (Ext.refl _)
    obtain ⟨hd0_, _⟩ := h1x
    have hv76 := hd0_
    rw [J3 (ρ := q0) (l := [(76, (pt b2 1))]) ⟨hv76, trivial⟩]
    refine Jlb [_] (.bool x0.Local) ti4 h1s rfl rfl rfl ?_
    exact J0 (J4 (Ext.refl _) h1s fun G1h e1b => rfl)
   obtain ⟨hvs_, rfl⟩ := h1t G5 (Ext.refl _)
   have hv59 := (List.cons.inj hvs_).1
   obtain ⟨hd0_, _⟩ := h1x
   have hv76 := hd0_
   rw [J3 (ρ := q0) (l := [(59, (.bool false)), (76, (pt b2 1))]) ⟨hv59, hv76, trivial⟩]
   refine Jlb [] (.bool x0.Local) ti4 h1s rfl rfl rfl ?_
   exact J0 (J4 (Ext.refl _) h1s fun G1h e1b => rfl)
  intro q0 w5 G5 M0 e4 h1s h1t h1u h1x
  obtain ⟨hvs_, rfl⟩ := h1t
  have hv50 := h1x 2 (by decide)
  have hv53 := h1x 5 (by decide)
  have hv60 := h1x 12 (by decide)
  have hv75 := h1x 27 (by decide)
  have hv77 := h1x 29 (by decide)
  rw [J3 (ρ := q0) (l := [(5, (pt b2 0)), (50, (vi 0)), (53, (vi 0)), (60, (vi 0)), (75, (vi 0)), (77, (.bool x0.Local))]) ⟨(h1u.1 5 (by decide)).trans rfl, hv50, hv53, hv60, hv75, hv77, trivial⟩]
  refine Jmv (.bool x0.Local) rfl rfl ?_
  obtain ⟨t9, hr, o4⟩ := J6 hr
  refine Jw 4 (fun ρ w => ∃ (σ4 : Env) (G1i : GH), ρ = En σ4 [(50, (vi 0)), (53, (vi 0)), (60, (vi 0)), (75, (vi 0)), (82, (.bool t9))] ∧ Ext G5 G1i ∧ St B w G1i []) ?_ ?_
  ·rcases Y8 (x0.Local) with hb_ | hb_
   ·have h2b : (x0.Local) = true := hb_
    replace hr := Jx hr h2b
    refine Ja rfl rfl rfl rfl h2b ?_
    refine Jfa 4 4 underlying82 rfl ti3 rfl rfl rfl rfl ?_
    refine Ja rfl rfl rfl rfl h2b ?_
    refine Jlb [] (vi x0.Def) ti3 h1s rfl rfl rfl ?_
    refine Ja rfl rfl rfl rfl h2b ?_
    refine Y3 rfl rfl rfl ?_
    refine Y9 (v := (.bool (decide (x0.Def = (-1))))) rfl rfl h2b rfl ?_
    refine J0 ?_
    have h2c := St.takeN 0 h1s
    obtain rfl := Option.some.inj hr
    exact ⟨_, _, (J3 ⟨rfl, rfl, rfl, rfl, rfl, trivial⟩), (Ext.refl _), h2c⟩
   have h2d : (x0.Local) = false := hb_
   replace hr := Jf hr h2d
   refine Jv rfl rfl rfl rfl h2d ?_
   refine Jv rfl rfl rfl rfl h2d ?_
   refine Jv rfl rfl rfl rfl h2d ?_
   refine Jt (v := (.bool false)) rfl rfl h2d rfl ?_
   refine J0 ?_
   have h2e := St.takeN 0 h1s
   obtain rfl := Option.some.inj hr
   exact ⟨_, _, (J3 ⟨rfl, rfl, rfl, rfl, rfl, trivial⟩), (Ext.refl _), h2e⟩
  rintro _ _ ⟨σ4, G1i, rfl, e1c, h2f⟩
  replace hr := o4
  obtain ⟨ta, h2g, hr⟩ := J6 hr
  refine J8 (f := 142) (av := [(.bool t9), (vi 13)]) cf142 rfl rfl h2f rfl (fun G1j e1d h2h => object_when.ok h2h (by rfl) h2g) ?_
  rintro v9 wc G1k G1l N6 e1e q7 ⟨rfl, rfl⟩ h2i
  refine Jj (cells := [(vi 0), (vi 0), (vi 0), (vi 0), (vi 0)]) underlying240 ti29 h2i rfl rfl rfl rfl rfl (by kernel_rfl) ?_
  intro va wd h2j ff
  have E0 : EAll (tInt .i64) G1l [(vi 0), (vi 0), (vi 0), (vi 0), (vi 0)] [0, 0, 0, 0, 0] := ⟨_, _, rfl, ⟨rfl, rfl⟩, ⟨_, _, rfl, ⟨rfl, rfl⟩, ⟨_, _, rfl, ⟨rfl, rfl⟩, ⟨_, _, rfl, ⟨rfl, rfl⟩, ⟨_, _, rfl, ⟨rfl, rfl⟩, rfl⟩⟩⟩⟩⟩
  obtain ⟨G1m, h2k, e1f, fg⟩ := St.rowRep (l1 := []) (T := (tInt .i64)) (xs := [0, 0, 0, 0, 0]) h2j E0 rfl (by decide)
  obtain ⟨tb, h2l, hr⟩ := J6 hr
  refine J8 (f := 140) (av := [va]) cf140 rfl rfl h2k rfl (fun G1n e1g h2m => object_first.ok h2m (SRep.mono e1g.ro fg) h2l) ?_
  rintro vc we G1o G1p N7 e1h q8 ⟨rfl, rfl⟩ h2n
  refine Jsv (vi 0) rfl rfl ?_
  refine J0 (Jg ?_)
  obtain rfl := Option.some.inj hr
  exact ⟨[(vi 0)], ⟨rfl, trivial⟩, _, _, _, rfl, (e0.trans (e3.trans (e4.trans (e1c.trans (e1e.trans (e1f.trans e1h)))))), h2n, ⟨rfl, rfl⟩⟩
 exact Yo hr hb_
def object_Check_1.f (a0 : Int) (a1_ : XObject) : Option (Unit) :=
 (object_symbol.f a1_ a0).bind fun t0 => some ()
def object_Check_1.K (ba1 : Nat) (a1_ : XObject) (r : Unit) (G16 : GH) (v : Value) (N : List Res) : Prop := ∃ (v20 : Value) (v22 : Value) (v24 : Value), v = tup [(vi 0)] ∧ N = [.blk ba1 [v20, v22, v24] 61] ∧ SRep 82 TSymbol G16 v20 a1_.Symbols ∧ SRep 44 TFunc G16 v22 a1_.Funcs ∧ SRep 49 TData G16 v24 a1_.Datas
theorem object_Check_1.ok {a0 : Int} {ba1 : Nat} {ca1_ : List Value} {a1_ : XObject} (st : St B w G [.blk ba1 ca1_ 61]) (ha0 : InK .i64 a0) (ha1_ : TObject.rep G ca1_ a1_) {r : Unit} (hr : object_Check_1.f a0 a1_ = some r) :
 Calls Tryz.prog 82 ([(vi a0), (pt ba1 0)] : List Value).toArray w (Ret B G (object_Check_1.K ba1 a1_ r)) := by
 obtain ⟨sa1__0, sa1__1, sa1__2, rfl, ha1__0, ha1__1, ha1__2⟩ := ha1_
 refine Jc [.tmp 3] func82 rfl ntmps82 rfl rfl ?_
 refine J2 (J1 ?_)
 refine Jsv (vi 0) rfl rfl ?_
 refine J0 (J2 (J1 ?_))
 refine Jl (l1 := []) (vs := [sa1__0, sa1__1, sa1__2]) ti61 st rfl rfl rfl rfl ?_
 refine Jmv (vi a0) rfl rfl ?_
 obtain ⟨t0, h0, hr⟩ := J6 hr
 refine J8 (f := 83) (av := [(.agg #[sa1__0, sa1__1, sa1__2]), (vi a0)]) cf83 rfl rfl st rfl (fun G0 e0 h1 => object_symbol.ok (a0 := a1_) h1 (⟨sa1__0, sa1__1, sa1__2, rfl, (SRep.mono e0.ro ha1__0), (SRep.mono e0.ro ha1__1), (SRep.mono e0.ro ha1__2)⟩) ha0 h0) ?_
 rintro v0 w0 G1 G2 N0 e1 q0 ⟨rfl, rfl⟩ h2
 refine Jsv (vi 0) rfl rfl ?_
 refine J0 (Jg ?_)
 obtain rfl := Option.some.inj hr
 exact ⟨[(vi 0)], ⟨rfl, trivial⟩, _, _, _, rfl, e1, h2, ⟨sa1__0, sa1__1, sa1__2, rfl, rfl, (SRep.mono e1.ro ha1__0), (SRep.mono e1.ro ha1__1), (SRep.mono e1.ro ha1__2)⟩⟩
def api_Symbol_187_s2.l0 (a0 : (List XSymbol)) (a1_c1_0 : Int) (s0 : ((List XSymbol) × (List XFunc) × (List XData) × Nat)) : Option (Step ((List XSymbol) × (List XFunc) × (List XData) × Nat) (Empty ⊕ (Int × (List XSymbol) × (List XFunc) × (List XData)))) :=
 bif decide (((s0.2.2.2 : Nat) : Int) < (a0.length : Int)) then (idx a0 ((s0.2.2.2 : Nat) : Int)).bind fun x0 => (object_Definer_1.f x0 ({ Symbols := s0.1, Funcs := s0.2.1, Datas := s0.2.2.1 } : XObject) a1_c1_0).bind fun t0 => bif t0 then some (.done (.inr (((s0.2.2.2 : Nat) : Int), s0.1, s0.2.1, s0.2.2.1))) else some (.next (s0.1, s0.2.1, s0.2.2.1, s0.2.2.2 + 1)) else none
def api_Symbol_187_s2.f (a0 : (List XSymbol)) (a1_c0_ : XObject) (a1_c1_0 : Int) : Option ((Int × (List XSymbol) × (List XFunc) × (List XData))) :=
 (loop (api_Symbol_187_s2.l0 a0 a1_c1_0) (a1_c0_.Symbols, a1_c0_.Funcs, a1_c0_.Datas, 0)).bind fun t1 => cont t1 fun t2 => none
def api_Symbol_187_s2.K (ba1_c0 : Nat) (ba1_c1 : Nat) (a1_c1_0 : Int) (r : (Int × (List XSymbol) × (List XFunc) × (List XData))) (G0 : GH) (v : Value) (N : List Res) : Prop := ∃ (v0 : Value) (v1 : Value) (v2 : Value), v = tup [(vi r.1)] ∧ N = [.blk ba1_c0 [v0, v1, v2] 61, .blk ba1_c1 [(vi a1_c1_0)] 3] ∧ InK .i64 r.1 ∧ SRep 82 TSymbol G0 v0 r.2.1 ∧ SRep 44 TFunc G0 v1 r.2.2.1 ∧ SRep 49 TData G0 v2 r.2.2.2
theorem api_Symbol_187_s2.ok {va0 : Value} {a0 : (List XSymbol)} {ba1_c0 : Nat} {ca1_c0_ : List Value} {a1_c0_ : XObject} {ba1_c1 : Nat} {a1_c1_0 : Int} (st : St B w G [.blk ba1_c0 ca1_c0_ 61, .blk ba1_c1 [(vi a1_c1_0)] 3]) (ha0 : SRep 82 TSymbol G va0 a0) (ha1_c0_ : TObject.rep G ca1_c0_ a1_c0_) (ha1_c1_0 : InK .i64 a1_c1_0) {r : (Int × (List XSymbol) × (List XFunc) × (List XData))} (hr : api_Symbol_187_s2.f a0 a1_c0_ a1_c1_0 = some r) :
 Calls Tryz.prog 187 ([va0, (.func (.func 188) #[] #[(pt ba1_c0 0), (pt ba1_c1 0)])] : List Value).toArray w (Ret B G (api_Symbol_187_s2.K ba1_c0 ba1_c1 a1_c1_0 r)) := by
 obtain ⟨sa1_c0__0, sa1_c0__1, sa1_c0__2, rfl, ha1_c0__0, ha1_c0__1, ha1_c0__2⟩ := ha1_c0_
 refine Jc [.tmp 4] func187 rfl ntmps187 rfl rfl ?_
 refine J2 (J1 ?_)
 refine Jsv (vi 0) rfl rfl ?_
 refine J0 (J2 (J2 (J1 ?_)))
 refine Jmv va0 rfl rfl ?_
 refine Jd (T := TSymbol) underlying57 ha0 rfl rfl ?_
 refine Jmv (vi 0) rfl rfl ?_
 refine J0 (Jb ?_)
 obtain ⟨t1, h0, hr⟩ := J6 hr
 have h1 := St.pick 1 rfl st
 have h2 := St.pick 1 rfl h1
 refine W_loopS (a0 := r) 0 h0 (fun s0 ρ w => ∃ (σ0 : Env) (G1 : GH) (v3 : Value) (v4 : Value) (v5 : Value), ρ = En σ0 [(0, va0), (1, (.func (.func 188) #[] #[(pt ba1_c0 0), (pt ba1_c1 0)])), (7, (vi (a0.length : Int))), (8, (vi ((s0.2.2.2 : Nat) : Int)))] ∧ Ext G G1 ∧ St B w G1 [.blk ba1_c0 [v3, v4, v5] 61, .blk ba1_c1 [(vi a1_c1_0)] 3] ∧ SRep 82 TSymbol G1 v3 s0.1 ∧ SRep 44 TFunc G1 v4 s0.2.1 ∧ SRep 49 TData G1 v5 s0.2.2.1 ∧ InK .i64 ((s0.2.2.2 : Nat) : Int)) (fun (_ : Empty) ρ w => False) ⟨_, _, sa1_c0__0, sa1_c0__1, sa1_c0__2, (J3 ⟨rfl, rfl, rfl, rfl, trivial⟩), (Ext.refl _), h2, ha1_c0__0, ha1_c0__1, ha1_c0__2, (by rfl)⟩ ?_ ?_ ?_
 ·rintro s0 x1 _ _ hr ⟨σ0, G1, v3, v4, v5, rfl, e0, h3, f0, f1, f2, f3⟩
  refine J2 (J1 ?_)
  refine Ji rfl rfl rfl ?_
  refine J0 (J2 ?_)
  refine J7 rfl (fun h4 => ?_) (fun h4 => ?_)
  ·replace hr := Jx hr h4
   refine J9 (J2 (Jb (J2 (J1 ?_))))
   refine Jmv (vi ((s0.2.2.2 : Nat) : Int)) rfl rfl ?_
   refine Jsv (vi ((s0.2.2.2 : Nat) : Int)) rfl rfl ?_
   refine J0 (J2 (J1 ?_))
   refine Jmv (.func (.func 188) #[] #[(pt ba1_c0 0), (pt ba1_c1 0)]) rfl rfl ?_
   refine Jmv va0 rfl rfl ?_
   refine Jmv (vi ((s0.2.2.2 : Nat) : Int)) rfl rfl ?_
   obtain ⟨x0, h5, hr⟩ := J6 hr
   refine Jh (T := TSymbol) underlying57 ti82 h3 (SRep.mono e0.ro ha0) rfl rfl rfl h5 ?_
   intro b0 o0 c0 l3 f4
   obtain ⟨rfl, f5, f6, f7, f8⟩ := f4
   refine Jy ti82 rfl rfl (LiesG.lies l3 h3) (Nat.le_of_ble_eq_true rfl) ?_
   change WL _ _ _ _ _ _ (upd _ _ (.agg #[(.string x0.Name), (.bool x0.Local), (vi x0.Sort_), (vi x0.Kind), (vi x0.Def)])) _
   have h6 := St.pick 1 rfl h3
   have h7 := St.pick 1 rfl h6
   obtain ⟨t0, h8, hr⟩ := J6 hr
   refine Y6 (f := 188) (av := [(.agg #[(.string x0.Name), (.bool x0.Local), (vi x0.Sort_), (vi x0.Kind), (vi x0.Def)]), (pt ba1_c0 0), (pt ba1_c1 0)]) cf188 rfl rfl h7 rfl (fun G2 e1 h9 => object_Definer_1.ok (a0 := x0) (a1_ := ({ Symbols := s0.1, Funcs := s0.2.1, Datas := s0.2.2.1 } : XObject)) h9 (⟨rfl, f5, f6, f7, f8⟩) (⟨v3, v4, v5, rfl, (SRep.mono e1.ro f0), (SRep.mono e1.ro f1), (SRep.mono e1.ro f2)⟩) ha1_c1_0 h8) ?_
   rintro v6 w0 G3 G4 N0 e2 q0 ⟨v7, v8, v9, rfl, rfl, f9, fa, fb⟩ h10
   refine J0 ?_
   refine J7 rfl (fun h11 => ?_) (fun h11 => ?_)
   ·replace hr := Jx hr h11
    refine J2 (J1 ?_)
    refine Jmv (vi ((s0.2.2.2 : Nat) : Int)) rfl rfl ?_
    refine Jsv (vi ((s0.2.2.2 : Nat) : Int)) rfl rfl ?_
    refine J0 (Jg ?_)
    refine ⟨_, (Option.some.inj hr).symm, fun h12 => ?_⟩
    replace hr := congrArg some h12
    have h13 := St.pick 1 rfl h10
    have h14 := St.pick 1 rfl h13
    obtain rfl := Option.some.inj hr
    exact ⟨[(vi ((s0.2.2.2 : Nat) : Int))], ⟨rfl, trivial⟩, _, _, _, rfl, (e0.trans e2), h14, ⟨v7, v8, v9, rfl, rfl, f3, (SRep.mono q0 f9), (SRep.mono q0 fa), (SRep.mono q0 fb)⟩⟩
   replace hr := Jf hr h11
   refine J9 (J1 ?_)
   refine Y2 rfl rfl rfl (of_decide_eq_true h4) (inK_len (SRep.le ha0)) ?_
   refine Jmv (vi ((s0.2.2.2 + 1 : Nat) : Int)) rfl rfl ?_
   refine J0 ?_
   have h15 := St.pick 1 rfl h10
   have h16 := St.pick 1 rfl h15
   exact ⟨_, (Option.some.inj hr).symm, _, _, v7, v8, v9, (J3 ⟨rfl, rfl, rfl, rfl, trivial⟩), (e0.trans e2), h16, (SRep.mono q0 f9), (SRep.mono q0 fa), (SRep.mono q0 fb), (inK_inc (of_decide_eq_true h4) (inK_len (SRep.le ha0)))⟩
  exact Yo hr h4
 ·intro t; exact t.elim
 rintro a rfl; exact Option.some.inj hr
def object_Definer.f (a0 : XObject) (a1 : Int) : Option (Int) :=
 (api_Symbol_187_s2.f a0.Symbols a0 a1).bind fun t0 => some t0.1
def object_Definer.K (r : Int) (G32 : GH) (v : Value) (N : List Res) : Prop := v = tup [(vi r)] ∧ N = [] ∧ InK .i64 r
theorem object_Definer.ok {ca0 : List Value} {a0 : XObject} {a1 : Int} (st : St B w G []) (ha0 : TObject.rep G ca0 a0) (ha1 : InK .i64 a1) {r : Int} (hr : object_Definer.f a0 a1 = some r) :
 Calls Tryz.prog 145 ([(.agg ca0.toArray), (vi a1)] : List Value).toArray w (Ret B G (object_Definer.K r)) := by
 obtain ⟨sa0_0, sa0_1, sa0_2, rfl, ha0_0, ha0_1, ha0_2⟩ := ha0
 refine Jc [.tmp 4] func145 rfl ntmps145 rfl rfl ?_
 refine J2 (J1 ?_)
 refine Ju (cs := [sa0_0, sa0_1, sa0_2]) st rfl rfl rfl ?_
 intro b0 w0 h0
 refine Ju (cs := [(vi a1)]) h0 rfl rfl rfl ?_
 intro b1 w1 h1
 refine Jsv (vi 0) rfl rfl ?_
 refine J0 (J2 (J1 ?_))
 refine Jfa 0 0 underlying61 rfl ti57 rfl rfl rfl rfl ?_
 refine Jlb [_] sa0_0 ti57 h1 rfl rfl rfl ?_
 refine Yg (fs := []) (cs := [(pt b0 0), (pt b1 0)]) rfl rfl rfl ?_
 have h2 := St.pick 1 rfl h1
 obtain ⟨t0, h3, hr⟩ := J6 hr
 refine Y6 (f := 187) (av := [sa0_0, (.func (.func 188) #[] #[(pt b0 0), (pt b1 0)])]) cf187 rfl rfl h2 rfl (fun G0 e0 h4 => api_Symbol_187_s2.ok (a1_c0_ := a0) h4 (SRep.mono e0.ro ha0_0) (⟨sa0_0, sa0_1, sa0_2, rfl, (SRep.mono e0.ro ha0_0), (SRep.mono e0.ro ha0_1), (SRep.mono e0.ro ha0_2)⟩) ha1 h3) ?_
 rintro v0 w2 G1 G2 N0 e1 q0 ⟨v1, v2, v3, rfl, rfl, f0, f1, f2, f3⟩ h5
 refine Jsv (vi t0.1) rfl rfl ?_
 refine J0 (Jg ?_)
 have h6 := St.takeN 0 h5
 obtain rfl := Option.some.inj hr
 exact ⟨[(vi t0.1)], ⟨rfl, trivial⟩, _, _, _, rfl, e1, h6, ⟨rfl, rfl, f0⟩⟩
def flow_After.l0 (a1 : (List Int)) (s0 : Unit) : Option (Step Unit Unit) :=
 bif decide (0 < (a1.length : Int)) then none else some (.done ())
def flow_After.f (a0 : (List XInstr)) (a1 : (List Int)) : Option ((List Bool)) :=
 (loop (flow_After.l0 a1) ()).bind fun t0 => (flow_graph.f a0).bind fun t1 => (digraph_Reach.f t1 []).bind fun t2 => some t2
def flow_After.K (r : (List Bool)) (G75 : GH) (v : Value) (N : List Res) : Prop := ∃ (v79 : Value) (c80 : List Value), v = tup [v79] ∧ N = [.row v79 4 1 r.length c80] ∧ EAll tBool G75 c80 r ∧ r.length ≤ SB
theorem flow_After.ok {va0 : Value} {a0 : (List XInstr)} {va1 : Value} {a1 : (List Int)} (st : St B w G []) (ha0 : SRep 54 TInstr G va0 a0) (ha1 : SRep 3 (tInt .i64) G va1 a1) {r : (List Bool)} (hr : flow_After.f a0 a1 = some r) :
 Calls Tryz.prog 228 ([va0, va1] : List Value).toArray w (Ret B G (flow_After.K r)) := by
 refine Jc [.tmp 4] func228 rfl ntmps228 rfl rfl ?_
 refine J2 (J1 ?_)
 refine Jsv (.slice none 0 0) rfl rfl ?_
 refine J0 (J2 (J1 ?_))
 refine Jsv (.slice none 0 0) rfl rfl ?_
 refine J0 (J2 (J2 (J1 ?_)))
 refine Jmv va1 rfl rfl ?_
 refine Jd (T := (tInt .i64)) underlying39 ha1 rfl rfl ?_
 refine Jmv (vi 0) rfl rfl ?_
 refine J0 (Jb ?_)
 obtain ⟨t0, h0, hr⟩ := J6 hr
 refine Js 0 h0 (fun s0 ρ w => ∃ (σ0 : Env) (G0 : GH), ρ = En σ0 [(0, va0), (5, (.slice none 0 0)), (8, va1), (9, (vi (a1.length : Int))), (10, (vi 0))] ∧ Ext G G0 ∧ St B w G0 []) (fun t3 ρ w => ∃ (σ1 : Env) (G1 : GH), ρ = En σ1 [(0, va0), (5, (.slice none 0 0))] ∧ Ext G G1 ∧ St B w G1 []) ⟨_, _, (J3 ⟨rfl, rfl, rfl, rfl, rfl, trivial⟩), (Ext.refl _), st⟩ ?_ ?_
 ·rintro s0 x0 _ _ hr ⟨σ0, G0, rfl, e0, h1⟩
  refine J2 (J1 ?_)
  refine Ji rfl rfl rfl ?_
  refine J0 (J2 ?_)
  refine J7 rfl (fun h2 => ?_) (fun h2 => ?_)
  ·exact Jk hr h2
  replace hr := Jf hr h2
  refine Jr ?_
  exact ⟨_, (Option.some.inj hr).symm, rfl, _, _, (J3 ⟨rfl, rfl, trivial⟩), e0, h1⟩
 rintro _ _ ⟨σ1, G1, rfl, e1, h3⟩
 refine J2 (J1 ?_)
 refine Jmv va0 rfl rfl ?_
 obtain ⟨t1, h4, hr⟩ := J6 hr
 refine J8 (f := 254) (av := [va0]) cf254 rfl rfl h3 rfl (fun G2 e2 h5 => flow_graph.ok h5 (SRep.mono (e1.ro.trans e2.ro) ha0) h4) ?_
 rintro v0 w0 G3 G4 N0 e3 q0 ⟨_, c0, rfl, rfl, f0, f1⟩ h6
 refine Jmv (.slice none 0 0) rfl rfl ?_
 obtain ⟨G5, h7, e4, f2⟩ := St.rowRep (l1 := []) (T := (tSlice 3 (tInt .i64))) (xs := t1) h6 (EAll.mono q0 f0) rfl f1
 obtain ⟨t2, h8, hr⟩ := J6 hr
 refine J8 (f := 253) (av := [v0, (.slice none 0 0)]) cf253 rfl rfl h7 rfl (fun G6 e5 h9 => digraph_Reach.ok h9 (SRep.mono e5.ro f2) SRep.nil h8) ?_
 rintro v1 w1 G7 G8 N1 e6 q1 ⟨_, c1, rfl, rfl, f3, f4⟩ h10
 refine Jsv v1 rfl rfl ?_
 refine J0 (Jg ?_)
 obtain rfl := Option.some.inj hr
 exact ⟨[v1], ⟨rfl, trivial⟩, _, _, _, rfl, (e1.trans (e3.trans (e4.trans e6))), h10, ⟨v1, c1, rfl, rfl, (EAll.mono q1 f3), f4⟩⟩
def ranges_pending_1.E (G0 : GH) (vs_ : List Value) (x_ : Int) : Prop := vs_ = [(vi x_)] ∧ InK .i64 x_
theorem ranges_pending_1.Elen : ∀ G vs x, ranges_pending_1.E G vs x → vs.length = 1 := by rintro _ _ x_ ⟨rfl, f0⟩; rfl
def ranges_pending_1.l0 (Z : Type) (step_ : Z → Int → Option Z) (go_ : Z → Bool) (t0 : (List Bool)) (s0 : (Nat × Z)) : Option (Step (Nat × Z) (Z ⊕ Z)) :=
 bif decide (((s0.1 : Nat) : Int) < (t0.length : Int)) then (idx t0 ((s0.1 : Nat) : Int)).bind fun x0 => (bif x0 then (step_ s0.2 ((s0.1 : Nat) : Int)).bind fun z0 => some (!(go_ z0), z0) else some (false, s0.2)).bind fun t1 => bif t1.1 then some (.done (.inr t1.2)) else some (.next (s0.1 + 1, t1.2)) else some (.done (.inl s0.2))
def ranges_pending_1.it (a0_ : (List XInstr)) (Z : Type) (step_ : Z → Int → Option Z) (go_ : Z → Bool) (z_ : Z) : Option Z :=
 (ranges_Marks.f a0_).bind fun t2 => (flow_After.f a0_ []).bind fun t0 => (loop (ranges_pending_1.l0 Z step_ go_ t0) (0, z_)).bind fun t3 => cont t3 fun t4 => some t4
theorem ranges_pending_1.itok {B : World} {G0_ : GH} {ba0 : Nat} {oa0 : Nat} {va0_ : Value} {a0_ : (List XInstr)} (ha0_ : SRep 54 TInstr G0_ va0_ a0_) (ha0 : LiesG G0_ ba0 oa0 [va0_]) :
 It Tryz.prog B 227 [(pt ba0 oa0)] G0_ ranges_pending_1.E (fun Z step_ go_ z_ => ranges_pending_1.it a0_ Z step_ go_ z_) := by
 intro Z step_ go_ J_ l_ Gb_ hGb_ hJ_ hy_ z_ r w G N_ hr heb_ hz_ st
 replace ha0_ := SRep.mono (hGb_.trans heb_).ro ha0_
 replace ha0 := LiesG.mono (hGb_.trans heb_).ro ha0
 refine Jc [] func227 rfl ntmps227 rfl rfl ?_
 refine J2 ?_
 obtain ⟨t2, h0, hr⟩ := J6 hr
 obtain ⟨t0, h1, hr⟩ := J6 hr
 refine Ym 6 [some 5, some 6, some 7, some 8, some 9, some 10] [3] [Kind.q, Kind.q, Kind.q, Kind.c 0, Kind.q, Kind.q] (pkT [(fun vs_ G_ M_ => vs_ = [] ∧ M_ = ([] ++ N_)), (fun vs_ G_ M_ => ∃ (v0 : Value) (c0 : List Value), vs_ = [v0] ∧ M_ = (.row v0 4 1 t0.length c0 :: N_) ∧ EAll tBool G_ c0 t0 ∧ t0.length = t0.length ∧ t0.length ≤ SB)]) (pk [(fun G_ v_ => v_ = va0_), (fun G_ v_ => v_ = va0_), (fun G_ v_ => v_ = (.slice none 0 0)), (fun _ _ => True), (fun G_ v_ => v_ = (vi (t0.length : Int)) ∧ InK .i64 (t0.length : Int)), (fun G_ v_ => v_ = (vi 0))]) rfl (by kernel_rfl) rfl (by kernel_rfl) [] (by kernel_rfl) rfl st (fun _ _ => ⟨rfl, rfl⟩) ?_ ?_
 ·refine Each2.cons ?_ (Each2.cons ?_ (Each2.cons ?_ (Each2.cons ?_ (Each2.cons ?_ (Each2.cons ?_ Each2.nil)))))
  ·intro k0 q0 w0 G1 M0 h2 h3 e0 h4 h5 h6 h7 h8 h9
   have h2_ : k0 ≤ 0 := h8 0 3 [3] rfl (by kernel_rfl) rfl
   obtain rfl : k0 = 0 := by omega
   obtain ⟨hvs_, rfl⟩ := h5 G1 (Ext.refl _)
   rw [J3 (ρ := q0) (l := [(1, (pt ba0 oa0))]) ⟨(h6.1 1 (by decide)).trans rfl, trivial⟩]
   refine Y4 (v := va0_) ti41 rfl rfl (LiesG.lies (LiesG.mono e0.ro ha0) h4) rfl ?_
   exact J0 (J4 (Ext.refl _) h4 fun G2 e1 => rfl)
  ·intro k0 q0 w0 G1 M0 h2 h3 e0 h4 h5 h6 h7 h8 h9
   have h2_ : k0 ≤ 0 := h8 0 3 [2, 3] rfl (by kernel_rfl) rfl
   obtain rfl : k0 = 0 := by omega
   obtain ⟨hvs_, rfl⟩ := h5 G1 (Ext.refl _)
   rw [J3 (ρ := q0) (l := [(1, (pt ba0 oa0))]) ⟨(h6.1 1 (by decide)).trans rfl, trivial⟩]
   refine Y4 (v := va0_) ti41 rfl rfl (LiesG.lies (LiesG.mono e0.ro ha0) h4) rfl ?_
   exact J0 (J4 (Ext.refl _) h4 fun G3 e2 => rfl)
  ·intro k0 q0 w0 G1 M0 h2 h3 e0 h4 h5 h6 h7 h8 h9
   have h2_ : k0 ≤ 0 := h8 0 3 [3] rfl (by kernel_rfl) rfl
   obtain rfl : k0 = 0 := by omega
   obtain ⟨hvs_, rfl⟩ := h5 G1 (Ext.refl _)
   obtain ⟨hd0_, _⟩ := h9
   have hv6 := hd0_
   rw [J3 (ρ := q0) (l := [(6, va0_)]) ⟨hv6, trivial⟩]
   refine J8 (f := 229) (av := [va0_]) cf229 rfl rfl h4 rfl (fun G4 e3 h10 => ranges_Marks.ok h10 (SRep.mono (e0.ro.trans e3.ro) ha0_) h0) ?_
   rintro v1 w1 G5 G6 N0 e4 q1 ⟨rfl, rfl⟩ h11
   exact J0 (J4 e4 h11 fun G7 e5 => rfl)
  ·intro k0 q0 w0 G1 M0 h2 h3 e0 h4 h5 h6 h7 h8 h9
   obtain rfl : k0 = 0 := h3
   obtain ⟨hvs_, rfl⟩ := h5 G1 (Ext.refl _)
   obtain ⟨hd0_, hd1_, hd2_, _⟩ := h9
   have hv5 := hd0_
   have hv7 := hd1_
   rw [J3 (ρ := q0) (l := [(5, va0_), (7, (.slice none 0 0))]) ⟨hv5, hv7, trivial⟩]
   refine J8 (f := 228) (av := [va0_, (.slice none 0 0)]) cf228 rfl rfl h4 rfl (fun G8 e6 h12 => flow_After.ok h12 (SRep.mono (e0.ro.trans e6.ro) ha0_) SRep.nil h1) ?_
   rintro v2 w2 G9 Ga N1 e7 q2 ⟨_, c1, rfl, rfl, f1, f2⟩ h13
   exact J0 (Yi e7 h13 fun Gb e8 => ⟨⟨v2, c1, rfl, rfl, (EAll.mono e8.ro (EAll.mono q2 f1)), (by rfl), f2⟩, trivial⟩)
  ·intro k0 q0 w0 G1 M0 h2 h3 e0 h4 h5 h6 h7 h8 h9
   have h1_ : 0 < k0 := h7 0 3 4 [] rfl (by kernel_rfl) rfl
   have h2_ : k0 ≤ 1 := h2
   obtain rfl : k0 = 1 := by omega
   obtain ⟨v0, c0, hvs_, rfl, f3, f4, f5⟩ := h5 G1 (Ext.refl _)
   have hv8 := (List.cons.inj hvs_).1
   rw [J3 (ρ := q0) (l := [(8, v0)]) ⟨hv8, trivial⟩]
   refine WL_lenOwn (l1 := []) underlying259 h4 rfl rfl ?_
   exact J0 (J4 (Ext.refl _) h4 fun Gc e9 => ⟨rfl, (inK_row f4 f5)⟩)
  intro k0 q0 w0 G1 M0 h2 h3 e0 h4 h5 h6 h7 h8 h9
  have h2_ : k0 ≤ 1 := h2
  rcases (show k0 = 0 ∨ k0 = 1 from by omega) with rfl | rfl
  ·obtain ⟨hvs_, rfl⟩ := h5 G1 (Ext.refl _)
   refine Jmv (vi 0) rfl rfl ?_
   exact J0 (J4 (Ext.refl _) h4 fun Gd ea => rfl)
  obtain ⟨v0, c0, hvs_, rfl, f3, f4, f5⟩ := h5 G1 (Ext.refl _)
  have hv8 := (List.cons.inj hvs_).1
  rw [J3 (ρ := q0) (l := [(8, v0)]) ⟨hv8, trivial⟩]
  refine Jmv (vi 0) rfl rfl ?_
  exact J0 (J4 (Ext.refl _) h4 fun Gd ea => rfl)
 intro q0 w0 G1 M0 e0 h4 h5 h6 h9
 obtain ⟨v0, c0, hvs_, rfl, f3, f4, f5⟩ := h5
 have hv8 := (List.cons.inj hvs_).1
 obtain ⟨hv9, f6⟩ := h9 4 (by decide)
 have hv10 := h9 5 (by decide)
 rw [J3 (ρ := q0) (l := [(0, (.func (.yield l_) #[] #[])), (8, v0), (9, (vi (t0.length : Int))), (10, (vi 0))]) ⟨(h6.1 0 (by decide)).trans rfl, hv8, hv9, hv10, trivial⟩]
 refine J0 (Jb ?_)
 obtain ⟨t3, h14, hr⟩ := J6 hr
 refine W_loopS (a0 := r) 0 h14 (fun s0 ρ w => ∃ (σ0 : Env) (Ge : GH) (N2 : List Res), ρ = En σ0 [(0, (.func (.yield l_) #[] #[])), (8, v0), (9, (vi (t0.length : Int))), (10, (vi ((s0.1 : Nat) : Int)))] ∧ Ext G1 Ge ∧ St B w Ge (.row v0 4 1 t0.length c0 :: N2) ∧ InK .i64 ((s0.1 : Nat) : Int) ∧ J_ s0.2 Ge N2) (fun t4 ρ w => ∃ (σ1 : Env) (Gf : GH) (N3 : List Res), ρ = En σ1 [] ∧ Ext G1 Gf ∧ St B w Gf (N3) ∧ J_ t4 Gf N3) ⟨_, _, N_, (J3 ⟨rfl, rfl, rfl, rfl, trivial⟩), (Ext.refl _), h4, (by rfl), (hJ_ _ _ _ _ (heb_.trans e0) e0.ro hz_)⟩ ?_ ?_ ?_
 ·rintro s0 x1 _ _ hr ⟨σ0, Ge, N2, rfl, eb, h15, f7, f8⟩
  refine J2 (J1 ?_)
  refine Ji rfl rfl rfl ?_
  refine J0 (J2 ?_)
  refine J7 rfl (fun h16 => ?_) (fun h16 => ?_)
  ·replace hr := Jx hr h16
   refine J9 (J2 (Jb (J2 (J1 ?_))))
   refine Jmv (vi ((s0.1 : Nat) : Int)) rfl rfl ?_
   obtain ⟨x0, h17, hr⟩ := J6 hr
   refine Y7 (l1 := []) underlying259 ti4 h15 rfl rfl rfl (idx_some h17).1 (idx_m h17 f4) ?_
   intro g0 k1 l3
   refine WL_loadOwn1 (l1 := []) (T := tBool) ti4 rfl h15 k1 (EAll.mono eb.ro f3) rfl rfl h17 ?_
   intro c2 f9
   obtain rfl := one_bool f9
   refine Jsv (vi ((s0.1 : Nat) : Int)) rfl rfl ?_
   refine Jsv (.bool x0) rfl rfl ?_
   refine J0 (J2 (J1 ?_))
   refine Jmv (.bool x0) rfl rfl ?_
   refine Jmv (.bool x0) rfl rfl ?_
   obtain ⟨t1, hr, o0⟩ := J6 hr
   refine Jw 5 (fun ρ w => ∃ (σ2 : Env) (Gg : GH) (N4 : List Res), ρ = En σ2 [(0, (.func (.yield l_) #[] #[])), (8, v0), (9, (vi (t0.length : Int))), (10, (vi ((s0.1 : Nat) : Int))), (21, (.bool t1.1))] ∧ Ext Ge Gg ∧ St B w Gg (.row v0 4 1 t0.length c0 :: N4) ∧ J_ t1.2 Gg N4) ?_ ?_
   ·rcases Y8 (x0) with hb_ | hb_
    ·have h18 : (x0) = true := hb_
     replace hr := Jx hr h18
     refine Ja rfl rfl rfl rfl h18 ?_
     refine Jmv (.func (.yield l_) #[] #[]) rfl rfl ?_
     refine Ja rfl rfl rfl rfl h18 ?_
     refine Jmv (vi ((s0.1 : Nat) : Int)) rfl rfl ?_
     refine Ja rfl rfl rfl rfl h18 ?_
     obtain ⟨z0, h19, hr⟩ := J6 hr
     have h1a := St.flip (A := [.row v0 4 1 t0.length c0]) (N := N2) h15
     refine WL_yield hy_ hJ_ (heb_.trans (e0.trans eb)) rfl rfl h1a f8 h19 (fun Gh ec => ⟨rfl, f7⟩) rfl ?_
     intro w3 Gi N5 ed h1b h1c
     have h1d := St.flip (A := N5) (N := [.row v0 4 1 t0.length c0]) h1c
     refine Ja rfl rfl rfl rfl h18 ?_
     refine Yc rfl rfl ?_
     refine Y9 (v := (.bool (!(go_ z0)))) rfl rfl h18 rfl ?_
     refine J0 ?_
     obtain rfl := Option.some.inj hr
     exact ⟨_, _, N5, (J3 ⟨rfl, rfl, rfl, rfl, rfl, trivial⟩), ed, h1d, h1b⟩
    have h1e : (x0) = false := hb_
    replace hr := Jf hr h1e
    refine Jv rfl rfl rfl rfl h1e ?_
    refine Jv rfl rfl rfl rfl h1e ?_
    refine Jv rfl rfl rfl rfl h1e ?_
    refine Jv rfl rfl rfl rfl h1e ?_
    refine Jt (v := (.bool false)) rfl rfl h1e rfl ?_
    refine J0 ?_
    obtain rfl := Option.some.inj hr
    exact ⟨_, _, N2, (J3 ⟨rfl, rfl, rfl, rfl, rfl, trivial⟩), (Ext.refl _), h15, f8⟩
   rintro _ _ ⟨σ2, Gg, N4, rfl, ee, h1f, fa⟩
   replace hr := o0
   refine J0 ?_
   refine J7 rfl (fun h1g => ?_) (fun h1g => ?_)
   ·replace hr := Jx hr h1g
    refine Jg ?_
    refine ⟨_, (Option.some.inj hr).symm, fun h1h => ?_⟩
    replace hr := congrArg some h1h
    have h1i := St.dropMid 0 1 h1f
    obtain rfl := Option.some.inj hr
    exact ⟨[], trivial, _, _, _, rfl, (e0.trans (eb.trans ee)), h1i, fa⟩
   replace hr := Jf hr h1g
   refine J9 (J1 ?_)
   refine Y2 rfl rfl rfl (of_decide_eq_true h16) f6 ?_
   refine Jmv (vi ((s0.1 + 1 : Nat) : Int)) rfl rfl ?_
   refine J0 ?_
   exact ⟨_, (Option.some.inj hr).symm, _, _, N4, (J3 ⟨rfl, rfl, rfl, rfl, trivial⟩), (eb.trans ee), h1f, (inK_inc (of_decide_eq_true h16) f6), fa⟩
  replace hr := Jf hr h16
  refine Jr ?_
  have h1j := St.dropMid 0 1 h15
  exact ⟨_, (Option.some.inj hr).symm, rfl, _, _, N2, rfl, eb, h1j, f8⟩
 ·rintro t4 _ _ rfl ⟨σ1, Gf, N3, rfl, ef, h1k, fb⟩
  replace hr := cont_inl hr
  obtain rfl := Option.some.inj hr
  exact ⟨[], trivial, _, _, _, rfl, (e0.trans ef), h1k, fb⟩
 rintro a rfl; exact Option.some.inj hr
def ranges_Check.b0 (a0 : XFunc) (s0 : Unit) (x0 : Int) : Option (Unit ⊕ Empty) :=
 (ranges_In.f a0 x0).bind fun t0 => bif !t0 then none else none
def ranges_Check.f (a0 : XFunc) : Option (Unit) :=
 (ranges_pending.f a0.Code).bind fun t1 => (ranges_pending_1.it a0.Code (Unit ⊕ Empty) (lz (ranges_Check.b0 a0)) isL (.inl ())).bind fun t2 => contR t2 (fun t3 => some ()) (fun r_ => r_.elim)
def ranges_Check.K (r : Unit) (G0 : GH) (v : Value) (N : List Res) : Prop := v = tup [(vi 0)] ∧ N = []
theorem ranges_Check.ok {ca0 : List Value} {a0 : XFunc} (st : St B w G []) (ha0 : TFunc.rep G ca0 a0) {r : Unit} (hr : ranges_Check.f a0 = some r) :
 Calls Tryz.prog 148 ([(.agg ca0.toArray)] : List Value).toArray w (Ret B G (ranges_Check.K r)) := by
 obtain ⟨sa0_1, sa0_6, sa0_7, sa0_8, rfl, ha0_0, ha0_1, ha0_2, ha0_4, ha0_5, ha0_6, ha0_7, ha0_8⟩ := ha0
 refine calls_WM [.cell 2 29] func148 rfl ntmps148 rfl rfl ?_
 refine J2 (J1 ?_)
 refine Ju (cs := [(vi a0.Class), sa0_1, (vi a0.Pad), (.bool a0.Nosplit), (vi a0.From), (vi a0.To), sa0_6, sa0_7, sa0_8]) st rfl rfl rfl ?_
 intro b1 w0 h0
 refine Jo ti29 h0 rfl ?_
 intro b2 w1 h1
 refine J0 (J2 (J2 (J1 ?_)))
 refine Jfa 7 7 underlying44 rfl ti41 rfl rfl rfl rfl ?_
 refine Jlb [_] sa0_7 ti41 h1 rfl rfl rfl ?_
 obtain ⟨t1, h2, hr⟩ := J6 hr
 refine J8 (f := 195) (av := [sa0_7]) cf195 rfl rfl h1 rfl (fun G1 e0 h3 => ranges_pending.ok h3 (SRep.mono e0.ro ha0_7) h2) ?_
 rintro v0 w2 G2 G3 N0 e1 q0 ⟨b3, rfl, rfl⟩ h4
 refine J0 (Jb ?_)
 obtain ⟨G4, h5, e2, f0⟩ := St.blkRep (l1 := []) h4
 have h6 := St.pick 1 rfl h5
 have h7 := St.pick 1 rfl h6
 obtain ⟨t2, h8, hr⟩ := J6 hr
 refine W_rangeFunc (E := ranges_pending_1.E) rfl cf227 rfl ranges_pending_1.Elen h7 (MarksIn.mono (e1.trans e2) MarksIn.nil) (e1.trans e2) (ranges_pending_1.itok (SRep.mono (e1.ro.trans e2.ro) ha0_7) f0) h8 (fun s0 G_ M_ => M_ = [.blk b2 [(vi 0)] 29, .blk b1 [(vi a0.Class), sa0_1, (vi a0.Pad), (.bool a0.Nosplit), (vi a0.From), (vi a0.To), sa0_6, sa0_7, sa0_8] 44]) (fun (_ : Empty) (_ : Code) (_ : GH) (_ : List Res) => False) (by rintro st_ G1_ G2_ M_ hr_ h_; exact h_) (fun _ _ _ _ _ _ h_ => h_) rfl ?_ ?_ ?_
 ·rintro l0 rec1209 _ s0 x0 r0 vs1213 w3 G5 _ hr hE_ e3 hI_ h9 rfl
  obtain ⟨rfl, f1⟩ := hE_
  obtain rfl := hI_
  refine J1 ?_
  refine Jsv (vi x0) rfl rfl ?_
  refine J0 ?_
  refine ⟨St.objAt (l1 := []) h9, fun w_ hw_ => ?_⟩
  subst hw_
  have h10 := St.putObj (l1 := []) (.loop { rec1209 with state := .busy }) h9
  refine Jb (J2 (J1 ?_))
  refine Jl (l1 := [_, _]) (vs := [(vi a0.Class), sa0_1, (vi a0.Pad), (.bool a0.Nosplit), (vi a0.From), (vi a0.To), sa0_6, sa0_7, sa0_8]) ti44 h10 rfl rfl rfl rfl ?_
  refine Jmv (vi x0) rfl rfl ?_
  obtain ⟨t0, h11, hr⟩ := J6 hr
  refine J8 (f := 196) (av := [(.agg #[(vi a0.Class), sa0_1, (vi a0.Pad), (.bool a0.Nosplit), (vi a0.From), (vi a0.To), sa0_6, sa0_7, sa0_8]), (vi x0)]) cf196 rfl rfl h10 rfl (fun G6 e4 h12 => ranges_In.ok (a0 := a0) h12 (⟨sa0_1, sa0_6, sa0_7, sa0_8, rfl, ha0_0, (SRep.mono ((e1.ro.trans (e2.ro.trans e3.ro)).trans e4.ro) ha0_1), ha0_2, ha0_4, ha0_5, (SRep.mono ((e1.ro.trans (e2.ro.trans e3.ro)).trans e4.ro) ha0_6), (SRep.mono ((e1.ro.trans (e2.ro.trans e3.ro)).trans e4.ro) ha0_7), (SRep.mono ((e1.ro.trans (e2.ro.trans e3.ro)).trans e4.ro) ha0_8)⟩) f1 h11) ?_
  rintro v1 w4 G7 G8 N1 e5 q1 ⟨rfl, rfl⟩ h13
  refine Yc rfl rfl ?_
  refine J0 ?_
  refine J7 rfl (fun h14 => ?_) (fun h14 => ?_)
  ·exact Jk hr h14
  exact Yo hr h14
 ·rintro t3 D0 w5 G9 _ rfl e6 h15 hI_ m0
  obtain rfl := hI_
  replace hr := contR_inl hr
  refine J2 (J1 ?_)
  refine Y5 (l1 := []) (v := (vi 0)) ti29 h15 rfl rfl rfl rfl ?_
  intro w6 (h16 : St B w6 G9 [.blk b2 [(vi 0)] 29, .blk b1 [(vi a0.Class), sa0_1, (vi a0.Pad), (.bool a0.Nosplit), (vi a0.From), (vi a0.To), sa0_6, sa0_7, sa0_8] 44])
  refine J0 (Jg ?_)
  obtain ⟨nd1241, hh1242, Ga, h17, e7, q2⟩ := St.take h16 m0 (e1.trans (e2.trans e6))
  have h18 := St.takeN 0 h17
  obtain rfl := Option.some.inj hr
  exact ⟨nd1241, hh1242, [(vi 0)], ⟨⟨_, rfl, cell_ok (l1 := []) ti29 h17 rfl⟩, trivial⟩, _, _, _, rfl, e7, h18, ⟨rfl, rfl⟩⟩
 intro r_; exact r_.elim
end Go.Proofs.YtnglgjgflohkmaaGreat.Sk
