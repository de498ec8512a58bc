/- Walks, printed by gen.py. No condition. -/
import Derived.Test.YtnglgjgflohkmaaGreatSkTy
namespace Go.Proofs.YtnglgjgflohkmaaGreat.Sk
open Go Go.Proofs.Tryz
set_option linter.unusedVariables false
set_option linter.unusedSimpArgs false
variable {B w : World} {G : GH}
set_option linter.unusedVariables false
set_option maxHeartbeats 4000000
set_option maxRecDepth 100000
def sheerleglaw19_One.f : Option (((List XSymbol) × (List XFunc) × (List XData))) :=
 some ([({ Name := ({data := #[109, 97, 105, 110]} : ByteArray), Local := false, Sort_ := 1, Kind := 1, Def := 0 } : XSymbol), ({ Name := ({data := #[100]} : ByteArray), Local := true, Sort_ := 2, Kind := 0, Def := 0 } : XSymbol)], [({ Class := 1, Kinds := [0, 0], Pad := 0, Nosplit := false, From := 0, To := 0, Lines := [], Code := [({ Op := 15, A := 1, B := 0, C := 0, N := 0 } : XInstr), ({ Op := 24, A := 1, B := 0, C := 0, N := 0 } : XInstr)], Relocs := [({ At := 0, Sym := 1, Wide := true } : XReloc)] } : XFunc)], [({ Kind := 0, Words := [7], Relocs := [] } : XData)])
def sheerleglaw19_One.K (r : ((List XSymbol) × (List XFunc) × (List XData))) (G66 : GH) (v : Value) (N : List Res) : Prop := ∃ (v70 : Value) (v75 : Value) (v80 : Value) (c71 : List Value) (c76 : List Value) (c81 : List Value), v = tup [(.agg #[v70, v75, v80])] ∧ N = [.row v70 82 5 r.1.length c71, .row v75 44 9 r.2.1.length c76, .row v80 49 3 r.2.2.length c81] ∧ EAll TSymbol G66 c71 r.1 ∧ r.1.length ≤ SB ∧ EAll TFunc G66 c76 r.2.1 ∧ r.2.1.length ≤ SB ∧ EAll TData G66 c81 r.2.2 ∧ r.2.2.length ≤ SB
theorem sheerleglaw19_One.ok (st : St B w G []) {r : ((List XSymbol) × (List XFunc) × (List XData))} (hr : sheerleglaw19_One.f = some r) :
 Calls Tryz.prog 31 ([] : List Value).toArray w (Ret B G (sheerleglaw19_One.K r)) := by
 refine Jc [.cell 0 61] func31 rfl ntmps31 rfl rfl ?_
 refine J2 (J1 ?_)
 refine Jo ti61 st rfl ?_
 intro b0 w0 h0
 refine J0 (J2 (J1 ?_))
 refine Y0 (cells := #[(.string ({data := #[109, 97, 105, 110]} : ByteArray)), (.bool false), (vi 1), (vi 1), (vi 0)]) rfl (by kernel_rfl) ?_
 refine Y0 (cells := #[(.string ({data := #[100]} : ByteArray)), (.bool true), (vi 2), (vi 0), (vi 0)]) rfl (by kernel_rfl) ?_
 refine Jj (cells := [(.string ({data := #[109, 97, 105, 110]} : ByteArray)), (.bool false), (vi 1), (vi 1), (vi 0), (.string ({data := #[100]} : ByteArray)), (.bool true), (vi 2), (vi 0), (vi 0)]) underlying57 ti82 h0 rfl rfl rfl rfl rfl (by kernel_rfl) ?_
 intro v0 w1 h1 f0
 have E0 : EAll TSymbol G [(.string ({data := #[109, 97, 105, 110]} : ByteArray)), (.bool false), (vi 1), (vi 1), (vi 0), (.string ({data := #[100]} : ByteArray)), (.bool true), (vi 2), (vi 0), (vi 0)] [({ Name := ({data := #[109, 97, 105, 110]} : ByteArray), Local := false, Sort_ := 1, Kind := 1, Def := 0 } : XSymbol), ({ Name := ({data := #[100]} : ByteArray), Local := true, Sort_ := 2, Kind := 0, Def := 0 } : XSymbol)] := ⟨_, _, rfl, ⟨rfl, (Nat.le_of_ble_eq_true rfl), rfl, rfl, rfl⟩, ⟨_, _, rfl, ⟨rfl, (Nat.le_of_ble_eq_true rfl), rfl, rfl, rfl⟩, rfl⟩⟩
 refine Jj (cells := [(vi 0), (vi 0)]) underlying39 ti3 h1 rfl rfl rfl rfl rfl (by kernel_rfl) ?_
 intro v1 w2 h2 f1
 have E1 : EAll (tInt .i64) G [(vi 0), (vi 0)] [0, 0] := ⟨_, _, rfl, ⟨rfl, rfl⟩, ⟨_, _, rfl, ⟨rfl, rfl⟩, rfl⟩⟩
 refine Y0 (cells := #[(vi 15), (vi 1), (vi 0), (vi 0), (vi 0)]) rfl (by kernel_rfl) ?_
 refine Y0 (cells := #[(vi 24), (vi 1), (vi 0), (vi 0), (vi 0)]) rfl (by kernel_rfl) ?_
 refine Jj (cells := [(vi 15), (vi 1), (vi 0), (vi 0), (vi 0), (vi 24), (vi 1), (vi 0), (vi 0), (vi 0)]) underlying41 ti54 h2 rfl rfl rfl rfl rfl (by kernel_rfl) ?_
 intro v2 w3 h3 f2
 have E2 : EAll TInstr G [(vi 15), (vi 1), (vi 0), (vi 0), (vi 0), (vi 24), (vi 1), (vi 0), (vi 0), (vi 0)] [({ Op := 15, A := 1, B := 0, C := 0, N := 0 } : XInstr), ({ Op := 24, A := 1, B := 0, C := 0, N := 0 } : XInstr)] := ⟨_, _, rfl, ⟨rfl, rfl, rfl, rfl, rfl, rfl⟩, ⟨_, _, rfl, ⟨rfl, rfl, rfl, rfl, rfl, rfl⟩, rfl⟩⟩
 refine Y0 (cells := #[(vi 0), (vi 1), (.bool true)]) rfl (by kernel_rfl) ?_
 refine Jj (cells := [(vi 0), (vi 1), (.bool true)]) underlying42 ti133 h3 rfl rfl rfl rfl rfl (by kernel_rfl) ?_
 intro v3 w4 h4 f3
 have E3 : EAll TReloc G [(vi 0), (vi 1), (.bool true)] [({ At := 0, Sym := 1, Wide := true } : XReloc)] := ⟨_, _, rfl, ⟨rfl, rfl, rfl⟩, rfl⟩
 refine Y0 (cells := #[(vi 1), v1, (vi 0), (.bool false), (vi 0), (vi 0), (.slice none 0 0), v2, v3]) rfl (by obtain ⟨_, _, _, e_⟩ := row_shape (St.mid (l1 := [_, _]) h4); subst e_; obtain ⟨_, _, _, e_⟩ := row_shape (St.mid (l1 := [_]) h4); subst e_; obtain ⟨_, _, _, e_⟩ := row_shape (St.mid (l1 := []) h4); subst e_; kernel_rfl) ?_
 obtain ⟨G0, h5, e0, f4⟩ := St.rowRep (l1 := [_, _]) (T := (tInt .i64)) (xs := [0, 0]) h4 E1 rfl (by decide)
 obtain ⟨G1, h6, e1, f5⟩ := St.rowRep (l1 := [_]) (T := TInstr) (xs := [({ Op := 15, A := 1, B := 0, C := 0, N := 0 } : XInstr), ({ Op := 24, A := 1, B := 0, C := 0, N := 0 } : XInstr)]) h5 (EAll.mono e0.ro E2) rfl (by decide)
 obtain ⟨G2, h7, e2, f6⟩ := St.rowRep (l1 := []) (T := TReloc) (xs := [({ At := 0, Sym := 1, Wide := true } : XReloc)]) h6 (EAll.mono (e0.ro.trans e1.ro) E3) rfl (by decide)
 refine Jj (cells := [(vi 1), v1, (vi 0), (.bool false), (vi 0), (vi 0), (.slice none 0 0), v2, v3]) underlying58 ti44 h7 rfl rfl rfl rfl rfl (by obtain ⟨_, _, _, e_⟩ := SRep.shape (SRep.mono (e1.ro.trans e2.ro) f4); subst e_; obtain ⟨_, _, _, e_⟩ := SRep.shape (SRep.mono e2.ro f5); subst e_; obtain ⟨_, _, _, e_⟩ := SRep.shape f6; subst e_; kernel_rfl) ?_
 intro v4 w5 h8 f7
 have E4 : EAll TFunc G2 [(vi 1), v1, (vi 0), (.bool false), (vi 0), (vi 0), (.slice none 0 0), v2, v3] [({ Class := 1, Kinds := [0, 0], Pad := 0, Nosplit := false, From := 0, To := 0, Lines := [], Code := [({ Op := 15, A := 1, B := 0, C := 0, N := 0 } : XInstr), ({ Op := 24, A := 1, B := 0, C := 0, N := 0 } : XInstr)], Relocs := [({ At := 0, Sym := 1, Wide := true } : XReloc)] } : XFunc)] := ⟨_, _, rfl, ⟨v1, (.slice none 0 0), v2, v3, rfl, rfl, (SRep.mono (e1.ro.trans e2.ro) f4), rfl, rfl, rfl, SRep.nil, (SRep.mono e2.ro f5), f6⟩, rfl⟩
 refine Jj (cells := [(vi 7)]) underlying47 ti2 h8 rfl rfl rfl rfl rfl (by kernel_rfl) ?_
 intro v5 w6 h9 f8
 have E5 : EAll (tInt .i64) G2 [(vi 7)] [7] := ⟨_, _, rfl, ⟨rfl, rfl⟩, rfl⟩
 refine Y0 (cells := #[(vi 0), v5, (.slice none 0 0)]) rfl (by obtain ⟨_, _, _, e_⟩ := row_shape (St.mid (l1 := []) h9); subst e_; kernel_rfl) ?_
 obtain ⟨G3, h10, e3, f9⟩ := St.rowRep (l1 := []) (T := (tInt .i64)) (xs := [7]) h9 E5 rfl (by decide)
 refine Jj (cells := [(vi 0), v5, (.slice none 0 0)]) underlying59 ti49 h10 rfl rfl rfl rfl rfl (by obtain ⟨_, _, _, e_⟩ := SRep.shape f9; subst e_; kernel_rfl) ?_
 intro v6 w7 h11 fa
 have E6 : EAll TData G3 [(vi 0), v5, (.slice none 0 0)] [({ Kind := 0, Words := [7], Relocs := [] } : XData)] := ⟨_, _, rfl, ⟨v5, (.slice none 0 0), rfl, rfl, f9, SRep.nil⟩, rfl⟩
 refine Y0 (cells := #[v0, v4, v6]) rfl (by obtain ⟨_, _, _, e_⟩ := row_shape (St.mid (l1 := [_, _]) h11); subst e_; obtain ⟨_, _, _, e_⟩ := row_shape (St.mid (l1 := [_]) h11); subst e_; obtain ⟨_, _, _, e_⟩ := row_shape (St.mid (l1 := []) h11); subst e_; kernel_rfl) ?_
 refine Jp (l1 := [_, _, _]) (vs := [v0, v4, v6]) ti61 h11 rfl rfl rfl (J5 (row_one (St.mid (l1 := [_, _]) h11)) (J5 (row_one (St.mid (l1 := [_]) h11)) (J5 (row_one (St.mid (l1 := []) h11)) (fun _ h => nomatch h)))) rfl ?_
 intro w8 (h12 : St B w8 G3 [.row v6 49 3 1 [(vi 0), v5, (.slice none 0 0)], .row v4 44 9 1 [(vi 1), v1, (vi 0), (.bool false), (vi 0), (vi 0), (.slice none 0 0), v2, v3], .row v0 82 5 2 [(.string ({data := #[109, 97, 105, 110]} : ByteArray)), (.bool false), (vi 1), (vi 1), (vi 0), (.string ({data := #[100]} : ByteArray)), (.bool true), (vi 2), (vi 0), (vi 0)], .blk b0 [v0, v4, v6] 61])
 refine J0 (Jg ?_)
 have h13 := St.row_len (l1 := [_, _]) (k := [({ Name := ({data := #[109, 97, 105, 110]} : ByteArray), Local := false, Sort_ := 1, Kind := 1, Def := 0 } : XSymbol), ({ Name := ({data := #[100]} : ByteArray), Local := true, Sort_ := 2, Kind := 0, Def := 0 } : XSymbol)].length) rfl h12
 have h14 := St.row_len (l1 := [_]) (k := [({ Class := 1, Kinds := [0, 0], Pad := 0, Nosplit := false, From := 0, To := 0, Lines := [], Code := [({ Op := 15, A := 1, B := 0, C := 0, N := 0 } : XInstr), ({ Op := 24, A := 1, B := 0, C := 0, N := 0 } : XInstr)], Relocs := [({ At := 0, Sym := 1, Wide := true } : XReloc)] } : XFunc)].length) rfl h13
 have h15 := St.row_len (l1 := []) (k := [({ Kind := 0, Words := [7], Relocs := [] } : XData)].length) rfl h14
 have h16 := St.pick 1 rfl h15
 have h17 := St.pick 2 rfl h16
 have h18 := St.takeN 3 h17
 obtain rfl := Option.some.inj hr
 exact ⟨[(.agg #[v0, v4, v6])], ⟨⟨_, rfl, Yl (l1 := [_, _, _]) ti61 h15 rfl⟩, trivial⟩, _, _, _, rfl, (e0.trans (e1.trans (e2.trans e3))), h18, ⟨v0, v4, v6, [(.string ({data := #[109, 97, 105, 110]} : ByteArray)), (.bool false), (vi 1), (vi 1), (vi 0), (.string ({data := #[100]} : ByteArray)), (.bool true), (vi 2), (vi 0), (vi 0)], [(vi 1), v1, (vi 0), (.bool false), (vi 0), (vi 0), (.slice none 0 0), v2, v3], [(vi 0), v5, (.slice none 0 0)], rfl, rfl, (EAll.mono (e0.ro.trans (e1.ro.trans (e2.ro.trans e3.ro))) E0), (le_eq (m := 2) rfl (by decide)), (EAll.mono e3.ro E4), (le_eq (m := 1) rfl (by decide)), E6, (le_eq (m := 1) rfl (by decide))⟩⟩
def op_Own.f (a0 : Int) : Option (Bool) :=
 (bif decide (a0 ≥ 1) then some () else none).bind fun t0 => some (decide (a0 ≤ 24))
def op_Own.K (r : Bool) (G11 : GH) (v : Value) (N : List Res) : Prop := v = tup [(.bool r)] ∧ N = []
theorem op_Own.ok {a0 : Int} (st : St B w G []) (ha0 : InK .i64 a0) {r : Bool} (hr : op_Own.f a0 = some r) :
 Calls Tryz.prog 242 ([(vi a0)] : List Value).toArray w (Ret B G (op_Own.K r)) := by
 refine Jc [.tmp 2] func242 rfl ntmps242 rfl rfl ?_
 refine J2 (J1 ?_)
 refine Jsv (.bool false) rfl rfl ?_
 refine J0 (J2 (J1 ?_))
 refine Jmv (vi a0) rfl rfl ?_
 refine Yk rfl rfl rfl ?_
 refine Jmv (.bool (decide (a0 ≥ 1))) rfl rfl ?_
 obtain ⟨t0, hr, o0⟩ := J6 hr
 refine Jw 3 (fun ρ w => ∃ (σ0 : Env) (G0 : GH), ρ = En σ0 [(2, (.bool false)), (8, (.bool (decide (a0 ≤ 24))))] ∧ Ext G G0 ∧ St B w G0 []) ?_ ?_
 ·rcases Y8 (decide (a0 ≥ 1)) with hb_ | hb_
  ·have h0 : (decide (a0 ≥ 1)) = true := hb_
   replace hr := Jx hr h0
   refine Ja rfl rfl rfl rfl h0 ?_
   refine Jmv (vi a0) rfl rfl ?_
   refine Ja rfl rfl rfl rfl h0 ?_
   refine WL_leq rfl rfl rfl ?_
   refine Y9 (v := (.bool (decide (a0 ≤ 24)))) rfl rfl h0 rfl ?_
   refine J0 ?_
   obtain rfl := Option.some.inj hr
   exact ⟨_, _, (J3 ⟨rfl, rfl, trivial⟩), (Ext.refl _), st⟩
  exact Yo hr hb_
 rintro _ _ ⟨σ0, G0, rfl, e0, h1⟩
 replace hr := o0
 refine Jsv (.bool (decide (a0 ≤ 24))) rfl rfl ?_
 refine J0 (Jg ?_)
 obtain rfl := Option.some.inj hr
 exact ⟨[(.bool (decide (a0 ≤ 24)))], ⟨rfl, trivial⟩, _, _, _, rfl, e0, h1, ⟨rfl, rfl⟩⟩
def op_Need.f (a0 : Int) : Option (Int) :=
 bif decide (a0 = 19) then none else bif decide (a0 = 17) then none else (bif decide (a0 = 15) then some (decide (a0 = 15)) else some (decide (a0 = 16))).bind fun t0 => bif t0 then some 3 else bif decide (a0 = 18) then none else bif decide (a0 = 21) then none else some 0
def op_Need.K (r : Int) (G16 : GH) (v : Value) (N : List Res) : Prop := v = tup [(vi r)] ∧ N = [] ∧ InK .i64 r
theorem op_Need.ok {a0 : Int} (st : St B w G []) (ha0 : InK .i64 a0) {r : Int} (hr : op_Need.f a0 = some r) :
 Calls Tryz.prog 49 ([(vi a0)] : List Value).toArray w (Ret B G (op_Need.K r)) := by
 refine Jc [.tmp 2] func49 rfl ntmps49 rfl rfl ?_
 refine J2 (J1 ?_)
 refine Jsv (vi 0) rfl rfl ?_
 refine J0 (J2 (J2 (J1 ?_)))
 refine Jmv (vi a0) rfl rfl ?_
 refine J0 (Jb (J2 (J1 ?_)))
 refine Y3 rfl rfl rfl ?_
 refine Jsv (.bool (decide (a0 = 19))) rfl rfl ?_
 refine J0 ?_
 refine J7 rfl (fun h0 => ?_) (fun h0 => ?_)
 ·exact Jk hr h0
 replace hr := Jf hr h0
 refine J2 (J1 ?_)
 refine Y3 rfl rfl rfl ?_
 refine Jsv (.bool (decide (a0 = 17))) rfl rfl ?_
 refine J0 ?_
 refine J7 rfl (fun h1 => ?_) (fun h1 => ?_)
 ·exact Jk hr h1
 replace hr := Jf hr h1
 refine J2 ?_
 obtain ⟨t0, hr, o0⟩ := J6 hr
 refine W_join (fun ρ w => ∃ (σ0 : Env) (G0 : GH), ρ = En σ0 [(3, (vi a0)), (8, (.bool t0))] ∧ Ext G G0 ∧ St B w G0 []) ?_ ?_
 ·refine J2 (J1 ?_)
  refine Y3 rfl rfl rfl ?_
  refine Jsv (.bool (decide (a0 = 15))) rfl rfl ?_
  refine J0 ?_
  refine J7 rfl (fun h2 => ?_) (fun h2 => ?_)
  ·replace hr := Jx hr h2
   refine J9 ?_
   obtain rfl := Option.some.inj hr
   exact ⟨_, _, (J3 ⟨rfl, rfl, trivial⟩), (Ext.refl _), st⟩
  replace hr := Jf hr h2
  refine J1 ?_
  refine Y3 rfl rfl rfl ?_
  refine Jsv (.bool (decide (a0 = 16))) rfl rfl ?_
  refine J0 ?_
  obtain rfl := Option.some.inj hr
  exact ⟨_, _, (J3 ⟨rfl, rfl, trivial⟩), (Ext.refl _), st⟩
 rintro _ _ ⟨σ0, G0, rfl, e0, h3⟩
 replace hr := o0
 refine J7 rfl (fun h4 => ?_) (fun h4 => ?_)
 ·replace hr := Jx hr h4
  refine J2 (J1 ?_)
  refine Jsv (vi 3) rfl rfl ?_
  refine J0 (Jg ?_)
  obtain rfl := Option.some.inj hr
  exact ⟨[(vi 3)], ⟨rfl, trivial⟩, _, _, _, rfl, e0, h3, ⟨rfl, rfl, (by rfl)⟩⟩
 replace hr := Jf hr h4
 refine J2 (J1 ?_)
 refine Y3 rfl rfl rfl ?_
 refine Jsv (.bool (decide (a0 = 18))) rfl rfl ?_
 refine J0 ?_
 refine J7 rfl (fun h5 => ?_) (fun h5 => ?_)
 ·exact Jk hr h5
 replace hr := Jf hr h5
 refine J2 (J1 ?_)
 refine Y3 rfl rfl rfl ?_
 refine Jsv (.bool (decide (a0 = 21))) rfl rfl ?_
 refine J0 ?_
 refine J7 rfl (fun h6 => ?_) (fun h6 => ?_)
 ·exact Jk hr h6
 replace hr := Jf hr h6
 refine J9 (J2 (J1 ?_))
 refine Jsv (vi 0) rfl rfl ?_
 refine J0 (Jg ?_)
 obtain rfl := Option.some.inj hr
 exact ⟨[(vi 0)], ⟨rfl, trivial⟩, _, _, _, rfl, e0, h3, ⟨rfl, rfl, (by rfl)⟩⟩
def verify_fits.f (a0 : Int) (a1 : XSymbol) : Option (Bool) :=
 bif decide (a0 = 3) then (bif decide (a1.Sort_ = 2) then some () else none).bind fun t0 => some (decide (a1.Kind = 0)) else none
def verify_fits.K (r : Bool) (G17 : GH) (v : Value) (N : List Res) : Prop := v = tup [(.bool r)] ∧ N = []
theorem verify_fits.ok {a0 : Int} {ca1 : List Value} {a1 : XSymbol} (st : St B w G []) (ha0 : InK .i64 a0) (ha1 : TSymbol.rep G ca1 a1) {r : Bool} (hr : verify_fits.f a0 a1 = some r) :
 Calls Tryz.prog 247 ([(vi a0), (.agg ca1.toArray)] : List Value).toArray w (Ret B G (verify_fits.K r)) := by
 obtain ⟨rfl, ha1_0, ha1_2, ha1_3, ha1_4⟩ := ha1
 refine Jc [.tmp 4] func247 rfl ntmps247 rfl rfl ?_
 refine J2 (J1 ?_)
 refine Ju (cs := [(.string a1.Name), (.bool a1.Local), (vi a1.Sort_), (vi a1.Kind), (vi a1.Def)]) st rfl rfl rfl ?_
 intro b0 w0 h0
 refine Jsv (.bool false) rfl rfl ?_
 refine J0 (J2 (J2 (J1 ?_)))
 refine Jmv (vi a0) rfl rfl ?_
 refine J0 (Jb (J2 (J1 ?_)))
 refine Y3 rfl rfl rfl ?_
 refine Jsv (.bool (decide (a0 = 3))) rfl rfl ?_
 refine J0 ?_
 refine J7 rfl (fun h1 => ?_) (fun h1 => ?_)
 ·replace hr := Jx hr h1
  refine J2 (J1 ?_)
  refine Jfa 2 2 underlying82 rfl ti3 rfl rfl rfl rfl ?_
  refine Jlb [] (vi a1.Sort_) ti3 h0 rfl rfl rfl ?_
  refine Y3 rfl rfl rfl ?_
  refine Jmv (.bool (decide (a1.Sort_ = 2))) rfl rfl ?_
  obtain ⟨t0, hr, o0⟩ := J6 hr
  refine Jw 4 (fun ρ w => ∃ (σ0 : Env) (G0 : GH), ρ = En σ0 [(4, (.bool false)), (17, (.bool (decide (a1.Kind = 0))))] ∧ Ext G G0 ∧ St B w G0 []) ?_ ?_
  ·rcases Y8 (decide (a1.Sort_ = 2)) with hb_ | hb_
   ·have h2 : (decide (a1.Sort_ = 2)) = true := hb_
    replace hr := Jx hr h2
    refine Ja rfl rfl rfl rfl h2 ?_
    refine Jfa 3 3 underlying82 rfl ti3 rfl rfl rfl rfl ?_
    refine Ja rfl rfl rfl rfl h2 ?_
    refine Jlb [] (vi a1.Kind) ti3 h0 rfl rfl rfl ?_
    refine Ja rfl rfl rfl rfl h2 ?_
    refine Y3 rfl rfl rfl ?_
    refine Y9 (v := (.bool (decide (a1.Kind = 0)))) rfl rfl h2 rfl ?_
    refine J0 ?_
    have h3 := St.takeN 0 h0
    obtain rfl := Option.some.inj hr
    exact ⟨_, _, (J3 ⟨rfl, rfl, trivial⟩), (Ext.refl _), h3⟩
   exact Yo hr hb_
  rintro _ _ ⟨σ0, G0, rfl, e0, h4⟩
  replace hr := o0
  refine Jsv (.bool (decide (a1.Kind = 0))) rfl rfl ?_
  refine J0 (Jg ?_)
  obtain rfl := Option.some.inj hr
  exact ⟨[(.bool (decide (a1.Kind = 0)))], ⟨rfl, trivial⟩, _, _, _, rfl, e0, h4, ⟨rfl, rfl⟩⟩
 exact Yo hr h1
def verify_checker_slot.f (a0_ : Xverify_checker) (a1 : Int) (a2 : Int) : Option (Unit) :=
 bif decide (a1 < 0) then none else bif decide (a1 ≥ (a0_.f.Kinds.length : Int)) then none else (idx a0_.f.Kinds a1).bind fun x0 => bif decide (x0 ≠ a2) then none else some ()
def verify_checker_slot.K (ba0 : Nat) (a0_ : Xverify_checker) (r : Unit) (G16 : GH) (v : Value) (N : List Res) : Prop := ∃ (v20 : Value) (v22 : Value) (v24 : Value) (v26 : Value), v = tup [(vi 0)] ∧ N = [.blk ba0 [(vi a0_.f.Class), v20, (vi a0_.f.Pad), (.bool a0_.f.Nosplit), (vi a0_.f.From), (vi a0_.f.To), v22, v24, v26, (vi a0_.x.Op), (vi a0_.x.A), (vi a0_.x.B), (vi a0_.x.C), (vi a0_.x.N), (.string a0_.sym.Name), (.bool a0_.sym.Local), (vi a0_.sym.Sort_), (vi a0_.sym.Kind), (vi a0_.sym.Def), (vi a0_.class_)] 269] ∧ SRep 3 (tInt .i64) G16 v20 a0_.f.Kinds ∧ SRep 157 TLine G16 v22 a0_.f.Lines ∧ SRep 54 TInstr G16 v24 a0_.f.Code ∧ SRep 133 TReloc G16 v26 a0_.f.Relocs
theorem verify_checker_slot.ok {ba0 : Nat} {ca0_ : List Value} {a0_ : Xverify_checker} {a1 : Int} {a2 : Int} (st : St B w G [.blk ba0 ca0_ 269]) (ha0_ : Tverify_checker.rep G ca0_ a0_) (ha1 : InK .i64 a1) (ha2 : InK .i64 a2) {r : Unit} (hr : verify_checker_slot.f a0_ a1 a2 = some r) :
 Calls Tryz.prog 277 ([(pt ba0 0), (vi a1), (vi a2)] : List Value).toArray w (Ret B G (verify_checker_slot.K ba0 a0_ r)) := by
 obtain ⟨sa0__1, sa0__6, sa0__7, sa0__8, rfl, ha0__0, ha0__1, ha0__2, ha0__4, ha0__5, ha0__6, ha0__7, ha0__8, ha0__9, ha0__10, ha0__11, ha0__12, ha0__13, ha0__14, ha0__16, ha0__17, ha0__18, ha0__19⟩ := ha0_
 refine Jc [.tmp 6] func277 rfl ntmps277 rfl rfl ?_
 refine J2 (J1 ?_)
 refine Jsv (vi 0) rfl rfl ?_
 refine J0 (J2 (Jb (J2 (J2 (J1 ?_)))))
 refine Jmv (vi a1) rfl rfl ?_
 refine Ji rfl rfl rfl ?_
 refine Jsv (.bool (decide (a1 < 0))) rfl rfl ?_
 refine J0 ?_
 refine J7 rfl (fun h0 => ?_) (fun h0 => ?_)
 ·exact Jk hr h0
 replace hr := Jf hr h0
 refine J1 ?_
 refine Jmv (vi a1) rfl rfl ?_
 refine Jmv (pt ba0 0) rfl rfl ?_
 refine Je rfl rfl ?_
 refine Jfa 0 0 underlying269 rfl ti44 rfl rfl rfl rfl ?_
 refine Jfa 1 1 underlying44 rfl ti39 rfl rfl rfl rfl ?_
 refine Jlb [] sa0__1 ti39 st rfl rfl rfl ?_
 refine Jd (T := (tInt .i64)) underlying39 ha0__1 rfl rfl ?_
 refine Yk rfl rfl rfl ?_
 refine Jsv (.bool (decide (a1 ≥ (a0_.f.Kinds.length : Int)))) rfl rfl ?_
 refine J0 ?_
 refine J7 rfl (fun h1 => ?_) (fun h1 => ?_)
 ·exact Jk hr h1
 replace hr := Jf hr h1
 refine J2 (J1 ?_)
 refine Jmv (pt ba0 0) rfl rfl ?_
 refine Je rfl rfl ?_
 refine Jfa 0 0 underlying269 rfl ti44 rfl rfl rfl rfl ?_
 refine Jfa 1 1 underlying44 rfl ti39 rfl rfl rfl rfl ?_
 refine Jlb [] sa0__1 ti39 st rfl rfl rfl ?_
 refine Jmv (vi a1) rfl rfl ?_
 obtain ⟨x0, h2, hr⟩ := J6 hr
 refine Jh (T := (tInt .i64)) underlying39 ti3 st ha0__1 rfl rfl rfl h2 ?_
 intro b0 o0 c0 l0 f0
 obtain ⟨rfl, f1⟩ := f0
 refine Y4 (v := (vi x0)) ti3 rfl rfl (LiesG.lies l0 st) rfl ?_
 refine Jmv (vi a2) rfl rfl ?_
 refine Y1 rfl rfl rfl ?_
 refine Jsv (.bool (decide (x0 ≠ a2))) rfl rfl ?_
 refine J0 ?_
 refine J7 rfl (fun h3 => ?_) (fun h3 => ?_)
 ·exact Jk hr h3
 replace hr := Jf hr h3
 refine J9 (J2 (J1 ?_))
 refine Jsv (vi 0) rfl rfl ?_
 refine J0 (Jg ?_)
 obtain rfl := Option.some.inj hr
 exact ⟨[(vi 0)], ⟨rfl, trivial⟩, _, _, _, rfl, (Ext.refl _), st, ⟨sa0__1, sa0__6, sa0__7, sa0__8, rfl, rfl, ha0__1, ha0__6, ha0__7, ha0__8⟩⟩
def octet_Put.l0 (a1 : Int) (s0 : ((List Int) × Nat)) : Option (Step ((List Int) × Nat) (List Int)) :=
 bif decide (((s0.2 : Nat) : Int) < 8) then bif decide (0 ≤ (IntKind.wrap .u64 (8 * (IntKind.wrap .u64 (((s0.2 : Nat) : Int)))))) then bif (decide (0 ≤ (IntKind.wrap .i64 (7 - ((s0.2 : Nat) : Int)))) && decide ((IntKind.wrap .i64 (7 - ((s0.2 : Nat) : Int))) < 8)) then some (.next ((List.set s0.1 (Int.toNat ((IntKind.wrap .i64 (7 - ((s0.2 : Nat) : Int))))) (IntKind.wrap .u8 (shr .i64 a1 (IntKind.wrap .u64 (8 * (IntKind.wrap .u64 (((s0.2 : Nat) : Int)))))))), s0.2 + 1)) else none else none else some (.done s0.1)
def octet_Put.f (a0 : (List Int)) (a1 : Int) (a2 : Int) : Option ((List Int)) :=
 (loop (octet_Put.l0 a1) ([0, 0, 0, 0, 0, 0, 0, 0], 0)).bind fun t0 => bif decide ((([] : (List Int)).length + a0.length) * 1 ≤ SB) then (bif decide (a2 < 1) then some true else some (decide (a2 > 8))).bind fun t1 => bif t1 then some (([] : (List Int)) ++ a0) else bif (decide (0 ≤ (IntKind.wrap .i64 (8 - a2))) && decide ((IntKind.wrap .i64 (8 - a2)) ≤ ((8 : Nat) : Int))) then bif decide (((([] : (List Int)) ++ a0).length + (List.take (8 - (Int.toNat ((IntKind.wrap .i64 (8 - a2))))) (List.drop (Int.toNat ((IntKind.wrap .i64 (8 - a2)))) t0)).length) * 1 ≤ SB) then some ((([] : (List Int)) ++ a0) ++ (List.take (8 - (Int.toNat ((IntKind.wrap .i64 (8 - a2))))) (List.drop (Int.toNat ((IntKind.wrap .i64 (8 - a2)))) t0))) else none else none else none
def octet_Put.K (r : (List Int)) (G0 : GH) (v : Value) (N : List Res) : Prop := ∃ (v0 : Value) (c0 : List Value), v = tup [v0] ∧ N = [.row v0 5 1 r.length c0] ∧ EAll (tInt .u8) G0 c0 r ∧ r.length ≤ SB
theorem octet_Put.ok {va0 : Value} {a0 : (List Int)} {a1 : Int} {a2 : Int} (st : St B w G []) (ha0 : SRep 5 (tInt .u8) G va0 a0) (ha1 : InK .i64 a1) (ha2 : InK .i64 a2) {r : (List Int)} (hr : octet_Put.f a0 a1 a2 = some r) :
 Calls Tryz.prog 70 ([va0, (vi a1), (vi a2)] : List Value).toArray w (Ret B G (octet_Put.K r)) := by
 refine Jc [.tmp 6] func70 rfl ntmps70 rfl rfl ?_
 refine J2 (J1 ?_)
 refine Jsv (.slice none 0 0) rfl rfl ?_
 refine J0 (J2 (J1 ?_))
 refine Jo ti185 st rfl ?_
 intro b0 w0 h0
 have f0 : EAll (tInt .u8) G [(.int .u8 0), (.int .u8 0), (.int .u8 0), (.int .u8 0), (.int .u8 0), (.int .u8 0), (.int .u8 0), (.int .u8 0)] [0, 0, 0, 0, 0, 0, 0, 0] := ⟨_, _, rfl, ⟨rfl, rfl⟩, ⟨_, _, rfl, ⟨rfl, rfl⟩, ⟨_, _, rfl, ⟨rfl, rfl⟩, ⟨_, _, rfl, ⟨rfl, rfl⟩, ⟨_, _, rfl, ⟨rfl, rfl⟩, ⟨_, _, rfl, ⟨rfl, rfl⟩, ⟨_, _, rfl, ⟨rfl, rfl⟩, ⟨_, _, rfl, ⟨rfl, rfl⟩, rfl⟩⟩⟩⟩⟩⟩⟩⟩
 refine J0 (J2 (J2 (J1 ?_)))
 refine Jmv (vi 0) rfl rfl ?_
 refine J0 (Jb ?_)
 obtain ⟨t0, h1, hr⟩ := J6 hr
 refine Js 0 h1 (fun s0 ρ w => ∃ (σ0 : Env) (G1 : GH) (c1 : List Value), ρ = En σ0 [(0, va0), (1, (vi a1)), (2, (vi a2)), (7, (pt b0 0)), (10, (vi ((s0.2 : Nat) : Int)))] ∧ Ext G G1 ∧ St B w G1 [.blk b0 c1 185] ∧ EAll (tInt .u8) G1 c1 s0.1 ∧ c1.length = 8 ∧ InK .i64 ((s0.2 : Nat) : Int)) (fun t2 ρ w => ∃ (σ1 : Env) (G2 : GH) (c2 : List Value), ρ = En σ1 [(0, va0), (2, (vi a2)), (7, (pt b0 0))] ∧ Ext G G2 ∧ St B w G2 [.blk b0 c2 185] ∧ EAll (tInt .u8) G2 c2 t2 ∧ c2.length = 8) ⟨_, _, [(.int .u8 0), (.int .u8 0), (.int .u8 0), (.int .u8 0), (.int .u8 0), (.int .u8 0), (.int .u8 0), (.int .u8 0)], (J3 ⟨rfl, rfl, rfl, rfl, rfl, trivial⟩), (Ext.refl _), h0, f0, rfl, (by rfl)⟩ ?_ ?_
 ·rintro s0 x0 _ _ hr ⟨σ0, G1, c1, rfl, e0, h2, f1, f2, f3⟩
  refine J2 (J1 ?_)
  refine Ji rfl rfl rfl ?_
  refine J0 (J2 ?_)
  refine J7 rfl (fun h3 => ?_) (fun h3 => ?_)
  ·replace hr := Jx hr h3
   refine J9 (J2 (Jb (J2 (J1 ?_))))
   refine Jmv (vi ((s0.2 : Nat) : Int)) rfl rfl ?_
   refine Jsv (vi ((s0.2 : Nat) : Int)) rfl rfl ?_
   refine J0 (J1 ?_)
   refine Jmv (vi ((s0.2 : Nat) : Int)) rfl rfl ?_
   refine Yn rfl rfl rfl ?_
   refine Jmv (vi a1) rfl rfl ?_
   refine Jmv (vi ((s0.2 : Nat) : Int)) rfl rfl ?_
   refine WL_conv (by rw [underlying3]; rfl) underlying186 rfl rfl ?_
   refine WL_mul rfl rfl rfl ?_
   obtain ⟨h4, hr⟩ := Ya hr
   refine WL_shr rfl rfl rfl (by simpa using h4) ?_
   refine WL_conv (by rw [underlying2]; rfl) underlying5 rfl rfl ?_
   obtain ⟨h5, hr⟩ := Ya hr
   refine Yb underlying185 ti5 rfl rfl rfl (of_decide_eq_true (band h5).1) (of_decide_eq_true (band h5).2) ?_
   refine WL_storeArr (l1 := []) (T := (tInt .u8)) (xs := s0.1) (u := (IntKind.wrap .u8 (shr .i64 a1 (IntKind.wrap .u64 (8 * (IntKind.wrap .u64 (((s0.2 : Nat) : Int)))))))) ti5 rfl h2 f1 rfl rfl ⟨rfl, (inK_wrap _ _)⟩ (arr_lt f2 f1 h5) ?_
   intro w1 h6 f4
   refine J0 (J1 ?_)
   refine Y2 rfl rfl rfl (of_decide_eq_true h3) rfl ?_
   refine Jmv (vi ((s0.2 + 1 : Nat) : Int)) rfl rfl ?_
   refine J0 ?_
   exact ⟨_, (Option.some.inj hr).symm, _, _, (List.set c1 (Int.toNat ((IntKind.wrap .i64 (7 - ((s0.2 : Nat) : Int))))) (Value.int .u8 (IntKind.wrap .u8 (shr .i64 a1 (IntKind.wrap .u64 (8 * (IntKind.wrap .u64 (((s0.2 : Nat) : Int))))))))), (J3 ⟨rfl, rfl, rfl, rfl, rfl, trivial⟩), e0, h6, f4, ((List.length_set ..).trans f2), (inK_inc (of_decide_eq_true h3) rfl)⟩
  replace hr := Jf hr h3
  refine Jr ?_
  exact ⟨_, (Option.some.inj hr).symm, rfl, _, _, c1, (J3 ⟨rfl, rfl, rfl, trivial⟩), e0, h2, f1, f2⟩
 rintro _ _ ⟨σ1, G2, c2, rfl, e1, h7, f5, f6⟩
 refine J2 (J1 ?_)
 refine WL_buildNone underlying63 ti5 h7 rfl ?_
 intro v1 w2 h8
 refine Jmv va0 rfl rfl ?_
 obtain ⟨h9, hr⟩ := Ya hr
 refine Yf (l1 := []) (T := (tInt .u8)) (xs := a0) underlying63 ti5 h8 rfl rfl (SRep.mono e1.ro ha0) rfl rfl rfl (app_limN rfl h9) (app_leN rfl h9) ?_
 intro v2 w3 n0 E0 h10
 have E1 := EAll.append (T := (tInt .u8)) EAll.nil E0
 refine Jsv v2 rfl rfl ?_
 refine J0 (J2 (J2 (J1 ?_)))
 refine Jmv (vi a2) rfl rfl ?_
 refine Ji rfl rfl rfl ?_
 refine Jmv (.bool (decide (a2 < 1))) rfl rfl ?_
 obtain ⟨t1, hr, o0⟩ := J6 hr
 refine Jw 3 (fun ρ w => ∃ (σ2 : Env) (G3 : GH), ρ = En σ2 [(2, (vi a2)), (7, (pt b0 0)), (9, v2), (31, (.bool t1))] ∧ Ext G2 G3 ∧ St B w G3 [.blk b0 c2 185, .row v2 5 1 (0 + a0.length) ([] ++ n0)]) ?_ ?_
 ·rcases Y8 (decide (a2 < 1)) with hb_ | hb_
  ·have h11 : (decide (a2 < 1)) = true := hb_
   replace hr := Jx hr h11
   refine Jv rfl rfl rfl rfl h11 ?_
   refine Jv rfl rfl rfl rfl h11 ?_
   refine Y9 (v := (.bool true)) rfl rfl h11 rfl ?_
   refine J0 ?_
   have h12 := St.pick 1 rfl h10
   obtain rfl := Option.some.inj hr
   exact ⟨_, _, (J3 ⟨rfl, rfl, rfl, rfl, trivial⟩), (Ext.refl _), h12⟩
  have h13 : (decide (a2 < 1)) = false := hb_
  replace hr := Jf hr h13
  refine Ja rfl rfl rfl rfl h13 ?_
  refine Jmv (vi a2) rfl rfl ?_
  refine Ja rfl rfl rfl rfl h13 ?_
  refine Yh rfl rfl rfl ?_
  refine Jt (v := (.bool (decide (a2 > 8)))) rfl rfl h13 rfl ?_
  refine J0 ?_
  have h14 := St.pick 1 rfl h10
  obtain rfl := Option.some.inj hr
  exact ⟨_, _, (J3 ⟨rfl, rfl, rfl, rfl, trivial⟩), (Ext.refl _), h14⟩
 rintro _ _ ⟨σ2, G3, rfl, e2, h15⟩
 replace hr := o0
 refine J0 ?_
 refine J7 rfl (fun h16 => ?_) (fun h16 => ?_)
 ·replace hr := Jx hr h16
  refine J2 (J1 ?_)
  refine Jmv v2 rfl rfl ?_
  refine Jsv v2 rfl rfl ?_
  refine J0 (Jg ?_)
  have h17 := St.row_len (l1 := [_]) (k := (([] : (List Int)) ++ a0).length) (len_app rfl) h15
  have h18 := St.pick 1 rfl h17
  have h19 := St.takeN 1 h18
  obtain rfl := Option.some.inj hr
  exact ⟨[v2], ⟨rfl, trivial⟩, _, _, _, rfl, (e1.trans e2), h19, ⟨v2, ([] ++ n0), rfl, rfl, (EAll.mono e2.ro E1), (le_eq (m := (0 + a0.length)) (len_app rfl) (app_leN rfl h9))⟩⟩
 replace hr := Jf hr h16
 refine J9 (J2 (J1 ?_))
 refine Jmv v2 rfl rfl ?_
 refine Jmv (vi a2) rfl rfl ?_
 refine Yn rfl rfl rfl ?_
 obtain ⟨h1a, hr⟩ := Ya hr
 refine WL_sliceArr (l1 := []) (T := (tInt .u8)) (xs := t0) (l := (Int.toNat ((IntKind.wrap .i64 (8 - a2))))) (h := 8) underlying185 ti5 h15 (EAll.mono e2.ro f5) (arr_len (N := 8) f6 (EAll.mono e2.ro f5)) rfl rfl (sbL h1a rfl _) (Int.toNat_le.2 (of_decide_eq_true (band h1a).2)) (Nat.le_refl _) (by decide) ?_
 intro v3 G4 e3 f7 f8 h1b
 obtain ⟨h1c, hr⟩ := Ya hr
 refine Yf (l1 := []) (T := (tInt .u8)) (xs := (List.take (8 - (Int.toNat ((IntKind.wrap .i64 (8 - a2))))) (List.drop (Int.toNat ((IntKind.wrap .i64 (8 - a2)))) t0))) underlying63 ti5 h1b rfl rfl f7 rfl rfl rfl (app_limN (len_app rfl) h1c) (app_leN (len_app rfl) h1c) ?_
 intro v4 w4 n1 E2 h1d
 have E3 := EAll.append (T := (tInt .u8)) (EAll.mono (e2.ro.trans e3.ro) E1) E2
 refine Jsv v4 rfl rfl ?_
 refine J0 (Jg ?_)
 have h1e := St.row_len (l1 := []) (k := ((([] : (List Int)) ++ a0) ++ (List.take (8 - (Int.toNat ((IntKind.wrap .i64 (8 - a2))))) (List.drop (Int.toNat ((IntKind.wrap .i64 (8 - a2)))) t0))).length) (len_app (len_app rfl)) h1d
 obtain rfl := Option.some.inj hr
 exact ⟨[v4], ⟨rfl, trivial⟩, _, _, _, rfl, (e1.trans (e2.trans e3)), h1e, ⟨v4, (([] ++ n0) ++ n1), rfl, rfl, E3, (le_eq (m := ((0 + a0.length) + (List.take (8 - (Int.toNat ((IntKind.wrap .i64 (8 - a2))))) (List.drop (Int.toNat ((IntKind.wrap .i64 (8 - a2)))) t0)).length)) (len_app (len_app rfl)) (app_leN (len_app rfl) h1c))⟩⟩
def fun_flag.f (a0 : Bool) : Option (Int) :=
 bif a0 then some 1 else some 0
def fun_flag.K (r : Int) (G3 : GH) (v : Value) (N : List Res) : Prop := v = tup [(vi r)] ∧ N = [] ∧ InK .i64 r
theorem fun_flag.ok {a0 : Bool} (st : St B w G []) {r : Int} (hr : fun_flag.f a0 = some r) :
 Calls Tryz.prog 133 ([(.bool a0)] : List Value).toArray w (Ret B G (fun_flag.K r)) := by
 refine Jc [.tmp 2] func133 rfl ntmps133 rfl rfl ?_
 refine J2 (J1 ?_)
 refine Jsv (vi 0) rfl rfl ?_
 refine J0 (J2 (J2 (J1 ?_)))
 refine Jmv (.bool a0) rfl rfl ?_
 refine J0 ?_
 refine J7 rfl (fun h0 => ?_) (fun h0 => ?_)
 ·replace hr := Jx hr h0
  refine J2 (J1 ?_)
  refine Jsv (vi 1) rfl rfl ?_
  refine J0 (Jg ?_)
  obtain rfl := Option.some.inj hr
  exact ⟨[(vi 1)], ⟨rfl, trivial⟩, _, _, _, rfl, (Ext.refl _), st, ⟨rfl, rfl, (by rfl)⟩⟩
 replace hr := Jf hr h0
 refine J9 (J2 (J1 ?_))
 refine Jsv (vi 0) rfl rfl ?_
 refine J0 (Jg ?_)
 obtain rfl := Option.some.inj hr
 exact ⟨[(vi 0)], ⟨rfl, trivial⟩, _, _, _, rfl, (Ext.refl _), st, ⟨rfl, rfl, (by rfl)⟩⟩
def sum_Adder_Sum.f (a0_ : Xsum_Adder) : Option (Int) :=
 bif !a0_.live then some 0 else some (bits .or .i64 (shl .i64 a0_.b 16) a0_.a)
def sum_Adder_Sum.K (ba0 : Nat) (a0_ : Xsum_Adder) (r : Int) (G0 : GH) (v : Value) (N : List Res) : Prop := v = tup [(vi r)] ∧ N = [.blk ba0 [(vi a0_.a), (vi a0_.b), (.bool a0_.live)] 263] ∧ InK .i64 r
theorem sum_Adder_Sum.ok {ba0 : Nat} {ca0_ : List Value} {a0_ : Xsum_Adder} (st : St B w G [.blk ba0 ca0_ 263]) (ha0_ : Tsum_Adder.rep G ca0_ a0_) {r : Int} (hr : sum_Adder_Sum.f a0_ = some r) :
 Calls Tryz.prog 176 ([(pt ba0 0)] : List Value).toArray w (Ret B G (sum_Adder_Sum.K ba0 a0_ r)) := by
 obtain ⟨rfl, ha0__0, ha0__1⟩ := ha0_
 refine Jc [.tmp 2] func176 rfl ntmps176 rfl rfl ?_
 refine J2 (J1 ?_)
 refine Jsv (vi 0) rfl rfl ?_
 refine J0 (J2 (J2 (J1 ?_)))
 refine Jmv (pt ba0 0) rfl rfl ?_
 refine WL_peql underlying221 rfl rfl rfl ?_
 refine Jmv (.bool false) rfl rfl ?_
 refine Jq rfl rfl rfl rfl (fun _ => ?_) (fun h => nomatch h)
 refine Jmv (pt ba0 0) rfl rfl ?_
 refine Jq rfl rfl rfl rfl (fun _ => ?_) (fun h => nomatch h)
 refine Je rfl rfl ?_
 refine Jq rfl rfl rfl rfl (fun _ => ?_) (fun h => nomatch h)
 refine Jfa 2 2 underlying263 rfl ti4 rfl rfl rfl rfl ?_
 refine Jq rfl rfl rfl rfl (fun _ => ?_) (fun h => nomatch h)
 refine Jlb [] (.bool a0_.live) ti4 st rfl rfl rfl ?_
 refine Jq rfl rfl rfl rfl (fun _ => ?_) (fun h => nomatch h)
 refine Yc rfl rfl ?_
 refine Jt (v := (.bool !a0_.live)) rfl rfl rfl rfl ?_
 refine J0 ?_
 refine J7 rfl (fun h0 => ?_) (fun h0 => ?_)
 ·replace hr := Jx hr h0
  refine J2 (J1 ?_)
  refine Jsv (vi 0) rfl rfl ?_
  refine J0 (Jg ?_)
  obtain rfl := Option.some.inj hr
  exact ⟨[(vi 0)], ⟨rfl, trivial⟩, _, _, _, rfl, (Ext.refl _), st, ⟨rfl, rfl, (by rfl)⟩⟩
 replace hr := Jf hr h0
 refine J9 (J2 ?_)
 refine Ye 9 [some 12, some 13, some 14, some 15, some 16, some 17, some 18, some 19, some 20] (pk [(fun G_ v_ => v_ = (pt ba0 0)), (fun G_ v_ => v_ = (pt ba0 0)), (fun G_ v_ => v_ = (pt ba0 1)), (fun G_ v_ => v_ = (vi a0_.b)), (fun G_ v_ => v_ = (vi (shl .i64 a0_.b 16))), (fun G_ v_ => v_ = (pt ba0 0)), (fun G_ v_ => v_ = (pt ba0 0)), (fun G_ v_ => v_ = (pt ba0 0)), (fun G_ v_ => v_ = (vi a0_.a))]) rfl (by kernel_rfl) rfl st ?_ ?_
 ·refine Each.cons ?_ (Each.cons ?_ (Each.cons ?_ (Each.cons ?_ (Each.cons ?_ (Each.cons ?_ (Each.cons ?_ (Each.cons ?_ (Each.cons ?_ Each.nil))))))))
  ·intro q0 w0 G1 e0 h1 h2 h3
   rw [J3 (ρ := q0) (l := [(0, (pt ba0 0))]) ⟨(h2.1 0 (by decide)).trans rfl, trivial⟩]
   refine Jmv (pt ba0 0) rfl rfl ?_
   exact J0 (J4 (Ext.refl _) h1 fun G2 e1 => rfl)
  ·intro q0 w0 G1 e0 h1 h2 h3
   obtain ⟨hd0_, _⟩ := h3
   have hv12 := hd0_
   rw [J3 (ρ := q0) (l := [(12, (pt ba0 0))]) ⟨hv12, trivial⟩]
   refine Je rfl rfl ?_
   exact J0 (J4 (Ext.refl _) h1 fun G3 e2 => rfl)
  ·intro q0 w0 G1 e0 h1 h2 h3
   obtain ⟨hd0_, _⟩ := h3
   have hv13 := hd0_
   rw [J3 (ρ := q0) (l := [(13, (pt ba0 0))]) ⟨hv13, trivial⟩]
   refine Jfa 1 1 underlying263 rfl ti2 rfl rfl rfl rfl ?_
   exact J0 (J4 (Ext.refl _) h1 fun G4 e3 => rfl)
  ·intro q0 w0 G1 e0 h1 h2 h3
   obtain ⟨hd0_, _⟩ := h3
   have hv14 := hd0_
   rw [J3 (ρ := q0) (l := [(14, (pt ba0 1))]) ⟨hv14, trivial⟩]
   refine Jlb [] (vi a0_.b) ti2 h1 rfl rfl rfl ?_
   exact J0 (J4 (Ext.refl _) h1 fun G5 e4 => rfl)
  ·intro q0 w0 G1 e0 h1 h2 h3
   obtain ⟨hd0_, _⟩ := h3
   have hv15 := hd0_
   rw [J3 (ρ := q0) (l := [(15, (vi a0_.b))]) ⟨hv15, trivial⟩]
   refine WL_shl rfl rfl rfl (by decide) ?_
   exact J0 (J4 (Ext.refl _) h1 fun G6 e5 => rfl)
  ·intro q0 w0 G1 e0 h1 h2 h3
   rw [J3 (ρ := q0) (l := [(0, (pt ba0 0))]) ⟨(h2.1 0 (by decide)).trans rfl, trivial⟩]
   refine Jmv (pt ba0 0) rfl rfl ?_
   exact J0 (J4 (Ext.refl _) h1 fun G7 e6 => rfl)
  ·intro q0 w0 G1 e0 h1 h2 h3
   obtain ⟨hd0_, _⟩ := h3
   have hv17 := hd0_
   rw [J3 (ρ := q0) (l := [(17, (pt ba0 0))]) ⟨hv17, trivial⟩]
   refine Je rfl rfl ?_
   exact J0 (J4 (Ext.refl _) h1 fun G8 e7 => rfl)
  ·intro q0 w0 G1 e0 h1 h2 h3
   obtain ⟨hd0_, _⟩ := h3
   have hv18 := hd0_
   rw [J3 (ρ := q0) (l := [(18, (pt ba0 0))]) ⟨hv18, trivial⟩]
   refine Jfa 0 0 underlying263 rfl ti2 rfl rfl rfl rfl ?_
   exact J0 (J4 (Ext.refl _) h1 fun G9 e8 => rfl)
  intro q0 w0 G1 e0 h1 h2 h3
  obtain ⟨hd0_, _⟩ := h3
  have hv19 := hd0_
  rw [J3 (ρ := q0) (l := [(19, (pt ba0 0))]) ⟨hv19, trivial⟩]
  refine Jlb [] (vi a0_.a) ti2 h1 rfl rfl rfl ?_
  exact J0 (J4 (Ext.refl _) h1 fun Ga e9 => rfl)
 intro q0 w0 G1 e0 h1 h2 h3
 have hv16 := h3 4 (by decide)
 have hv20 := h3 8 (by decide)
 rw [J3 (ρ := q0) (l := [(16, (vi (shl .i64 a0_.b 16))), (20, (vi a0_.a))]) ⟨hv16, hv20, trivial⟩]
 refine WL_bits rfl rfl rfl (by simp) ?_
 refine Jsv (vi (bits .or .i64 (shl .i64 a0_.b 16) a0_.a)) rfl rfl ?_
 refine J0 (Jg ?_)
 obtain rfl := Option.some.inj hr
 exact ⟨[(vi (bits .or .i64 (shl .i64 a0_.b 16) a0_.a))], ⟨rfl, trivial⟩, _, _, _, rfl, e0, h1, ⟨rfl, rfl, (inK_wrap _ _)⟩⟩
def octet_New.f (a0 : (List Int)) : Option ((List Int)) :=
 bif decide ((([] : (List Int)).length + a0.length) * 1 ≤ SB) then some (([] : (List Int)) ++ a0) else none
def octet_New.K (r : (List Int)) (G18 : GH) (v : Value) (N : List Res) : Prop := ∃ (v24 : Value) (c25 : List Value) (b23 : Nat), v = tup [(pt b23 0)] ∧ N = [.row v24 5 1 r.length c25, .blk b23 [v24, (vi 0), (.bool true), (.bool false)] 163] ∧ EAll (tInt .u8) G18 c25 r ∧ r.length ≤ SB
theorem octet_New.ok {va0 : Value} {a0 : (List Int)} (st : St B w G []) (ha0 : SRep 5 (tInt .u8) G va0 a0) {r : (List Int)} (hr : octet_New.f a0 = some r) :
 Calls Tryz.prog 58 ([va0] : List Value).toArray w (Ret B G (octet_New.K r)) := by
 refine Jc [.tmp 2] func58 rfl ntmps58 rfl rfl ?_
 refine J2 (J1 ?_)
 refine Jsv (.pointer none) rfl rfl ?_
 refine J0 (J2 (J1 ?_))
 refine WL_buildNone underlying63 ti5 st rfl ?_
 intro v0 w0 h0
 refine Jmv va0 rfl rfl ?_
 obtain ⟨h1, hr⟩ := Ya hr
 refine Yf (l1 := []) (T := (tInt .u8)) (xs := a0) underlying63 ti5 h0 rfl rfl ha0 rfl rfl rfl (app_limN rfl h1) (app_leN rfl h1) ?_
 intro v1 w1 n0 E0 h2
 have E1 := EAll.append (T := (tInt .u8)) EAll.nil E0
 refine Y0 (cells := #[v1, (vi 0), (.bool true), (.bool false)]) rfl (by obtain ⟨_, _, _, e_⟩ := row_shape (St.mid (l1 := []) h2); subst e_; kernel_rfl) ?_
 refine Ju (cs := [v1, (vi 0), (.bool true), (.bool false)]) h2 rfl rfl rfl ?_
 intro b0 w2 h3
 refine Jsv (pt b0 0) rfl rfl ?_
 refine J0 (Jg ?_)
 have h4 := St.row_len (l1 := [_]) (k := (([] : (List Int)) ++ a0).length) (len_app rfl) h3
 have h5 := St.pick 1 rfl h4
 obtain rfl := Option.some.inj hr
 exact ⟨[(pt b0 0)], ⟨rfl, trivial⟩, _, _, _, rfl, (Ext.refl _), h5, ⟨v1, ([] ++ n0), b0, rfl, rfl, E1, (le_eq (m := (0 + a0.length)) (len_app rfl) (app_leN rfl h1))⟩⟩
def file_part.f (a0_0 : (List Int)) (a0_1 : Int) (a0_2 : Bool) (a0_3 : Bool) (a1_c2_0_0 : (List XSymbol)) (a1_c2_0_1 : (List XFunc)) (a1_c2_0_2 : (List XData)) : Option (((List Int) × (List XSymbol) × (List XFunc) × (List XData))) :=
 some (a0_0, a1_c2_0_0, a1_c2_0_1, a1_c2_0_2)
def file_part.K (ba0 : Nat) (a0_1 : Int) (a0_2 : Bool) (a0_3 : Bool) (ba1_c0 : Nat) (ba1_c1 : Nat) (ba1_c2_0 : Nat) (ba1_c2 : Nat) (r : ((List Int) × (List XSymbol) × (List XFunc) × (List XData))) (G10 : GH) (v : Value) (N : List Res) : Prop := ∃ (v16 : Value) (v23 : Value) (v28 : Value) (v33 : Value) (c17 : List Value) (c24 : List Value) (c29 : List Value) (c34 : List Value) (b15 : Nat) (b22 : Nat), v = tup [(.func (.func 112) #[] #[(pt b15 0), (pt b22 0)])] ∧ N = [.row v16 5 1 r.1.length c17, .blk ba0 [v16, (vi a0_1), (.bool a0_2), (.bool a0_3)] 163, .blk b15 [(pt ba0 0)] 104, .blk ba1_c0 [(.func (.func 62) #[] #[])] 111, .blk ba1_c1 [(pt ba0 0)] 104, .row v23 82 5 r.2.1.length c24, .row v28 44 9 r.2.2.1.length c29, .row v33 49 3 r.2.2.2.length c34, .blk ba1_c2_0 [v23, v28, v33] 61, .blk ba1_c2 [(pt ba1_c2_0 0)] 110, .blk b22 [(.func (.func 114) #[] #[(pt ba1_c0 0), (pt ba1_c1 0), (pt ba1_c2 0)])] 107] ∧ EAll (tInt .u8) G10 c17 r.1 ∧ r.1.length ≤ SB ∧ EAll TSymbol G10 c24 r.2.1 ∧ r.2.1.length ≤ SB ∧ EAll TFunc G10 c29 r.2.2.1 ∧ r.2.2.1.length ≤ SB ∧ EAll TData G10 c34 r.2.2.2 ∧ r.2.2.2.length ≤ SB
theorem file_part.ok {ba0 : Nat} {va0_0 : Value} {ca0_0 : List Value} {a0_0 : (List Int)} {a0_1 : Int} {a0_2 : Bool} {a0_3 : Bool} {ba1_c0 : Nat} {ba1_c1 : Nat} {ba1_c2 : Nat} {ba1_c2_0 : Nat} {va1_c2_0_0 : Value} {ca1_c2_0_0 : List Value} {a1_c2_0_0 : (List XSymbol)} {va1_c2_0_1 : Value} {ca1_c2_0_1 : List Value} {a1_c2_0_1 : (List XFunc)} {va1_c2_0_2 : Value} {ca1_c2_0_2 : List Value} {a1_c2_0_2 : (List XData)} (st : St B w G [.blk ba0 [va0_0, (vi a0_1), (.bool a0_2), (.bool a0_3)] 163, .row va0_0 5 1 a0_0.length ca0_0, .blk ba1_c0 [(.func (.func 62) #[] #[])] 111, .blk ba1_c1 [(pt ba0 0)] 104, .blk ba1_c2 [(pt ba1_c2_0 0)] 110, .blk ba1_c2_0 [va1_c2_0_0, va1_c2_0_1, va1_c2_0_2] 61, .row va1_c2_0_0 82 5 a1_c2_0_0.length ca1_c2_0_0, .row va1_c2_0_1 44 9 a1_c2_0_1.length ca1_c2_0_1, .row va1_c2_0_2 49 3 a1_c2_0_2.length ca1_c2_0_2]) (ha0_0 : EAll (tInt .u8) G ca0_0 a0_0) (lha0_0 : a0_0.length ≤ SB) (ha0_1 : InK .i64 a0_1) (ha1_c2_0_0 : EAll TSymbol G ca1_c2_0_0 a1_c2_0_0) (lha1_c2_0_0 : a1_c2_0_0.length ≤ SB) (ha1_c2_0_1 : EAll TFunc G ca1_c2_0_1 a1_c2_0_1) (lha1_c2_0_1 : a1_c2_0_1.length ≤ SB) (ha1_c2_0_2 : EAll TData G ca1_c2_0_2 a1_c2_0_2) (lha1_c2_0_2 : a1_c2_0_2.length ≤ SB) {r : ((List Int) × (List XSymbol) × (List XFunc) × (List XData))} (hr : file_part.f a0_0 a0_1 a0_2 a0_3 a1_c2_0_0 a1_c2_0_1 a1_c2_0_2 = some r) :
 Calls Tryz.prog 60 ([(pt ba0 0), (.func (.func 114) #[] #[(pt ba1_c0 0), (pt ba1_c1 0), (pt ba1_c2 0)])] : List Value).toArray w (Ret B G (file_part.K ba0 a0_1 a0_2 a0_3 ba1_c0 ba1_c1 ba1_c2_0 ba1_c2 r)) := by
 refine Jc [.tmp 4] func60 rfl ntmps60 rfl rfl ?_
 refine J2 (J1 ?_)
 refine Ju (cs := [(pt ba0 0)]) st rfl rfl rfl ?_
 intro b0 w0 h0
 refine Ju (cs := [(.func (.func 114) #[] #[(pt ba1_c0 0), (pt ba1_c1 0), (pt ba1_c2 0)])]) h0 rfl rfl rfl ?_
 intro b1 w1 h1
 refine Jsv .nilFunc rfl rfl ?_
 refine J0 (J2 (J1 ?_))
 refine Yg (fs := []) (cs := [(pt b0 0), (pt b1 0)]) rfl rfl rfl ?_
 refine Jsv (.func (.func 112) #[] #[(pt b0 0), (pt b1 0)]) rfl rfl ?_
 refine J0 (Jg ?_)
 have h2 := St.pick 6 rfl h1
 have h3 := St.pick 7 rfl h2
 have h4 := St.pick 10 rfl h3
 have h5 := St.pick 10 rfl h4
 have h6 := St.pick 10 rfl h5
 have h7 := St.pick 10 rfl h6
 have h8 := St.pick 10 rfl h7
 have h9 := St.pick 8 rfl h8
 have h10 := St.pick 9 rfl h9
 have h11 := St.pick 10 rfl h10
 obtain rfl := Option.some.inj hr
 exact ⟨[(.func (.func 112) #[] #[(pt b0 0), (pt b1 0)])], ⟨rfl, trivial⟩, _, _, _, rfl, (Ext.refl _), h11, ⟨va0_0, va1_c2_0_0, va1_c2_0_1, va1_c2_0_2, ca0_0, ca1_c2_0_0, ca1_c2_0_1, ca1_c2_0_2, b0, b1, rfl, rfl, ha0_0, lha0_0, ha1_c2_0_0, lha1_c2_0_0, ha1_c2_0_1, lha1_c2_0_1, ha1_c2_0_2, lha1_c2_0_2⟩⟩
def octet_Reader_Bad_s2.f (a0_ : Xoctet_Reader) : Option (Unit) :=
 (bif !a0_.live then none else some ()).bind fun t0 => some ()
def octet_Reader_Bad_s2.K (a0_ : Xoctet_Reader) (ba0 : Nat) (r : Unit) (G11 : GH) (v : Value) (N : List Res) : Prop := ∃ (v15 : Value), v = tup [(.bool a0_.bad)] ∧ N = [.blk ba0 [v15, (vi a0_.at_), (.bool a0_.live), (.bool a0_.bad)] 163] ∧ SRep 5 (tInt .u8) G11 v15 a0_.b
theorem octet_Reader_Bad_s2.ok {ba0 : Nat} {ca0_ : List Value} {a0_ : Xoctet_Reader} (st : St B w G [.blk ba0 ca0_ 163]) (ha0_ : Toctet_Reader.rep G ca0_ a0_) {r : Unit} (hr : octet_Reader_Bad_s2.f a0_ = some r) :
 Calls Tryz.prog 113 ([(pt ba0 0)] : List Value).toArray w (Ret B G (octet_Reader_Bad_s2.K a0_ ba0 r)) := by
 obtain ⟨sa0__0, rfl, ha0__0, ha0__1⟩ := ha0_
 refine Jc [.tmp 2] func113 rfl ntmps113 rfl rfl ?_
 refine J2 (J1 ?_)
 refine Jsv (.bool false) rfl rfl ?_
 refine J0 (J2 (J1 ?_))
 refine Jmv (pt ba0 0) rfl rfl ?_
 refine WL_peql underlying104 rfl rfl rfl ?_
 refine Jmv (.bool false) rfl rfl ?_
 refine Jq rfl rfl rfl rfl (fun _ => ?_) (fun h => nomatch h)
 refine Jmv (pt ba0 0) rfl rfl ?_
 refine Jq rfl rfl rfl rfl (fun _ => ?_) (fun h => nomatch h)
 refine Je rfl rfl ?_
 refine Jq rfl rfl rfl rfl (fun _ => ?_) (fun h => nomatch h)
 refine Jfa 2 2 underlying163 rfl ti4 rfl rfl rfl rfl ?_
 refine Jq rfl rfl rfl rfl (fun _ => ?_) (fun h => nomatch h)
 refine Jlb [] (.bool a0_.live) ti4 st rfl rfl rfl ?_
 refine Jq rfl rfl rfl rfl (fun _ => ?_) (fun h => nomatch h)
 refine Yc rfl rfl ?_
 refine Jt (v := (.bool !a0_.live)) rfl rfl rfl rfl ?_
 refine Jmv (.bool !a0_.live) rfl rfl ?_
 obtain ⟨t0, hr, o0⟩ := J6 hr
 refine Jw 5 (fun ρ w => ∃ (σ0 : Env) (G0 : GH), ρ = En σ0 [(2, (.bool false)), (17, (.bool a0_.bad))] ∧ Ext G G0 ∧ St B w G0 [.blk ba0 [sa0__0, (vi a0_.at_), (.bool a0_.live), (.bool a0_.bad)] 163]) ?_ ?_
 ·rcases Y8 (!a0_.live) with hb_ | hb_
  ·exact Jk hr hb_
  have h0 : (!a0_.live) = false := hb_
  replace hr := Jf hr h0
  refine Ja rfl rfl rfl rfl h0 ?_
  refine Jmv (pt ba0 0) rfl rfl ?_
  refine Ja rfl rfl rfl rfl h0 ?_
  refine Je rfl rfl ?_
  refine Ja rfl rfl rfl rfl h0 ?_
  refine Jfa 3 3 underlying163 rfl ti4 rfl rfl rfl rfl ?_
  refine Ja rfl rfl rfl rfl h0 ?_
  refine Jlb [] (.bool a0_.bad) ti4 st rfl rfl rfl ?_
  refine Jt (v := (.bool a0_.bad)) rfl rfl h0 rfl ?_
  refine J0 ?_
  obtain rfl := Option.some.inj hr
  exact ⟨_, _, (J3 ⟨rfl, rfl, trivial⟩), (Ext.refl _), st⟩
 rintro _ _ ⟨σ0, G0, rfl, e0, h1⟩
 replace hr := o0
 refine Jsv (.bool a0_.bad) rfl rfl ?_
 refine J0 (Jg ?_)
 obtain rfl := Option.some.inj hr
 exact ⟨[(.bool a0_.bad)], ⟨rfl, trivial⟩, _, _, _, rfl, e0, h1, ⟨sa0__0, rfl, rfl, (SRep.mono e0.ro ha0__0)⟩⟩
def octet_Reader_Left_s2.f (a0_ : Xoctet_Reader) : Option (Int) :=
 some (IntKind.wrap .i64 ((a0_.b.length : Int) - a0_.at_))
def octet_Reader_Left_s2.K (ba0 : Nat) (a0_ : Xoctet_Reader) (r : Int) (G0 : GH) (v : Value) (N : List Res) : Prop := ∃ (v0 : Value), v = tup [(vi r)] ∧ N = [.blk ba0 [v0, (vi a0_.at_), (.bool a0_.live), (.bool a0_.bad)] 163] ∧ InK .i64 r ∧ SRep 5 (tInt .u8) G0 v0 a0_.b
theorem octet_Reader_Left_s2.ok {ba0 : Nat} {ca0_ : List Value} {a0_ : Xoctet_Reader} (st : St B w G [.blk ba0 ca0_ 163]) (ha0_ : Toctet_Reader.rep G ca0_ a0_) {r : Int} (hr : octet_Reader_Left_s2.f a0_ = some r) :
 Calls Tryz.prog 67 ([(pt ba0 0)] : List Value).toArray w (Ret B G (octet_Reader_Left_s2.K ba0 a0_ r)) := by
 obtain ⟨sa0__0, rfl, ha0__0, ha0__1⟩ := ha0_
 refine Jc [.tmp 2] func67 rfl ntmps67 rfl rfl ?_
 refine J2 (J1 ?_)
 refine Jsv (vi 0) rfl rfl ?_
 refine J0 (J2 (J2 (J1 ?_)))
 refine Jmv (pt ba0 0) rfl rfl ?_
 refine WL_peql underlying104 rfl rfl rfl ?_
 refine J0 ?_
 refine J7 rfl (fun h => nomatch h) (fun _ => ?_)
 refine J9 (J2 ?_)
 refine Ye 9 [some 5, some 6, some 7, some 8, some 9, some 10, some 11, some 12, some 13] (pk [(fun G_ v_ => v_ = (pt ba0 0)), (fun G_ v_ => v_ = (pt ba0 0)), (fun G_ v_ => v_ = (pt ba0 0)), (fun G_ v_ => v_ = sa0__0), (fun G_ v_ => v_ = (vi (a0_.b.length : Int))), (fun G_ v_ => v_ = (pt ba0 0)), (fun G_ v_ => v_ = (pt ba0 0)), (fun G_ v_ => v_ = (pt ba0 1)), (fun G_ v_ => v_ = (vi a0_.at_))]) rfl (by kernel_rfl) rfl st ?_ ?_
 ·refine Each.cons ?_ (Each.cons ?_ (Each.cons ?_ (Each.cons ?_ (Each.cons ?_ (Each.cons ?_ (Each.cons ?_ (Each.cons ?_ (Each.cons ?_ Each.nil))))))))
  ·intro q0 w0 G1 e0 h0 h1 h2
   rw [J3 (ρ := q0) (l := [(0, (pt ba0 0))]) ⟨(h1.1 0 (by decide)).trans rfl, trivial⟩]
   refine Jmv (pt ba0 0) rfl rfl ?_
   exact J0 (J4 (Ext.refl _) h0 fun G2 e1 => rfl)
  ·intro q0 w0 G1 e0 h0 h1 h2
   obtain ⟨hd0_, _⟩ := h2
   have hv5 := hd0_
   rw [J3 (ρ := q0) (l := [(5, (pt ba0 0))]) ⟨hv5, trivial⟩]
   refine Je rfl rfl ?_
   exact J0 (J4 (Ext.refl _) h0 fun G3 e2 => rfl)
  ·intro q0 w0 G1 e0 h0 h1 h2
   obtain ⟨hd0_, _⟩ := h2
   have hv6 := hd0_
   rw [J3 (ρ := q0) (l := [(6, (pt ba0 0))]) ⟨hv6, trivial⟩]
   refine Jfa 0 0 underlying163 rfl ti63 rfl rfl rfl rfl ?_
   exact J0 (J4 (Ext.refl _) h0 fun G4 e3 => rfl)
  ·intro q0 w0 G1 e0 h0 h1 h2
   obtain ⟨hd0_, _⟩ := h2
   have hv7 := hd0_
   rw [J3 (ρ := q0) (l := [(7, (pt ba0 0))]) ⟨hv7, trivial⟩]
   refine Jlb [] sa0__0 ti63 h0 rfl rfl rfl ?_
   exact J0 (J4 (Ext.refl _) h0 fun G5 e4 => rfl)
  ·intro q0 w0 G1 e0 h0 h1 h2
   obtain ⟨hd0_, _⟩ := h2
   have hv8 := hd0_
   rw [J3 (ρ := q0) (l := [(8, sa0__0)]) ⟨hv8, trivial⟩]
   refine Jd (T := (tInt .u8)) underlying63 (SRep.mono e0.ro ha0__0) rfl rfl ?_
   exact J0 (J4 (Ext.refl _) h0 fun G6 e5 => rfl)
  ·intro q0 w0 G1 e0 h0 h1 h2
   rw [J3 (ρ := q0) (l := [(0, (pt ba0 0))]) ⟨(h1.1 0 (by decide)).trans rfl, trivial⟩]
   refine Jmv (pt ba0 0) rfl rfl ?_
   exact J0 (J4 (Ext.refl _) h0 fun G7 e6 => rfl)
  ·intro q0 w0 G1 e0 h0 h1 h2
   obtain ⟨hd0_, _⟩ := h2
   have hv10 := hd0_
   rw [J3 (ρ := q0) (l := [(10, (pt ba0 0))]) ⟨hv10, trivial⟩]
   refine Je rfl rfl ?_
   exact J0 (J4 (Ext.refl _) h0 fun G8 e7 => rfl)
  ·intro q0 w0 G1 e0 h0 h1 h2
   obtain ⟨hd0_, _⟩ := h2
   have hv11 := hd0_
   rw [J3 (ρ := q0) (l := [(11, (pt ba0 0))]) ⟨hv11, trivial⟩]
   refine Jfa 1 1 underlying163 rfl ti3 rfl rfl rfl rfl ?_
   exact J0 (J4 (Ext.refl _) h0 fun G9 e8 => rfl)
  intro q0 w0 G1 e0 h0 h1 h2
  obtain ⟨hd0_, _⟩ := h2
  have hv12 := hd0_
  rw [J3 (ρ := q0) (l := [(12, (pt ba0 1))]) ⟨hv12, trivial⟩]
  refine Jlb [] (vi a0_.at_) ti3 h0 rfl rfl rfl ?_
  exact J0 (J4 (Ext.refl _) h0 fun Ga e9 => rfl)
 intro q0 w0 G1 e0 h0 h1 h2
 have hv9 := h2 4 (by decide)
 have hv13 := h2 8 (by decide)
 rw [J3 (ρ := q0) (l := [(9, (vi (a0_.b.length : Int))), (13, (vi a0_.at_))]) ⟨hv9, hv13, trivial⟩]
 refine Yn rfl rfl rfl ?_
 refine Jsv (vi (IntKind.wrap .i64 ((a0_.b.length : Int) - a0_.at_))) rfl rfl ?_
 refine J0 (Jg ?_)
 obtain rfl := Option.some.inj hr
 exact ⟨[(vi (IntKind.wrap .i64 ((a0_.b.length : Int) - a0_.at_)))], ⟨rfl, trivial⟩, _, _, _, rfl, e0, h0, ⟨sa0__0, rfl, rfl, (inK_wrap _ _), (SRep.mono e0.ro ha0__0)⟩⟩
end Go.Proofs.YtnglgjgflohkmaaGreat.Sk
