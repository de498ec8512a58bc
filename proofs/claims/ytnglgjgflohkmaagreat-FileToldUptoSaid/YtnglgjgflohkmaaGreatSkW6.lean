/- Walks, printed by gen.py. No condition. -/
import Derived.Test.YtnglgjgflohkmaaGreatSkTy
import Derived.Test.YtnglgjgflohkmaaGreatSkW1
import Derived.Test.YtnglgjgflohkmaaGreatSkW3
import Derived.Test.YtnglgjgflohkmaaGreatSkW4
namespace Go.Proofs.YtnglgjgflohkmaaGreat.Sk
open Go Go.Proofs.Tryz
set_option linter.unusedVariables false
set_option linter.unusedSimpArgs false
variable {B w : World} {G : GH}
set_option linter.unusedVariables false
set_option maxHeartbeats 4000000
set_option maxRecDepth 100000
def flow_Next.f (a0 : (List XInstr)) (a1 : Int) : Option ((List Int)) :=
 (bif decide (a1 < 0) then none else some ()).bind fun t0 => bif decide (a1 ≥ (a0.length : Int)) then none else (idx a0 a1).bind fun x0 => (bif decide (x0.Op = 12) then none else bif decide (x0.Op = 11) then none else (op_Ends.f x0.Op).bind fun t1 => bif !t1 then bif decide ((([] : (List Int)).length + 1) * 8 ≤ SB) then some (([] : (List Int)) ++ [(IntKind.wrap .i64 (a1 + 1))]) else none else some []).bind fun t2 => (some (isort t2)).bind fun t3 => (some (Lib.compact t3)).bind fun t4 => some t4
def flow_Next.K (r : (List Int)) (G0 : GH) (v : Value) (N : List Res) : Prop := ∃ (v0 : Value) (c0 : List Value), v = tup [v0] ∧ N = [.row v0 3 1 r.length c0] ∧ EAll (tInt .i64) G0 c0 r ∧ r.length ≤ SB
theorem flow_Next.ok {va0 : Value} {a0 : (List XInstr)} {a1 : Int} (st : St B w G []) (ha0 : SRep 54 TInstr G va0 a0) (ha1 : InK .i64 a1) {r : (List Int)} (hr : flow_Next.f a0 a1 = some r) :
 Calls Tryz.prog 252 ([va0, (vi a1)] : List Value).toArray w (Ret B G (flow_Next.K r)) := by
 refine Jc [.tmp 4] func252 rfl ntmps252 rfl rfl ?_
 refine J2 (J1 ?_)
 refine Jsv (.slice none 0 0) rfl rfl ?_
 refine J0 (J2 (J2 (J1 ?_)))
 refine Jmv (vi a1) rfl rfl ?_
 refine Ji rfl rfl rfl ?_
 refine Jmv (.bool (decide (a1 < 0))) rfl rfl ?_
 obtain ⟨t0, hr, o0⟩ := J6 hr
 refine Jw 5 (fun ρ w => ∃ (σ0 : Env) (G1 : GH), ρ = En σ0 [(0, va0), (1, (vi a1)), (14, (.bool (decide (a1 ≥ (a0.length : Int)))))] ∧ Ext G G1 ∧ St B w G1 []) ?_ ?_
 ·rcases Y8 (decide (a1 < 0)) with hb_ | hb_
  ·exact Jk hr hb_
  have h0 : (decide (a1 < 0)) = false := hb_
  replace hr := Jf hr h0
  refine Ja rfl rfl rfl rfl h0 ?_
  refine Jmv (vi a1) rfl rfl ?_
  refine Ja rfl rfl rfl rfl h0 ?_
  refine Jmv va0 rfl rfl ?_
  refine Ja rfl rfl rfl rfl h0 ?_
  refine Jd (T := TInstr) underlying41 ha0 rfl rfl ?_
  refine Ja rfl rfl rfl rfl h0 ?_
  refine Yk rfl rfl rfl ?_
  refine Jt (v := (.bool (decide (a1 ≥ (a0.length : Int))))) rfl rfl h0 rfl ?_
  refine J0 ?_
  obtain rfl := Option.some.inj hr
  exact ⟨_, _, (J3 ⟨rfl, rfl, rfl, trivial⟩), (Ext.refl _), st⟩
 rintro _ _ ⟨σ0, G1, rfl, e0, h1⟩
 replace hr := o0
 refine J0 ?_
 refine J7 rfl (fun h2 => ?_) (fun h2 => ?_)
 ·exact Jk hr h2
 replace hr := Jf hr h2
 refine J9 (J2 (J1 ?_))
 refine Jsv (.slice none 0 0) rfl rfl ?_
 refine J0 (J2 (J2 (J1 ?_)))
 refine Jmv va0 rfl rfl ?_
 refine Jmv (vi a1) rfl rfl ?_
 obtain ⟨x0, h3, hr⟩ := J6 hr
 refine Jh (T := TInstr) underlying41 ti54 h1 (SRep.mono e0.ro ha0) rfl rfl rfl h3 ?_
 intro b0 o1 c1 l0 f0
 obtain ⟨rfl, f1, f2, f3, f4, f5⟩ := f0
 refine Jy ti54 rfl rfl (LiesG.lies l0 h1) (Nat.le_of_ble_eq_true rfl) ?_
 change WL _ _ _ _ _ _ (upd _ _ (.agg #[(vi x0.Op), (vi x0.A), (vi x0.B), (vi x0.C), (vi x0.N)])) _
 refine Jo ti54 h1 rfl ?_
 intro b1 w0 h4
 refine Jp (l1 := []) (vs := [(vi x0.Op), (vi x0.A), (vi x0.B), (vi x0.C), (vi x0.N)]) ti54 h4 rfl rfl rfl (J5 rfl (J5 rfl (J5 rfl (J5 rfl (J5 rfl (fun _ h => nomatch h)))))) rfl ?_
 intro w1 (h5 : St B w1 G1 [.blk b1 [(vi x0.Op), (vi x0.A), (vi x0.B), (vi x0.C), (vi x0.N)] 54])
 refine J0 ?_
 obtain ⟨t2, hr, o2⟩ := J6 hr
 refine W_join (fun ρ w => ∃ (σ1 : Env) (G2 : GH) (v1 : Value) (c2 : List Value), ρ = En σ1 [(5, v1)] ∧ Ext G1 G2 ∧ St B w G2 [.row v1 3 1 t2.length c2] ∧ EAll (tInt .i64) G2 c2 t2 ∧ t2.length ≤ SB) ?_ ?_
 ·refine Jb (J2 (Jb (J2 (Jb (J2 (Jb (J2 (J2 (J2 (J1 ?_))))))))))
  refine Jfa 0 0 underlying54 rfl ti3 rfl rfl rfl rfl ?_
  refine Jlb [] (vi x0.Op) ti3 h5 rfl rfl rfl ?_
  refine Y3 rfl rfl rfl ?_
  refine Jsv (.bool (decide (x0.Op = 12))) rfl rfl ?_
  refine J0 ?_
  refine J7 rfl (fun h6 => ?_) (fun h6 => ?_)
  ·exact Jk hr h6
  replace hr := Jf hr h6
  refine J9 (J2 (J2 (J1 ?_)))
  refine Jfa 0 0 underlying54 rfl ti3 rfl rfl rfl rfl ?_
  refine Jlb [] (vi x0.Op) ti3 h5 rfl rfl rfl ?_
  refine Y3 rfl rfl rfl ?_
  refine Jsv (.bool (decide (x0.Op = 11))) rfl rfl ?_
  refine J0 ?_
  refine J7 rfl (fun h7 => ?_) (fun h7 => ?_)
  ·exact Jk hr h7
  replace hr := Jf hr h7
  refine J9 (J2 (J1 ?_))
  refine Jfa 0 0 underlying54 rfl ti3 rfl rfl rfl rfl ?_
  refine Jlb [] (vi x0.Op) ti3 h5 rfl rfl rfl ?_
  obtain ⟨t1, h8, hr⟩ := J6 hr
  refine J8 (f := 273) (av := [(vi x0.Op)]) cf273 rfl rfl h5 rfl (fun G3 e1 h9 => op_Ends.ok h9 f1 h8) ?_
  rintro v2 w2 G4 G5 N0 e2 q0 ⟨rfl, rfl⟩ h10
  refine Yc rfl rfl ?_
  refine Jsv (.bool !t1) rfl rfl ?_
  refine J0 ?_
  refine J7 rfl (fun h11 => ?_) (fun h11 => ?_)
  ·replace hr := Jx hr h11
   refine Jr (J2 (J1 ?_))
   refine Jmv (.slice none 0 0) rfl rfl ?_
   refine Jmv (vi a1) rfl rfl ?_
   refine Yj rfl rfl rfl ?_
   refine Jj (cells := [(vi (IntKind.wrap .i64 (a1 + 1)))]) underlying39 ti3 h10 rfl rfl rfl rfl rfl (by kernel_rfl) ?_
   intro v3 w3 h12 f6
   have E0 : EAll (tInt .i64) G5 [(vi (IntKind.wrap .i64 (a1 + 1)))] [(IntKind.wrap .i64 (a1 + 1))] := ⟨_, _, rfl, ⟨rfl, (inK_wrap _ _)⟩, rfl⟩
   have h13 := St.nilRow h12 3 1
   obtain ⟨h14, hr⟩ := Ya hr
   obtain ⟨b2, l2438e, l3⟩ := f6
   subst l2438e
   refine WL_append (l1 := []) (news := [(vi (IntKind.wrap .i64 (a1 + 1)))]) underlying39 ti3 rfl rfl h13 rfl rfl rfl rfl (lies_of (l1 := [_]) h13 rfl) (EAll.one E0) (app_lim rfl h14) (app_le rfl h14) ?_
   intro v4 w4 h15
   have E1 := EAll.append (T := (tInt .i64)) EAll.nil E0
   refine Jsv v4 rfl rfl ?_
   refine J0 (Jr ?_)
   have h16 := St.row_len (l1 := []) (k := (([] : (List Int)) ++ [(IntKind.wrap .i64 (a1 + 1))]).length) (len_app rfl) h15
   have h17 := St.takeN 1 h16
   obtain rfl := Option.some.inj hr
   exact ⟨_, _, v4, ([] ++ ([(vi (IntKind.wrap .i64 (a1 + 1)))] : List Value)), (J3 ⟨rfl, trivial⟩), e2, h17, E1, (le_eq (m := (0 + 1)) (len_app rfl) (app_le rfl h14))⟩
  replace hr := Jf hr h11
  refine J9 (Jr ?_)
  have h18 := St.nilRow h10 3 1
  have h19 := St.row_len (l1 := []) (k := ([] : List Int).length) rfl h18
  have h1a := St.takeN 1 h19
  obtain rfl := Option.some.inj hr
  exact ⟨_, _, (.slice none 0 0), [], (J3 ⟨rfl, trivial⟩), e2, h1a, EAll.nil, (le_eq (m := 0) rfl (Nat.zero_le _))⟩
 rintro _ _ ⟨σ1, G2, v1, c2, rfl, e3, h1b, f7, f8⟩
 replace hr := o2
 refine J2 (J1 ?_)
 refine Jmv v1 rfl rfl ?_
 obtain ⟨t3, h1c, hr⟩ := J6 hr
 refine Jn (f := 274) (av := [v1]) cf274 rfl rfl h1b rfl (fun G6 e4 h1d => sort_ok h1d (EAll.mono e4.ro f7) f8) ?_
 rintro v5 w5 G7 G8 N1 e5 q1 ⟨c3, rfl, rfl, f9, fa⟩ h1e
 rw [Option.some.inj h1c] at f9 fa h1e
 refine J0 (J2 (J1 ?_))
 refine Jmv v1 rfl rfl ?_
 obtain ⟨t4, h1f, hr⟩ := J6 hr
 refine Jn (f := 275) (av := [v1]) cf275 rfl rfl h1e rfl (fun G9 e6 h1g => compact_ok h1g (EAll.mono e6.ro (EAll.mono q1 f9)) fa) ?_
 rintro v6 w6 Ga Gb N2 e7 q2 ⟨c4, rfl, fb, fc⟩ h1h
 rw [Option.some.inj h1f] at fb fc h1h
 refine Jsv v6 rfl rfl ?_
 refine J0 (Jg ?_)
 obtain rfl := Option.some.inj hr
 exact ⟨[v6], ⟨rfl, trivial⟩, _, _, _, rfl, (e0.trans (e3.trans (e5.trans e7))), h1h, ⟨v6, c4, rfl, rfl, (EAll.mono q2 fb), fc⟩⟩
def flow_graph.l0 (a0 : (List XInstr)) (s0 : ((List (List Int)) × Nat)) : Option (Step ((List (List Int)) × Nat) (List (List Int))) :=
 bif decide (((s0.2 : Nat) : Int) < (a0.length : Int)) then (flow_Next.f a0 ((s0.2 : Nat) : Int)).bind fun t0 => bif decide ((s0.1.length + 1) * 24 ≤ SB) then some (.next ((s0.1 ++ [t0]), s0.2 + 1)) else none else some (.done s0.1)
def flow_graph.f (a0 : (List XInstr)) : Option ((List (List Int))) :=
 (loop (flow_graph.l0 a0) ([], 0)).bind fun t1 => some t1
def flow_graph.K (r : (List (List Int))) (G0 : GH) (v : Value) (N : List Res) : Prop := ∃ (v0 : Value) (c0 : List Value), v = tup [v0] ∧ N = [.row v0 39 1 r.length c0] ∧ EAll (tSlice 3 (tInt .i64)) G0 c0 r ∧ r.length ≤ SB
theorem flow_graph.ok {va0 : Value} {a0 : (List XInstr)} (st : St B w G []) (ha0 : SRep 54 TInstr G va0 a0) {r : (List (List Int))} (hr : flow_graph.f a0 = some r) :
 Calls Tryz.prog 254 ([va0] : List Value).toArray w (Ret B G (flow_graph.K r)) := by
 refine Jc [.tmp 2] func254 rfl ntmps254 rfl rfl ?_
 refine J2 (J1 ?_)
 refine Jsv (.slice none 0 0) rfl rfl ?_
 refine J0 (J2 (J1 ?_))
 refine Jsv (.slice none 0 0) rfl rfl ?_
 refine J0 (J2 (J2 (J1 ?_)))
 refine Jmv va0 rfl rfl ?_
 refine Jd (T := TInstr) underlying41 ha0 rfl rfl ?_
 refine Jmv (vi 0) rfl rfl ?_
 refine J0 (Jb ?_)
 obtain ⟨t1, h0, hr⟩ := J6 hr
 have h1 := St.nilRow st 39 1
 have h2 := St.row_len (l1 := []) (k := ([] : List (List Int)).length) rfl h1
 refine Js 0 h0 (fun s0 ρ w => ∃ (σ0 : Env) (G1 : GH) (v1 : Value) (c1 : List Value), ρ = En σ0 [(0, va0), (3, v1), (6, (vi (a0.length : Int))), (7, (vi ((s0.2 : Nat) : Int)))] ∧ Ext G G1 ∧ St B w G1 [.row v1 39 1 s0.1.length c1] ∧ EAll (tSlice 3 (tInt .i64)) G1 c1 s0.1 ∧ s0.1.length ≤ SB ∧ InK .i64 ((s0.2 : Nat) : Int)) (fun t2 ρ w => ∃ (σ1 : Env) (G2 : GH) (v2 : Value) (c2 : List Value), ρ = En σ1 [(3, v2)] ∧ Ext G G2 ∧ St B w G2 [.row v2 39 1 t2.length c2] ∧ EAll (tSlice 3 (tInt .i64)) G2 c2 t2 ∧ t2.length ≤ SB) ⟨_, _, (.slice none 0 0), [], (J3 ⟨rfl, rfl, rfl, rfl, trivial⟩), (Ext.refl _), h2, EAll.nil, (le_eq (m := 0) rfl (Nat.zero_le _)), (by rfl)⟩ ?_ ?_
 ·rintro s0 x0 _ _ hr ⟨σ0, G1, v1, c1, rfl, e0, h3, f0, f1, f2⟩
  refine J2 (J1 ?_)
  refine Ji rfl rfl rfl ?_
  refine J0 (J2 ?_)
  refine J7 rfl (fun h4 => ?_) (fun h4 => ?_)
  ·replace hr := Jx hr h4
   refine J9 (J2 (Jb (J2 (J1 ?_))))
   refine Jmv (vi ((s0.2 : Nat) : Int)) rfl rfl ?_
   refine Jsv (vi ((s0.2 : Nat) : Int)) rfl rfl ?_
   refine J0 (J1 ?_)
   refine Jmv v1 rfl rfl ?_
   refine Jmv va0 rfl rfl ?_
   refine Jmv (vi ((s0.2 : Nat) : Int)) rfl rfl ?_
   obtain ⟨t0, h5, hr⟩ := J6 hr
   refine J8 (f := 252) (av := [va0, (vi ((s0.2 : Nat) : Int))]) cf252 rfl rfl h3 rfl (fun G3 e1 h6 => flow_Next.ok h6 (SRep.mono (e0.ro.trans e1.ro) ha0) f2 h5) ?_
   rintro v3 w0 G4 G5 N0 e2 q0 ⟨_, c3, rfl, rfl, f3, f4⟩ h7
   obtain ⟨G6, h8, e3, f5⟩ := St.rowRep (l1 := []) (T := (tInt .i64)) (xs := t0) h7 (EAll.mono q0 f3) rfl f4
   refine Jj (cells := [v3]) underlying274 ti39 h8 rfl rfl rfl rfl rfl (by obtain ⟨_, _, _, e_⟩ := SRep.shape f5; subst e_; kernel_rfl) ?_
   intro v4 w1 h9 f6
   have E0 : EAll (tSlice 3 (tInt .i64)) G6 [v3] [t0] := ⟨_, _, rfl, ⟨_, rfl, f5⟩, rfl⟩
   obtain ⟨h10, hr⟩ := Ya hr
   obtain ⟨b0, l1399e, l3⟩ := f6
   subst l1399e
   refine WL_append (l1 := [_]) (news := [v3]) underlying274 ti39 rfl rfl h9 rfl rfl rfl rfl (lies_of (l1 := []) h9 rfl) (EAll.one E0) (app_lim rfl h10) (app_le rfl h10) ?_
   intro v5 w2 h11
   have E1 := EAll.append (T := (tSlice 3 (tInt .i64))) (EAll.mono (e2.ro.trans e3.ro) f0) E0
   refine Jsv v5 rfl rfl ?_
   refine J0 (J1 ?_)
   refine Y2 rfl rfl rfl (of_decide_eq_true h4) (inK_len (SRep.le ha0)) ?_
   refine Jmv (vi ((s0.2 + 1 : Nat) : Int)) rfl rfl ?_
   refine J0 ?_
   have h12 := St.row_len (l1 := [_]) (k := (s0.1 ++ [t0]).length) (len_app rfl) h11
   have h13 := St.pick 1 rfl h12
   have h14 := St.takeN 1 h13
   exact ⟨_, (Option.some.inj hr).symm, _, _, v5, (c1 ++ ([v3] : List Value)), (J3 ⟨rfl, rfl, rfl, rfl, trivial⟩), (e0.trans (e2.trans e3)), h14, E1, (le_eq (m := (s0.1.length + 1)) (len_app rfl) (app_le rfl h10)), (inK_inc (of_decide_eq_true h4) (inK_len (SRep.le ha0)))⟩
  replace hr := Jf hr h4
  refine Jr ?_
  exact ⟨_, (Option.some.inj hr).symm, rfl, _, _, v1, c1, (J3 ⟨rfl, trivial⟩), e0, h3, f0, f1⟩
 rintro _ _ ⟨σ1, G2, v2, c2, rfl, e4, h15, f7, f8⟩
 refine J2 (J1 ?_)
 refine Jmv v2 rfl rfl ?_
 refine Jsv v2 rfl rfl ?_
 refine J0 (Jg ?_)
 obtain rfl := Option.some.inj hr
 exact ⟨[v2], ⟨rfl, trivial⟩, _, _, _, rfl, e4, h15, ⟨v2, c2, rfl, rfl, f7, f8⟩⟩
def fun_lines.l0 (a0 : XFunc) (s0 : Unit) : Option (Step Unit Unit) :=
 bif decide (0 < (a0.Lines.length : Int)) then none else some (.done ())
def fun_lines.f (a0 : XFunc) : Option (Unit) :=
 bif decide ((a0.Lines.length : Int) > 16) then none else (loop (fun_lines.l0 a0) ()).bind fun t0 => (fun_rising.f (a0.Code.length : Int) []).bind fun t1 => some ()
def fun_lines.K (r : Unit) (G46 : GH) (v : Value) (N : List Res) : Prop := v = tup [(vi 0)] ∧ N = []
theorem fun_lines.ok {ca0 : List Value} {a0 : XFunc} (st : St B w G []) (ha0 : TFunc.rep G ca0 a0) {r : Unit} (hr : fun_lines.f a0 = some r) :
 Calls Tryz.prog 222 ([(.agg ca0.toArray)] : List Value).toArray w (Ret B G (fun_lines.K r)) := by
 obtain ⟨sa0_1, sa0_6, sa0_7, sa0_8, rfl, ha0_0, ha0_1, ha0_2, ha0_4, ha0_5, ha0_6, ha0_7, ha0_8⟩ := ha0
 refine Jc [.tmp 2] func222 rfl ntmps222 rfl rfl ?_
 refine J2 (J1 ?_)
 refine Ju (cs := [(vi a0.Class), sa0_1, (vi a0.Pad), (.bool a0.Nosplit), (vi a0.From), (vi a0.To), sa0_6, sa0_7, sa0_8]) st rfl rfl rfl ?_
 intro b0 w0 h0
 refine Jsv (vi 0) rfl rfl ?_
 refine J0 (J2 (J2 (J1 ?_)))
 refine Jfa 6 6 underlying44 rfl ti40 rfl rfl rfl rfl ?_
 refine Jlb [] sa0_6 ti40 h0 rfl rfl rfl ?_
 refine Jd (T := TLine) underlying40 ha0_6 rfl rfl ?_
 refine Yh rfl rfl rfl ?_
 refine J0 ?_
 refine J7 rfl (fun h1 => ?_) (fun h1 => ?_)
 ·exact Jk hr h1
 replace hr := Jf hr h1
 refine J9 (J2 (J1 ?_))
 refine Jsv (.slice none 0 0) rfl rfl ?_
 refine J0 (J2 (J2 (J1 ?_)))
 refine Jfa 6 6 underlying44 rfl ti40 rfl rfl rfl rfl ?_
 refine Jlb [] sa0_6 ti40 h0 rfl rfl rfl ?_
 refine Jd (T := TLine) underlying40 ha0_6 rfl rfl ?_
 refine Jmv (vi 0) rfl rfl ?_
 refine J0 (Jb ?_)
 obtain ⟨t0, h2, hr⟩ := J6 hr
 refine Js 0 h2 (fun s0 ρ w => ∃ (σ0 : Env) (G0 : GH), ρ = En σ0 [(1, (pt b0 0)), (3, (.slice none 0 0)), (11, sa0_6), (12, (vi (a0.Lines.length : Int))), (13, (vi 0))] ∧ Ext G G0 ∧ St B w G0 [.blk b0 [(vi a0.Class), sa0_1, (vi a0.Pad), (.bool a0.Nosplit), (vi a0.From), (vi a0.To), sa0_6, sa0_7, sa0_8] 44]) (fun t2 ρ w => ∃ (σ1 : Env) (G1 : GH), ρ = En σ1 [(1, (pt b0 0)), (3, (.slice none 0 0))] ∧ Ext G G1 ∧ St B w G1 [.blk b0 [(vi a0.Class), sa0_1, (vi a0.Pad), (.bool a0.Nosplit), (vi a0.From), (vi a0.To), sa0_6, sa0_7, sa0_8] 44]) ⟨_, _, (J3 ⟨rfl, rfl, rfl, rfl, rfl, trivial⟩), (Ext.refl _), h0⟩ ?_ ?_
 ·rintro s0 x0 _ _ hr ⟨σ0, G0, rfl, e0, h3⟩
  refine J2 (J1 ?_)
  refine Ji rfl rfl rfl ?_
  refine J0 (J2 ?_)
  refine J7 rfl (fun h4 => ?_) (fun h4 => ?_)
  ·exact Jk hr h4
  replace hr := Jf hr h4
  refine Jr ?_
  exact ⟨_, (Option.some.inj hr).symm, rfl, _, _, (J3 ⟨rfl, rfl, trivial⟩), e0, h3⟩
 rintro _ _ ⟨σ1, G1, rfl, e1, h5⟩
 refine J2 (J2 (J1 ?_))
 refine Jmv (.slice none 0 0) rfl rfl ?_
 refine WL_len (ats := #[]) underlying39 rfl rfl ?_
 change WL _ _ _ _ _ _ (upd _ _ (vi 0)) _
 refine Yh rfl rfl rfl ?_
 change WL _ _ _ _ _ _ (upd _ _ (.bool false)) _
 refine Jmv (.bool false) rfl rfl ?_
 refine Jq rfl rfl rfl rfl (fun h => nomatch h) (fun _ => ?_)
 refine Jq rfl rfl rfl rfl (fun h => nomatch h) (fun _ => ?_)
 refine Jq rfl rfl rfl rfl (fun h => nomatch h) (fun _ => ?_)
 refine Jq rfl rfl rfl rfl (fun h => nomatch h) (fun _ => ?_)
 refine Jt (v := (.bool false)) rfl rfl rfl rfl ?_
 refine Jmv (.bool false) rfl rfl ?_
 refine Jq rfl rfl rfl rfl (fun _ => ?_) (fun h => nomatch h)
 refine Jfa 7 7 underlying44 rfl ti41 rfl rfl rfl rfl ?_
 refine Jq rfl rfl rfl rfl (fun _ => ?_) (fun h => nomatch h)
 refine Jlb [] sa0_7 ti41 h5 rfl rfl rfl ?_
 refine Jq rfl rfl rfl rfl (fun _ => ?_) (fun h => nomatch h)
 refine Jd (T := TInstr) underlying41 (SRep.mono e1.ro ha0_7) rfl rfl ?_
 refine Jq rfl rfl rfl rfl (fun _ => ?_) (fun h => nomatch h)
 refine Jmv (.slice none 0 0) rfl rfl ?_
 refine Jq rfl rfl rfl rfl (fun _ => ?_) (fun h => nomatch h)
 obtain ⟨t1, h6, hr⟩ := J6 hr
 refine J8 (f := 246) (av := [(vi (a0.Code.length : Int)), (.slice none 0 0)]) cf246 rfl rfl h5 rfl (fun G2 e2 h7 => fun_rising.ok h7 (inK_len (SRep.le (SRep.mono e1.ro ha0_7))) SRep.nil h6) ?_
 rintro v0 w1 G3 G4 N0 e3 q0 ⟨rfl, rfl⟩ h8
 refine Jq rfl rfl rfl rfl (fun _ => ?_) (fun h => nomatch h)
 refine Yc rfl rfl ?_
 refine Jt (v := (.bool false)) rfl rfl rfl rfl ?_
 refine J0 ?_
 refine J7 rfl (fun h => nomatch h) (fun _ => ?_)
 refine J9 (J2 (J1 ?_))
 refine Jsv (vi 0) rfl rfl ?_
 refine J0 (Jg ?_)
 have h9 := St.takeN 0 h8
 obtain rfl := Option.some.inj hr
 exact ⟨[(vi 0)], ⟨rfl, trivial⟩, _, _, _, rfl, (e1.trans e3), h9, ⟨rfl, rfl⟩⟩
def verify_checker_number.f (a0_ : Xverify_checker) (a1 : Int) : Option (Unit) :=
 (verify_checker_slot.f a0_ a1 0).bind fun t0 => some ()
def verify_checker_number.K (ba0 : Nat) (a0_ : Xverify_checker) (r : Unit) (G24 : GH) (v : Value) (N : List Res) : Prop := ∃ (v28 : Value) (v30 : Value) (v32 : Value) (v34 : Value), v = tup [(vi 0)] ∧ N = [.blk ba0 [(vi a0_.f.Class), v28, (vi a0_.f.Pad), (.bool a0_.f.Nosplit), (vi a0_.f.From), (vi a0_.f.To), v30, v32, v34, (vi a0_.x.Op), (vi a0_.x.A), (vi a0_.x.B), (vi a0_.x.C), (vi a0_.x.N), (.string a0_.sym.Name), (.bool a0_.sym.Local), (vi a0_.sym.Sort_), (vi a0_.sym.Kind), (vi a0_.sym.Def), (vi a0_.class_)] 269] ∧ SRep 3 (tInt .i64) G24 v28 a0_.f.Kinds ∧ SRep 157 TLine G24 v30 a0_.f.Lines ∧ SRep 54 TInstr G24 v32 a0_.f.Code ∧ SRep 133 TReloc G24 v34 a0_.f.Relocs
theorem verify_checker_number.ok {ba0 : Nat} {ca0_ : List Value} {a0_ : Xverify_checker} {a1 : Int} (st : St B w G [.blk ba0 ca0_ 269]) (ha0_ : Tverify_checker.rep G ca0_ a0_) (ha1 : InK .i64 a1) {r : Unit} (hr : verify_checker_number.f a0_ a1 = some r) :
 Calls Tryz.prog 266 ([(pt ba0 0), (vi a1)] : List Value).toArray w (Ret B G (verify_checker_number.K ba0 a0_ r)) := by
 obtain ⟨sa0__1, sa0__6, sa0__7, sa0__8, rfl, ha0__0, ha0__1, ha0__2, ha0__4, ha0__5, ha0__6, ha0__7, ha0__8, ha0__9, ha0__10, ha0__11, ha0__12, ha0__13, ha0__14, ha0__16, ha0__17, ha0__18, ha0__19⟩ := ha0_
 refine Jc [.tmp 4] func266 rfl ntmps266 rfl rfl ?_
 refine J2 (J1 ?_)
 refine Jsv (vi 0) rfl rfl ?_
 refine J0 (J2 (J1 ?_))
 refine Jmv (pt ba0 0) rfl rfl ?_
 refine Jmv (vi a1) rfl rfl ?_
 obtain ⟨t0, h0, hr⟩ := J6 hr
 refine Jn (f := 277) (av := [(pt ba0 0), (vi a1), (vi 0)]) cf277 rfl rfl st rfl (fun G0 e0 h1 => verify_checker_slot.ok (a0_ := a0_) h1 (⟨sa0__1, sa0__6, sa0__7, sa0__8, rfl, ha0__0, (SRep.mono e0.ro ha0__1), ha0__2, ha0__4, ha0__5, (SRep.mono e0.ro ha0__6), (SRep.mono e0.ro ha0__7), (SRep.mono e0.ro ha0__8), ha0__9, ha0__10, ha0__11, ha0__12, ha0__13, ha0__14, ha0__16, ha0__17, ha0__18, ha0__19⟩) ha1 (by rfl) h0) ?_
 rintro v0 w0 G1 G2 N0 e1 q0 ⟨v1, v2, v3, v4, rfl, rfl, f0, f1, f2, f3⟩ h2
 refine Jsv (vi 0) rfl rfl ?_
 refine J0 (Jg ?_)
 obtain rfl := Option.some.inj hr
 exact ⟨[(vi 0)], ⟨rfl, trivial⟩, _, _, _, rfl, e1, h2, ⟨v1, v2, v3, v4, rfl, rfl, (SRep.mono q0 f0), (SRep.mono q0 f1), (SRep.mono q0 f2), (SRep.mono q0 f3)⟩⟩
def sig_Answers.f (a0 : Int) : Option (Bool) :=
 (sig_Is.f a0).bind fun t0 => (bif t0 then some () else none).bind fun t1 => some (decide ((bits .and .i64 a0 1) = 1))
def sig_Answers.K (r : Bool) (G25 : GH) (v : Value) (N : List Res) : Prop := v = tup [(.bool r)] ∧ N = []
theorem sig_Answers.ok {a0 : Int} (st : St B w G []) (ha0 : InK .i64 a0) {r : Bool} (hr : sig_Answers.f a0 = some r) :
 Calls Tryz.prog 248 ([(vi a0)] : List Value).toArray w (Ret B G (sig_Answers.K r)) := by
 refine Jc [.tmp 2] func248 rfl ntmps248 rfl rfl ?_
 refine J2 (J1 ?_)
 refine Jsv (.bool false) rfl rfl ?_
 refine J0 (J2 (J1 ?_))
 refine Jmv (vi a0) rfl rfl ?_
 obtain ⟨t0, h0, hr⟩ := J6 hr
 refine J8 (f := 54) (av := [(vi a0)]) cf54 rfl rfl st rfl (fun G0 e0 h1 => sig_Is.ok h1 ha0 h0) ?_
 rintro v0 w0 G1 G2 N0 e1 q0 ⟨rfl, rfl⟩ h2
 refine Jmv (.bool t0) rfl rfl ?_
 obtain ⟨t1, hr, o0⟩ := J6 hr
 refine Jw 4 (fun ρ w => ∃ (σ0 : Env) (G3 : GH), ρ = En σ0 [(2, (.bool false)), (9, (.bool (decide ((bits .and .i64 a0 1) = 1))))] ∧ Ext G2 G3 ∧ St B w G3 []) ?_ ?_
 ·rcases Y8 (t0) with hb_ | hb_
  ·have h3 : (t0) = true := hb_
   replace hr := Jx hr h3
   refine Ja rfl rfl rfl rfl h3 ?_
   refine Jmv (vi a0) rfl rfl ?_
   refine Ja rfl rfl rfl rfl h3 ?_
   refine WL_bits rfl rfl rfl (by simp) ?_
   refine Ja rfl rfl rfl rfl h3 ?_
   refine Y3 rfl rfl rfl ?_
   refine Y9 (v := (.bool (decide ((bits .and .i64 a0 1) = 1)))) rfl rfl h3 rfl ?_
   refine J0 ?_
   obtain rfl := Option.some.inj hr
   exact ⟨_, _, (J3 ⟨rfl, rfl, trivial⟩), (Ext.refl _), h2⟩
  exact Yo hr hb_
 rintro _ _ ⟨σ0, G3, rfl, e2, h4⟩
 replace hr := o0
 refine Jsv (.bool (decide ((bits .and .i64 a0 1) = 1))) rfl rfl ?_
 refine J0 (Jg ?_)
 obtain rfl := Option.some.inj hr
 exact ⟨[(.bool (decide ((bits .and .i64 a0 1) = 1)))], ⟨rfl, trivial⟩, _, _, _, rfl, (e1.trans e2), h4, ⟨rfl, rfl⟩⟩
def verify_checker_answer.f (a0_ : Xverify_checker) (a1 : Int) : Option (Unit) :=
 (sig_Answers.f a0_.f.Class).bind fun t0 => bif !t0 then none else (verify_checker_number.f a0_ a1).bind fun t1 => some ()
def verify_checker_answer.K (ba0 : Nat) (a0_ : Xverify_checker) (r : Unit) (G39 : GH) (v : Value) (N : List Res) : Prop := ∃ (v43 : Value) (v45 : Value) (v47 : Value) (v49 : Value), v = tup [(vi 0)] ∧ N = [.blk ba0 [(vi a0_.f.Class), v43, (vi a0_.f.Pad), (.bool a0_.f.Nosplit), (vi a0_.f.From), (vi a0_.f.To), v45, v47, v49, (vi a0_.x.Op), (vi a0_.x.A), (vi a0_.x.B), (vi a0_.x.C), (vi a0_.x.N), (.string a0_.sym.Name), (.bool a0_.sym.Local), (vi a0_.sym.Sort_), (vi a0_.sym.Kind), (vi a0_.sym.Def), (vi a0_.class_)] 269] ∧ SRep 3 (tInt .i64) G39 v43 a0_.f.Kinds ∧ SRep 157 TLine G39 v45 a0_.f.Lines ∧ SRep 54 TInstr G39 v47 a0_.f.Code ∧ SRep 133 TReloc G39 v49 a0_.f.Relocs
theorem verify_checker_answer.ok {ba0 : Nat} {ca0_ : List Value} {a0_ : Xverify_checker} {a1 : Int} (st : St B w G [.blk ba0 ca0_ 269]) (ha0_ : Tverify_checker.rep G ca0_ a0_) (ha1 : InK .i64 a1) {r : Unit} (hr : verify_checker_answer.f a0_ a1 = some r) :
 Calls Tryz.prog 270 ([(pt ba0 0), (vi a1)] : List Value).toArray w (Ret B G (verify_checker_answer.K ba0 a0_ r)) := by
 obtain ⟨sa0__1, sa0__6, sa0__7, sa0__8, rfl, ha0__0, ha0__1, ha0__2, ha0__4, ha0__5, ha0__6, ha0__7, ha0__8, ha0__9, ha0__10, ha0__11, ha0__12, ha0__13, ha0__14, ha0__16, ha0__17, ha0__18, ha0__19⟩ := ha0_
 refine Jc [.tmp 4] func270 rfl ntmps270 rfl rfl ?_
 refine J2 (J1 ?_)
 refine Jsv (vi 0) rfl rfl ?_
 refine J0 (J2 (J2 (J1 ?_)))
 refine Jmv (pt ba0 0) rfl rfl ?_
 refine Je rfl rfl ?_
 refine Jfa 0 0 underlying269 rfl ti44 rfl rfl rfl rfl ?_
 refine Jfa 0 0 underlying44 rfl ti3 rfl rfl rfl rfl ?_
 refine Jlb [] (vi a0_.f.Class) ti3 st rfl rfl rfl ?_
 obtain ⟨t0, h0, hr⟩ := J6 hr
 refine J8 (f := 248) (av := [(vi a0_.f.Class)]) cf248 rfl rfl st rfl (fun G0 e0 h1 => sig_Answers.ok h1 ha0__0 h0) ?_
 rintro v0 w0 G1 G2 N0 e1 q0 ⟨rfl, rfl⟩ h2
 refine Yc rfl rfl ?_
 refine J0 ?_
 refine J7 rfl (fun h3 => ?_) (fun h3 => ?_)
 ·exact Jk hr h3
 replace hr := Jf hr h3
 refine J9 (J2 (J1 ?_))
 refine Jmv (pt ba0 0) rfl rfl ?_
 refine Jmv (vi a1) rfl rfl ?_
 obtain ⟨t1, h4, hr⟩ := J6 hr
 refine Jn (f := 266) (av := [(pt ba0 0), (vi a1)]) cf266 rfl rfl h2 rfl (fun G3 e2 h5 => verify_checker_number.ok (a0_ := a0_) h5 (⟨sa0__1, sa0__6, sa0__7, sa0__8, rfl, ha0__0, (SRep.mono (e1.ro.trans e2.ro) ha0__1), ha0__2, ha0__4, ha0__5, (SRep.mono (e1.ro.trans e2.ro) ha0__6), (SRep.mono (e1.ro.trans e2.ro) ha0__7), (SRep.mono (e1.ro.trans e2.ro) ha0__8), ha0__9, ha0__10, ha0__11, ha0__12, ha0__13, ha0__14, ha0__16, ha0__17, ha0__18, ha0__19⟩) ha1 h4) ?_
 rintro v1 w1 G4 G5 N1 e3 q1 ⟨v2, v3, v4, v5, rfl, rfl, f0, f1, f2, f3⟩ h6
 refine Jsv (vi 0) rfl rfl ?_
 refine J0 (Jg ?_)
 obtain rfl := Option.some.inj hr
 exact ⟨[(vi 0)], ⟨rfl, trivial⟩, _, _, _, rfl, (e1.trans e3), h6, ⟨v2, v3, v4, v5, rfl, rfl, (SRep.mono q1 f0), (SRep.mono q1 f1), (SRep.mono q1 f2), (SRep.mono q1 f3)⟩⟩
def fun_writer_put.l0 (a2 : (List Int)) (a1 : Int) (s0 : ((List Int) × Nat)) : Option (Step ((List Int) × Nat) (List Int)) :=
 bif decide (((s0.2 : Nat) : Int) < (a2.length : Int)) then (idx a2 ((s0.2 : Nat) : Int)).bind fun x0 => (octet_Put.f s0.1 x0 a1).bind fun t0 => some (.next (t0, s0.2 + 1)) else some (.done s0.1)
def fun_writer_put.f (a0_0 : (List Int)) (a1 : Int) (a2 : (List Int)) : Option ((List Int)) :=
 (loop (fun_writer_put.l0 a2 a1) (a0_0, 0)).bind fun t1 => some t1
def fun_writer_put.K (ba0 : Nat) (r : (List Int)) (G0 : GH) (v : Value) (N : List Res) : Prop := ∃ (v0 : Value) (c0 : List Value), v = tup [] ∧ N = [.row v0 5 1 r.length c0, .blk ba0 [v0] 189] ∧ EAll (tInt .u8) G0 c0 r ∧ r.length ≤ SB
theorem fun_writer_put.ok {ba0 : Nat} {va0_0 : Value} {ca0_0 : List Value} {a0_0 : (List Int)} {a1 : Int} {va2 : Value} {a2 : (List Int)} (st : St B w G [.blk ba0 [va0_0] 189, .row va0_0 5 1 a0_0.length ca0_0]) (ha0_0 : EAll (tInt .u8) G ca0_0 a0_0) (lha0_0 : a0_0.length ≤ SB) (ha1 : InK .i64 a1) (ha2 : SRep 3 (tInt .i64) G va2 a2) {r : (List Int)} (hr : fun_writer_put.f a0_0 a1 a2 = some r) :
 Calls Tryz.prog 132 ([(pt ba0 0), (vi a1), va2] : List Value).toArray w (Ret B G (fun_writer_put.K ba0 r)) := by
 refine Jc [] func132 rfl ntmps132 rfl rfl ?_
 refine J2 (J1 ?_)
 refine Jmv va2 rfl rfl ?_
 refine Jd (T := (tInt .i64)) underlying39 ha2 rfl rfl ?_
 refine Jmv (vi 0) rfl rfl ?_
 refine J0 (Jb ?_)
 obtain ⟨t1, h0, hr⟩ := J6 hr
 have h1 := St.pick 1 rfl st
 refine Js 0 h0 (fun s0 ρ w => ∃ (σ0 : Env) (G1 : GH) (v1 : Value) (c1 : List Value), ρ = En σ0 [(0, (pt ba0 0)), (1, (vi a1)), (8, va2), (9, (vi (a2.length : Int))), (10, (vi ((s0.2 : Nat) : Int)))] ∧ Ext G G1 ∧ St B w G1 [.row v1 5 1 s0.1.length c1, .blk ba0 [v1] 189] ∧ EAll (tInt .u8) G1 c1 s0.1 ∧ s0.1.length ≤ SB ∧ InK .i64 ((s0.2 : Nat) : Int)) (fun t2 ρ w => ∃ (σ1 : Env) (G2 : GH) (v2 : Value) (c2 : List Value), ρ = En σ1 [] ∧ Ext G G2 ∧ St B w G2 [.row v2 5 1 t2.length c2, .blk ba0 [v2] 189] ∧ EAll (tInt .u8) G2 c2 t2 ∧ t2.length ≤ SB) ⟨_, _, va0_0, ca0_0, (J3 ⟨rfl, rfl, rfl, rfl, rfl, trivial⟩), (Ext.refl _), h1, ha0_0, lha0_0, (by rfl)⟩ ?_ ?_
 ·rintro s0 x1 _ _ hr ⟨σ0, G1, v1, c1, rfl, e0, h2, f0, f1, f2⟩
  refine J2 (J1 ?_)
  refine Ji rfl rfl rfl ?_
  refine J0 (J2 ?_)
  refine J7 rfl (fun h3 => ?_) (fun h3 => ?_)
  ·replace hr := Jx hr h3
   refine J9 (J2 (Jb (J2 (J1 ?_))))
   obtain ⟨x0, h4, hr⟩ := J6 hr
   refine Jh (T := (tInt .i64)) underlying39 ti3 h2 (SRep.mono e0.ro ha2) rfl rfl rfl h4 ?_
   intro b0 o0 c3 l3 f3
   obtain ⟨rfl, f4⟩ := f3
   refine Y4 (v := (vi x0)) ti3 rfl rfl (LiesG.lies l3 h2) rfl ?_
   refine Jsv (vi x0) rfl rfl ?_
   refine J0 (J1 ?_)
   refine Jmv (pt ba0 0) rfl rfl ?_
   refine Jmv (pt ba0 0) rfl rfl ?_
   refine Je rfl rfl ?_
   refine Jfa 0 0 underlying189 rfl ti63 rfl rfl rfl rfl ?_
   refine Jlb [_] v1 ti63 h2 rfl rfl rfl ?_
   refine Jmv (vi x0) rfl rfl ?_
   refine Jmv (vi a1) rfl rfl ?_
   obtain ⟨G3, h5, e1, f5⟩ := St.rowRep (l1 := []) (T := (tInt .u8)) (xs := s0.1) h2 f0 rfl f1
   obtain ⟨t0, h6, hr⟩ := J6 hr
   refine J8 (f := 70) (av := [v1, (vi x0), (vi a1)]) cf70 rfl rfl h5 rfl (fun G4 e2 h7 => octet_Put.ok h7 (SRep.mono e2.ro f5) f4 ha1 h6) ?_
   rintro v3 w0 G5 G6 N0 e3 q0 ⟨_, c4, rfl, rfl, f6, f7⟩ h8
   refine Je rfl rfl ?_
   refine Jfa 0 0 underlying189 rfl ti63 rfl rfl rfl rfl ?_
   refine Y5 (l1 := [_]) (v := v3) ti63 h8 rfl rfl (row_one (St.mid (l1 := []) h8)) rfl ?_
   intro w1 (h9 : St B w1 G6 [.row v3 5 1 t0.length c4, .blk ba0 [v3] 189])
   refine J0 (J1 ?_)
   refine Y2 rfl rfl rfl (of_decide_eq_true h3) (inK_len (SRep.le ha2)) ?_
   refine Jmv (vi ((s0.2 + 1 : Nat) : Int)) rfl rfl ?_
   refine J0 ?_
   have h10 := St.pick 1 rfl h9
   have h11 := St.pick 1 rfl h10
   exact ⟨_, (Option.some.inj hr).symm, _, _, v3, c4, (J3 ⟨rfl, rfl, rfl, rfl, rfl, trivial⟩), (e0.trans (e1.trans e3)), h11, (EAll.mono q0 f6), f7, (inK_inc (of_decide_eq_true h3) (inK_len (SRep.le ha2)))⟩
  replace hr := Jf hr h3
  refine Jr ?_
  have h12 := St.pick 1 rfl h2
  have h13 := St.pick 1 rfl h12
  exact ⟨_, (Option.some.inj hr).symm, rfl, _, _, v1, c1, rfl, e0, h13, f0, f1⟩
 rintro _ _ ⟨σ1, G2, v2, c2, rfl, e4, h14, f8, f9⟩
 have h15 := St.pick 1 rfl h14
 have h16 := St.pick 1 rfl h15
 obtain rfl := Option.some.inj hr
 exact ⟨[], trivial, _, _, _, rfl, e4, h16, ⟨v2, c2, rfl, rfl, f8, f9⟩⟩
def instr_Put.l0 (t0 : (List Int)) (s0 : ((List Int) × Nat)) : Option (Step ((List Int) × Nat) ((List Int) ⊕ (List Int))) :=
 bif decide (((s0.2 : Nat) : Int) < 5) then (idx t0 ((s0.2 : Nat) : Int)).bind fun x0 => bif decide (((s0.2 : Nat) : Int) = 4) then (octet_Put.f s0.1 x0 4).bind fun t1 => some (.done (.inr t1)) else (octet_Put.f s0.1 x0 1).bind fun t2 => some (.next (t2, s0.2 + 1)) else some (.done (.inl s0.1))
def instr_Put.f (a0 : (List Int)) (a1 : XInstr) : Option ((List Int)) :=
 (instr_numbers.f a1).bind fun t0 => (loop (instr_Put.l0 t0) (a0, 0)).bind fun t3 => cont t3 fun t4 => some t4
def instr_Put.K (r : (List Int)) (G0 : GH) (v : Value) (N : List Res) : Prop := ∃ (v0 : Value), v = tup [v0] ∧ N = [] ∧ SRep 5 (tInt .u8) G0 v0 r
theorem instr_Put.ok {va0 : Value} {a0 : (List Int)} {ca1 : List Value} {a1 : XInstr} (st : St B w G []) (ha0 : SRep 5 (tInt .u8) G va0 a0) (ha1 : TInstr.rep G ca1 a1) {r : (List Int)} (hr : instr_Put.f a0 a1 = some r) :
 Calls Tryz.prog 134 ([va0, (.agg ca1.toArray)] : List Value).toArray w (Ret B G (instr_Put.K r)) := by
 obtain ⟨rfl, ha1_0, ha1_1, ha1_2, ha1_3, ha1_4⟩ := ha1
 refine Jc [.tmp 4] func134 rfl ntmps134 rfl rfl ?_
 refine J2 (J1 ?_)
 refine Ju (cs := [(vi a1.Op), (vi a1.A), (vi a1.B), (vi a1.C), (vi a1.N)]) st rfl rfl rfl ?_
 intro b0 w0 h0
 refine Jsv (.slice none 0 0) rfl rfl ?_
 refine J0 (J2 (J2 (J1 ?_)))
 refine Jl (l1 := []) (vs := [(vi a1.Op), (vi a1.A), (vi a1.B), (vi a1.C), (vi a1.N)]) ti54 h0 rfl rfl rfl rfl ?_
 obtain ⟨t0, h1, hr⟩ := J6 hr
 refine J8 (f := 185) (av := [(.agg #[(vi a1.Op), (vi a1.A), (vi a1.B), (vi a1.C), (vi a1.N)])]) cf185 rfl rfl h0 rfl (fun G1 e0 h2 => instr_numbers.ok (a0 := a1) h2 (⟨rfl, ha1_0, ha1_1, ha1_2, ha1_3, ha1_4⟩) h1) ?_
 rintro v1 w1 G2 G3 N0 e1 q0 ⟨c0, rfl, rfl, f0, f1⟩ h3
 refine Jmv (vi 0) rfl rfl ?_
 refine J0 (Jb ?_)
 obtain ⟨t3, h4, hr⟩ := J6 hr
 have h5 := St.takeN 0 h3
 refine W_loopS (a0 := r) 0 h4 (fun s0 ρ w => ∃ (σ0 : Env) (G4 : GH) (v2 : Value), ρ = En σ0 [(0, v2), (8, (.agg c0.toArray)), (9, (vi ((s0.2 : Nat) : Int)))] ∧ Ext G3 G4 ∧ St B w G4 [] ∧ SRep 5 (tInt .u8) G4 v2 s0.1 ∧ InK .i64 ((s0.2 : Nat) : Int)) (fun t4 ρ w => ∃ (σ1 : Env) (G5 : GH) (v3 : Value), ρ = En σ1 [(0, v3)] ∧ Ext G3 G5 ∧ St B w G5 [] ∧ SRep 5 (tInt .u8) G5 v3 t4) ⟨_, _, va0, (J3 ⟨rfl, rfl, rfl, trivial⟩), (Ext.refl _), h5, (SRep.mono e1.ro ha0), (by rfl)⟩ ?_ ?_ ?_
 ·rintro s0 x1 _ _ hr ⟨σ0, G4, v2, rfl, e2, h6, f2, f3⟩
  refine J2 (J1 ?_)
  refine Ji rfl rfl rfl ?_
  refine J0 (J2 ?_)
  refine J7 rfl (fun h7 => ?_) (fun h7 => ?_)
  ·replace hr := Jx hr h7
   refine J9 (J2 (Jb (J2 (J1 ?_))))
   refine Jmv (vi ((s0.2 : Nat) : Int)) rfl rfl ?_
   obtain ⟨x0, h8, hr⟩ := J6 hr
   refine WL_indexAE (T := (tInt .i64)) underlying238 ti2 rfl rfl rfl rfl f1 (EAll.mono e2.ro (EAll.mono q0 f0)) h8 ?_
   intro c1 f4
   obtain ⟨rfl, f5⟩ := one_int f4
   refine Jsv (vi ((s0.2 : Nat) : Int)) rfl rfl ?_
   refine Jsv (vi x0) rfl rfl ?_
   refine J0 (J2 (J2 (J1 ?_)))
   refine Jmv (vi ((s0.2 : Nat) : Int)) rfl rfl ?_
   refine Y3 rfl rfl rfl ?_
   refine J0 ?_
   refine J7 rfl (fun h9 => ?_) (fun h9 => ?_)
   ·replace hr := Jx hr h9
    refine J2 (J1 ?_)
    refine Jmv v2 rfl rfl ?_
    refine Jmv (vi x0) rfl rfl ?_
    obtain ⟨t1, h10, hr⟩ := J6 hr
    refine J8 (f := 70) (av := [v2, (vi x0), (vi 4)]) cf70 rfl rfl h6 rfl (fun G6 e3 h11 => octet_Put.ok h11 (SRep.mono e3.ro f2) f5 (by rfl) h10) ?_
    rintro v4 w2 G7 G8 N1 e4 q1 ⟨_, c2, rfl, rfl, f6, f7⟩ h12
    refine Jsv v4 rfl rfl ?_
    refine J0 (Jg ?_)
    refine ⟨_, (Option.some.inj hr).symm, fun h13 => ?_⟩
    replace hr := congrArg some h13
    obtain ⟨G9, h14, e5, f8⟩ := St.rowRep (l1 := []) (T := (tInt .u8)) (xs := t1) h12 (EAll.mono q1 f6) rfl f7
    obtain rfl := Option.some.inj hr
    exact ⟨[v4], ⟨rfl, trivial⟩, _, _, _, rfl, (e1.trans (e2.trans (e4.trans e5))), h14, ⟨v4, rfl, rfl, f8⟩⟩
   replace hr := Jf hr h9
   refine J9 (J1 ?_)
   refine Jmv v2 rfl rfl ?_
   refine Jmv (vi x0) rfl rfl ?_
   obtain ⟨t2, h15, hr⟩ := J6 hr
   refine J8 (f := 70) (av := [v2, (vi x0), (vi 1)]) cf70 rfl rfl h6 rfl (fun Ga e6 h16 => octet_Put.ok h16 (SRep.mono e6.ro f2) f5 (by rfl) h15) ?_
   rintro v5 w3 Gb Gc N2 e7 q2 ⟨_, c3, rfl, rfl, f9, fa⟩ h17
   refine Jsv v5 rfl rfl ?_
   refine J0 (J1 ?_)
   refine Y2 rfl rfl rfl (of_decide_eq_true h7) rfl ?_
   refine Jmv (vi ((s0.2 + 1 : Nat) : Int)) rfl rfl ?_
   refine J0 ?_
   obtain ⟨Gd, h18, e8, fb⟩ := St.rowRep (l1 := []) (T := (tInt .u8)) (xs := t2) h17 (EAll.mono q2 f9) rfl fa
   exact ⟨_, (Option.some.inj hr).symm, _, _, v5, (J3 ⟨rfl, rfl, rfl, trivial⟩), (e2.trans (e7.trans e8)), h18, fb, (inK_inc (of_decide_eq_true h7) rfl)⟩
  replace hr := Jf hr h7
  refine Jr ?_
  exact ⟨_, (Option.some.inj hr).symm, rfl, _, _, v2, (J3 ⟨rfl, trivial⟩), e2, h6, f2⟩
 ·rintro t4 _ _ rfl ⟨σ1, G5, v3, rfl, e9, h19, fc⟩
  replace hr := cont_inl hr
  refine J2 (J1 ?_)
  refine Jmv v3 rfl rfl ?_
  refine Jsv v3 rfl rfl ?_
  refine J0 (Jg ?_)
  obtain rfl := Option.some.inj hr
  exact ⟨[v3], ⟨rfl, trivial⟩, _, _, _, rfl, (e1.trans e9), h19, ⟨v3, rfl, rfl, fc⟩⟩
 rintro a rfl; exact Option.some.inj hr
def fun_writer_put_s2.l0 (a2 : (List Int)) (a1 : Int) (s0 : ((List Int) × Nat)) : Option (Step ((List Int) × Nat) (List Int)) :=
 bif decide (((s0.2 : Nat) : Int) < (a2.length : Int)) then (idx a2 ((s0.2 : Nat) : Int)).bind fun x0 => (octet_Put.f s0.1 x0 a1).bind fun t0 => some (.next (t0, s0.2 + 1)) else some (.done s0.1)
def fun_writer_put_s2.f (a0_ : Xfun_writer) (a1 : Int) (a2 : (List Int)) : Option ((List Int)) :=
 (loop (fun_writer_put_s2.l0 a2 a1) (a0_.b, 0)).bind fun t1 => some t1
def fun_writer_put_s2.K (ba0 : Nat) (r : (List Int)) (G0 : GH) (v : Value) (N : List Res) : Prop := ∃ (v0 : Value), v = tup [] ∧ N = [.blk ba0 [v0] 189] ∧ SRep 5 (tInt .u8) G0 v0 r
theorem fun_writer_put_s2.ok {ba0 : Nat} {ca0_ : List Value} {a0_ : Xfun_writer} {a1 : Int} {va2 : Value} {a2 : (List Int)} (st : St B w G [.blk ba0 ca0_ 189]) (ha0_ : Tfun_writer.rep G ca0_ a0_) (ha1 : InK .i64 a1) (ha2 : SRep 3 (tInt .i64) G va2 a2) {r : (List Int)} (hr : fun_writer_put_s2.f a0_ a1 a2 = some r) :
 Calls Tryz.prog 132 ([(pt ba0 0), (vi a1), va2] : List Value).toArray w (Ret B G (fun_writer_put_s2.K ba0 r)) := by
 obtain ⟨sa0__0, rfl, ha0__0⟩ := ha0_
 refine Jc [] func132 rfl ntmps132 rfl rfl ?_
 refine J2 (J1 ?_)
 refine Jmv va2 rfl rfl ?_
 refine Jd (T := (tInt .i64)) underlying39 ha2 rfl rfl ?_
 refine Jmv (vi 0) rfl rfl ?_
 refine J0 (Jb ?_)
 obtain ⟨t1, h0, hr⟩ := J6 hr
 refine Js 0 h0 (fun s0 ρ w => ∃ (σ0 : Env) (G1 : GH) (v1 : Value), ρ = En σ0 [(0, (pt ba0 0)), (1, (vi a1)), (8, va2), (9, (vi (a2.length : Int))), (10, (vi ((s0.2 : Nat) : Int)))] ∧ Ext G G1 ∧ St B w G1 [.blk ba0 [v1] 189] ∧ SRep 5 (tInt .u8) G1 v1 s0.1 ∧ InK .i64 ((s0.2 : Nat) : Int)) (fun t2 ρ w => ∃ (σ1 : Env) (G2 : GH) (v2 : Value), ρ = En σ1 [] ∧ Ext G G2 ∧ St B w G2 [.blk ba0 [v2] 189] ∧ SRep 5 (tInt .u8) G2 v2 t2) ⟨_, _, sa0__0, (J3 ⟨rfl, rfl, rfl, rfl, rfl, trivial⟩), (Ext.refl _), st, ha0__0, (by rfl)⟩ ?_ ?_
 ·rintro s0 x1 _ _ hr ⟨σ0, G1, v1, rfl, e0, h1, f0, f1⟩
  refine J2 (J1 ?_)
  refine Ji rfl rfl rfl ?_
  refine J0 (J2 ?_)
  refine J7 rfl (fun h2 => ?_) (fun h2 => ?_)
  ·replace hr := Jx hr h2
   refine J9 (J2 (Jb (J2 (J1 ?_))))
   obtain ⟨x0, h3, hr⟩ := J6 hr
   refine Jh (T := (tInt .i64)) underlying39 ti3 h1 (SRep.mono e0.ro ha2) rfl rfl rfl h3 ?_
   intro b0 o0 c0 l3 f2
   obtain ⟨rfl, f3⟩ := f2
   refine Y4 (v := (vi x0)) ti3 rfl rfl (LiesG.lies l3 h1) rfl ?_
   refine Jsv (vi x0) rfl rfl ?_
   refine J0 (J1 ?_)
   refine Jmv (pt ba0 0) rfl rfl ?_
   refine Jmv (pt ba0 0) rfl rfl ?_
   refine Je rfl rfl ?_
   refine Jfa 0 0 underlying189 rfl ti63 rfl rfl rfl rfl ?_
   refine Jlb [] v1 ti63 h1 rfl rfl rfl ?_
   refine Jmv (vi x0) rfl rfl ?_
   refine Jmv (vi a1) rfl rfl ?_
   obtain ⟨t0, h4, hr⟩ := J6 hr
   refine J8 (f := 70) (av := [v1, (vi x0), (vi a1)]) cf70 rfl rfl h1 rfl (fun G3 e1 h5 => octet_Put.ok h5 (SRep.mono e1.ro f0) f3 ha1 h4) ?_
   rintro v3 w0 G4 G5 N0 e2 q0 ⟨_, c1, rfl, rfl, f4, f5⟩ h6
   refine Je rfl rfl ?_
   refine Jfa 0 0 underlying189 rfl ti63 rfl rfl rfl rfl ?_
   refine Y5 (l1 := [_]) (v := v3) ti63 h6 rfl rfl (row_one (St.mid (l1 := []) h6)) rfl ?_
   intro w1 (h7 : St B w1 G5 [.row v3 5 1 t0.length c1, .blk ba0 [v3] 189])
   refine J0 (J1 ?_)
   refine Y2 rfl rfl rfl (of_decide_eq_true h2) (inK_len (SRep.le ha2)) ?_
   refine Jmv (vi ((s0.2 + 1 : Nat) : Int)) rfl rfl ?_
   refine J0 ?_
   obtain ⟨G6, h8, e3, f6⟩ := St.rowRep (l1 := []) (T := (tInt .u8)) (xs := t0) h7 (EAll.mono q0 f4) rfl f5
   exact ⟨_, (Option.some.inj hr).symm, _, _, v3, (J3 ⟨rfl, rfl, rfl, rfl, rfl, trivial⟩), (e0.trans (e2.trans e3)), h8, f6, (inK_inc (of_decide_eq_true h2) (inK_len (SRep.le ha2)))⟩
  replace hr := Jf hr h2
  refine Jr ?_
  exact ⟨_, (Option.some.inj hr).symm, rfl, _, _, v1, rfl, e0, h1, f0⟩
 rintro _ _ ⟨σ1, G2, v2, rfl, e4, h9, f7⟩
 obtain rfl := Option.some.inj hr
 exact ⟨[], trivial, _, _, _, rfl, e4, h9, ⟨v2, rfl, rfl, f7⟩⟩
def fun_Put.l0 (a1 : XFunc) (s0 : ((List Int) × Nat)) : Option (Step ((List Int) × Nat) (List Int)) :=
 bif decide (((s0.2 : Nat) : Int) < (a1.Lines.length : Int)) then (idx a1.Lines ((s0.2 : Nat) : Int)).bind fun x0 => (fun_writer_put.f s0.1 1 [x0.At]).bind fun t0 => (fun_writer_put.f t0 2 [x0.Line]).bind fun t1 => some (.next (t1, s0.2 + 1)) else some (.done s0.1)
def fun_Put.l1 (a1 : XFunc) (s1 : ((List Int) × Nat)) : Option (Step ((List Int) × Nat) (List Int)) :=
 bif decide (((s1.2 : Nat) : Int) < (a1.Code.length : Int)) then (idx a1.Code ((s1.2 : Nat) : Int)).bind fun x1 => (instr_Put.f s1.1 x1).bind fun t2 => some (.next (t2, s1.2 + 1)) else some (.done s1.1)
def fun_Put.l2 (a1 : XFunc) (s2 : ((List Int) × Nat)) : Option (Step ((List Int) × Nat) (List Int)) :=
 bif decide (((s2.2 : Nat) : Int) < (a1.Relocs.length : Int)) then (idx a1.Relocs ((s2.2 : Nat) : Int)).bind fun x2 => (fun_flag.f x2.Wide).bind fun t3 => (fun_writer_put_s2.f ({ b := s2.1 } : Xfun_writer) 1 [x2.At, x2.Sym, t3]).bind fun t4 => some (.next (t4, s2.2 + 1)) else some (.done s2.1)
def fun_Put.f (a0 : (List Int)) (a1 : XFunc) : Option ((List Int)) :=
 bif decide ((([] : (List Int)).length + a0.length) * 1 ≤ SB) then (fun_writer_put.f (([] : (List Int)) ++ a0) 1 [a1.Class, (a1.Kinds.length : Int)]).bind fun t5 => (fun_writer_put.f t5 1 a1.Kinds).bind fun t6 => (fun_writer_put.f t6 2 [a1.Pad]).bind fun t7 => (fun_flag.f a1.Nosplit).bind fun t8 => (fun_writer_put.f t7 1 [t8, a1.From, a1.To, (a1.Lines.length : Int)]).bind fun t9 => (loop (fun_Put.l0 a1) (t9, 0)).bind fun ta => (fun_writer_put.f ta 1 [(a1.Code.length : Int)]).bind fun tb => (loop (fun_Put.l1 a1) (tb, 0)).bind fun tc => (fun_writer_put_s2.f ({ b := tc } : Xfun_writer) 1 [(a1.Relocs.length : Int)]).bind fun td => (loop (fun_Put.l2 a1) (td, 0)).bind fun te => some te else none
def fun_Put.K (r : (List Int)) (G0 : GH) (v : Value) (N : List Res) : Prop := ∃ (v0 : Value), v = tup [v0] ∧ N = [] ∧ SRep 5 (tInt .u8) G0 v0 r
theorem fun_Put.ok {va0 : Value} {a0 : (List Int)} {ca1 : List Value} {a1 : XFunc} (st : St B w G []) (ha0 : SRep 5 (tInt .u8) G va0 a0) (ha1 : TFunc.rep G ca1 a1) {r : (List Int)} (hr : fun_Put.f a0 a1 = some r) :
 Calls Tryz.prog 73 ([va0, (.agg ca1.toArray)] : List Value).toArray w (Ret B G (fun_Put.K r)) := by
 obtain ⟨sa1_1, sa1_6, sa1_7, sa1_8, rfl, ha1_0, ha1_1, ha1_2, ha1_4, ha1_5, ha1_6, ha1_7, ha1_8⟩ := ha1
 refine Jc [.tmp 4] func73 rfl ntmps73 rfl rfl ?_
 refine J2 (J1 ?_)
 refine Ju (cs := [(vi a1.Class), sa1_1, (vi a1.Pad), (.bool a1.Nosplit), (vi a1.From), (vi a1.To), sa1_6, sa1_7, sa1_8]) st rfl rfl rfl ?_
 intro b0 w0 h0
 refine Jsv (.slice none 0 0) rfl rfl ?_
 refine J0 (J2 (J1 ?_))
 refine WL_buildNone underlying63 ti5 h0 rfl ?_
 intro v1 w1 h1
 refine Jmv va0 rfl rfl ?_
 obtain ⟨h2, hr⟩ := Ya hr
 refine Yf (l1 := []) (T := (tInt .u8)) (xs := a0) underlying63 ti5 h1 rfl rfl ha0 rfl rfl rfl (app_limN rfl h2) (app_leN rfl h2) ?_
 intro v2 w2 n0 E0 h3
 have E1 := EAll.append (T := (tInt .u8)) EAll.nil E0
 refine Y0 (cells := #[v2]) rfl (by obtain ⟨_, _, _, e_⟩ := row_shape (St.mid (l1 := []) h3); subst e_; kernel_rfl) ?_
 refine Ju (cs := [v2]) h3 rfl rfl rfl ?_
 intro b1 w3 h4
 refine Jsv (pt b1 0) rfl rfl ?_
 refine J0 (J2 (J1 ?_))
 refine Jmv (pt b1 0) rfl rfl ?_
 refine Jfa 0 0 underlying44 rfl ti3 rfl rfl rfl rfl ?_
 refine Jlb [_, _] (vi a1.Class) ti3 h4 rfl rfl rfl ?_
 refine Jfa 1 1 underlying44 rfl ti39 rfl rfl rfl rfl ?_
 refine Jlb [_, _] sa1_1 ti39 h4 rfl rfl rfl ?_
 refine Jd (T := (tInt .i64)) underlying39 ha1_1 rfl rfl ?_
 refine Jj (cells := [(vi a1.Class), (vi (a1.Kinds.length : Int))]) underlying39 ti3 h4 rfl rfl rfl rfl rfl (by kernel_rfl) ?_
 intro v3 w4 h5 f0
 have E2 : EAll (tInt .i64) G [(vi a1.Class), (vi (a1.Kinds.length : Int))] [a1.Class, (a1.Kinds.length : Int)] := ⟨_, _, rfl, ⟨rfl, ha1_0⟩, ⟨_, _, rfl, ⟨rfl, (inK_len (SRep.le ha1_1))⟩, rfl⟩⟩
 obtain ⟨G1, h6, e0, f1⟩ := St.rowRep (l1 := []) (T := (tInt .i64)) (xs := [a1.Class, (a1.Kinds.length : Int)]) h5 E2 rfl (by decide)
 have h7 := St.row_len (l1 := [_]) (k := (([] : (List Int)) ++ a0).length) (len_app rfl) h6
 have h8 := St.pick 1 rfl h7
 have h9 := St.pick 1 rfl h8
 obtain ⟨t5, h10, hr⟩ := J6 hr
 refine Y6 (f := 132) (av := [(pt b1 0), (vi 1), v3]) cf132 rfl rfl h9 rfl (fun G2 e1 h11 => fun_writer_put.ok h11 (EAll.mono (e0.ro.trans e1.ro) E1) (le_eq (m := (0 + a0.length)) (len_app rfl) (app_leN rfl h2)) (by rfl) (SRep.mono e1.ro f1) h10) ?_
 rintro v4 w5 G3 G4 N0 e2 q0 ⟨v5, c0, rfl, rfl, f2, f3⟩ h12
 refine J0 (J2 (J1 ?_))
 refine Jmv (pt b1 0) rfl rfl ?_
 refine Jfa 1 1 underlying44 rfl ti39 rfl rfl rfl rfl ?_
 refine Jlb [_, _] sa1_1 ti39 h12 rfl rfl rfl ?_
 have h13 := St.pick 1 rfl h12
 obtain ⟨t6, h14, hr⟩ := J6 hr
 refine Y6 (f := 132) (av := [(pt b1 0), (vi 1), sa1_1]) cf132 rfl rfl h13 rfl (fun G5 e3 h15 => fun_writer_put.ok h15 (EAll.mono e3.ro (EAll.mono q0 f2)) f3 (by rfl) (SRep.mono ((e0.ro.trans e2.ro).trans e3.ro) ha1_1) h14) ?_
 rintro v6 w6 G6 G7 N1 e4 q1 ⟨v7, c1, rfl, rfl, f4, f5⟩ h16
 refine J0 (J2 (J1 ?_))
 refine Jmv (pt b1 0) rfl rfl ?_
 refine Jfa 2 2 underlying44 rfl ti3 rfl rfl rfl rfl ?_
 refine Jlb [_, _] (vi a1.Pad) ti3 h16 rfl rfl rfl ?_
 refine Jj (cells := [(vi a1.Pad)]) underlying39 ti3 h16 rfl rfl rfl rfl rfl (by kernel_rfl) ?_
 intro v8 w7 h17 f6
 have E3 : EAll (tInt .i64) G7 [(vi a1.Pad)] [a1.Pad] := ⟨_, _, rfl, ⟨rfl, ha1_2⟩, rfl⟩
 obtain ⟨G8, h18, e5, f7⟩ := St.rowRep (l1 := []) (T := (tInt .i64)) (xs := [a1.Pad]) h17 E3 rfl (by decide)
 have h19 := St.pick 1 rfl h18
 obtain ⟨t7, h1a, hr⟩ := J6 hr
 refine Y6 (f := 132) (av := [(pt b1 0), (vi 2), v8]) cf132 rfl rfl h19 rfl (fun G9 e6 h1b => fun_writer_put.ok h1b (EAll.mono (e5.ro.trans e6.ro) (EAll.mono q1 f4)) f5 (by rfl) (SRep.mono e6.ro f7) h1a) ?_
 rintro v9 w8 Ga Gb N2 e7 q2 ⟨va, c2, rfl, rfl, f8, f9⟩ h1c
 refine J0 (J2 ?_)
 obtain ⟨t8, h1d, hr⟩ := J6 hr
 refine Ym 12 [some 34, some 35, some 36, some 37, some 38, some 39, some 40, some 41, some 42, some 43, some 44, some 45] [11] [Kind.q, Kind.q, Kind.q, Kind.q, Kind.q, Kind.q, Kind.q, Kind.q, Kind.q, Kind.q, Kind.q, Kind.c 0] (pkT [(fun vs_ G_ M_ => vs_ = [] ∧ M_ = [.row va 5 1 t7.length c2, .blk b1 [va] 189, .blk b0 [(vi a1.Class), sa1_1, (vi a1.Pad), (.bool a1.Nosplit), (vi a1.From), (vi a1.To), sa1_6, sa1_7, sa1_8] 44]), (fun vs_ G_ M_ => ∃ (vc : Value), vs_ = [vc] ∧ M_ = [.row vc 3 1 4 [(vi t8), (vi a1.From), (vi a1.To), (vi (a1.Lines.length : Int))], .row va 5 1 t7.length c2, .blk b1 [va] 189, .blk b0 [(vi a1.Class), sa1_1, (vi a1.Pad), (.bool a1.Nosplit), (vi a1.From), (vi a1.To), sa1_6, sa1_7, sa1_8] 44] ∧ EAll (tInt .i64) G_ [(vi t8), (vi a1.From), (vi a1.To), (vi (a1.Lines.length : Int))] [t8, a1.From, a1.To, (a1.Lines.length : Int)] ∧ [t8, a1.From, a1.To, (a1.Lines.length : Int)].length = 4 ∧ 4 ≤ SB)]) (pk [(fun G_ v_ => v_ = (pt b1 0)), (fun G_ v_ => v_ = (pt b0 3)), (fun G_ v_ => v_ = (.bool a1.Nosplit)), (fun G_ v_ => v_ = (vi t8) ∧ InK .i64 t8), (fun G_ v_ => v_ = (pt b0 4)), (fun G_ v_ => v_ = (vi a1.From)), (fun G_ v_ => v_ = (pt b0 5)), (fun G_ v_ => v_ = (vi a1.To)), (fun G_ v_ => v_ = (pt b0 6)), (fun G_ v_ => v_ = sa1_6), (fun G_ v_ => v_ = (vi (a1.Lines.length : Int))), (fun _ _ => True)]) rfl (by kernel_rfl) rfl (by kernel_rfl) [] (by kernel_rfl) rfl h1c (fun _ _ => ⟨rfl, rfl⟩) ?_ ?_
 ·refine Each2.cons ?_ (Each2.cons ?_ (Each2.cons ?_ (Each2.cons ?_ (Each2.cons ?_ (Each2.cons ?_ (Each2.cons ?_ (Each2.cons ?_ (Each2.cons ?_ (Each2.cons ?_ (Each2.cons ?_ (Each2.cons ?_ Each2.nil)))))))))))
  ·intro k0 q3 w9 Gc M0 h1e h1f e8 h1g h1h h1i h1j h1k h1l
   have h2_ : k0 ≤ 1 := h1e
   rcases (show k0 = 0 ∨ k0 = 1 from by omega) with rfl | rfl
   ·obtain ⟨hvs_, rfl⟩ := h1h Gc (Ext.refl _)
    rw [J3 (ρ := q3) (l := [(5, (pt b1 0))]) ⟨(h1i.1 5 (by decide)).trans rfl, trivial⟩]
    refine Jmv (pt b1 0) rfl rfl ?_
    exact J0 (J4 (Ext.refl _) h1g fun Gd e9 => rfl)
   obtain ⟨vc, hvs_, rfl, fa, fb, fc⟩ := h1h Gc (Ext.refl _)
   have hv45 := (List.cons.inj hvs_).1
   rw [J3 (ρ := q3) (l := [(5, (pt b1 0)), (45, vc)]) ⟨(h1i.1 5 (by decide)).trans rfl, hv45, trivial⟩]
   refine Jmv (pt b1 0) rfl rfl ?_
   exact J0 (J4 (Ext.refl _) h1g fun Gd e9 => rfl)
  ·intro k0 q3 w9 Gc M0 h1e h1f e8 h1g h1h h1i h1j h1k h1l
   have h2_ : k0 ≤ 0 := h1k 0 11 [2, 3, 11] rfl (by kernel_rfl) rfl
   obtain rfl : k0 = 0 := by omega
   obtain ⟨hvs_, rfl⟩ := h1h Gc (Ext.refl _)
   rw [J3 (ρ := q3) (l := [(3, (pt b0 0))]) ⟨(h1i.1 3 (by decide)).trans rfl, trivial⟩]
   refine Jfa 3 3 underlying44 rfl ti4 rfl rfl rfl rfl ?_
   exact J0 (J4 (Ext.refl _) h1g fun Ge ea => rfl)
  ·intro k0 q3 w9 Gc M0 h1e h1f e8 h1g h1h h1i h1j h1k h1l
   have h2_ : k0 ≤ 0 := h1k 0 11 [3, 11] rfl (by kernel_rfl) rfl
   obtain rfl : k0 = 0 := by omega
   obtain ⟨hvs_, rfl⟩ := h1h Gc (Ext.refl _)
   obtain ⟨hd0_, _⟩ := h1l
   have hv35 := hd0_
   rw [J3 (ρ := q3) (l := [(35, (pt b0 3))]) ⟨hv35, trivial⟩]
   refine Jlb [_, _] (.bool a1.Nosplit) ti4 h1g rfl rfl rfl ?_
   exact J0 (J4 (Ext.refl _) h1g fun Gf eb => rfl)
  ·intro k0 q3 w9 Gc M0 h1e h1f e8 h1g h1h h1i h1j h1k h1l
   have h2_ : k0 ≤ 0 := h1k 0 11 [11] rfl (by kernel_rfl) rfl
   obtain rfl : k0 = 0 := by omega
   obtain ⟨hvs_, rfl⟩ := h1h Gc (Ext.refl _)
   obtain ⟨hd0_, _⟩ := h1l
   have hv36 := hd0_
   rw [J3 (ρ := q3) (l := [(36, (.bool a1.Nosplit))]) ⟨hv36, trivial⟩]
   refine J8 (f := 133) (av := [(.bool a1.Nosplit)]) cf133 rfl rfl h1g rfl (fun Gg ec h1m => fun_flag.ok h1m h1d) ?_
   rintro vd wa Gh Gi N3 ed q4 ⟨rfl, rfl, fd⟩ h1n
   exact J0 (J4 ed h1n fun Gj ee => ⟨rfl, fd⟩)
  ·intro k0 q3 w9 Gc M0 h1e h1f e8 h1g h1h h1i h1j h1k h1l
   have h2_ : k0 ≤ 0 := h1k 0 11 [5, 11] rfl (by kernel_rfl) rfl
   obtain rfl : k0 = 0 := by omega
   obtain ⟨hvs_, rfl⟩ := h1h Gc (Ext.refl _)
   rw [J3 (ρ := q3) (l := [(3, (pt b0 0))]) ⟨(h1i.1 3 (by decide)).trans rfl, trivial⟩]
   refine Jfa 4 4 underlying44 rfl ti3 rfl rfl rfl rfl ?_
   exact J0 (J4 (Ext.refl _) h1g fun Gk ef => rfl)
  ·intro k0 q3 w9 Gc M0 h1e h1f e8 h1g h1h h1i h1j h1k h1l
   have h2_ : k0 ≤ 0 := h1k 0 11 [11] rfl (by kernel_rfl) rfl
   obtain rfl : k0 = 0 := by omega
   obtain ⟨hvs_, rfl⟩ := h1h Gc (Ext.refl _)
   obtain ⟨hd0_, _⟩ := h1l
   have hv38 := hd0_
   rw [J3 (ρ := q3) (l := [(38, (pt b0 4))]) ⟨hv38, trivial⟩]
   refine Jlb [_, _] (vi a1.From) ti3 h1g rfl rfl rfl ?_
   exact J0 (J4 (Ext.refl _) h1g fun Gl eg => rfl)
  ·intro k0 q3 w9 Gc M0 h1e h1f e8 h1g h1h h1i h1j h1k h1l
   have h2_ : k0 ≤ 0 := h1k 0 11 [7, 11] rfl (by kernel_rfl) rfl
   obtain rfl : k0 = 0 := by omega
   obtain ⟨hvs_, rfl⟩ := h1h Gc (Ext.refl _)
   rw [J3 (ρ := q3) (l := [(3, (pt b0 0))]) ⟨(h1i.1 3 (by decide)).trans rfl, trivial⟩]
   refine Jfa 5 5 underlying44 rfl ti3 rfl rfl rfl rfl ?_
   exact J0 (J4 (Ext.refl _) h1g fun Gm eh => rfl)
  ·intro k0 q3 w9 Gc M0 h1e h1f e8 h1g h1h h1i h1j h1k h1l
   have h2_ : k0 ≤ 0 := h1k 0 11 [11] rfl (by kernel_rfl) rfl
   obtain rfl : k0 = 0 := by omega
   obtain ⟨hvs_, rfl⟩ := h1h Gc (Ext.refl _)
   obtain ⟨hd0_, _⟩ := h1l
   have hv40 := hd0_
   rw [J3 (ρ := q3) (l := [(40, (pt b0 5))]) ⟨hv40, trivial⟩]
   refine Jlb [_, _] (vi a1.To) ti3 h1g rfl rfl rfl ?_
   exact J0 (J4 (Ext.refl _) h1g fun Gn ei => rfl)
  ·intro k0 q3 w9 Gc M0 h1e h1f e8 h1g h1h h1i h1j h1k h1l
   have h2_ : k0 ≤ 0 := h1k 0 11 [9, 10, 11] rfl (by kernel_rfl) rfl
   obtain rfl : k0 = 0 := by omega
   obtain ⟨hvs_, rfl⟩ := h1h Gc (Ext.refl _)
   rw [J3 (ρ := q3) (l := [(3, (pt b0 0))]) ⟨(h1i.1 3 (by decide)).trans rfl, trivial⟩]
   refine Jfa 6 6 underlying44 rfl ti40 rfl rfl rfl rfl ?_
   exact J0 (J4 (Ext.refl _) h1g fun Go ej => rfl)
  ·intro k0 q3 w9 Gc M0 h1e h1f e8 h1g h1h h1i h1j h1k h1l
   have h2_ : k0 ≤ 0 := h1k 0 11 [10, 11] rfl (by kernel_rfl) rfl
   obtain rfl : k0 = 0 := by omega
   obtain ⟨hvs_, rfl⟩ := h1h Gc (Ext.refl _)
   obtain ⟨hd0_, _⟩ := h1l
   have hv42 := hd0_
   rw [J3 (ρ := q3) (l := [(42, (pt b0 6))]) ⟨hv42, trivial⟩]
   refine Jlb [_, _] sa1_6 ti40 h1g rfl rfl rfl ?_
   exact J0 (J4 (Ext.refl _) h1g fun Gp ek => rfl)
  ·intro k0 q3 w9 Gc M0 h1e h1f e8 h1g h1h h1i h1j h1k h1l
   have h2_ : k0 ≤ 0 := h1k 0 11 [11] rfl (by kernel_rfl) rfl
   obtain rfl : k0 = 0 := by omega
   obtain ⟨hvs_, rfl⟩ := h1h Gc (Ext.refl _)
   obtain ⟨hd0_, _⟩ := h1l
   have hv43 := hd0_
   rw [J3 (ρ := q3) (l := [(43, sa1_6)]) ⟨hv43, trivial⟩]
   refine Jd (T := TLine) underlying40 (SRep.mono (e0.ro.trans (e2.ro.trans (e4.ro.trans (e5.ro.trans (e7.ro.trans e8.ro))))) ha1_6) rfl rfl ?_
   exact J0 (J4 (Ext.refl _) h1g fun Gq el => rfl)
  intro k0 q3 w9 Gc M0 h1e h1f e8 h1g h1h h1i h1j h1k h1l
  obtain rfl : k0 = 0 := h1f
  obtain ⟨hvs_, rfl⟩ := h1h Gc (Ext.refl _)
  obtain ⟨hd0_, hd1_, hd2_, hd3_, _⟩ := h1l
  obtain ⟨hv37, fe⟩ := hd0_
  have hv39 := hd1_
  have hv41 := hd2_
  have hv44 := hd3_
  rw [J3 (ρ := q3) (l := [(37, (vi t8)), (39, (vi a1.From)), (41, (vi a1.To)), (44, (vi (a1.Lines.length : Int)))]) ⟨hv37, hv39, hv41, hv44, trivial⟩]
  refine Jj (cells := [(vi t8), (vi a1.From), (vi a1.To), (vi (a1.Lines.length : Int))]) underlying39 ti3 h1g rfl rfl rfl rfl rfl (by kernel_rfl) ?_
  intro ve wb h1o ff
  have E4 : EAll (tInt .i64) Gc [(vi t8), (vi a1.From), (vi a1.To), (vi (a1.Lines.length : Int))] [t8, a1.From, a1.To, (a1.Lines.length : Int)] := ⟨_, _, rfl, ⟨rfl, fe⟩, ⟨_, _, rfl, ⟨rfl, ha1_4⟩, ⟨_, _, rfl, ⟨rfl, ha1_5⟩, ⟨_, _, rfl, ⟨rfl, (inK_len (SRep.le (SRep.mono (e0.ro.trans (e2.ro.trans (e4.ro.trans (e5.ro.trans (e7.ro.trans e8.ro))))) ha1_6)))⟩, rfl⟩⟩⟩⟩
  exact J0 (Yi (Ext.refl _) h1o fun Gr em => ⟨⟨ve, rfl, rfl, (EAll.mono em.ro E4), (by rfl), (by decide)⟩, trivial⟩)
 intro q3 w9 Gc M0 e8 h1g h1h h1i h1l
 obtain ⟨vc, hvs_, rfl, fa, fb, fc⟩ := h1h
 have hv45 := (List.cons.inj hvs_).1
 have hv34 := h1l 0 (by decide)
 rw [J3 (ρ := q3) (l := [(3, (pt b0 0)), (5, (pt b1 0)), (34, (pt b1 0)), (45, vc)]) ⟨(h1i.1 3 (by decide)).trans rfl, (h1i.1 5 (by decide)).trans rfl, hv34, hv45, trivial⟩]
 obtain ⟨Gs, h1p, en, fg⟩ := St.rowRep (l1 := []) (T := (tInt .i64)) (xs := [t8, a1.From, a1.To, (a1.Lines.length : Int)]) h1g fa fb fc
 have h1q := St.pick 1 rfl h1p
 obtain ⟨t9, h1r, hr⟩ := J6 hr
 refine Y6 (f := 132) (av := [(pt b1 0), (vi 1), vc]) cf132 rfl rfl h1q rfl (fun Gt eo h1s => fun_writer_put.ok h1s (EAll.mono ((e8.ro.trans en.ro).trans eo.ro) (EAll.mono q2 f8)) f9 (by rfl) (SRep.mono eo.ro fg) h1r) ?_
 rintro vf wc Gu Gv N4 ep q5 ⟨vg, c3, rfl, rfl, fh, fj⟩ h1t
 refine J0 (J2 (J2 (J1 ?_)))
 refine Jfa 6 6 underlying44 rfl ti40 rfl rfl rfl rfl ?_
 refine Jlb [_, _] sa1_6 ti40 h1t rfl rfl rfl ?_
 refine Jd (T := TLine) underlying40 (SRep.mono (e0.ro.trans (e2.ro.trans (e4.ro.trans (e5.ro.trans (e7.ro.trans (e8.ro.trans (en.ro.trans ep.ro))))))) ha1_6) rfl rfl ?_
 refine Jmv (vi 0) rfl rfl ?_
 refine J0 (Jb ?_)
 obtain ⟨ta, h1u, hr⟩ := J6 hr
 have h1v := St.pick 1 rfl h1t
 have h1w := St.pick 1 rfl h1v
 have h1x := St.pick 2 rfl h1w
 refine Js 0 h1u (fun s0 ρ w => ∃ (σ0 : Env) (Gw : GH) (vh : Value) (c4 : List Value), ρ = En σ0 [(3, (pt b0 0)), (5, (pt b1 0)), (48, sa1_6), (49, (vi (a1.Lines.length : Int))), (50, (vi ((s0.2 : Nat) : Int)))] ∧ Ext Gv Gw ∧ St B w Gw [.blk b0 [(vi a1.Class), sa1_1, (vi a1.Pad), (.bool a1.Nosplit), (vi a1.From), (vi a1.To), sa1_6, sa1_7, sa1_8] 44, .row vh 5 1 s0.1.length c4, .blk b1 [vh] 189] ∧ EAll (tInt .u8) Gw c4 s0.1 ∧ s0.1.length ≤ SB ∧ InK .i64 ((s0.2 : Nat) : Int)) (fun tf ρ w => ∃ (σ1 : Env) (Gx : GH) (vj : Value) (c5 : List Value), ρ = En σ1 [(3, (pt b0 0)), (5, (pt b1 0))] ∧ Ext Gv Gx ∧ St B w Gx [.blk b0 [(vi a1.Class), sa1_1, (vi a1.Pad), (.bool a1.Nosplit), (vi a1.From), (vi a1.To), sa1_6, sa1_7, sa1_8] 44, .row vj 5 1 tf.length c5, .blk b1 [vj] 189] ∧ EAll (tInt .u8) Gx c5 tf ∧ tf.length ≤ SB) ⟨_, _, vg, c3, (J3 ⟨rfl, rfl, rfl, rfl, rfl, trivial⟩), (Ext.refl _), h1x, (EAll.mono q5 fh), fj, (by rfl)⟩ ?_ ?_
 ·rintro s0 x3 _ _ hr ⟨σ0, Gw, vh, c4, rfl, er, h1y, fk, fl, fm⟩
  refine J2 (J1 ?_)
  refine Ji rfl rfl rfl ?_
  refine J0 (J2 ?_)
  refine J7 rfl (fun h1z => ?_) (fun h1z => ?_)
  ·replace hr := Jx hr h1z
   refine J9 (J2 (Jb (J2 (J1 ?_))))
   obtain ⟨x0, h20, hr⟩ := J6 hr
   refine Jh (T := TLine) underlying40 ti157 h1y (SRep.mono (e0.ro.trans (e2.ro.trans (e4.ro.trans (e5.ro.trans (e7.ro.trans (e8.ro.trans (en.ro.trans (ep.ro.trans er.ro)))))))) ha1_6) rfl rfl rfl h20 ?_
   intro b2 o0 c6 l3 fn
   obtain ⟨rfl, fo, fp⟩ := fn
   refine Jy ti157 rfl rfl (LiesG.lies l3 h1y) (Nat.le_of_ble_eq_true rfl) ?_
   change WL _ _ _ _ _ _ (upd _ _ (.agg #[(vi x0.At), (vi x0.Line)])) _
   refine Jo ti157 h1y rfl ?_
   intro b3 wd h21
   refine Jp (l1 := []) (vs := [(vi x0.At), (vi x0.Line)]) ti157 h21 rfl rfl rfl (J5 rfl (J5 rfl (fun _ h => nomatch h))) rfl ?_
   intro we (h22 : St B we Gw [.blk b3 [(vi x0.At), (vi x0.Line)] 157, .blk b0 [(vi a1.Class), sa1_1, (vi a1.Pad), (.bool a1.Nosplit), (vi a1.From), (vi a1.To), sa1_6, sa1_7, sa1_8] 44, .row vh 5 1 s0.1.length c4, .blk b1 [vh] 189])
   refine J0 (J2 (J1 ?_))
   refine Jmv (pt b1 0) rfl rfl ?_
   refine Jfa 0 0 underlying157 rfl ti3 rfl rfl rfl rfl ?_
   refine Jlb [] (vi x0.At) ti3 h22 rfl rfl rfl ?_
   refine Jj (cells := [(vi x0.At)]) underlying39 ti3 h22 rfl rfl rfl rfl rfl (by kernel_rfl) ?_
   intro vk wf h23 fq
   have E5 : EAll (tInt .i64) Gw [(vi x0.At)] [x0.At] := ⟨_, _, rfl, ⟨rfl, fo⟩, rfl⟩
   obtain ⟨Gy, h24, es, fr⟩ := St.rowRep (l1 := []) (T := (tInt .i64)) (xs := [x0.At]) h23 E5 rfl (by decide)
   have h25 := St.pick 2 rfl h24
   have h26 := St.pick 3 rfl h25
   obtain ⟨t0, h27, hr⟩ := J6 hr
   refine Y6 (f := 132) (av := [(pt b1 0), (vi 1), vk]) cf132 rfl rfl h26 rfl (fun Gz et h28 => fun_writer_put.ok h28 (EAll.mono (es.ro.trans et.ro) fk) fl (by rfl) (SRep.mono et.ro fr) h27) ?_
   rintro vl wg G10 G11 N5 eu q6 ⟨vm, c7, rfl, rfl, fs, ft⟩ h29
   refine J0 (J1 ?_)
   refine Jmv (pt b1 0) rfl rfl ?_
   refine Jfa 1 1 underlying157 rfl ti3 rfl rfl rfl rfl ?_
   refine Jlb [_, _] (vi x0.Line) ti3 h29 rfl rfl rfl ?_
   refine Jj (cells := [(vi x0.Line)]) underlying39 ti3 h29 rfl rfl rfl rfl rfl (by kernel_rfl) ?_
   intro vn wh h2a fu
   have E6 : EAll (tInt .i64) G11 [(vi x0.Line)] [x0.Line] := ⟨_, _, rfl, ⟨rfl, fp⟩, rfl⟩
   obtain ⟨G12, h2b, ev, fv⟩ := St.rowRep (l1 := []) (T := (tInt .i64)) (xs := [x0.Line]) h2a E6 rfl (by decide)
   have h2c := St.pick 1 rfl h2b
   obtain ⟨t1, h2d, hr⟩ := J6 hr
   refine Y6 (f := 132) (av := [(pt b1 0), (vi 2), vn]) cf132 rfl rfl h2c rfl (fun G13 ew h2e => fun_writer_put.ok h2e (EAll.mono (ev.ro.trans ew.ro) (EAll.mono q6 fs)) ft (by rfl) (SRep.mono ew.ro fv) h2d) ?_
   rintro vo wi G14 G15 N6 ex q7 ⟨vp, c8, rfl, rfl, fw, fx⟩ h2f
   refine J0 (J1 ?_)
   refine Y2 rfl rfl rfl (of_decide_eq_true h1z) (inK_len (SRep.le (SRep.mono (e0.ro.trans (e2.ro.trans (e4.ro.trans (e5.ro.trans (e7.ro.trans (e8.ro.trans (en.ro.trans ep.ro))))))) ha1_6))) ?_
   refine Jmv (vi ((s0.2 + 1 : Nat) : Int)) rfl rfl ?_
   refine J0 ?_
   have h2g := St.pick 1 rfl h2f
   have h2h := St.pick 1 rfl h2g
   have h2i := St.pick 3 rfl h2h
   have h2j := St.takeN 3 h2i
   exact ⟨_, (Option.some.inj hr).symm, _, _, vp, c8, (J3 ⟨rfl, rfl, rfl, rfl, rfl, trivial⟩), (er.trans (es.trans (eu.trans (ev.trans ex)))), h2j, (EAll.mono q7 fw), fx, (inK_inc (of_decide_eq_true h1z) (inK_len (SRep.le (SRep.mono (e0.ro.trans (e2.ro.trans (e4.ro.trans (e5.ro.trans (e7.ro.trans (e8.ro.trans (en.ro.trans ep.ro))))))) ha1_6))))⟩
  replace hr := Jf hr h1z
  refine Jr ?_
  have h2k := St.pick 2 rfl h1y
  have h2l := St.pick 2 rfl h2k
  have h2m := St.pick 2 rfl h2l
  exact ⟨_, (Option.some.inj hr).symm, rfl, _, _, vh, c4, (J3 ⟨rfl, rfl, trivial⟩), er, h2m, fk, fl⟩
 rintro _ _ ⟨σ1, Gx, vj, c5, rfl, ey, h2n, fy, fz⟩
 refine J2 (J1 ?_)
 refine Jmv (pt b1 0) rfl rfl ?_
 refine Jfa 7 7 underlying44 rfl ti41 rfl rfl rfl rfl ?_
 refine Jlb [] sa1_7 ti41 h2n rfl rfl rfl ?_
 refine Jd (T := TInstr) underlying41 (SRep.mono (e0.ro.trans (e2.ro.trans (e4.ro.trans (e5.ro.trans (e7.ro.trans (e8.ro.trans (en.ro.trans (ep.ro.trans ey.ro)))))))) ha1_7) rfl rfl ?_
 refine Jj (cells := [(vi (a1.Code.length : Int))]) underlying39 ti3 h2n rfl rfl rfl rfl rfl (by kernel_rfl) ?_
 intro vq wj h2o f10
 have E7 : EAll (tInt .i64) Gx [(vi (a1.Code.length : Int))] [(a1.Code.length : Int)] := ⟨_, _, rfl, ⟨rfl, (inK_len (SRep.le (SRep.mono (e0.ro.trans (e2.ro.trans (e4.ro.trans (e5.ro.trans (e7.ro.trans (e8.ro.trans (en.ro.trans (ep.ro.trans ey.ro)))))))) ha1_7)))⟩, rfl⟩
 obtain ⟨G16, h2p, ez, f11⟩ := St.rowRep (l1 := []) (T := (tInt .i64)) (xs := [(a1.Code.length : Int)]) h2o E7 rfl (by decide)
 have h2q := St.pick 1 rfl h2p
 have h2r := St.pick 2 rfl h2q
 obtain ⟨tb, h2s, hr⟩ := J6 hr
 refine Y6 (f := 132) (av := [(pt b1 0), (vi 1), vq]) cf132 rfl rfl h2r rfl (fun G17 e10 h2t => fun_writer_put.ok h2t (EAll.mono (ez.ro.trans e10.ro) fy) fz (by rfl) (SRep.mono e10.ro f11) h2s) ?_
 rintro vr wk G18 G19 N7 e11 q8 ⟨vt, c9, rfl, rfl, f12, f13⟩ h2u
 refine J0 (J2 (J2 (J1 ?_)))
 refine Jfa 7 7 underlying44 rfl ti41 rfl rfl rfl rfl ?_
 refine Jlb [_, _] sa1_7 ti41 h2u rfl rfl rfl ?_
 refine Jd (T := TInstr) underlying41 (SRep.mono (e0.ro.trans (e2.ro.trans (e4.ro.trans (e5.ro.trans (e7.ro.trans (e8.ro.trans (en.ro.trans (ep.ro.trans (ey.ro.trans (ez.ro.trans e11.ro)))))))))) ha1_7) rfl rfl ?_
 refine Jmv (vi 0) rfl rfl ?_
 refine J0 (Jb ?_)
 obtain ⟨tc, h2v, hr⟩ := J6 hr
 obtain ⟨G1a, h2w, e12, f14⟩ := St.rowRep (l1 := []) (T := (tInt .u8)) (xs := tb) h2u (EAll.mono q8 f12) rfl f13
 have h2x := St.pick 1 rfl h2w
 refine Js 2 h2v (fun s1 ρ w => ∃ (σ2 : Env) (G1b : GH) (vu : Value), ρ = En σ2 [(3, (pt b0 0)), (5, (pt b1 0)), (72, sa1_7), (73, (vi (a1.Code.length : Int))), (74, (vi ((s1.2 : Nat) : Int)))] ∧ Ext G19 G1b ∧ St B w G1b [.blk b0 [(vi a1.Class), sa1_1, (vi a1.Pad), (.bool a1.Nosplit), (vi a1.From), (vi a1.To), sa1_6, sa1_7, sa1_8] 44, .blk b1 [vu] 189] ∧ SRep 5 (tInt .u8) G1b vu s1.1 ∧ InK .i64 ((s1.2 : Nat) : Int)) (fun tg ρ w => ∃ (σ3 : Env) (G1c : GH) (vv : Value), ρ = En σ3 [(3, (pt b0 0)), (5, (pt b1 0))] ∧ Ext G19 G1c ∧ St B w G1c [.blk b0 [(vi a1.Class), sa1_1, (vi a1.Pad), (.bool a1.Nosplit), (vi a1.From), (vi a1.To), sa1_6, sa1_7, sa1_8] 44, .blk b1 [vv] 189] ∧ SRep 5 (tInt .u8) G1c vv tg) ⟨_, _, vt, (J3 ⟨rfl, rfl, rfl, rfl, rfl, trivial⟩), e12, h2x, f14, (by rfl)⟩ ?_ ?_
 ·rintro s1 x4 _ _ hr ⟨σ2, G1b, vu, rfl, e13, h2y, f15, f16⟩
  refine J2 (J1 ?_)
  refine Ji rfl rfl rfl ?_
  refine J0 (J2 ?_)
  refine J7 rfl (fun h2z => ?_) (fun h2z => ?_)
  ·replace hr := Jx hr h2z
   refine J9 (J2 (Jb (J2 (J1 ?_))))
   obtain ⟨x1, h30, hr⟩ := J6 hr
   refine Jh (T := TInstr) underlying41 ti54 h2y (SRep.mono (e0.ro.trans (e2.ro.trans (e4.ro.trans (e5.ro.trans (e7.ro.trans (e8.ro.trans (en.ro.trans (ep.ro.trans (ey.ro.trans (ez.ro.trans (e11.ro.trans e13.ro))))))))))) ha1_7) rfl rfl rfl h30 ?_
   intro b4 o1 ca l4 f17
   obtain ⟨rfl, f18, f19, f1a, f1b, f1c⟩ := f17
   refine Jy ti54 rfl rfl (LiesG.lies l4 h2y) (Nat.le_of_ble_eq_true rfl) ?_
   change WL _ _ _ _ _ _ (upd _ _ (.agg #[(vi x1.Op), (vi x1.A), (vi x1.B), (vi x1.C), (vi x1.N)])) _
   refine Jo ti54 h2y rfl ?_
   intro b5 wl h31
   refine Jp (l1 := []) (vs := [(vi x1.Op), (vi x1.A), (vi x1.B), (vi x1.C), (vi x1.N)]) ti54 h31 rfl rfl rfl (J5 rfl (J5 rfl (J5 rfl (J5 rfl (J5 rfl (fun _ h => nomatch h)))))) rfl ?_
   intro wm (h32 : St B wm G1b [.blk b5 [(vi x1.Op), (vi x1.A), (vi x1.B), (vi x1.C), (vi x1.N)] 54, .blk b0 [(vi a1.Class), sa1_1, (vi a1.Pad), (.bool a1.Nosplit), (vi a1.From), (vi a1.To), sa1_6, sa1_7, sa1_8] 44, .blk b1 [vu] 189])
   refine J0 ?_
   obtain ⟨t2, h33, hr⟩ := J6 hr
   refine Ye 7 [some 78, some 79, some 80, some 81, some 82, some 83, some 84] (pk [(fun G_ v_ => v_ = (pt b1 0)), (fun G_ v_ => v_ = (pt b1 0)), (fun G_ v_ => v_ = (pt b1 0)), (fun G_ v_ => v_ = (pt b1 0)), (fun G_ v_ => v_ = vu), (fun G_ v_ => v_ = (.agg #[(vi x1.Op), (vi x1.A), (vi x1.B), (vi x1.C), (vi x1.N)])), (fun G_ v_ => ∃ (vw : Value), v_ = vw ∧ SRep 5 (tInt .u8) G_ vw t2)]) rfl (by kernel_rfl) rfl h32 ?_ ?_
   ·refine Each.cons ?_ (Each.cons ?_ (Each.cons ?_ (Each.cons ?_ (Each.cons ?_ (Each.cons ?_ (Each.cons ?_ Each.nil))))))
    ·intro q9 wn G1d e14 h34 h35 h36
     rw [J3 (ρ := q9) (l := [(5, (pt b1 0))]) ⟨(h35.1 5 (by decide)).trans rfl, trivial⟩]
     refine Jmv (pt b1 0) rfl rfl ?_
     exact J0 (J4 (Ext.refl _) h34 fun G1e e15 => rfl)
    ·intro q9 wn G1d e14 h34 h35 h36
     rw [J3 (ρ := q9) (l := [(5, (pt b1 0))]) ⟨(h35.1 5 (by decide)).trans rfl, trivial⟩]
     refine Jmv (pt b1 0) rfl rfl ?_
     exact J0 (J4 (Ext.refl _) h34 fun G1f e16 => rfl)
    ·intro q9 wn G1d e14 h34 h35 h36
     obtain ⟨hd0_, _⟩ := h36
     have hv79 := hd0_
     rw [J3 (ρ := q9) (l := [(79, (pt b1 0))]) ⟨hv79, trivial⟩]
     refine Je rfl rfl ?_
     exact J0 (J4 (Ext.refl _) h34 fun G1g e17 => rfl)
    ·intro q9 wn G1d e14 h34 h35 h36
     obtain ⟨hd0_, _⟩ := h36
     have hv80 := hd0_
     rw [J3 (ρ := q9) (l := [(80, (pt b1 0))]) ⟨hv80, trivial⟩]
     refine Jfa 0 0 underlying189 rfl ti63 rfl rfl rfl rfl ?_
     exact J0 (J4 (Ext.refl _) h34 fun G1h e18 => rfl)
    ·intro q9 wn G1d e14 h34 h35 h36
     obtain ⟨hd0_, _⟩ := h36
     have hv81 := hd0_
     rw [J3 (ρ := q9) (l := [(81, (pt b1 0))]) ⟨hv81, trivial⟩]
     refine Jlb [_, _] vu ti63 h34 rfl rfl rfl ?_
     exact J0 (J4 (Ext.refl _) h34 fun G1i e19 => rfl)
    ·intro q9 wn G1d e14 h34 h35 h36
     rw [J3 (ρ := q9) (l := [(9, (pt b5 0))]) ⟨(h35.1 9 (by decide)).trans rfl, trivial⟩]
     refine Jl (l1 := []) (vs := [(vi x1.Op), (vi x1.A), (vi x1.B), (vi x1.C), (vi x1.N)]) ti54 h34 rfl rfl rfl rfl ?_
     exact J0 (J4 (Ext.refl _) h34 fun G1j e1a => rfl)
    intro q9 wn G1d e14 h34 h35 h36
    obtain ⟨hd0_, hd1_, _⟩ := h36
    have hv82 := hd0_
    have hv83 := hd1_
    rw [J3 (ρ := q9) (l := [(82, vu), (83, (.agg #[(vi x1.Op), (vi x1.A), (vi x1.B), (vi x1.C), (vi x1.N)]))]) ⟨hv82, hv83, trivial⟩]
    refine J8 (f := 134) (av := [vu, (.agg #[(vi x1.Op), (vi x1.A), (vi x1.B), (vi x1.C), (vi x1.N)])]) cf134 rfl rfl h34 rfl (fun G1k e1b h37 => instr_Put.ok (a1 := x1) h37 (SRep.mono (e14.ro.trans e1b.ro) f15) (⟨rfl, f18, f19, f1a, f1b, f1c⟩) h33) ?_
    rintro vx wo G1l G1m N8 e1c qa ⟨_, rfl, rfl, f1d⟩ h38
    exact J0 (J4 e1c h38 fun G1n e1d => ⟨vx, rfl, (SRep.mono e1d.ro (SRep.mono qa f1d))⟩)
   intro q9 wn G1d e14 h34 h35 h36
   have hv78 := h36 0 (by decide)
   obtain ⟨vw, hv84, f1e⟩ := h36 6 (by decide)
   rw [J3 (ρ := q9) (l := [(3, (pt b0 0)), (5, (pt b1 0)), (72, sa1_7), (73, (vi (a1.Code.length : Int))), (74, (vi ((s1.2 : Nat) : Int))), (78, (pt b1 0)), (84, vw)]) ⟨(h35.1 3 (by decide)).trans rfl, (h35.1 5 (by decide)).trans rfl, (h35.1 72 (by decide)).trans rfl, (h35.1 73 (by decide)).trans rfl, (h35.1 74 (by decide)).trans rfl, hv78, hv84, trivial⟩]
   refine Je rfl rfl ?_
   refine Jfa 0 0 underlying189 rfl ti63 rfl rfl rfl rfl ?_
   refine Y5 (l1 := [_, _]) (v := vw) ti63 h34 rfl rfl (SRep.one f1e) rfl ?_
   intro wp (h39 : St B wp G1d [.blk b5 [(vi x1.Op), (vi x1.A), (vi x1.B), (vi x1.C), (vi x1.N)] 54, .blk b0 [(vi a1.Class), sa1_1, (vi a1.Pad), (.bool a1.Nosplit), (vi a1.From), (vi a1.To), sa1_6, sa1_7, sa1_8] 44, .blk b1 [vw] 189])
   refine J0 (J1 ?_)
   refine Y2 rfl rfl rfl (of_decide_eq_true h2z) (inK_len (SRep.le (SRep.mono (e0.ro.trans (e2.ro.trans (e4.ro.trans (e5.ro.trans (e7.ro.trans (e8.ro.trans (en.ro.trans (ep.ro.trans (ey.ro.trans (ez.ro.trans e11.ro)))))))))) ha1_7))) ?_
   refine Jmv (vi ((s1.2 + 1 : Nat) : Int)) rfl rfl ?_
   refine J0 ?_
   have h3a := St.pick 2 rfl h39
   have h3b := St.pick 2 rfl h3a
   have h3c := St.takeN 2 h3b
   exact ⟨_, (Option.some.inj hr).symm, _, _, vw, (J3 ⟨rfl, rfl, rfl, rfl, rfl, trivial⟩), (e13.trans e14), h3c, f1e, (inK_inc (of_decide_eq_true h2z) (inK_len (SRep.le (SRep.mono (e0.ro.trans (e2.ro.trans (e4.ro.trans (e5.ro.trans (e7.ro.trans (e8.ro.trans (en.ro.trans (ep.ro.trans (ey.ro.trans (ez.ro.trans e11.ro)))))))))) ha1_7))))⟩
  replace hr := Jf hr h2z
  refine Jr ?_
  have h3d := St.pick 1 rfl h2y
  have h3e := St.pick 1 rfl h3d
  exact ⟨_, (Option.some.inj hr).symm, rfl, _, _, vu, (J3 ⟨rfl, rfl, trivial⟩), e13, h3e, f15⟩
 rintro _ _ ⟨σ3, G1c, vv, rfl, e1e, h3f, f1f⟩
 refine J2 (J1 ?_)
 refine Jmv (pt b1 0) rfl rfl ?_
 refine Jfa 8 8 underlying44 rfl ti42 rfl rfl rfl rfl ?_
 refine Jlb [] sa1_8 ti42 h3f rfl rfl rfl ?_
 refine Jd (T := TReloc) underlying42 (SRep.mono (e0.ro.trans (e2.ro.trans (e4.ro.trans (e5.ro.trans (e7.ro.trans (e8.ro.trans (en.ro.trans (ep.ro.trans (ey.ro.trans (ez.ro.trans (e11.ro.trans e1e.ro))))))))))) ha1_8) rfl rfl ?_
 refine Jj (cells := [(vi (a1.Relocs.length : Int))]) underlying39 ti3 h3f rfl rfl rfl rfl rfl (by kernel_rfl) ?_
 intro vy wq h3g f1g
 have E8 : EAll (tInt .i64) G1c [(vi (a1.Relocs.length : Int))] [(a1.Relocs.length : Int)] := ⟨_, _, rfl, ⟨rfl, (inK_len (SRep.le (SRep.mono (e0.ro.trans (e2.ro.trans (e4.ro.trans (e5.ro.trans (e7.ro.trans (e8.ro.trans (en.ro.trans (ep.ro.trans (ey.ro.trans (ez.ro.trans (e11.ro.trans e1e.ro))))))))))) ha1_8)))⟩, rfl⟩
 obtain ⟨G1o, h3h, e1f, f1h⟩ := St.rowRep (l1 := []) (T := (tInt .i64)) (xs := [(a1.Relocs.length : Int)]) h3g E8 rfl (by decide)
 have h3i := St.pick 1 rfl h3h
 obtain ⟨td, h3j, hr⟩ := J6 hr
 refine Jn (f := 132) (av := [(pt b1 0), (vi 1), vy]) cf132 rfl rfl h3i rfl (fun G1p e1g h3k => fun_writer_put_s2.ok (a0_ := ({ b := tc } : Xfun_writer)) h3k (⟨vv, rfl, (SRep.mono (e1f.ro.trans e1g.ro) f1f)⟩) (by rfl) (SRep.mono e1g.ro f1h) h3j) ?_
 rintro vz wr G1q G1r N9 e1h qb ⟨v10, rfl, rfl, f1i⟩ h3l
 refine J0 (J2 (J2 (J1 ?_)))
 refine Jfa 8 8 underlying44 rfl ti42 rfl rfl rfl rfl ?_
 refine Jlb [_] sa1_8 ti42 h3l rfl rfl rfl ?_
 refine Jd (T := TReloc) underlying42 (SRep.mono (e0.ro.trans (e2.ro.trans (e4.ro.trans (e5.ro.trans (e7.ro.trans (e8.ro.trans (en.ro.trans (ep.ro.trans (ey.ro.trans (ez.ro.trans (e11.ro.trans (e1e.ro.trans (e1f.ro.trans e1h.ro))))))))))))) ha1_8) rfl rfl ?_
 refine Jmv (vi 0) rfl rfl ?_
 refine J0 (Jb ?_)
 obtain ⟨te, h3m, hr⟩ := J6 hr
 have h3n := St.takeN 1 h3l
 refine Js 4 h3m (fun s2 ρ w => ∃ (σ4 : Env) (G1s : GH) (v11 : Value), ρ = En σ4 [(5, (pt b1 0)), (95, sa1_8), (96, (vi (a1.Relocs.length : Int))), (97, (vi ((s2.2 : Nat) : Int)))] ∧ Ext G1r G1s ∧ St B w G1s [.blk b1 [v11] 189] ∧ SRep 5 (tInt .u8) G1s v11 s2.1 ∧ InK .i64 ((s2.2 : Nat) : Int)) (fun th ρ w => ∃ (σ5 : Env) (G1t : GH) (v12 : Value), ρ = En σ5 [(5, (pt b1 0))] ∧ Ext G1r G1t ∧ St B w G1t [.blk b1 [v12] 189] ∧ SRep 5 (tInt .u8) G1t v12 th) ⟨_, _, v10, (J3 ⟨rfl, rfl, rfl, rfl, trivial⟩), (Ext.refl _), h3n, (SRep.mono qb f1i), (by rfl)⟩ ?_ ?_
 ·rintro s2 x5 _ _ hr ⟨σ4, G1s, v11, rfl, e1i, h3o, f1j, f1k⟩
  refine J2 (J1 ?_)
  refine Ji rfl rfl rfl ?_
  refine J0 (J2 ?_)
  refine J7 rfl (fun h3p => ?_) (fun h3p => ?_)
  ·replace hr := Jx hr h3p
   refine J9 (J2 (Jb (J2 (J1 ?_))))
   obtain ⟨x2, h3q, hr⟩ := J6 hr
   refine Jh (T := TReloc) underlying42 ti133 h3o (SRep.mono (e0.ro.trans (e2.ro.trans (e4.ro.trans (e5.ro.trans (e7.ro.trans (e8.ro.trans (en.ro.trans (ep.ro.trans (ey.ro.trans (ez.ro.trans (e11.ro.trans (e1e.ro.trans (e1f.ro.trans (e1h.ro.trans e1i.ro)))))))))))))) ha1_8) rfl rfl rfl h3q ?_
   intro b6 o2 cb l5 f1l
   obtain ⟨rfl, f1m, f1n⟩ := f1l
   refine Jy ti133 rfl rfl (LiesG.lies l5 h3o) (Nat.le_of_ble_eq_true rfl) ?_
   change WL _ _ _ _ _ _ (upd _ _ (.agg #[(vi x2.At), (vi x2.Sym), (.bool x2.Wide)])) _
   refine Jo ti133 h3o rfl ?_
   intro b7 ws h3r
   refine Jp (l1 := []) (vs := [(vi x2.At), (vi x2.Sym), (.bool x2.Wide)]) ti133 h3r rfl rfl rfl (J5 rfl (J5 rfl (J5 rfl (fun _ h => nomatch h)))) rfl ?_
   intro wt (h3s : St B wt G1s [.blk b7 [(vi x2.At), (vi x2.Sym), (.bool x2.Wide)] 133, .blk b1 [v11] 189])
   refine J0 ?_
   obtain ⟨t3, h3t, hr⟩ := J6 hr
   refine Ym 9 [some 101, some 102, some 103, some 104, some 105, some 106, some 107, some 108, some 109] [8] [Kind.q, Kind.q, Kind.q, Kind.q, Kind.q, Kind.q, Kind.q, Kind.q, Kind.c 0] (pkT [(fun vs_ G_ M_ => vs_ = [] ∧ M_ = [.blk b7 [(vi x2.At), (vi x2.Sym), (.bool x2.Wide)] 133, .blk b1 [v11] 189]), (fun vs_ G_ M_ => ∃ (v13 : Value), vs_ = [v13] ∧ M_ = [.row v13 3 1 3 [(vi x2.At), (vi x2.Sym), (vi t3)], .blk b7 [(vi x2.At), (vi x2.Sym), (.bool x2.Wide)] 133, .blk b1 [v11] 189] ∧ EAll (tInt .i64) G_ [(vi x2.At), (vi x2.Sym), (vi t3)] [x2.At, x2.Sym, t3] ∧ [x2.At, x2.Sym, t3].length = 3 ∧ 3 ≤ SB)]) (pk [(fun G_ v_ => v_ = (pt b1 0)), (fun G_ v_ => v_ = (pt b7 0)), (fun G_ v_ => v_ = (vi x2.At)), (fun G_ v_ => v_ = (pt b7 1)), (fun G_ v_ => v_ = (vi x2.Sym)), (fun G_ v_ => v_ = (pt b7 2)), (fun G_ v_ => v_ = (.bool x2.Wide)), (fun G_ v_ => v_ = (vi t3) ∧ InK .i64 t3), (fun _ _ => True)]) rfl (by kernel_rfl) rfl (by kernel_rfl) [] (by kernel_rfl) rfl h3s (fun _ _ => ⟨rfl, rfl⟩) ?_ ?_
   ·refine Each2.cons ?_ (Each2.cons ?_ (Each2.cons ?_ (Each2.cons ?_ (Each2.cons ?_ (Each2.cons ?_ (Each2.cons ?_ (Each2.cons ?_ (Each2.cons ?_ Each2.nil))))))))
    ·intro k1 qc wu G1u M1 h3u h3v e1j h3w h3x h3y h3z h40 h41
     have h2_ : k1 ≤ 1 := h3u
     rcases (show k1 = 0 ∨ k1 = 1 from by omega) with rfl | rfl
     ·obtain ⟨hvs_, rfl⟩ := h3x G1u (Ext.refl _)
      rw [J3 (ρ := qc) (l := [(5, (pt b1 0))]) ⟨(h3y.1 5 (by decide)).trans rfl, trivial⟩]
      refine Jmv (pt b1 0) rfl rfl ?_
      exact J0 (J4 (Ext.refl _) h3w fun G1v e1k => rfl)
     obtain ⟨v13, hvs_, rfl, f1o, f1p, f1q⟩ := h3x G1u (Ext.refl _)
     have hv109 := (List.cons.inj hvs_).1
     rw [J3 (ρ := qc) (l := [(5, (pt b1 0)), (109, v13)]) ⟨(h3y.1 5 (by decide)).trans rfl, hv109, trivial⟩]
     refine Jmv (pt b1 0) rfl rfl ?_
     exact J0 (J4 (Ext.refl _) h3w fun G1v e1k => rfl)
    ·intro k1 qc wu G1u M1 h3u h3v e1j h3w h3x h3y h3z h40 h41
     have h2_ : k1 ≤ 0 := h40 0 8 [2, 8] rfl (by kernel_rfl) rfl
     obtain rfl : k1 = 0 := by omega
     obtain ⟨hvs_, rfl⟩ := h3x G1u (Ext.refl _)
     rw [J3 (ρ := qc) (l := [(11, (pt b7 0))]) ⟨(h3y.1 11 (by decide)).trans rfl, trivial⟩]
     refine Jfa 0 0 underlying133 rfl ti3 rfl rfl rfl rfl ?_
     exact J0 (J4 (Ext.refl _) h3w fun G1w e1l => rfl)
    ·intro k1 qc wu G1u M1 h3u h3v e1j h3w h3x h3y h3z h40 h41
     have h2_ : k1 ≤ 0 := h40 0 8 [8] rfl (by kernel_rfl) rfl
     obtain rfl : k1 = 0 := by omega
     obtain ⟨hvs_, rfl⟩ := h3x G1u (Ext.refl _)
     obtain ⟨hd0_, _⟩ := h41
     have hv102 := hd0_
     rw [J3 (ρ := qc) (l := [(102, (pt b7 0))]) ⟨hv102, trivial⟩]
     refine Jlb [] (vi x2.At) ti3 h3w rfl rfl rfl ?_
     exact J0 (J4 (Ext.refl _) h3w fun G1x e1m => rfl)
    ·intro k1 qc wu G1u M1 h3u h3v e1j h3w h3x h3y h3z h40 h41
     have h2_ : k1 ≤ 0 := h40 0 8 [4, 8] rfl (by kernel_rfl) rfl
     obtain rfl : k1 = 0 := by omega
     obtain ⟨hvs_, rfl⟩ := h3x G1u (Ext.refl _)
     rw [J3 (ρ := qc) (l := [(11, (pt b7 0))]) ⟨(h3y.1 11 (by decide)).trans rfl, trivial⟩]
     refine Jfa 1 1 underlying133 rfl ti3 rfl rfl rfl rfl ?_
     exact J0 (J4 (Ext.refl _) h3w fun G1y e1n => rfl)
    ·intro k1 qc wu G1u M1 h3u h3v e1j h3w h3x h3y h3z h40 h41
     have h2_ : k1 ≤ 0 := h40 0 8 [8] rfl (by kernel_rfl) rfl
     obtain rfl : k1 = 0 := by omega
     obtain ⟨hvs_, rfl⟩ := h3x G1u (Ext.refl _)
     obtain ⟨hd0_, _⟩ := h41
     have hv104 := hd0_
     rw [J3 (ρ := qc) (l := [(104, (pt b7 1))]) ⟨hv104, trivial⟩]
     refine Jlb [] (vi x2.Sym) ti3 h3w rfl rfl rfl ?_
     exact J0 (J4 (Ext.refl _) h3w fun G1z e1o => rfl)
    ·intro k1 qc wu G1u M1 h3u h3v e1j h3w h3x h3y h3z h40 h41
     have h2_ : k1 ≤ 0 := h40 0 8 [6, 7, 8] rfl (by kernel_rfl) rfl
     obtain rfl : k1 = 0 := by omega
     obtain ⟨hvs_, rfl⟩ := h3x G1u (Ext.refl _)
     rw [J3 (ρ := qc) (l := [(11, (pt b7 0))]) ⟨(h3y.1 11 (by decide)).trans rfl, trivial⟩]
     refine Jfa 2 2 underlying133 rfl ti4 rfl rfl rfl rfl ?_
     exact J0 (J4 (Ext.refl _) h3w fun G20 e1p => rfl)
    ·intro k1 qc wu G1u M1 h3u h3v e1j h3w h3x h3y h3z h40 h41
     have h2_ : k1 ≤ 0 := h40 0 8 [7, 8] rfl (by kernel_rfl) rfl
     obtain rfl : k1 = 0 := by omega
     obtain ⟨hvs_, rfl⟩ := h3x G1u (Ext.refl _)
     obtain ⟨hd0_, _⟩ := h41
     have hv106 := hd0_
     rw [J3 (ρ := qc) (l := [(106, (pt b7 2))]) ⟨hv106, trivial⟩]
     refine Jlb [] (.bool x2.Wide) ti4 h3w rfl rfl rfl ?_
     exact J0 (J4 (Ext.refl _) h3w fun G21 e1q => rfl)
    ·intro k1 qc wu G1u M1 h3u h3v e1j h3w h3x h3y h3z h40 h41
     have h2_ : k1 ≤ 0 := h40 0 8 [8] rfl (by kernel_rfl) rfl
     obtain rfl : k1 = 0 := by omega
     obtain ⟨hvs_, rfl⟩ := h3x G1u (Ext.refl _)
     obtain ⟨hd0_, _⟩ := h41
     have hv107 := hd0_
     rw [J3 (ρ := qc) (l := [(107, (.bool x2.Wide))]) ⟨hv107, trivial⟩]
     refine J8 (f := 133) (av := [(.bool x2.Wide)]) cf133 rfl rfl h3w rfl (fun G22 e1r h42 => fun_flag.ok h42 h3t) ?_
     rintro v14 wv G23 G24 Na e1s qd ⟨rfl, rfl, f1r⟩ h43
     exact J0 (J4 e1s h43 fun G25 e1t => ⟨rfl, f1r⟩)
    intro k1 qc wu G1u M1 h3u h3v e1j h3w h3x h3y h3z h40 h41
    obtain rfl : k1 = 0 := h3v
    obtain ⟨hvs_, rfl⟩ := h3x G1u (Ext.refl _)
    obtain ⟨hd0_, hd1_, hd2_, _⟩ := h41
    have hv103 := hd0_
    have hv105 := hd1_
    obtain ⟨hv108, f1s⟩ := hd2_
    rw [J3 (ρ := qc) (l := [(103, (vi x2.At)), (105, (vi x2.Sym)), (108, (vi t3))]) ⟨hv103, hv105, hv108, trivial⟩]
    refine Jj (cells := [(vi x2.At), (vi x2.Sym), (vi t3)]) underlying39 ti3 h3w rfl rfl rfl rfl rfl (by kernel_rfl) ?_
    intro v15 ww h44 f1t
    have E9 : EAll (tInt .i64) G1u [(vi x2.At), (vi x2.Sym), (vi t3)] [x2.At, x2.Sym, t3] := ⟨_, _, rfl, ⟨rfl, f1m⟩, ⟨_, _, rfl, ⟨rfl, f1n⟩, ⟨_, _, rfl, ⟨rfl, f1s⟩, rfl⟩⟩⟩
    exact J0 (Yi (Ext.refl _) h44 fun G26 e1u => ⟨⟨v15, rfl, rfl, (EAll.mono e1u.ro E9), (by rfl), (by decide)⟩, trivial⟩)
   intro qc wu G1u M1 e1j h3w h3x h3y h41
   obtain ⟨v13, hvs_, rfl, f1o, f1p, f1q⟩ := h3x
   have hv109 := (List.cons.inj hvs_).1
   have hv101 := h41 0 (by decide)
   rw [J3 (ρ := qc) (l := [(5, (pt b1 0)), (95, sa1_8), (96, (vi (a1.Relocs.length : Int))), (97, (vi ((s2.2 : Nat) : Int))), (101, (pt b1 0)), (109, v13)]) ⟨(h3y.1 5 (by decide)).trans rfl, (h3y.1 95 (by decide)).trans rfl, (h3y.1 96 (by decide)).trans rfl, (h3y.1 97 (by decide)).trans rfl, hv101, hv109, trivial⟩]
   obtain ⟨G27, h45, e1v, f1u⟩ := St.rowRep (l1 := []) (T := (tInt .i64)) (xs := [x2.At, x2.Sym, t3]) h3w f1o f1p f1q
   have h46 := St.pick 1 rfl h45
   obtain ⟨t4, h47, hr⟩ := J6 hr
   refine Jn (f := 132) (av := [(pt b1 0), (vi 1), v13]) cf132 rfl rfl h46 rfl (fun G28 e1w h48 => fun_writer_put_s2.ok (a0_ := ({ b := s2.1 } : Xfun_writer)) h48 (⟨v11, rfl, (SRep.mono ((e1j.ro.trans e1v.ro).trans e1w.ro) f1j)⟩) (by rfl) (SRep.mono e1w.ro f1u) h47) ?_
   rintro v16 wx G29 G2a Nb e1x qe ⟨v17, rfl, rfl, f1v⟩ h49
   refine J0 (J1 ?_)
   refine Y2 rfl rfl rfl (of_decide_eq_true h3p) (inK_len (SRep.le (SRep.mono (e0.ro.trans (e2.ro.trans (e4.ro.trans (e5.ro.trans (e7.ro.trans (e8.ro.trans (en.ro.trans (ep.ro.trans (ey.ro.trans (ez.ro.trans (e11.ro.trans (e1e.ro.trans (e1f.ro.trans e1h.ro))))))))))))) ha1_8))) ?_
   refine Jmv (vi ((s2.2 + 1 : Nat) : Int)) rfl rfl ?_
   refine J0 ?_
   have h4a := St.takeN 1 h49
   exact ⟨_, (Option.some.inj hr).symm, _, _, v17, (J3 ⟨rfl, rfl, rfl, rfl, trivial⟩), (e1i.trans (e1j.trans (e1v.trans e1x))), h4a, (SRep.mono qe f1v), (inK_inc (of_decide_eq_true h3p) (inK_len (SRep.le (SRep.mono (e0.ro.trans (e2.ro.trans (e4.ro.trans (e5.ro.trans (e7.ro.trans (e8.ro.trans (en.ro.trans (ep.ro.trans (ey.ro.trans (ez.ro.trans (e11.ro.trans (e1e.ro.trans (e1f.ro.trans e1h.ro))))))))))))) ha1_8))))⟩
  replace hr := Jf hr h3p
  refine Jr ?_
  exact ⟨_, (Option.some.inj hr).symm, rfl, _, _, v11, (J3 ⟨rfl, trivial⟩), e1i, h3o, f1j⟩
 rintro _ _ ⟨σ5, G1t, v12, rfl, e1y, h4b, f1w⟩
 refine J2 (J1 ?_)
 refine Jmv (pt b1 0) rfl rfl ?_
 refine Je rfl rfl ?_
 refine Jfa 0 0 underlying189 rfl ti63 rfl rfl rfl rfl ?_
 refine Jlb [] v12 ti63 h4b rfl rfl rfl ?_
 refine Jsv v12 rfl rfl ?_
 refine J0 (Jg ?_)
 have h4c := St.takeN 0 h4b
 obtain rfl := Option.some.inj hr
 exact ⟨[v12], ⟨rfl, trivial⟩, _, _, _, rfl, (e0.trans (e2.trans (e4.trans (e5.trans (e7.trans (e8.trans (en.trans (ep.trans (ey.trans (ez.trans (e11.trans (e1e.trans (e1f.trans (e1h.trans e1y)))))))))))))), h4c, ⟨v12, rfl, rfl, f1w⟩⟩
end Go.Proofs.YtnglgjgflohkmaaGreat.Sk
