/- Walks, printed by gen.py. No condition. -/
import Derived.Test.YtnglgjgflohkmaaGreatSkTy
namespace Go.Proofs.YtnglgjgflohkmaaGreat.Sk
open Go Go.Proofs.Tryz
set_option linter.unusedVariables false
set_option linter.unusedSimpArgs false
variable {B w : World} {G : GH}
set_option linter.unusedVariables false
set_option maxHeartbeats 4000000
set_option maxRecDepth 100000
def name_Check.l0 (a0 : ByteArray) (s0 : Nat) : Option (Step Nat Unit) :=
 bif decide (s0 < a0.size) then (bif decide ((((dec a0 s0).1 : Nat) : Int) ≥ 97) then some () else none).bind fun t0 => bif decide ((((dec a0 s0).1 : Nat) : Int) ≤ 122) then some (.next (s0 + (dec a0 s0).2)) else none else some (.done ())
def name_Check.f (a0 : ByteArray) : Option (Unit) :=
 bif decide ((a0.size : Int) > 24) then none else bif seq a0 ({data := #[]} : ByteArray) then none else (loop (name_Check.l0 a0) 0).bind fun t1 => some ()
def name_Check.K (r : Unit) (G0 : GH) (v : Value) (N : List Res) : Prop := v = tup [(vi 0)] ∧ N = []
theorem name_Check.ok {a0 : ByteArray} (st : St B w G []) (ha0 : a0.size ≤ SB) {r : Unit} (hr : name_Check.f a0 = some r) :
 Calls Tryz.prog 141 ([(.string a0)] : List Value).toArray w (Ret B G (name_Check.K r)) := by
 refine Jc [.tmp 2] func141 rfl ntmps141 rfl rfl ?_
 refine J2 (J1 ?_)
 refine Jsv (vi 0) rfl rfl ?_
 refine J0 (J2 (Jb (J2 (J1 ?_))))
 refine Jmv (.string a0) rfl rfl ?_
 refine WL_lenS underlying9 rfl rfl ?_
 refine Yh rfl rfl rfl ?_
 refine Jsv (.bool (decide ((a0.size : Int) > 24))) rfl rfl ?_
 refine J0 ?_
 refine J7 rfl (fun h0 => ?_) (fun h0 => ?_)
 ·exact Jk hr h0
 replace hr := Jf hr h0
 refine J2 (J1 ?_)
 refine Jmv (.string a0) rfl rfl ?_
 refine WL_seql rfl rfl rfl ?_
 refine Jsv (.bool (seq a0 ({data := #[]} : ByteArray))) rfl rfl ?_
 refine J0 ?_
 refine J7 rfl (fun h1 => ?_) (fun h1 => ?_)
 ·exact Jk hr h1
 replace hr := Jf hr h1
 refine J9 (J2 (J2 (J1 ?_)))
 refine Jmv (.string a0) rfl rfl ?_
 refine WL_rangeS underlying9 st rfl rfl ?_
 intro b0 w0 h2
 refine J0 (Jb ?_)
 obtain ⟨t1, h3, hr⟩ := J6 hr
 refine Js 1 h3 (fun s0 ρ w => ∃ (σ0 : Env) (G1 : GH), ρ = En σ0 [(13, (pt b0 0))] ∧ Ext G G1 ∧ St B w G1 [.obj b0 (.stringIter a0 s0)]) (fun t2 ρ w => ∃ (σ1 : Env) (G2 : GH), ρ = En σ1 [] ∧ Ext G G2 ∧ St B w G2 []) ⟨_, _, (J3 ⟨rfl, trivial⟩), (Ext.refl _), h2⟩ ?_ ?_
 ·rintro s0 x0 _ _ hr ⟨σ0, G1, rfl, e0, h4⟩
  refine J2 (J1 ?_)
  rcases Y8 (decide (s0 < a0.size)) with hb_ | hb_
  ·have h5 : (decide (s0 < a0.size)) = true := hb_
   replace hr := Jx hr h5
   refine WL_nextT (l1 := []) h4 rfl rfl h5 ?_
   intro w1 h6
   refine Jm rfl rfl rfl ?_
   refine J0 (J2 ?_)
   refine J7 rfl (fun _ => ?_) (fun h => nomatch h)
   refine J9 (Jb (J2 (J1 ?_)))
   refine Jm rfl rfl rfl ?_
   refine Jm rfl rfl rfl ?_
   refine Jsv (vi ((s0 : Nat) : Int)) rfl rfl ?_
   refine Jsv (.int .i32 (((dec a0 s0).1 : Nat) : Int)) rfl rfl ?_
   refine J0 (Jb (J2 (J2 (J1 ?_))))
   refine Jmv (.int .i32 (((dec a0 s0).1 : Nat) : Int)) rfl rfl ?_
   refine Yk rfl rfl rfl ?_
   refine Jmv (.bool (decide ((((dec a0 s0).1 : Nat) : Int) ≥ 97))) rfl rfl ?_
   obtain ⟨t0, hr, o0⟩ := J6 hr
   refine Jw 3 (fun ρ w => ∃ (σ2 : Env) (G3 : GH), ρ = En σ2 [(3, (vi ((s0 : Nat) : Int))), (4, (.int .i32 (((dec a0 s0).1 : Nat) : Int))), (13, (pt b0 0)), (24, (.bool (decide ((((dec a0 s0).1 : Nat) : Int) ≤ 122))))] ∧ Ext G1 G3 ∧ St B w G3 [.obj b0 (.stringIter a0 (s0 + (dec a0 s0).2))]) ?_ ?_
   ·rcases Y8 (decide ((((dec a0 s0).1 : Nat) : Int) ≥ 97)) with hb_ | hb_
    ·have h7 : (decide ((((dec a0 s0).1 : Nat) : Int) ≥ 97)) = true := hb_
     replace hr := Jx hr h7
     refine Ja rfl rfl rfl rfl h7 ?_
     refine Jmv (.int .i32 (((dec a0 s0).1 : Nat) : Int)) rfl rfl ?_
     refine Ja rfl rfl rfl rfl h7 ?_
     refine WL_leq rfl rfl rfl ?_
     refine Y9 (v := (.bool (decide ((((dec a0 s0).1 : Nat) : Int) ≤ 122)))) rfl rfl h7 rfl ?_
     refine J0 ?_
     obtain rfl := Option.some.inj hr
     exact ⟨_, _, (J3 ⟨rfl, rfl, rfl, rfl, trivial⟩), (Ext.refl _), h6⟩
    exact Yo hr hb_
   rintro _ _ ⟨σ2, G3, rfl, e1, h8⟩
   replace hr := o0
   refine Jsv (.bool (decide ((((dec a0 s0).1 : Nat) : Int) ≤ 122))) rfl rfl ?_
   refine J0 ?_
   refine J7 rfl (fun h9 => ?_) (fun h9 => ?_)
   ·replace hr := Jx hr h9
    refine J9 ?_
    refine J7 rfl (fun _ => ?_) (fun h => by rw [h9] at h; cases h)
    refine J9 ?_
    exact ⟨_, (Option.some.inj hr).symm, _, _, (J3 ⟨rfl, trivial⟩), (e0.trans e1), h8⟩
   exact Yo hr h9
  have h5 : (decide (s0 < a0.size)) = false := hb_
  replace hr := Jf hr h5
  refine WL_nextF (l1 := []) h4 rfl rfl h5 ?_
  refine Jm rfl rfl rfl ?_
  refine J0 (J2 ?_)
  refine J7 rfl (fun h => nomatch h) (fun _ => ?_)
  refine Jr ?_
  have h10 := St.takeN 0 h4
  exact ⟨_, (Option.some.inj hr).symm, rfl, _, _, rfl, e0, h10⟩
 rintro _ _ ⟨σ1, G2, rfl, e2, h11⟩
 refine J2 (J1 ?_)
 refine Jsv (vi 0) rfl rfl ?_
 refine J0 (Jg ?_)
 obtain rfl := Option.some.inj hr
 exact ⟨[(vi 0)], ⟨rfl, trivial⟩, _, _, _, rfl, e2, h11, ⟨rfl, rfl⟩⟩
def sig_texts.f : Option ((List ByteArray)) :=
 some [({data := #[110]} : ByteArray), ({data := #[102, 48]} : ByteArray), ({data := #[102, 48, 114]} : ByteArray), ({data := #[102, 49]} : ByteArray), ({data := #[102, 49, 114]} : ByteArray), ({data := #[102, 50]} : ByteArray), ({data := #[102, 50, 114]} : ByteArray), ({data := #[102, 51]} : ByteArray), ({data := #[102, 51, 114]} : ByteArray)]
def sig_texts.K (r : (List ByteArray)) (G8 : GH) (v : Value) (N : List Res) : Prop := ∃ (v12 : Value) (c13 : List Value), v = tup [v12] ∧ N = [.row v12 9 1 r.length c13] ∧ EAll tStr G8 c13 r ∧ r.length ≤ SB
theorem sig_texts.ok (st : St B w G []) {r : (List ByteArray)} (hr : sig_texts.f = some r) :
 Calls Tryz.prog 212 ([] : List Value).toArray w (Ret B G (sig_texts.K r)) := by
 refine Jc [.tmp 0] func212 rfl ntmps212 rfl rfl ?_
 refine J2 (J1 ?_)
 refine Jsv (.slice none 0 0) rfl rfl ?_
 refine J0 (J2 (J1 ?_))
 refine Jj (cells := [(.string ({data := #[110]} : ByteArray)), (.string ({data := #[102, 48]} : ByteArray)), (.string ({data := #[102, 48, 114]} : ByteArray)), (.string ({data := #[102, 49]} : ByteArray)), (.string ({data := #[102, 49, 114]} : ByteArray)), (.string ({data := #[102, 50]} : ByteArray)), (.string ({data := #[102, 50, 114]} : ByteArray)), (.string ({data := #[102, 51]} : ByteArray)), (.string ({data := #[102, 51, 114]} : ByteArray))]) underlying214 ti9 st rfl rfl rfl rfl rfl (by kernel_rfl) ?_
 intro v0 w0 h0 f0
 have E0 : EAll tStr G [(.string ({data := #[110]} : ByteArray)), (.string ({data := #[102, 48]} : ByteArray)), (.string ({data := #[102, 48, 114]} : ByteArray)), (.string ({data := #[102, 49]} : ByteArray)), (.string ({data := #[102, 49, 114]} : ByteArray)), (.string ({data := #[102, 50]} : ByteArray)), (.string ({data := #[102, 50, 114]} : ByteArray)), (.string ({data := #[102, 51]} : ByteArray)), (.string ({data := #[102, 51, 114]} : ByteArray))] [({data := #[110]} : ByteArray), ({data := #[102, 48]} : ByteArray), ({data := #[102, 48, 114]} : ByteArray), ({data := #[102, 49]} : ByteArray), ({data := #[102, 49, 114]} : ByteArray), ({data := #[102, 50]} : ByteArray), ({data := #[102, 50, 114]} : ByteArray), ({data := #[102, 51]} : ByteArray), ({data := #[102, 51, 114]} : ByteArray)] := ⟨_, _, rfl, ⟨rfl, (Nat.le_of_ble_eq_true rfl)⟩, ⟨_, _, rfl, ⟨rfl, (Nat.le_of_ble_eq_true rfl)⟩, ⟨_, _, rfl, ⟨rfl, (Nat.le_of_ble_eq_true rfl)⟩, ⟨_, _, rfl, ⟨rfl, (Nat.le_of_ble_eq_true rfl)⟩, ⟨_, _, rfl, ⟨rfl, (Nat.le_of_ble_eq_true rfl)⟩, ⟨_, _, rfl, ⟨rfl, (Nat.le_of_ble_eq_true rfl)⟩, ⟨_, _, rfl, ⟨rfl, (Nat.le_of_ble_eq_true rfl)⟩, ⟨_, _, rfl, ⟨rfl, (Nat.le_of_ble_eq_true rfl)⟩, ⟨_, _, rfl, ⟨rfl, (Nat.le_of_ble_eq_true rfl)⟩, rfl⟩⟩⟩⟩⟩⟩⟩⟩⟩
 refine Jsv v0 rfl rfl ?_
 refine J0 (Jg ?_)
 have h1 := St.row_len (l1 := []) (k := [({data := #[110]} : ByteArray), ({data := #[102, 48]} : ByteArray), ({data := #[102, 48, 114]} : ByteArray), ({data := #[102, 49]} : ByteArray), ({data := #[102, 49, 114]} : ByteArray), ({data := #[102, 50]} : ByteArray), ({data := #[102, 50, 114]} : ByteArray), ({data := #[102, 51]} : ByteArray), ({data := #[102, 51, 114]} : ByteArray)].length) rfl h0
 obtain rfl := Option.some.inj hr
 exact ⟨[v0], ⟨rfl, trivial⟩, _, _, _, rfl, (Ext.refl _), h1, ⟨v0, [(.string ({data := #[110]} : ByteArray)), (.string ({data := #[102, 48]} : ByteArray)), (.string ({data := #[102, 48, 114]} : ByteArray)), (.string ({data := #[102, 49]} : ByteArray)), (.string ({data := #[102, 49, 114]} : ByteArray)), (.string ({data := #[102, 50]} : ByteArray)), (.string ({data := #[102, 50, 114]} : ByteArray)), (.string ({data := #[102, 51]} : ByteArray)), (.string ({data := #[102, 51, 114]} : ByteArray))], rfl, rfl, E0, (le_eq (m := 9) rfl (by decide))⟩⟩
def flow_Check_1.f (a0 : Int) (a1_0 : (List XInstr)) : Option (Bool) :=
 (bif decide (a0 < 0) then none else some ()).bind fun t0 => some (decide (a0 ≥ (a1_0.length : Int)))
def flow_Check_1.K (ba1 : Nat) (va1_0 : Value) (r : Bool) (G11 : GH) (v : Value) (N : List Res) : Prop := v = tup [(.bool r)] ∧ N = [.blk ba1 [va1_0] 41]
theorem flow_Check_1.ok {a0 : Int} {ba1 : Nat} {va1_0 : Value} {a1_0 : (List XInstr)} (st : St B w G [.blk ba1 [va1_0] 41]) (ha0 : InK .i64 a0) (ha1_0 : SRep 54 TInstr G va1_0 a1_0) {r : Bool} (hr : flow_Check_1.f a0 a1_0 = some r) :
 Calls Tryz.prog 265 ([(vi a0), (pt ba1 0)] : List Value).toArray w (Ret B G (flow_Check_1.K ba1 va1_0 r)) := by
 refine Jc [.tmp 3] func265 rfl ntmps265 rfl rfl ?_
 refine J2 (J1 ?_)
 refine Jsv (.bool false) rfl rfl ?_
 refine J0 (J2 (J1 ?_))
 refine Jmv (vi a0) rfl rfl ?_
 refine Ji rfl rfl rfl ?_
 refine Jmv (.bool (decide (a0 < 0))) rfl rfl ?_
 obtain ⟨t0, hr, o0⟩ := J6 hr
 refine Jw 5 (fun ρ w => ∃ (σ0 : Env) (G0 : GH), ρ = En σ0 [(3, (.bool false)), (11, (.bool (decide (a0 ≥ (a1_0.length : Int)))))] ∧ Ext G G0 ∧ St B w G0 [.blk ba1 [va1_0] 41]) ?_ ?_
 ·rcases Y8 (decide (a0 < 0)) with hb_ | hb_
  ·exact Jk hr hb_
  have h0 : (decide (a0 < 0)) = false := hb_
  replace hr := Jf hr h0
  refine Ja rfl rfl rfl rfl h0 ?_
  refine Jmv (vi a0) rfl rfl ?_
  refine Ja rfl rfl rfl rfl h0 ?_
  refine Jlb [] va1_0 ti41 st rfl rfl rfl ?_
  refine Ja rfl rfl rfl rfl h0 ?_
  refine Jd (T := TInstr) underlying41 ha1_0 rfl rfl ?_
  refine Ja rfl rfl rfl rfl h0 ?_
  refine Yk rfl rfl rfl ?_
  refine Jt (v := (.bool (decide (a0 ≥ (a1_0.length : Int))))) rfl rfl h0 rfl ?_
  refine J0 ?_
  obtain rfl := Option.some.inj hr
  exact ⟨_, _, (J3 ⟨rfl, rfl, trivial⟩), (Ext.refl _), st⟩
 rintro _ _ ⟨σ0, G0, rfl, e0, h1⟩
 replace hr := o0
 refine Jsv (.bool (decide (a0 ≥ (a1_0.length : Int)))) rfl rfl ?_
 refine J0 (Jg ?_)
 obtain rfl := Option.some.inj hr
 exact ⟨[(.bool (decide (a0 ≥ (a1_0.length : Int))))], ⟨rfl, trivial⟩, _, _, _, rfl, e0, h1, ⟨rfl, rfl⟩⟩
def op_shapes.f : Option ((List ByteArray)) :=
 some [({data := #[45, 45, 45, 45]} : ByteArray), ({data := #[119, 45, 45, 110]} : ByteArray), ({data := #[119, 114, 45, 45]} : ByteArray), ({data := #[119, 114, 114, 45]} : ByteArray), ({data := #[119, 114, 114, 45]} : ByteArray), ({data := #[119, 114, 114, 45]} : ByteArray), ({data := #[119, 114, 114, 45]} : ByteArray), ({data := #[119, 114, 114, 45]} : ByteArray), ({data := #[119, 114, 114, 45]} : ByteArray), ({data := #[119, 114, 114, 45]} : ByteArray), ({data := #[45, 45, 45, 116]} : ByteArray), ({data := #[114, 45, 45, 116]} : ByteArray), ({data := #[119, 45, 45, 45]} : ByteArray), ({data := #[114, 45, 45, 45]} : ByteArray), ({data := #[119, 114, 45, 45]} : ByteArray), ({data := #[114, 114, 45, 45]} : ByteArray), ({data := #[103, 45, 45, 45]} : ByteArray), ({data := #[103, 114, 45, 45]} : ByteArray), ({data := #[99, 45, 45, 45]} : ByteArray), ({data := #[99, 102, 107, 45]} : ByteArray), ({data := #[100, 45, 45, 45]} : ByteArray), ({data := #[114, 45, 45, 45]} : ByteArray), ({data := #[119, 119, 45, 45]} : ByteArray), ({data := #[118, 45, 45, 45]} : ByteArray)]
def op_shapes.K (r : (List ByteArray)) (G10 : GH) (v : Value) (N : List Res) : Prop := ∃ (c14 : List Value), v = tup [(.agg c14.toArray)] ∧ N = [] ∧ EAll tStr G10 c14 r ∧ c14.length = 24
theorem op_shapes.ok (st : St B w G []) {r : (List ByteArray)} (hr : op_shapes.f = some r) :
 Calls Tryz.prog 243 ([] : List Value).toArray w (Ret B G (op_shapes.K r)) := by
 refine Jc [.cell 0 278] func243 rfl ntmps243 rfl rfl ?_
 refine J2 (J1 ?_)
 refine Jo ti278 st rfl ?_
 intro b0 w0 h0
 have f0 : EAll tStr G [(.string (⟨#[]⟩ : ByteArray)), (.string (⟨#[]⟩ : ByteArray)), (.string (⟨#[]⟩ : ByteArray)), (.string (⟨#[]⟩ : ByteArray)), (.string (⟨#[]⟩ : ByteArray)), (.string (⟨#[]⟩ : ByteArray)), (.string (⟨#[]⟩ : ByteArray)), (.string (⟨#[]⟩ : ByteArray)), (.string (⟨#[]⟩ : ByteArray)), (.string (⟨#[]⟩ : ByteArray)), (.string (⟨#[]⟩ : ByteArray)), (.string (⟨#[]⟩ : ByteArray)), (.string (⟨#[]⟩ : ByteArray)), (.string (⟨#[]⟩ : ByteArray)), (.string (⟨#[]⟩ : ByteArray)), (.string (⟨#[]⟩ : ByteArray)), (.string (⟨#[]⟩ : ByteArray)), (.string (⟨#[]⟩ : ByteArray)), (.string (⟨#[]⟩ : ByteArray)), (.string (⟨#[]⟩ : ByteArray)), (.string (⟨#[]⟩ : ByteArray)), (.string (⟨#[]⟩ : ByteArray)), (.string (⟨#[]⟩ : ByteArray)), (.string (⟨#[]⟩ : ByteArray))] [(⟨#[]⟩ : ByteArray), (⟨#[]⟩ : ByteArray), (⟨#[]⟩ : ByteArray), (⟨#[]⟩ : ByteArray), (⟨#[]⟩ : ByteArray), (⟨#[]⟩ : ByteArray), (⟨#[]⟩ : ByteArray), (⟨#[]⟩ : ByteArray), (⟨#[]⟩ : ByteArray), (⟨#[]⟩ : ByteArray), (⟨#[]⟩ : ByteArray), (⟨#[]⟩ : ByteArray), (⟨#[]⟩ : ByteArray), (⟨#[]⟩ : ByteArray), (⟨#[]⟩ : ByteArray), (⟨#[]⟩ : ByteArray), (⟨#[]⟩ : ByteArray), (⟨#[]⟩ : ByteArray), (⟨#[]⟩ : ByteArray), (⟨#[]⟩ : ByteArray), (⟨#[]⟩ : ByteArray), (⟨#[]⟩ : ByteArray), (⟨#[]⟩ : ByteArray), (⟨#[]⟩ : ByteArray)] := ⟨_, _, rfl, ⟨rfl, (Nat.le_of_ble_eq_true rfl)⟩, ⟨_, _, rfl, ⟨rfl, (Nat.le_of_ble_eq_true rfl)⟩, ⟨_, _, rfl, ⟨rfl, (Nat.le_of_ble_eq_true rfl)⟩, ⟨_, _, rfl, ⟨rfl, (Nat.le_of_ble_eq_true rfl)⟩, ⟨_, _, rfl, ⟨rfl, (Nat.le_of_ble_eq_true rfl)⟩, ⟨_, _, rfl, ⟨rfl, (Nat.le_of_ble_eq_true rfl)⟩, ⟨_, _, rfl, ⟨rfl, (Nat.le_of_ble_eq_true rfl)⟩, ⟨_, _, rfl, ⟨rfl, (Nat.le_of_ble_eq_true rfl)⟩, ⟨_, _, rfl, ⟨rfl, (Nat.le_of_ble_eq_true rfl)⟩, ⟨_, _, rfl, ⟨rfl, (Nat.le_of_ble_eq_true rfl)⟩, ⟨_, _, rfl, ⟨rfl, (Nat.le_of_ble_eq_true rfl)⟩, ⟨_, _, rfl, ⟨rfl, (Nat.le_of_ble_eq_true rfl)⟩, ⟨_, _, rfl, ⟨rfl, (Nat.le_of_ble_eq_true rfl)⟩, ⟨_, _, rfl, ⟨rfl, (Nat.le_of_ble_eq_true rfl)⟩, ⟨_, _, rfl, ⟨rfl, (Nat.le_of_ble_eq_true rfl)⟩, ⟨_, _, rfl, ⟨rfl, (Nat.le_of_ble_eq_true rfl)⟩, ⟨_, _, rfl, ⟨rfl, (Nat.le_of_ble_eq_true rfl)⟩, ⟨_, _, rfl, ⟨rfl, (Nat.le_of_ble_eq_true rfl)⟩, ⟨_, _, rfl, ⟨rfl, (Nat.le_of_ble_eq_true rfl)⟩, ⟨_, _, rfl, ⟨rfl, (Nat.le_of_ble_eq_true rfl)⟩, ⟨_, _, rfl, ⟨rfl, (Nat.le_of_ble_eq_true rfl)⟩, ⟨_, _, rfl, ⟨rfl, (Nat.le_of_ble_eq_true rfl)⟩, ⟨_, _, rfl, ⟨rfl, (Nat.le_of_ble_eq_true rfl)⟩, ⟨_, _, rfl, ⟨rfl, (Nat.le_of_ble_eq_true rfl)⟩, rfl⟩⟩⟩⟩⟩⟩⟩⟩⟩⟩⟩⟩⟩⟩⟩⟩⟩⟩⟩⟩⟩⟩⟩⟩
 refine J0 (J2 (J1 ?_))
 refine Y0 (cells := [(.string ({data := #[45, 45, 45, 45]} : ByteArray)), (.string ({data := #[119, 45, 45, 110]} : ByteArray)), (.string ({data := #[119, 114, 45, 45]} : ByteArray)), (.string ({data := #[119, 114, 114, 45]} : ByteArray)), (.string ({data := #[119, 114, 114, 45]} : ByteArray)), (.string ({data := #[119, 114, 114, 45]} : ByteArray)), (.string ({data := #[119, 114, 114, 45]} : ByteArray)), (.string ({data := #[119, 114, 114, 45]} : ByteArray)), (.string ({data := #[119, 114, 114, 45]} : ByteArray)), (.string ({data := #[119, 114, 114, 45]} : ByteArray)), (.string ({data := #[45, 45, 45, 116]} : ByteArray)), (.string ({data := #[114, 45, 45, 116]} : ByteArray)), (.string ({data := #[119, 45, 45, 45]} : ByteArray)), (.string ({data := #[114, 45, 45, 45]} : ByteArray)), (.string ({data := #[119, 114, 45, 45]} : ByteArray)), (.string ({data := #[114, 114, 45, 45]} : ByteArray)), (.string ({data := #[103, 45, 45, 45]} : ByteArray)), (.string ({data := #[103, 114, 45, 45]} : ByteArray)), (.string ({data := #[99, 45, 45, 45]} : ByteArray)), (.string ({data := #[99, 102, 107, 45]} : ByteArray)), (.string ({data := #[100, 45, 45, 45]} : ByteArray)), (.string ({data := #[114, 45, 45, 45]} : ByteArray)), (.string ({data := #[119, 119, 45, 45]} : ByteArray)), (.string ({data := #[118, 45, 45, 45]} : ByteArray))].toArray) rfl (by kernel_rfl) ?_
 have f1 : EAll tStr G [(.string ({data := #[45, 45, 45, 45]} : ByteArray)), (.string ({data := #[119, 45, 45, 110]} : ByteArray)), (.string ({data := #[119, 114, 45, 45]} : ByteArray)), (.string ({data := #[119, 114, 114, 45]} : ByteArray)), (.string ({data := #[119, 114, 114, 45]} : ByteArray)), (.string ({data := #[119, 114, 114, 45]} : ByteArray)), (.string ({data := #[119, 114, 114, 45]} : ByteArray)), (.string ({data := #[119, 114, 114, 45]} : ByteArray)), (.string ({data := #[119, 114, 114, 45]} : ByteArray)), (.string ({data := #[119, 114, 114, 45]} : ByteArray)), (.string ({data := #[45, 45, 45, 116]} : ByteArray)), (.string ({data := #[114, 45, 45, 116]} : ByteArray)), (.string ({data := #[119, 45, 45, 45]} : ByteArray)), (.string ({data := #[114, 45, 45, 45]} : ByteArray)), (.string ({data := #[119, 114, 45, 45]} : ByteArray)), (.string ({data := #[114, 114, 45, 45]} : ByteArray)), (.string ({data := #[103, 45, 45, 45]} : ByteArray)), (.string ({data := #[103, 114, 45, 45]} : ByteArray)), (.string ({data := #[99, 45, 45, 45]} : ByteArray)), (.string ({data := #[99, 102, 107, 45]} : ByteArray)), (.string ({data := #[100, 45, 45, 45]} : ByteArray)), (.string ({data := #[114, 45, 45, 45]} : ByteArray)), (.string ({data := #[119, 119, 45, 45]} : ByteArray)), (.string ({data := #[118, 45, 45, 45]} : ByteArray))] [({data := #[45, 45, 45, 45]} : ByteArray), ({data := #[119, 45, 45, 110]} : ByteArray), ({data := #[119, 114, 45, 45]} : ByteArray), ({data := #[119, 114, 114, 45]} : ByteArray), ({data := #[119, 114, 114, 45]} : ByteArray), ({data := #[119, 114, 114, 45]} : ByteArray), ({data := #[119, 114, 114, 45]} : ByteArray), ({data := #[119, 114, 114, 45]} : ByteArray), ({data := #[119, 114, 114, 45]} : ByteArray), ({data := #[119, 114, 114, 45]} : ByteArray), ({data := #[45, 45, 45, 116]} : ByteArray), ({data := #[114, 45, 45, 116]} : ByteArray), ({data := #[119, 45, 45, 45]} : ByteArray), ({data := #[114, 45, 45, 45]} : ByteArray), ({data := #[119, 114, 45, 45]} : ByteArray), ({data := #[114, 114, 45, 45]} : ByteArray), ({data := #[103, 45, 45, 45]} : ByteArray), ({data := #[103, 114, 45, 45]} : ByteArray), ({data := #[99, 45, 45, 45]} : ByteArray), ({data := #[99, 102, 107, 45]} : ByteArray), ({data := #[100, 45, 45, 45]} : ByteArray), ({data := #[114, 45, 45, 45]} : ByteArray), ({data := #[119, 119, 45, 45]} : ByteArray), ({data := #[118, 45, 45, 45]} : ByteArray)] := ⟨_, _, rfl, ⟨rfl, (Nat.le_of_ble_eq_true rfl)⟩, ⟨_, _, rfl, ⟨rfl, (Nat.le_of_ble_eq_true rfl)⟩, ⟨_, _, rfl, ⟨rfl, (Nat.le_of_ble_eq_true rfl)⟩, ⟨_, _, rfl, ⟨rfl, (Nat.le_of_ble_eq_true rfl)⟩, ⟨_, _, rfl, ⟨rfl, (Nat.le_of_ble_eq_true rfl)⟩, ⟨_, _, rfl, ⟨rfl, (Nat.le_of_ble_eq_true rfl)⟩, ⟨_, _, rfl, ⟨rfl, (Nat.le_of_ble_eq_true rfl)⟩, ⟨_, _, rfl, ⟨rfl, (Nat.le_of_ble_eq_true rfl)⟩, ⟨_, _, rfl, ⟨rfl, (Nat.le_of_ble_eq_true rfl)⟩, ⟨_, _, rfl, ⟨rfl, (Nat.le_of_ble_eq_true rfl)⟩, ⟨_, _, rfl, ⟨rfl, (Nat.le_of_ble_eq_true rfl)⟩, ⟨_, _, rfl, ⟨rfl, (Nat.le_of_ble_eq_true rfl)⟩, ⟨_, _, rfl, ⟨rfl, (Nat.le_of_ble_eq_true rfl)⟩, ⟨_, _, rfl, ⟨rfl, (Nat.le_of_ble_eq_true rfl)⟩, ⟨_, _, rfl, ⟨rfl, (Nat.le_of_ble_eq_true rfl)⟩, ⟨_, _, rfl, ⟨rfl, (Nat.le_of_ble_eq_true rfl)⟩, ⟨_, _, rfl, ⟨rfl, (Nat.le_of_ble_eq_true rfl)⟩, ⟨_, _, rfl, ⟨rfl, (Nat.le_of_ble_eq_true rfl)⟩, ⟨_, _, rfl, ⟨rfl, (Nat.le_of_ble_eq_true rfl)⟩, ⟨_, _, rfl, ⟨rfl, (Nat.le_of_ble_eq_true rfl)⟩, ⟨_, _, rfl, ⟨rfl, (Nat.le_of_ble_eq_true rfl)⟩, ⟨_, _, rfl, ⟨rfl, (Nat.le_of_ble_eq_true rfl)⟩, ⟨_, _, rfl, ⟨rfl, (Nat.le_of_ble_eq_true rfl)⟩, ⟨_, _, rfl, ⟨rfl, (Nat.le_of_ble_eq_true rfl)⟩, rfl⟩⟩⟩⟩⟩⟩⟩⟩⟩⟩⟩⟩⟩⟩⟩⟩⟩⟩⟩⟩⟩⟩⟩⟩
 refine WL_storeA (l1 := []) (vs := [(.string ({data := #[45, 45, 45, 45]} : ByteArray)), (.string ({data := #[119, 45, 45, 110]} : ByteArray)), (.string ({data := #[119, 114, 45, 45]} : ByteArray)), (.string ({data := #[119, 114, 114, 45]} : ByteArray)), (.string ({data := #[119, 114, 114, 45]} : ByteArray)), (.string ({data := #[119, 114, 114, 45]} : ByteArray)), (.string ({data := #[119, 114, 114, 45]} : ByteArray)), (.string ({data := #[119, 114, 114, 45]} : ByteArray)), (.string ({data := #[119, 114, 114, 45]} : ByteArray)), (.string ({data := #[119, 114, 114, 45]} : ByteArray)), (.string ({data := #[45, 45, 45, 116]} : ByteArray)), (.string ({data := #[114, 45, 45, 116]} : ByteArray)), (.string ({data := #[119, 45, 45, 45]} : ByteArray)), (.string ({data := #[114, 45, 45, 45]} : ByteArray)), (.string ({data := #[119, 114, 45, 45]} : ByteArray)), (.string ({data := #[114, 114, 45, 45]} : ByteArray)), (.string ({data := #[103, 45, 45, 45]} : ByteArray)), (.string ({data := #[103, 114, 45, 45]} : ByteArray)), (.string ({data := #[99, 45, 45, 45]} : ByteArray)), (.string ({data := #[99, 102, 107, 45]} : ByteArray)), (.string ({data := #[100, 45, 45, 45]} : ByteArray)), (.string ({data := #[114, 45, 45, 45]} : ByteArray)), (.string ({data := #[119, 119, 45, 45]} : ByteArray)), (.string ({data := #[118, 45, 45, 45]} : ByteArray))]) ti278 h0 rfl rfl rfl rfl (EAll.one f1) ?_
 intro w1 h1
 refine J0 (Jg ?_)
 have h2 := St.takeN 0 h1
 obtain rfl := Option.some.inj hr
 exact ⟨[(.agg #[(.string ({data := #[45, 45, 45, 45]} : ByteArray)), (.string ({data := #[119, 45, 45, 110]} : ByteArray)), (.string ({data := #[119, 114, 45, 45]} : ByteArray)), (.string ({data := #[119, 114, 114, 45]} : ByteArray)), (.string ({data := #[119, 114, 114, 45]} : ByteArray)), (.string ({data := #[119, 114, 114, 45]} : ByteArray)), (.string ({data := #[119, 114, 114, 45]} : ByteArray)), (.string ({data := #[119, 114, 114, 45]} : ByteArray)), (.string ({data := #[119, 114, 114, 45]} : ByteArray)), (.string ({data := #[119, 114, 114, 45]} : ByteArray)), (.string ({data := #[45, 45, 45, 116]} : ByteArray)), (.string ({data := #[114, 45, 45, 116]} : ByteArray)), (.string ({data := #[119, 45, 45, 45]} : ByteArray)), (.string ({data := #[114, 45, 45, 45]} : ByteArray)), (.string ({data := #[119, 114, 45, 45]} : ByteArray)), (.string ({data := #[114, 114, 45, 45]} : ByteArray)), (.string ({data := #[103, 45, 45, 45]} : ByteArray)), (.string ({data := #[103, 114, 45, 45]} : ByteArray)), (.string ({data := #[99, 45, 45, 45]} : ByteArray)), (.string ({data := #[99, 102, 107, 45]} : ByteArray)), (.string ({data := #[100, 45, 45, 45]} : ByteArray)), (.string ({data := #[114, 45, 45, 45]} : ByteArray)), (.string ({data := #[119, 119, 45, 45]} : ByteArray)), (.string ({data := #[118, 45, 45, 45]} : ByteArray))])], ⟨⟨_, rfl, Yl (l1 := []) ti278 h1 rfl⟩, trivial⟩, _, _, _, rfl, (Ext.refl _), h2, ⟨[(.string ({data := #[45, 45, 45, 45]} : ByteArray)), (.string ({data := #[119, 45, 45, 110]} : ByteArray)), (.string ({data := #[119, 114, 45, 45]} : ByteArray)), (.string ({data := #[119, 114, 114, 45]} : ByteArray)), (.string ({data := #[119, 114, 114, 45]} : ByteArray)), (.string ({data := #[119, 114, 114, 45]} : ByteArray)), (.string ({data := #[119, 114, 114, 45]} : ByteArray)), (.string ({data := #[119, 114, 114, 45]} : ByteArray)), (.string ({data := #[119, 114, 114, 45]} : ByteArray)), (.string ({data := #[119, 114, 114, 45]} : ByteArray)), (.string ({data := #[45, 45, 45, 116]} : ByteArray)), (.string ({data := #[114, 45, 45, 116]} : ByteArray)), (.string ({data := #[119, 45, 45, 45]} : ByteArray)), (.string ({data := #[114, 45, 45, 45]} : ByteArray)), (.string ({data := #[119, 114, 45, 45]} : ByteArray)), (.string ({data := #[114, 114, 45, 45]} : ByteArray)), (.string ({data := #[103, 45, 45, 45]} : ByteArray)), (.string ({data := #[103, 114, 45, 45]} : ByteArray)), (.string ({data := #[99, 45, 45, 45]} : ByteArray)), (.string ({data := #[99, 102, 107, 45]} : ByteArray)), (.string ({data := #[100, 45, 45, 45]} : ByteArray)), (.string ({data := #[114, 45, 45, 45]} : ByteArray)), (.string ({data := #[119, 119, 45, 45]} : ByteArray)), (.string ({data := #[118, 45, 45, 45]} : ByteArray))], rfl, rfl, f1, rfl⟩⟩
def verify_mark_1.f (a0 : XReloc) (a1_0 : Int) : Option (Bool) :=
 some (decide (a0.At = a1_0))
def verify_mark_1.K (ba1 : Nat) (a1_0 : Int) (r : Bool) (G6 : GH) (v : Value) (N : List Res) : Prop := v = tup [(.bool r)] ∧ N = [.blk ba1 [(vi a1_0)] 3]
theorem verify_mark_1.ok {ca0 : List Value} {a0 : XReloc} {ba1 : Nat} {a1_0 : Int} (st : St B w G [.blk ba1 [(vi a1_0)] 3]) (ha0 : TReloc.rep G ca0 a0) (ha1_0 : InK .i64 a1_0) {r : Bool} (hr : verify_mark_1.f a0 a1_0 = some r) :
 Calls Tryz.prog 170 ([(.agg ca0.toArray), (pt ba1 0)] : List Value).toArray w (Ret B G (verify_mark_1.K ba1 a1_0 r)) := by
 obtain ⟨rfl, ha0_0, ha0_1⟩ := ha0
 refine Jc [.tmp 3] func170 rfl ntmps170 rfl rfl ?_
 refine J2 (J1 ?_)
 refine Ju (cs := [(vi a0.At), (vi a0.Sym), (.bool a0.Wide)]) st rfl rfl rfl ?_
 intro b0 w0 h0
 refine Jsv (.bool false) rfl rfl ?_
 refine J0 (J2 (J1 ?_))
 refine Jfa 0 0 underlying133 rfl ti3 rfl rfl rfl rfl ?_
 refine Jlb [] (vi a0.At) ti3 h0 rfl rfl rfl ?_
 refine Jlb [_] (vi a1_0) ti3 h0 rfl rfl rfl ?_
 refine Y3 rfl rfl rfl ?_
 refine Jsv (.bool (decide (a0.At = a1_0))) rfl rfl ?_
 refine J0 (Jg ?_)
 have h1 := St.pick 1 rfl h0
 have h2 := St.takeN 1 h1
 obtain rfl := Option.some.inj hr
 exact ⟨[(.bool (decide (a0.At = a1_0)))], ⟨rfl, trivial⟩, _, _, _, rfl, (Ext.refl _), h2, ⟨rfl, rfl⟩⟩
def verify_looks.f : Option ((ByteArray × ByteArray × ByteArray × ByteArray × ByteArray × ByteArray)) :=
 some (({data := #[119, 114]} : ByteArray), ({data := #[103, 102]} : ByteArray), ({data := #[99]} : ByteArray), ({data := #[100]} : ByteArray), ({data := #[118]} : ByteArray), ({data := #[116, 110, 107, 45]} : ByteArray))
def verify_looks.K (r : (ByteArray × ByteArray × ByteArray × ByteArray × ByteArray × ByteArray)) (G7 : GH) (v : Value) (N : List Res) : Prop := ∃ (v12 : Value), v = tup [v12] ∧ N = [.row v12 287 2 6 [(.string r.1), (.func (.func 266) #[] #[]), (.string r.2.1), (.func (.func 267) #[] #[]), (.string r.2.2.1), (.func (.func 268) #[] #[]), (.string r.2.2.2.1), (.func (.func 269) #[] #[]), (.string r.2.2.2.2.1), (.func (.func 270) #[] #[]), (.string r.2.2.2.2.2), (.func (.func 271) #[] #[])]] ∧ r.1.size ≤ SB ∧ r.2.1.size ≤ SB ∧ r.2.2.1.size ≤ SB ∧ r.2.2.2.1.size ≤ SB ∧ r.2.2.2.2.1.size ≤ SB ∧ r.2.2.2.2.2.size ≤ SB
theorem verify_looks.ok (st : St B w G []) {r : (ByteArray × ByteArray × ByteArray × ByteArray × ByteArray × ByteArray)} (hr : verify_looks.f = some r) :
 Calls Tryz.prog 249 ([] : List Value).toArray w (Ret B G (verify_looks.K r)) := by
 refine Jc [.tmp 0] func249 rfl ntmps249 rfl rfl ?_
 refine J2 (J1 ?_)
 refine Jsv (.slice none 0 0) rfl rfl ?_
 refine J0 (J2 (J1 ?_))
 refine Y0 (cells := #[(.string ({data := #[119, 114]} : ByteArray)), (.func (.func 266) #[] #[])]) rfl (by kernel_rfl) ?_
 refine Y0 (cells := #[(.string ({data := #[103, 102]} : ByteArray)), (.func (.func 267) #[] #[])]) rfl (by kernel_rfl) ?_
 refine Y0 (cells := #[(.string ({data := #[99]} : ByteArray)), (.func (.func 268) #[] #[])]) rfl (by kernel_rfl) ?_
 refine Y0 (cells := #[(.string ({data := #[100]} : ByteArray)), (.func (.func 269) #[] #[])]) rfl (by kernel_rfl) ?_
 refine Y0 (cells := #[(.string ({data := #[118]} : ByteArray)), (.func (.func 270) #[] #[])]) rfl (by kernel_rfl) ?_
 refine Y0 (cells := #[(.string ({data := #[116, 110, 107, 45]} : ByteArray)), (.func (.func 271) #[] #[])]) rfl (by kernel_rfl) ?_
 refine Jj (cells := [(.string ({data := #[119, 114]} : ByteArray)), (.func (.func 266) #[] #[]), (.string ({data := #[103, 102]} : ByteArray)), (.func (.func 267) #[] #[]), (.string ({data := #[99]} : ByteArray)), (.func (.func 268) #[] #[]), (.string ({data := #[100]} : ByteArray)), (.func (.func 269) #[] #[]), (.string ({data := #[118]} : ByteArray)), (.func (.func 270) #[] #[]), (.string ({data := #[116, 110, 107, 45]} : ByteArray)), (.func (.func 271) #[] #[])]) underlying283 ti287 st rfl rfl rfl rfl rfl (by kernel_rfl) ?_
 intro v0 w0 h0 f0
 refine Jsv v0 rfl rfl ?_
 refine J0 (Jg ?_)
 obtain rfl := Option.some.inj hr
 exact ⟨[v0], ⟨rfl, trivial⟩, _, _, _, rfl, (Ext.refl _), h0, ⟨v0, rfl, rfl, (Nat.le_of_ble_eq_true rfl), (Nat.le_of_ble_eq_true rfl), (Nat.le_of_ble_eq_true rfl), (Nat.le_of_ble_eq_true rfl), (Nat.le_of_ble_eq_true rfl), (Nat.le_of_ble_eq_true rfl)⟩⟩
def ranges_pending.f (a0 : (List XInstr)) : Option (Unit) :=
 some ()
def ranges_pending.K (va0 : Value) (r : Unit) (G6 : GH) (v : Value) (N : List Res) : Prop := ∃ (b11 : Nat), v = tup [(.func (.func 227) #[] #[(pt b11 0)])] ∧ N = [.blk b11 [va0] 41]
theorem ranges_pending.ok {va0 : Value} {a0 : (List XInstr)} (st : St B w G []) (ha0 : SRep 54 TInstr G va0 a0) {r : Unit} (hr : ranges_pending.f a0 = some r) :
 Calls Tryz.prog 195 ([va0] : List Value).toArray w (Ret B G (ranges_pending.K va0 r)) := by
 refine Jc [.tmp 2] func195 rfl ntmps195 rfl rfl ?_
 refine J2 (J1 ?_)
 refine Ju (cs := [va0]) st rfl rfl (cells_one (SRep.one ha0)) ?_
 intro b0 w0 h0
 refine Jsv .nilFunc rfl rfl ?_
 refine J0 (J2 (J1 ?_))
 refine Yg (fs := []) (cs := [(pt b0 0)]) rfl rfl rfl ?_
 refine Jsv (.func (.func 227) #[] #[(pt b0 0)]) rfl rfl ?_
 refine J0 (Jg ?_)
 obtain rfl := Option.some.inj hr
 exact ⟨[(.func (.func 227) #[] #[(pt b0 0)])], ⟨rfl, trivial⟩, _, _, _, rfl, (Ext.refl _), h0, ⟨b0, rfl, rfl⟩⟩
def ranges_In.f (a0 : XFunc) (a1 : Int) : Option (Bool) :=
 (bif decide (a0.From ≤ a1) then some (decide (a1 < a0.To)) else some false).bind fun t0 => some t0
def ranges_In.K (r : Bool) (G19 : GH) (v : Value) (N : List Res) : Prop := v = tup [(.bool r)] ∧ N = []
theorem ranges_In.ok {ca0 : List Value} {a0 : XFunc} {a1 : Int} (st : St B w G []) (ha0 : TFunc.rep G ca0 a0) (ha1 : InK .i64 a1) {r : Bool} (hr : ranges_In.f a0 a1 = some r) :
 Calls Tryz.prog 196 ([(.agg ca0.toArray), (vi a1)] : List Value).toArray w (Ret B G (ranges_In.K r)) := by
 obtain ⟨sa0_1, sa0_6, sa0_7, sa0_8, rfl, ha0_0, ha0_1, ha0_2, ha0_4, ha0_5, ha0_6, ha0_7, ha0_8⟩ := ha0
 refine Jc [.tmp 4] func196 rfl ntmps196 rfl rfl ?_
 refine J2 (J1 ?_)
 refine Ju (cs := [(vi a0.Class), sa0_1, (vi a0.Pad), (.bool a0.Nosplit), (vi a0.From), (vi a0.To), sa0_6, sa0_7, sa0_8]) st rfl rfl rfl ?_
 intro b0 w0 h0
 refine Jsv (.bool false) rfl rfl ?_
 refine J0 (J2 (J1 ?_))
 refine Jfa 4 4 underlying44 rfl ti3 rfl rfl rfl rfl ?_
 refine Jlb [] (vi a0.From) ti3 h0 rfl rfl rfl ?_
 refine Jmv (vi a1) rfl rfl ?_
 refine WL_leq rfl rfl rfl ?_
 refine Jmv (.bool (decide (a0.From ≤ a1))) rfl rfl ?_
 obtain ⟨t0, hr, o0⟩ := J6 hr
 refine Jw 5 (fun ρ w => ∃ (σ0 : Env) (G0 : GH), ρ = En σ0 [(4, (.bool false)), (14, (.bool t0))] ∧ Ext G G0 ∧ St B w G0 []) ?_ ?_
 ·rcases Y8 (decide (a0.From ≤ a1)) with hb_ | hb_
  ·have h1 : (decide (a0.From ≤ a1)) = true := hb_
   replace hr := Jx hr h1
   refine Ja rfl rfl rfl rfl h1 ?_
   refine Jmv (vi a1) rfl rfl ?_
   refine Ja rfl rfl rfl rfl h1 ?_
   refine Jfa 5 5 underlying44 rfl ti3 rfl rfl rfl rfl ?_
   refine Ja rfl rfl rfl rfl h1 ?_
   refine Jlb [] (vi a0.To) ti3 h0 rfl rfl rfl ?_
   refine Ja rfl rfl rfl rfl h1 ?_
   refine Ji rfl rfl rfl ?_
   refine Y9 (v := (.bool (decide (a1 < a0.To)))) rfl rfl h1 rfl ?_
   refine J0 ?_
   have h2 := St.takeN 0 h0
   obtain rfl := Option.some.inj hr
   exact ⟨_, _, (J3 ⟨rfl, rfl, trivial⟩), (Ext.refl _), h2⟩
  have h3 : (decide (a0.From ≤ a1)) = false := hb_
  replace hr := Jf hr h3
  refine Jv rfl rfl rfl rfl h3 ?_
  refine Jv rfl rfl rfl rfl h3 ?_
  refine Jv rfl rfl rfl rfl h3 ?_
  refine Jv rfl rfl rfl rfl h3 ?_
  refine Jt (v := (.bool false)) rfl rfl h3 rfl ?_
  refine J0 ?_
  have h4 := St.takeN 0 h0
  obtain rfl := Option.some.inj hr
  exact ⟨_, _, (J3 ⟨rfl, rfl, trivial⟩), (Ext.refl _), h4⟩
 rintro _ _ ⟨σ0, G0, rfl, e0, h5⟩
 replace hr := o0
 refine Jsv (.bool t0) rfl rfl ?_
 refine J0 (Jg ?_)
 obtain rfl := Option.some.inj hr
 exact ⟨[(.bool t0)], ⟨rfl, trivial⟩, _, _, _, rfl, e0, h5, ⟨rfl, rfl⟩⟩
def octet_Reader_spoil.f (a0_0 : (List Int)) (a0_1 : Int) (a0_2 : Bool) (a0_3 : Bool) : Option ((List Int)) :=
 some a0_0
def octet_Reader_spoil.K (ba0 : Nat) (a0_1 : Int) (a0_2 : Bool) (r : (List Int)) (G4 : GH) (v : Value) (N : List Res) : Prop := ∃ (v8 : Value) (c9 : List Value), v = tup [] ∧ N = [.row v8 5 1 r.length c9, .blk ba0 [v8, (vi a0_1), (.bool a0_2), (.bool true)] 163] ∧ EAll (tInt .u8) G4 c9 r ∧ r.length ≤ SB
theorem octet_Reader_spoil.ok {ba0 : Nat} {va0_0 : Value} {ca0_0 : List Value} {a0_0 : (List Int)} {a0_1 : Int} {a0_2 : Bool} {a0_3 : Bool} (st : St B w G [.blk ba0 [va0_0, (vi a0_1), (.bool a0_2), (.bool a0_3)] 163, .row va0_0 5 1 a0_0.length ca0_0]) (ha0_0 : EAll (tInt .u8) G ca0_0 a0_0) (lha0_0 : a0_0.length ≤ SB) (ha0_1 : InK .i64 a0_1) {r : (List Int)} (hr : octet_Reader_spoil.f a0_0 a0_1 a0_2 a0_3 = some r) :
 Calls Tryz.prog 177 ([(pt ba0 0)] : List Value).toArray w (Ret B G (octet_Reader_spoil.K ba0 a0_1 a0_2 r)) := by
 refine Jc [] func177 rfl ntmps177 rfl rfl ?_
 refine J2 (J1 ?_)
 refine Jmv (pt ba0 0) rfl rfl ?_
 refine WL_pneq underlying104 rfl rfl rfl ?_
 refine J0 ?_
 refine J7 rfl (fun _ => ?_) (fun h => nomatch h)
 refine J1 ?_
 refine Jmv (pt ba0 0) rfl rfl ?_
 refine Je rfl rfl ?_
 refine Jfa 3 3 underlying163 rfl ti4 rfl rfl rfl rfl ?_
 refine Y5 (l1 := []) (v := (.bool true)) ti4 st rfl rfl rfl rfl ?_
 intro w0 (h0 : St B w0 G [.blk ba0 [va0_0, (vi a0_1), (.bool a0_2), (.bool true)] 163, .row va0_0 5 1 a0_0.length ca0_0])
 refine J0 ?_
 have h1 := St.pick 1 rfl h0
 obtain rfl := Option.some.inj hr
 exact ⟨[], trivial, _, _, _, rfl, (Ext.refl _), h1, ⟨va0_0, ca0_0, rfl, rfl, ha0_0, lha0_0⟩⟩
def api_Symbol_61.f (a0_0 : (List XSymbol)) (a0_1 : (List XFunc)) (a0_2 : (List XData)) (a2_0 : (List Int)) (a2_1 : Int) (a2_2 : Bool) (a2_3 : Bool) : Option (((List Int) × (List XSymbol) × (List XFunc) × (List XData))) :=
 some (a2_0, a0_0, a0_1, a0_2)
def api_Symbol_61.K (ba2 : Nat) (a2_1 : Int) (a2_2 : Bool) (a2_3 : Bool) (ba0 : Nat) (r : ((List Int) × (List XSymbol) × (List XFunc) × (List XData))) (G14 : GH) (v : Value) (N : List Res) : Prop := ∃ (v22 : Value) (v29 : Value) (v34 : Value) (v39 : Value) (c23 : List Value) (c30 : List Value) (c35 : List Value) (c40 : List Value) (b19 : Nat) (b21 : Nat) (b28 : Nat), v = tup [(.func (.func 114) #[] #[(pt b19 0), (pt b21 0), (pt b28 0)])] ∧ N = [.blk b19 [(.func (.func 62) #[] #[])] 111, .row v22 5 1 r.1.length c23, .blk ba2 [v22, (vi a2_1), (.bool a2_2), (.bool a2_3)] 163, .blk b21 [(pt ba2 0)] 104, .row v29 82 5 r.2.1.length c30, .row v34 44 9 r.2.2.1.length c35, .row v39 49 3 r.2.2.2.length c40, .blk ba0 [v29, v34, v39] 61, .blk b28 [(pt ba0 0)] 110] ∧ EAll (tInt .u8) G14 c23 r.1 ∧ r.1.length ≤ SB ∧ EAll TSymbol G14 c30 r.2.1 ∧ r.2.1.length ≤ SB ∧ EAll TFunc G14 c35 r.2.2.1 ∧ r.2.2.1.length ≤ SB ∧ EAll TData G14 c40 r.2.2.2 ∧ r.2.2.2.length ≤ SB
theorem api_Symbol_61.ok {ba0 : Nat} {va0_0 : Value} {ca0_0 : List Value} {a0_0 : (List XSymbol)} {va0_1 : Value} {ca0_1 : List Value} {a0_1 : (List XFunc)} {va0_2 : Value} {ca0_2 : List Value} {a0_2 : (List XData)} {ba2 : Nat} {va2_0 : Value} {ca2_0 : List Value} {a2_0 : (List Int)} {a2_1 : Int} {a2_2 : Bool} {a2_3 : Bool} (st : St B w G [.blk ba0 [va0_0, va0_1, va0_2] 61, .row va0_0 82 5 a0_0.length ca0_0, .row va0_1 44 9 a0_1.length ca0_1, .row va0_2 49 3 a0_2.length ca0_2, .blk ba2 [va2_0, (vi a2_1), (.bool a2_2), (.bool a2_3)] 163, .row va2_0 5 1 a2_0.length ca2_0]) (ha0_0 : EAll TSymbol G ca0_0 a0_0) (lha0_0 : a0_0.length ≤ SB) (ha0_1 : EAll TFunc G ca0_1 a0_1) (lha0_1 : a0_1.length ≤ SB) (ha0_2 : EAll TData G ca0_2 a0_2) (lha0_2 : a0_2.length ≤ SB) (ha2_0 : EAll (tInt .u8) G ca2_0 a2_0) (lha2_0 : a2_0.length ≤ SB) (ha2_1 : InK .i64 a2_1) {r : ((List Int) × (List XSymbol) × (List XFunc) × (List XData))} (hr : api_Symbol_61.f a0_0 a0_1 a0_2 a2_0 a2_1 a2_2 a2_3 = some r) :
 Calls Tryz.prog 61 ([(pt ba0 0), (.func (.func 62) #[] #[]), (pt ba2 0)] : List Value).toArray w (Ret B G (api_Symbol_61.K ba2 a2_1 a2_2 a2_3 ba0 r)) := by
 refine Jc [.tmp 6] func61 rfl ntmps61 rfl rfl ?_
 refine J2 (J1 ?_)
 refine Ju (cs := [(pt ba0 0)]) st rfl rfl rfl ?_
 intro b0 w0 h0
 refine Ju (cs := [(.func (.func 62) #[] #[])]) h0 rfl rfl rfl ?_
 intro b1 w1 h1
 refine Ju (cs := [(pt ba2 0)]) h1 rfl rfl rfl ?_
 intro b2 w2 h2
 refine Jsv .nilFunc rfl rfl ?_
 refine J0 (J2 (J1 ?_))
 refine Yg (fs := []) (cs := [(pt b1 0), (pt b2 0), (pt b0 0)]) rfl rfl rfl ?_
 refine Jsv (.func (.func 114) #[] #[(pt b1 0), (pt b2 0), (pt b0 0)]) rfl rfl ?_
 refine J0 (Jg ?_)
 have h3 := St.pick 2 rfl h2
 have h4 := St.pick 3 rfl h3
 have h5 := St.pick 6 rfl h4
 have h6 := St.pick 6 rfl h5
 have h7 := St.pick 6 rfl h6
 have h8 := St.pick 5 rfl h7
 have h9 := St.pick 7 rfl h8
 have h10 := St.pick 8 rfl h9
 have h11 := St.pick 8 rfl h10
 obtain rfl := Option.some.inj hr
 exact ⟨[(.func (.func 114) #[] #[(pt b1 0), (pt b2 0), (pt b0 0)])], ⟨rfl, trivial⟩, _, _, _, rfl, (Ext.refl _), h11, ⟨va2_0, va0_0, va0_1, va0_2, ca2_0, ca0_0, ca0_1, ca0_2, b1, b2, b0, rfl, rfl, ha2_0, lha2_0, ha0_0, lha0_0, ha0_1, lha0_1, ha0_2, lha0_2⟩⟩
def file_part_s2.f (a0_0 : (List Int)) (a0_1 : Int) (a0_2 : Bool) (a0_3 : Bool) (a1_c2_0_0 : (List XSymbol)) (a1_c2_0_1 : (List XFunc)) (a1_c2_0_2 : (List XData)) : Option (((List Int) × (List XSymbol) × (List XFunc) × (List XData))) :=
 some (a0_0, a1_c2_0_0, a1_c2_0_1, a1_c2_0_2)
def file_part_s2.K (ba0 : Nat) (a0_1 : Int) (a0_2 : Bool) (a0_3 : Bool) (ba1_c0 : Nat) (ba1_c1 : Nat) (ba1_c2_0 : Nat) (ba1_c2 : Nat) (r : ((List Int) × (List XSymbol) × (List XFunc) × (List XData))) (G10 : GH) (v : Value) (N : List Res) : Prop := ∃ (v16 : Value) (v23 : Value) (v28 : Value) (v33 : Value) (c17 : List Value) (c24 : List Value) (c29 : List Value) (c34 : List Value) (b15 : Nat) (b22 : Nat), v = tup [(.func (.func 112) #[] #[(pt b15 0), (pt b22 0)])] ∧ N = [.row v16 5 1 r.1.length c17, .blk ba0 [v16, (vi a0_1), (.bool a0_2), (.bool a0_3)] 163, .blk b15 [(pt ba0 0)] 104, .blk ba1_c0 [(.func (.func 64) #[] #[])] 114, .blk ba1_c1 [(pt ba0 0)] 104, .row v23 82 5 r.2.1.length c24, .row v28 44 9 r.2.2.1.length c29, .row v33 49 3 r.2.2.2.length c34, .blk ba1_c2_0 [v23, v28, v33] 61, .blk ba1_c2 [(pt ba1_c2_0 1)] 113, .blk b22 [(.func (.func 117) #[] #[(pt ba1_c0 0), (pt ba1_c1 0), (pt ba1_c2 0)])] 107] ∧ EAll (tInt .u8) G10 c17 r.1 ∧ r.1.length ≤ SB ∧ EAll TSymbol G10 c24 r.2.1 ∧ r.2.1.length ≤ SB ∧ EAll TFunc G10 c29 r.2.2.1 ∧ r.2.2.1.length ≤ SB ∧ EAll TData G10 c34 r.2.2.2 ∧ r.2.2.2.length ≤ SB
theorem file_part_s2.ok {ba0 : Nat} {va0_0 : Value} {ca0_0 : List Value} {a0_0 : (List Int)} {a0_1 : Int} {a0_2 : Bool} {a0_3 : Bool} {ba1_c0 : Nat} {ba1_c1 : Nat} {ba1_c2 : Nat} {ba1_c2_0 : Nat} {va1_c2_0_0 : Value} {ca1_c2_0_0 : List Value} {a1_c2_0_0 : (List XSymbol)} {va1_c2_0_1 : Value} {ca1_c2_0_1 : List Value} {a1_c2_0_1 : (List XFunc)} {va1_c2_0_2 : Value} {ca1_c2_0_2 : List Value} {a1_c2_0_2 : (List XData)} (st : St B w G [.blk ba0 [va0_0, (vi a0_1), (.bool a0_2), (.bool a0_3)] 163, .row va0_0 5 1 a0_0.length ca0_0, .blk ba1_c0 [(.func (.func 64) #[] #[])] 114, .blk ba1_c1 [(pt ba0 0)] 104, .blk ba1_c2 [(pt ba1_c2_0 1)] 113, .blk ba1_c2_0 [va1_c2_0_0, va1_c2_0_1, va1_c2_0_2] 61, .row va1_c2_0_0 82 5 a1_c2_0_0.length ca1_c2_0_0, .row va1_c2_0_1 44 9 a1_c2_0_1.length ca1_c2_0_1, .row va1_c2_0_2 49 3 a1_c2_0_2.length ca1_c2_0_2]) (ha0_0 : EAll (tInt .u8) G ca0_0 a0_0) (lha0_0 : a0_0.length ≤ SB) (ha0_1 : InK .i64 a0_1) (ha1_c2_0_0 : EAll TSymbol G ca1_c2_0_0 a1_c2_0_0) (lha1_c2_0_0 : a1_c2_0_0.length ≤ SB) (ha1_c2_0_1 : EAll TFunc G ca1_c2_0_1 a1_c2_0_1) (lha1_c2_0_1 : a1_c2_0_1.length ≤ SB) (ha1_c2_0_2 : EAll TData G ca1_c2_0_2 a1_c2_0_2) (lha1_c2_0_2 : a1_c2_0_2.length ≤ SB) {r : ((List Int) × (List XSymbol) × (List XFunc) × (List XData))} (hr : file_part_s2.f a0_0 a0_1 a0_2 a0_3 a1_c2_0_0 a1_c2_0_1 a1_c2_0_2 = some r) :
 Calls Tryz.prog 60 ([(pt ba0 0), (.func (.func 117) #[] #[(pt ba1_c0 0), (pt ba1_c1 0), (pt ba1_c2 0)])] : List Value).toArray w (Ret B G (file_part_s2.K ba0 a0_1 a0_2 a0_3 ba1_c0 ba1_c1 ba1_c2_0 ba1_c2 r)) := by
 refine Jc [.tmp 4] func60 rfl ntmps60 rfl rfl ?_
 refine J2 (J1 ?_)
 refine Ju (cs := [(pt ba0 0)]) st rfl rfl rfl ?_
 intro b0 w0 h0
 refine Ju (cs := [(.func (.func 117) #[] #[(pt ba1_c0 0), (pt ba1_c1 0), (pt ba1_c2 0)])]) h0 rfl rfl rfl ?_
 intro b1 w1 h1
 refine Jsv .nilFunc rfl rfl ?_
 refine J0 (J2 (J1 ?_))
 refine Yg (fs := []) (cs := [(pt b0 0), (pt b1 0)]) rfl rfl rfl ?_
 refine Jsv (.func (.func 112) #[] #[(pt b0 0), (pt b1 0)]) rfl rfl ?_
 refine J0 (Jg ?_)
 have h2 := St.pick 6 rfl h1
 have h3 := St.pick 7 rfl h2
 have h4 := St.pick 10 rfl h3
 have h5 := St.pick 10 rfl h4
 have h6 := St.pick 10 rfl h5
 have h7 := St.pick 10 rfl h6
 have h8 := St.pick 10 rfl h7
 have h9 := St.pick 8 rfl h8
 have h10 := St.pick 9 rfl h9
 have h11 := St.pick 10 rfl h10
 obtain rfl := Option.some.inj hr
 exact ⟨[(.func (.func 112) #[] #[(pt b0 0), (pt b1 0)])], ⟨rfl, trivial⟩, _, _, _, rfl, (Ext.refl _), h11, ⟨va0_0, va1_c2_0_0, va1_c2_0_1, va1_c2_0_2, ca0_0, ca1_c2_0_0, ca1_c2_0_1, ca1_c2_0_2, b0, b1, rfl, rfl, ha0_0, lha0_0, ha1_c2_0_0, lha1_c2_0_0, ha1_c2_0_1, lha1_c2_0_1, ha1_c2_0_2, lha1_c2_0_2⟩⟩
def sheerlegref01_Ints.l0 (a0 : (List Int)) (a1 : (List Int)) (s0 : Nat) : Option (Step Nat Unit) :=
 bif decide (((s0 : Nat) : Int) < (a0.length : Int)) then (idx a0 ((s0 : Nat) : Int)).bind fun x0 => (idx a1 ((s0 : Nat) : Int)).bind fun x1 => bif decide (x0 ≠ x1) then none else some (.next (s0 + 1)) else some (.done ())
def sheerlegref01_Ints.f (a0 : (List Int)) (a1 : (List Int)) : Option (Unit) :=
 bif decide ((a0.length : Int) ≠ (a1.length : Int)) then none else (loop (sheerlegref01_Ints.l0 a0 a1) 0).bind fun t0 => some ()
def sheerlegref01_Ints.K (r : Unit) (G0 : GH) (v : Value) (N : List Res) : Prop := v = tup [(.bool true)] ∧ N = []
theorem sheerlegref01_Ints.ok {va0 : Value} {a0 : (List Int)} {va1 : Value} {a1 : (List Int)} (st : St B w G []) (ha0 : SRep 3 (tInt .i64) G va0 a0) (ha1 : SRep 3 (tInt .i64) G va1 a1) {r : Unit} (hr : sheerlegref01_Ints.f a0 a1 = some r) :
 Calls Tryz.prog 43 ([va0, va1] : List Value).toArray w (Ret B G (sheerlegref01_Ints.K r)) := by
 refine Jc [.tmp 4] func43 rfl ntmps43 rfl rfl ?_
 refine J2 (J1 ?_)
 refine Jsv (.bool false) rfl rfl ?_
 refine J0 (J2 (J2 (J1 ?_)))
 refine Jmv va0 rfl rfl ?_
 refine Jd (T := (tInt .i64)) underlying39 ha0 rfl rfl ?_
 refine Jmv va1 rfl rfl ?_
 refine Jd (T := (tInt .i64)) underlying39 ha1 rfl rfl ?_
 refine Y1 rfl rfl rfl ?_
 refine J0 ?_
 refine J7 rfl (fun h0 => ?_) (fun h0 => ?_)
 ·exact Jk hr h0
 replace hr := Jf hr h0
 refine J9 (J2 (J2 (J1 ?_)))
 refine Jsv (vi 0) rfl rfl ?_
 refine J0 (Jb ?_)
 obtain ⟨t0, h1, hr⟩ := J6 hr
 refine Js 0 h1 (fun s0 ρ w => ∃ (σ0 : Env) (G1 : GH), ρ = En σ0 [(0, va0), (1, va1), (5, (vi ((s0 : Nat) : Int)))] ∧ Ext G G1 ∧ St B w G1 [] ∧ InK .i64 ((s0 : Nat) : Int)) (fun t1 ρ w => ∃ (σ1 : Env) (G2 : GH), ρ = En σ1 [] ∧ Ext G G2 ∧ St B w G2 []) ⟨_, _, (J3 ⟨rfl, rfl, rfl, trivial⟩), (Ext.refl _), st, (by rfl)⟩ ?_ ?_
 ·rintro s0 x2 _ _ hr ⟨σ0, G1, rfl, e0, h2, f0⟩
  refine J2 (J2 (J1 ?_))
  refine Jmv (vi ((s0 : Nat) : Int)) rfl rfl ?_
  refine Jmv va0 rfl rfl ?_
  refine Jd (T := (tInt .i64)) underlying39 (SRep.mono e0.ro ha0) rfl rfl ?_
  refine Ji rfl rfl rfl ?_
  refine J0 ?_
  refine J7 rfl (fun h3 => ?_) (fun h3 => ?_)
  ·replace hr := Jx hr h3
   refine J9 (J2 (Jb (J2 ?_)))
   obtain ⟨x0, h4, hr⟩ := J6 hr
   obtain ⟨x1, h5, hr⟩ := J6 hr
   refine Ye 8 [some 17, some 18, some 19, some 20, some 21, some 22, some 23, some 24] (pk [(fun G_ v_ => v_ = va0), (fun G_ v_ => v_ = (vi ((s0 : Nat) : Int))), (fun G_ v_ => ∃ (b0 : Nat) (b1 : Nat), v_ = (pt b0 b1) ∧ InK .i64 x0 ∧ LiesG G_ b0 b1 [(vi x0)]), (fun G_ v_ => v_ = (vi x0) ∧ InK .i64 x0), (fun G_ v_ => v_ = va1), (fun G_ v_ => v_ = (vi ((s0 : Nat) : Int))), (fun G_ v_ => ∃ (b2 : Nat) (b3 : Nat), v_ = (pt b2 b3) ∧ InK .i64 x1 ∧ LiesG G_ b2 b3 [(vi x1)]), (fun G_ v_ => v_ = (vi x1) ∧ InK .i64 x1)]) rfl (by kernel_rfl) rfl h2 ?_ ?_
   ·refine Each.cons ?_ (Each.cons ?_ (Each.cons ?_ (Each.cons ?_ (Each.cons ?_ (Each.cons ?_ (Each.cons ?_ (Each.cons ?_ Each.nil)))))))
    ·intro q0 w0 G3 e1 h6 h7 h8
     rw [J3 (ρ := q0) (l := [(0, va0)]) ⟨(h7.1 0 (by decide)).trans rfl, trivial⟩]
     refine Jmv va0 rfl rfl ?_
     exact J0 (J4 (Ext.refl _) h6 fun G4 e2 => rfl)
    ·intro q0 w0 G3 e1 h6 h7 h8
     rw [J3 (ρ := q0) (l := [(5, (vi ((s0 : Nat) : Int)))]) ⟨(h7.1 5 (by decide)).trans rfl, trivial⟩]
     refine Jmv (vi ((s0 : Nat) : Int)) rfl rfl ?_
     exact J0 (J4 (Ext.refl _) h6 fun G5 e3 => rfl)
    ·intro q0 w0 G3 e1 h6 h7 h8
     obtain ⟨hd0_, hd1_, _⟩ := h8
     have hv17 := hd0_
     have hv18 := hd1_
     rw [J3 (ρ := q0) (l := [(17, va0), (18, (vi ((s0 : Nat) : Int)))]) ⟨hv17, hv18, trivial⟩]
     refine Jh (T := (tInt .i64)) underlying39 ti3 h6 (SRep.mono (e0.ro.trans e1.ro) ha0) rfl rfl rfl h4 ?_
     intro b4 o0 c0 l3 f1
     obtain ⟨rfl, f2⟩ := f1
     exact J0 (J4 (Ext.refl _) h6 fun G6 e4 => ⟨b4, o0, rfl, f2, (LiesG.mono e4.ro l3)⟩)
    ·intro q0 w0 G3 e1 h6 h7 h8
     obtain ⟨hd0_, _⟩ := h8
     obtain ⟨b0, b1, hv19, f3, f4⟩ := hd0_
     rw [J3 (ρ := q0) (l := [(19, (pt b0 b1))]) ⟨hv19, trivial⟩]
     refine Y4 (v := (vi x0)) ti3 rfl rfl (LiesG.lies f4 h6) rfl ?_
     exact J0 (J4 (Ext.refl _) h6 fun G7 e5 => ⟨rfl, f3⟩)
    ·intro q0 w0 G3 e1 h6 h7 h8
     rw [J3 (ρ := q0) (l := [(1, va1)]) ⟨(h7.1 1 (by decide)).trans rfl, trivial⟩]
     refine Jmv va1 rfl rfl ?_
     exact J0 (J4 (Ext.refl _) h6 fun G8 e6 => rfl)
    ·intro q0 w0 G3 e1 h6 h7 h8
     rw [J3 (ρ := q0) (l := [(5, (vi ((s0 : Nat) : Int)))]) ⟨(h7.1 5 (by decide)).trans rfl, trivial⟩]
     refine Jmv (vi ((s0 : Nat) : Int)) rfl rfl ?_
     exact J0 (J4 (Ext.refl _) h6 fun G9 e7 => rfl)
    ·intro q0 w0 G3 e1 h6 h7 h8
     obtain ⟨hd0_, hd1_, _⟩ := h8
     have hv21 := hd0_
     have hv22 := hd1_
     rw [J3 (ρ := q0) (l := [(21, va1), (22, (vi ((s0 : Nat) : Int)))]) ⟨hv21, hv22, trivial⟩]
     refine Jh (T := (tInt .i64)) underlying39 ti3 h6 (SRep.mono (e0.ro.trans e1.ro) ha1) rfl rfl rfl h5 ?_
     intro b5 o1 c1 l4 f5
     obtain ⟨rfl, f6⟩ := f5
     exact J0 (J4 (Ext.refl _) h6 fun Ga e8 => ⟨b5, o1, rfl, f6, (LiesG.mono e8.ro l4)⟩)
    intro q0 w0 G3 e1 h6 h7 h8
    obtain ⟨hd0_, _⟩ := h8
    obtain ⟨b2, b3, hv23, f7, f8⟩ := hd0_
    rw [J3 (ρ := q0) (l := [(23, (pt b2 b3))]) ⟨hv23, trivial⟩]
    refine Y4 (v := (vi x1)) ti3 rfl rfl (LiesG.lies f8 h6) rfl ?_
    exact J0 (J4 (Ext.refl _) h6 fun Gb e9 => ⟨rfl, f7⟩)
   intro q0 w0 G3 e1 h6 h7 h8
   obtain ⟨hv20, f9⟩ := h8 3 (by decide)
   obtain ⟨hv24, fa⟩ := h8 7 (by decide)
   rw [J3 (ρ := q0) (l := [(0, va0), (1, va1), (5, (vi ((s0 : Nat) : Int))), (20, (vi x0)), (24, (vi x1))]) ⟨(h7.1 0 (by decide)).trans rfl, (h7.1 1 (by decide)).trans rfl, (h7.1 5 (by decide)).trans rfl, hv20, hv24, trivial⟩]
   refine Y1 rfl rfl rfl ?_
   refine J0 ?_
   refine J7 rfl (fun h9 => ?_) (fun h9 => ?_)
   ·exact Jk hr h9
   replace hr := Jf hr h9
   refine J9 (J1 ?_)
   refine Jmv (vi ((s0 : Nat) : Int)) rfl rfl ?_
   refine Y2 rfl rfl rfl (of_decide_eq_true h3) (inK_len (SRep.le (SRep.mono e0.ro ha0))) ?_
   refine Jsv (vi ((s0 + 1 : Nat) : Int)) rfl rfl ?_
   refine J0 ?_
   exact ⟨_, (Option.some.inj hr).symm, _, _, (J3 ⟨rfl, rfl, rfl, trivial⟩), (e0.trans e1), h6, (inK_inc (of_decide_eq_true h3) (inK_len (SRep.le (SRep.mono e0.ro ha0))))⟩
  replace hr := Jf hr h3
  refine Jr ?_
  exact ⟨_, (Option.some.inj hr).symm, rfl, _, _, rfl, e0, h2⟩
 rintro _ _ ⟨σ1, G2, rfl, ea, h10⟩
 refine J2 (J1 ?_)
 refine Jsv (.bool true) rfl rfl ?_
 refine J0 (Jg ?_)
 obtain rfl := Option.some.inj hr
 exact ⟨[(.bool true)], ⟨rfl, trivial⟩, _, _, _, rfl, ea, h10, ⟨rfl, rfl⟩⟩
end Go.Proofs.YtnglgjgflohkmaaGreat.Sk
