/- Walks, printed by gen.py. No condition. -/
import Derived.Test.YtnglgjgflohkmaaGreatSkTy
import Derived.Test.YtnglgjgflohkmaaGreatSkW4
import Derived.Test.YtnglgjgflohkmaaGreatSkW7
import Derived.Test.YtnglgjgflohkmaaGreatSkW8
namespace Go.Proofs.YtnglgjgflohkmaaGreat.Sk
open Go Go.Proofs.Tryz
set_option linter.unusedVariables false
set_option linter.unusedSimpArgs false
variable {B w : World} {G : GH}
set_option linter.unusedVariables false
set_option maxHeartbeats 4000000
set_option maxRecDepth 100000
def octet_Reader_Num_s2.f (a0_ : Xoctet_Reader) (a1 : Int) : Option ((Int × (List Int) × Int)) :=
 (octet_number_s2.f a0_ a1).bind fun t0 => some (t0.1, t0.2.2.1, t0.2.2.2)
def octet_Reader_Num_s2.K (ba0 : Nat) (a0_ : Xoctet_Reader) (r : (Int × (List Int) × Int)) (G22 : GH) (v : Value) (N : List Res) : Prop := ∃ (v27 : Value), v = tup [(vi r.1)] ∧ N = [.blk ba0 [v27, (vi r.2.2), (.bool a0_.live), (.bool a0_.bad)] 163] ∧ InK .i64 r.1 ∧ SRep 5 (tInt .u8) G22 v27 r.2.1 ∧ InK .i64 r.2.2
theorem octet_Reader_Num_s2.ok {ba0 : Nat} {ca0_ : List Value} {a0_ : Xoctet_Reader} {a1 : Int} (st : St B w G [.blk ba0 ca0_ 163]) (ha0_ : Toctet_Reader.rep G ca0_ a0_) (ha1 : InK .i64 a1) {r : (Int × (List Int) × Int)} (hr : octet_Reader_Num_s2.f a0_ a1 = some r) :
 Calls Tryz.prog 110 ([(pt ba0 0), (vi a1)] : List Value).toArray w (Ret B G (octet_Reader_Num_s2.K ba0 a0_ r)) := by
 obtain ⟨sa0__0, rfl, ha0__0, ha0__1⟩ := ha0_
 refine Jc [.tmp 4] func110 rfl ntmps110 rfl rfl ?_
 refine J2 (J1 ?_)
 refine Jsv (vi 0) rfl rfl ?_
 refine J0 (J2 (J1 ?_))
 refine Jmv (pt ba0 0) rfl rfl ?_
 refine Yg (fs := [(pt ba0 0)]) (cs := []) rfl rfl rfl ?_
 refine Jmv (vi a1) rfl rfl ?_
 obtain ⟨t0, h0, hr⟩ := J6 hr
 refine Jn (f := 171) (av := [(.func (.func 172) #[(pt ba0 0)] #[]), (vi a1)]) cf171 rfl rfl st rfl (fun G0 e0 h1 => octet_number_s2.ok (a0_f0_ := a0_) h1 (⟨sa0__0, rfl, (SRep.mono e0.ro ha0__0), ha0__1⟩) ha1 h0) ?_
 rintro v0 w0 G1 G2 N0 e1 q0 ⟨v1, v2, rfl, rfl, f0, f1, f2, f3⟩ h2
 refine Jmv (.tuple #[(vi t0.1), v1]) rfl rfl ?_
 refine Jm rfl rfl rfl ?_
 refine Jm rfl rfl rfl ?_
 refine Jsv (vi t0.1) rfl rfl ?_
 refine Jsv v1 rfl rfl ?_
 refine J0 (J2 (J1 ?_))
 refine Jmv (vi t0.1) rfl rfl ?_
 refine Jsv (vi t0.1) rfl rfl ?_
 refine J0 (Jg ?_)
 obtain rfl := Option.some.inj hr
 exact ⟨[(vi t0.1)], ⟨rfl, trivial⟩, _, _, _, rfl, e1, h2, ⟨v2, rfl, rfl, f0, (SRep.mono q0 f2), f3⟩⟩
def octet_Reader_Signed.f (a0_ : Xoctet_Reader) (a1 : Int) : Option ((Int × (List Int) × Int)) :=
 (octet_number_s2.f a0_ a1).bind fun t0 => bif decide ((t0.2.1.length : Int) = 0) then none else bif decide (0 ≤ (IntKind.wrap .u64 (8 * (IntKind.wrap .u64 ((IntKind.wrap .i64 (8 - (t0.2.1.length : Int)))))))) then bif decide (0 ≤ (IntKind.wrap .u64 (8 * (IntKind.wrap .u64 ((IntKind.wrap .i64 (8 - (t0.2.1.length : Int)))))))) then some (shr .i64 (shl .i64 t0.1 (IntKind.wrap .u64 (8 * (IntKind.wrap .u64 ((IntKind.wrap .i64 (8 - (t0.2.1.length : Int)))))))) (IntKind.wrap .u64 (8 * (IntKind.wrap .u64 ((IntKind.wrap .i64 (8 - (t0.2.1.length : Int))))))), t0.2.2.1, t0.2.2.2) else none else none
def octet_Reader_Signed.K (ba0 : Nat) (a0_ : Xoctet_Reader) (r : (Int × (List Int) × Int)) (G25 : GH) (v : Value) (N : List Res) : Prop := ∃ (v30 : Value), v = tup [(vi r.1)] ∧ N = [.blk ba0 [v30, (vi r.2.2), (.bool a0_.live), (.bool a0_.bad)] 163] ∧ InK .i64 r.1 ∧ SRep 5 (tInt .u8) G25 v30 r.2.1 ∧ InK .i64 r.2.2
theorem octet_Reader_Signed.ok {ba0 : Nat} {ca0_ : List Value} {a0_ : Xoctet_Reader} {a1 : Int} (st : St B w G [.blk ba0 ca0_ 163]) (ha0_ : Toctet_Reader.rep G ca0_ a0_) (ha1 : InK .i64 a1) {r : (Int × (List Int) × Int)} (hr : octet_Reader_Signed.f a0_ a1 = some r) :
 Calls Tryz.prog 116 ([(pt ba0 0), (vi a1)] : List Value).toArray w (Ret B G (octet_Reader_Signed.K ba0 a0_ r)) := by
 obtain ⟨sa0__0, rfl, ha0__0, ha0__1⟩ := ha0_
 refine Jc [.tmp 4] func116 rfl ntmps116 rfl rfl ?_
 refine J2 (J1 ?_)
 refine Jsv (vi 0) rfl rfl ?_
 refine J0 (J2 (J1 ?_))
 refine Jmv (pt ba0 0) rfl rfl ?_
 refine Yg (fs := [(pt ba0 0)]) (cs := []) rfl rfl rfl ?_
 refine Jmv (vi a1) rfl rfl ?_
 obtain ⟨t0, h0, hr⟩ := J6 hr
 refine Jn (f := 171) (av := [(.func (.func 172) #[(pt ba0 0)] #[]), (vi a1)]) cf171 rfl rfl st rfl (fun G0 e0 h1 => octet_number_s2.ok (a0_f0_ := a0_) h1 (⟨sa0__0, rfl, (SRep.mono e0.ro ha0__0), ha0__1⟩) ha1 h0) ?_
 rintro v0 w0 G1 G2 N0 e1 q0 ⟨v1, v2, rfl, rfl, f0, f1, f2, f3⟩ h2
 refine Jmv (.tuple #[(vi t0.1), v1]) rfl rfl ?_
 refine Jm rfl rfl rfl ?_
 refine Jm rfl rfl rfl ?_
 refine Jsv (vi t0.1) rfl rfl ?_
 refine Jsv v1 rfl rfl ?_
 refine J0 (J2 (J2 (J1 ?_)))
 refine Jmv v1 rfl rfl ?_
 refine Jd (T := (tInt .u8)) underlying63 (SRep.mono q0 f1) rfl rfl ?_
 refine Y3 rfl rfl rfl ?_
 refine J0 ?_
 refine J7 rfl (fun h3 => ?_) (fun h3 => ?_)
 ·exact Jk hr h3
 replace hr := Jf hr h3
 refine J9 (J2 (J1 ?_))
 refine Jmv v1 rfl rfl ?_
 refine Jd (T := (tInt .u8)) underlying63 (SRep.mono q0 f1) rfl rfl ?_
 refine Yn rfl rfl rfl ?_
 refine WL_conv (by rw [underlying3]; rfl) underlying186 rfl rfl ?_
 refine WL_mul rfl rfl rfl ?_
 refine Jsv (.int .u64 (IntKind.wrap .u64 (8 * (IntKind.wrap .u64 ((IntKind.wrap .i64 (8 - (t0.2.1.length : Int)))))))) rfl rfl ?_
 refine J0 (J2 (J1 ?_))
 refine Jmv (vi t0.1) rfl rfl ?_
 refine Jmv (.int .u64 (IntKind.wrap .u64 (8 * (IntKind.wrap .u64 ((IntKind.wrap .i64 (8 - (t0.2.1.length : Int)))))))) rfl rfl ?_
 obtain ⟨h4, hr⟩ := Ya hr
 refine WL_shl rfl rfl rfl (by simpa using h4) ?_
 refine Jmv (.int .u64 (IntKind.wrap .u64 (8 * (IntKind.wrap .u64 ((IntKind.wrap .i64 (8 - (t0.2.1.length : Int)))))))) rfl rfl ?_
 obtain ⟨h5, hr⟩ := Ya hr
 refine WL_shr rfl rfl rfl (by simpa using h5) ?_
 refine Jsv (vi (shr .i64 (shl .i64 t0.1 (IntKind.wrap .u64 (8 * (IntKind.wrap .u64 ((IntKind.wrap .i64 (8 - (t0.2.1.length : Int)))))))) (IntKind.wrap .u64 (8 * (IntKind.wrap .u64 ((IntKind.wrap .i64 (8 - (t0.2.1.length : Int))))))))) rfl rfl ?_
 refine J0 (Jg ?_)
 obtain rfl := Option.some.inj hr
 exact ⟨[(vi (shr .i64 (shl .i64 t0.1 (IntKind.wrap .u64 (8 * (IntKind.wrap .u64 ((IntKind.wrap .i64 (8 - (t0.2.1.length : Int)))))))) (IntKind.wrap .u64 (8 * (IntKind.wrap .u64 ((IntKind.wrap .i64 (8 - (t0.2.1.length : Int)))))))))], ⟨rfl, trivial⟩, _, _, _, rfl, e1, h2, ⟨v2, rfl, rfl, (inK_shr (inK_wrap _ _)), (SRep.mono q0 f2), f3⟩⟩
def file_symbol.f (a0_ : Xoctet_Reader) : Option ((ByteArray × Bool × Int × Int × Int × (List Int) × Int)) :=
 (octet_Reader_Text.f a0_ 255).bind fun t0 => (octet_Reader_Num_s2.f ({ b := t0.2.1, at_ := t0.2.2, live := a0_.live, bad := a0_.bad } : Xoctet_Reader) 1).bind fun t1 => bif decide (t1.1 > 1) then none else (octet_Reader_Num_s2.f ({ b := t1.2.1, at_ := t1.2.2, live := a0_.live, bad := a0_.bad } : Xoctet_Reader) 1).bind fun t2 => (octet_Reader_Num_s2.f ({ b := t2.2.1, at_ := t2.2.2, live := a0_.live, bad := a0_.bad } : Xoctet_Reader) 1).bind fun t3 => (octet_Reader_Signed.f ({ b := t3.2.1, at_ := t3.2.2, live := a0_.live, bad := a0_.bad } : Xoctet_Reader) 1).bind fun t4 => (octet_Reader_Bad_s2.f ({ b := t4.2.1, at_ := t4.2.2, live := a0_.live, bad := a0_.bad } : Xoctet_Reader)).bind fun t5 => bif a0_.bad then none else some (t0.1, decide (t1.1 = 1), t2.1, t3.1, t4.1, t4.2.1, t4.2.2)
def file_symbol.K (ba0 : Nat) (a0_ : Xoctet_Reader) (r : (ByteArray × Bool × Int × Int × Int × (List Int) × Int)) (G0 : GH) (v : Value) (N : List Res) : Prop := ∃ (v0 : Value), v = tup [(.agg #[(.string r.1), (.bool r.2.1), (vi r.2.2.1), (vi r.2.2.2.1), (vi r.2.2.2.2.1)]), (vi 0)] ∧ N = [.blk ba0 [v0, (vi r.2.2.2.2.2.2), (.bool a0_.live), (.bool a0_.bad)] 163] ∧ r.1.size ≤ SB ∧ InK .i64 r.2.2.1 ∧ InK .i64 r.2.2.2.1 ∧ InK .i64 r.2.2.2.2.1 ∧ SRep 5 (tInt .u8) G0 v0 r.2.2.2.2.2.1 ∧ InK .i64 r.2.2.2.2.2.2
theorem file_symbol.ok {ba0 : Nat} {ca0_ : List Value} {a0_ : Xoctet_Reader} (st : St B w G [.blk ba0 ca0_ 163]) (ha0_ : Toctet_Reader.rep G ca0_ a0_) {r : (ByteArray × Bool × Int × Int × Int × (List Int) × Int)} (hr : file_symbol.f a0_ = some r) :
 Calls Tryz.prog 62 ([(pt ba0 0)] : List Value).toArray w (Ret B G (file_symbol.K ba0 a0_ r)) := by
 obtain ⟨sa0__0, rfl, ha0__0, ha0__1⟩ := ha0_
 refine Jc [.cell 2 82, .tmp 3] func62 rfl ntmps62 rfl rfl ?_
 refine J2 (J1 ?_)
 refine Jo ti82 st rfl ?_
 intro b0 w0 h0
 refine Jsv (vi 0) rfl rfl ?_
 refine J0 (J2 (J1 ?_))
 refine Jmv (pt ba0 0) rfl rfl ?_
 have h1 := St.pick 1 rfl h0
 obtain ⟨t0, h2, hr⟩ := J6 hr
 refine Jn (f := 115) (av := [(pt ba0 0), (vi 255)]) cf115 rfl rfl h1 rfl (fun G1 e0 h3 => octet_Reader_Text.ok (a0_ := a0_) h3 (⟨sa0__0, rfl, (SRep.mono e0.ro ha0__0), ha0__1⟩) (by rfl) h2) ?_
 rintro v1 w1 G2 G3 N0 e1 q0 ⟨v2, rfl, rfl, f0, f1, f2⟩ h4
 refine Y0 (cells := #[(.string t0.1), (.bool false), (vi 0), (vi 0), (vi 0)]) rfl (by kernel_rfl) ?_
 refine Jo ti82 h4 rfl ?_
 intro b1 w2 h5
 refine Jp (l1 := []) (vs := [(.string t0.1), (.bool false), (vi 0), (vi 0), (vi 0)]) ti82 h5 rfl rfl rfl (J5 rfl (J5 rfl (J5 rfl (J5 rfl (J5 rfl (fun _ h => nomatch h)))))) rfl ?_
 intro w3 (h6 : St B w3 G3 [.blk b1 [(.string t0.1), (.bool false), (vi 0), (vi 0), (vi 0)] 82, .blk ba0 [v2, (vi t0.2.2), (.bool a0_.live), (.bool a0_.bad)] 163, .blk b0 [(.string (⟨#[]⟩ : ByteArray)), (.bool false), (vi 0), (vi 0), (vi 0)] 82])
 refine J0 (J2 (J1 ?_))
 refine Jmv (pt ba0 0) rfl rfl ?_
 have h7 := St.pick 1 rfl h6
 obtain ⟨t1, h8, hr⟩ := J6 hr
 refine Jn (f := 110) (av := [(pt ba0 0), (vi 1)]) cf110 rfl rfl h7 rfl (fun G4 e2 h9 => octet_Reader_Num_s2.ok (a0_ := ({ b := t0.2.1, at_ := t0.2.2, live := a0_.live, bad := a0_.bad } : Xoctet_Reader)) h9 (⟨v2, rfl, (SRep.mono e2.ro (SRep.mono q0 f1)), f2⟩) (by rfl) h8) ?_
 rintro v3 w4 G5 G6 N1 e3 q1 ⟨v4, rfl, rfl, f3, f4, f5⟩ h10
 refine Jsv (vi t1.1) rfl rfl ?_
 refine J0 (J2 (J2 (J1 ?_)))
 refine Jmv (vi t1.1) rfl rfl ?_
 refine Yh rfl rfl rfl ?_
 refine J0 ?_
 refine J7 rfl (fun h11 => ?_) (fun h11 => ?_)
 ·exact Jk hr h11
 replace hr := Jf hr h11
 refine J9 (J2 (J1 ?_))
 refine Jmv (vi t1.1) rfl rfl ?_
 refine Y3 rfl rfl rfl ?_
 refine Jfa 1 1 underlying82 rfl ti4 rfl rfl rfl rfl ?_
 refine Y5 (l1 := [_]) (v := (.bool (decide (t1.1 = 1)))) ti4 h10 rfl rfl rfl rfl ?_
 intro w5 (h12 : St B w5 G6 [.blk ba0 [v4, (vi t1.2.2), (.bool a0_.live), (.bool a0_.bad)] 163, .blk b1 [(.string t0.1), (.bool (decide (t1.1 = 1))), (vi 0), (vi 0), (vi 0)] 82, .blk b0 [(.string (⟨#[]⟩ : ByteArray)), (.bool false), (vi 0), (vi 0), (vi 0)] 82])
 refine J0 (J2 (J1 ?_))
 refine Jmv (pt ba0 0) rfl rfl ?_
 obtain ⟨t2, h13, hr⟩ := J6 hr
 refine Jn (f := 110) (av := [(pt ba0 0), (vi 1)]) cf110 rfl rfl h12 rfl (fun G7 e4 h14 => octet_Reader_Num_s2.ok (a0_ := ({ b := t1.2.1, at_ := t1.2.2, live := a0_.live, bad := a0_.bad } : Xoctet_Reader)) h14 (⟨v4, rfl, (SRep.mono e4.ro (SRep.mono q1 f4)), f5⟩) (by rfl) h13) ?_
 rintro v5 w6 G8 G9 N2 e5 q2 ⟨v6, rfl, rfl, f6, f7, f8⟩ h15
 refine Jfa 2 2 underlying82 rfl ti3 rfl rfl rfl rfl ?_
 refine Y5 (l1 := [_]) (v := (vi t2.1)) ti3 h15 rfl rfl rfl rfl ?_
 intro w7 (h16 : St B w7 G9 [.blk ba0 [v6, (vi t2.2.2), (.bool a0_.live), (.bool a0_.bad)] 163, .blk b1 [(.string t0.1), (.bool (decide (t1.1 = 1))), (vi t2.1), (vi 0), (vi 0)] 82, .blk b0 [(.string (⟨#[]⟩ : ByteArray)), (.bool false), (vi 0), (vi 0), (vi 0)] 82])
 refine J0 (J2 (J1 ?_))
 refine Jmv (pt ba0 0) rfl rfl ?_
 obtain ⟨t3, h17, hr⟩ := J6 hr
 refine Jn (f := 110) (av := [(pt ba0 0), (vi 1)]) cf110 rfl rfl h16 rfl (fun Ga e6 h18 => octet_Reader_Num_s2.ok (a0_ := ({ b := t2.2.1, at_ := t2.2.2, live := a0_.live, bad := a0_.bad } : Xoctet_Reader)) h18 (⟨v6, rfl, (SRep.mono e6.ro (SRep.mono q2 f7)), f8⟩) (by rfl) h17) ?_
 rintro v7 w8 Gb Gc N3 e7 q3 ⟨v8, rfl, rfl, f9, fa, fb⟩ h19
 refine Jfa 3 3 underlying82 rfl ti3 rfl rfl rfl rfl ?_
 refine Y5 (l1 := [_]) (v := (vi t3.1)) ti3 h19 rfl rfl rfl rfl ?_
 intro w9 (h1a : St B w9 Gc [.blk ba0 [v8, (vi t3.2.2), (.bool a0_.live), (.bool a0_.bad)] 163, .blk b1 [(.string t0.1), (.bool (decide (t1.1 = 1))), (vi t2.1), (vi t3.1), (vi 0)] 82, .blk b0 [(.string (⟨#[]⟩ : ByteArray)), (.bool false), (vi 0), (vi 0), (vi 0)] 82])
 refine J0 (J2 (J1 ?_))
 refine Jmv (pt ba0 0) rfl rfl ?_
 obtain ⟨t4, h1b, hr⟩ := J6 hr
 refine Jn (f := 116) (av := [(pt ba0 0), (vi 1)]) cf116 rfl rfl h1a rfl (fun Gd e8 h1c => octet_Reader_Signed.ok (a0_ := ({ b := t3.2.1, at_ := t3.2.2, live := a0_.live, bad := a0_.bad } : Xoctet_Reader)) h1c (⟨v8, rfl, (SRep.mono e8.ro (SRep.mono q3 fa)), fb⟩) (by rfl) h1b) ?_
 rintro v9 wa Ge Gf N4 e9 q4 ⟨va, rfl, rfl, fc, fd, fe⟩ h1d
 refine Jfa 4 4 underlying82 rfl ti3 rfl rfl rfl rfl ?_
 refine Y5 (l1 := [_]) (v := (vi t4.1)) ti3 h1d rfl rfl rfl rfl ?_
 intro wb (h1e : St B wb Gf [.blk ba0 [va, (vi t4.2.2), (.bool a0_.live), (.bool a0_.bad)] 163, .blk b1 [(.string t0.1), (.bool (decide (t1.1 = 1))), (vi t2.1), (vi t3.1), (vi t4.1)] 82, .blk b0 [(.string (⟨#[]⟩ : ByteArray)), (.bool false), (vi 0), (vi 0), (vi 0)] 82])
 refine J0 (J2 (J2 (J1 ?_)))
 refine Jmv (pt ba0 0) rfl rfl ?_
 obtain ⟨t5, h1f, hr⟩ := J6 hr
 refine Jn (f := 113) (av := [(pt ba0 0)]) cf113 rfl rfl h1e rfl (fun Gg ea h1g => octet_Reader_Bad_s2.ok (a0_ := ({ b := t4.2.1, at_ := t4.2.2, live := a0_.live, bad := a0_.bad } : Xoctet_Reader)) h1g (⟨va, rfl, (SRep.mono ea.ro (SRep.mono q4 fd)), fe⟩) h1f) ?_
 rintro vc wc Gh Gi N5 eb q5 ⟨vd, rfl, rfl, ff⟩ h1h
 refine J0 ?_
 refine J7 rfl (fun h1i => ?_) (fun h1i => ?_)
 ·exact Jk hr h1i
 replace hr := Jf hr h1i
 refine J9 (J2 (J1 ?_))
 refine Jl (l1 := [_]) (vs := [(.string t0.1), (.bool (decide (t1.1 = 1))), (vi t2.1), (vi t3.1), (vi t4.1)]) ti82 h1h rfl rfl rfl rfl ?_
 refine Jp (l1 := [_, _]) (vs := [(.string t0.1), (.bool (decide (t1.1 = 1))), (vi t2.1), (vi t3.1), (vi t4.1)]) ti82 h1h rfl rfl rfl (J5 rfl (J5 rfl (J5 rfl (J5 rfl (J5 rfl (fun _ h => nomatch h)))))) rfl ?_
 intro wd (h1j : St B wd Gi [.blk ba0 [vd, (vi t4.2.2), (.bool a0_.live), (.bool a0_.bad)] 163, .blk b1 [(.string t0.1), (.bool (decide (t1.1 = 1))), (vi t2.1), (vi t3.1), (vi t4.1)] 82, .blk b0 [(.string t0.1), (.bool (decide (t1.1 = 1))), (vi t2.1), (vi t3.1), (vi t4.1)] 82])
 refine Jsv (vi 0) rfl rfl ?_
 refine J0 (Jg ?_)
 have h1k := St.takeN 1 h1j
 obtain rfl := Option.some.inj hr
 exact ⟨[(.agg #[(.string t0.1), (.bool (decide (t1.1 = 1))), (vi t2.1), (vi t3.1), (vi t4.1)]), (vi 0)], ⟨⟨_, rfl, Yl (l1 := [_, _]) ti82 h1j rfl⟩, rfl, trivial⟩, _, _, _, rfl, (e1.trans (e3.trans (e5.trans (e7.trans (e9.trans eb))))), h1k, ⟨vd, rfl, rfl, f0, f6, f9, fc, (SRep.mono q5 ff), fe⟩⟩
def api_Symbol_1.f (a1_0_ : Xoctet_Reader) (a2_0_0 : (List XSymbol)) (a2_0_1 : (List XFunc)) (a2_0_2 : (List XData)) : Option (((List Int) × Int × (List XSymbol) × (List XFunc) × (List XData))) :=
 (file_symbol.f a1_0_).bind fun t0 => bif decide ((a2_0_0.length + [({ Name := t0.1, Local := t0.2.1, Sort_ := t0.2.2.1, Kind := t0.2.2.2.1, Def := t0.2.2.2.2.1 } : XSymbol)].length) * 48 ≤ SB) then some (t0.2.2.2.2.2.1, t0.2.2.2.2.2.2, (a2_0_0 ++ [({ Name := t0.1, Local := t0.2.1, Sort_ := t0.2.2.1, Kind := t0.2.2.2.1, Def := t0.2.2.2.2.1 } : XSymbol)]), a2_0_1, a2_0_2) else none
def api_Symbol_1.K (ba0 : Nat) (ba1_0 : Nat) (a1_0_ : Xoctet_Reader) (ba1 : Nat) (ba2_0 : Nat) (ba2 : Nat) (r : ((List Int) × Int × (List XSymbol) × (List XFunc) × (List XData))) (G0 : GH) (v : Value) (N : List Res) : Prop := ∃ (v0 : Value) (v1 : Value) (v2 : Value) (v3 : Value) (c0 : List Value) (c1 : List Value) (c2 : List Value), v = tup [(vi 0)] ∧ N = [.blk ba0 [(.func (.func 62) #[] #[])] 111, .blk ba1_0 [v0, (vi r.2.1), (.bool a1_0_.live), (.bool a1_0_.bad)] 163, .blk ba1 [(pt ba1_0 0)] 104, .row v1 82 5 r.2.2.1.length c0, .row v2 44 9 r.2.2.2.1.length c1, .row v3 49 3 r.2.2.2.2.length c2, .blk ba2_0 [v1, v2, v3] 61, .blk ba2 [(pt ba2_0 0)] 110] ∧ SRep 5 (tInt .u8) G0 v0 r.1 ∧ InK .i64 r.2.1 ∧ EAll TSymbol G0 c0 r.2.2.1 ∧ r.2.2.1.length ≤ SB ∧ EAll TFunc G0 c1 r.2.2.2.1 ∧ r.2.2.2.1.length ≤ SB ∧ EAll TData G0 c2 r.2.2.2.2 ∧ r.2.2.2.2.length ≤ SB
theorem api_Symbol_1.ok {ba0 : Nat} {ba1 : Nat} {ba1_0 : Nat} {ca1_0_ : List Value} {a1_0_ : Xoctet_Reader} {ba2 : Nat} {ba2_0 : Nat} {va2_0_0 : Value} {ca2_0_0 : List Value} {a2_0_0 : (List XSymbol)} {va2_0_1 : Value} {ca2_0_1 : List Value} {a2_0_1 : (List XFunc)} {va2_0_2 : Value} {ca2_0_2 : List Value} {a2_0_2 : (List XData)} (st : St B w G [.blk ba0 [(.func (.func 62) #[] #[])] 111, .blk ba1 [(pt ba1_0 0)] 104, .blk ba1_0 ca1_0_ 163, .blk ba2 [(pt ba2_0 0)] 110, .blk ba2_0 [va2_0_0, va2_0_1, va2_0_2] 61, .row va2_0_0 82 5 a2_0_0.length ca2_0_0, .row va2_0_1 44 9 a2_0_1.length ca2_0_1, .row va2_0_2 49 3 a2_0_2.length ca2_0_2]) (ha1_0_ : Toctet_Reader.rep G ca1_0_ a1_0_) (ha2_0_0 : EAll TSymbol G ca2_0_0 a2_0_0) (lha2_0_0 : a2_0_0.length ≤ SB) (ha2_0_1 : EAll TFunc G ca2_0_1 a2_0_1) (lha2_0_1 : a2_0_1.length ≤ SB) (ha2_0_2 : EAll TData G ca2_0_2 a2_0_2) (lha2_0_2 : a2_0_2.length ≤ SB) {r : ((List Int) × Int × (List XSymbol) × (List XFunc) × (List XData))} (hr : api_Symbol_1.f a1_0_ a2_0_0 a2_0_1 a2_0_2 = some r) :
 Calls Tryz.prog 114 ([(pt ba0 0), (pt ba1 0), (pt ba2 0)] : List Value).toArray w (Ret B G (api_Symbol_1.K ba0 ba1_0 a1_0_ ba1 ba2_0 ba2 r)) := by
 obtain ⟨sa1_0__0, rfl, ha1_0__0, ha1_0__1⟩ := ha1_0_
 refine Jc [.tmp 3] func114 rfl ntmps114 rfl rfl ?_
 refine J2 (J1 ?_)
 refine Jsv (vi 0) rfl rfl ?_
 refine J0 (J2 (J1 ?_))
 refine Jlb [] (.func (.func 62) #[] #[]) ti111 st rfl rfl rfl ?_
 refine Jlb [_] (pt ba1_0 0) ti104 st rfl rfl rfl ?_
 have h0 := St.pick 2 rfl st
 obtain ⟨t0, h1, hr⟩ := J6 hr
 refine Jn (f := 62) (av := [(pt ba1_0 0)]) cf62 rfl rfl h0 rfl (fun G1 e0 h2 => file_symbol.ok (a0_ := a1_0_) h2 (⟨sa1_0__0, rfl, (SRep.mono e0.ro ha1_0__0), ha1_0__1⟩) h1) ?_
 rintro v4 w0 G2 G3 N0 e1 q0 ⟨v5, rfl, rfl, f0, f1, f2, f3, f4, f5⟩ h3
 refine Jmv (.tuple #[(.agg #[(.string t0.1), (.bool t0.2.1), (vi t0.2.2.1), (vi t0.2.2.2.1), (vi t0.2.2.2.2.1)]), (vi 0)]) rfl rfl ?_
 refine Jm rfl rfl rfl ?_
 refine Jm rfl rfl rfl ?_
 refine Jo ti82 h3 rfl ?_
 intro b0 w1 h4
 refine Jp (l1 := []) (vs := [(.string t0.1), (.bool t0.2.1), (vi t0.2.2.1), (vi t0.2.2.2.1), (vi t0.2.2.2.2.1)]) ti82 h4 rfl rfl rfl (J5 rfl (J5 rfl (J5 rfl (J5 rfl (J5 rfl (fun _ h => nomatch h)))))) rfl ?_
 intro w2 (h5 : St B w2 G3 [.blk b0 [(.string t0.1), (.bool t0.2.1), (vi t0.2.2.1), (vi t0.2.2.2.1), (vi t0.2.2.2.2.1)] 82, .blk ba1_0 [v5, (vi t0.2.2.2.2.2.2), (.bool a1_0_.live), (.bool a1_0_.bad)] 163, .blk ba0 [(.func (.func 62) #[] #[])] 111, .blk ba1 [(pt ba1_0 0)] 104, .blk ba2 [(pt ba2_0 0)] 110, .blk ba2_0 [va2_0_0, va2_0_1, va2_0_2] 61, .row va2_0_0 82 5 a2_0_0.length ca2_0_0, .row va2_0_1 44 9 a2_0_1.length ca2_0_1, .row va2_0_2 49 3 a2_0_2.length ca2_0_2])
 refine Jsv (vi 0) rfl rfl ?_
 refine J0 (J2 (J2 (J1 ?_)))
 refine Jmv (vi 0) rfl rfl ?_
 refine Y3 rfl rfl rfl ?_
 change WL _ _ _ _ _ _ (upd _ _ (.bool true)) _
 refine J0 ?_
 refine J7 rfl (fun _ => ?_) (fun h => nomatch h)
 obtain ⟨h6, hr⟩ := Ya hr
 refine Ym 7 [some 14, some 15, some 16, some 17, some 18, some 19, some 20] [5, 6] [Kind.q, Kind.q, Kind.q, Kind.q, Kind.q, Kind.c 0, Kind.c 1] (pkT [(fun vs_ G_ M_ => vs_ = [] ∧ M_ = [.blk b0 [(.string t0.1), (.bool t0.2.1), (vi t0.2.2.1), (vi t0.2.2.2.1), (vi t0.2.2.2.2.1)] 82, .blk ba1_0 [v5, (vi t0.2.2.2.2.2.2), (.bool a1_0_.live), (.bool a1_0_.bad)] 163, .blk ba0 [(.func (.func 62) #[] #[])] 111, .blk ba1 [(pt ba1_0 0)] 104, .blk ba2 [(pt ba2_0 0)] 110, .blk ba2_0 [va2_0_0, va2_0_1, va2_0_2] 61, .row va2_0_0 82 5 a2_0_0.length ca2_0_0, .row va2_0_1 44 9 a2_0_1.length ca2_0_1, .row va2_0_2 49 3 a2_0_2.length ca2_0_2]), (fun vs_ G_ M_ => ∃ (v6 : Value), vs_ = [v6] ∧ M_ = [.row v6 82 5 1 [(.string t0.1), (.bool t0.2.1), (vi t0.2.2.1), (vi t0.2.2.2.1), (vi t0.2.2.2.2.1)], .blk b0 [(.string t0.1), (.bool t0.2.1), (vi t0.2.2.1), (vi t0.2.2.2.1), (vi t0.2.2.2.2.1)] 82, .blk ba1_0 [v5, (vi t0.2.2.2.2.2.2), (.bool a1_0_.live), (.bool a1_0_.bad)] 163, .blk ba0 [(.func (.func 62) #[] #[])] 111, .blk ba1 [(pt ba1_0 0)] 104, .blk ba2 [(pt ba2_0 0)] 110, .blk ba2_0 [va2_0_0, va2_0_1, va2_0_2] 61, .row va2_0_0 82 5 a2_0_0.length ca2_0_0, .row va2_0_1 44 9 a2_0_1.length ca2_0_1, .row va2_0_2 49 3 a2_0_2.length ca2_0_2] ∧ EAll TSymbol G_ [(.string t0.1), (.bool t0.2.1), (vi t0.2.2.1), (vi t0.2.2.2.1), (vi t0.2.2.2.2.1)] [({ Name := t0.1, Local := t0.2.1, Sort_ := t0.2.2.1, Kind := t0.2.2.2.1, Def := t0.2.2.2.2.1 } : XSymbol)] ∧ [({ Name := t0.1, Local := t0.2.1, Sort_ := t0.2.2.1, Kind := t0.2.2.2.1, Def := t0.2.2.2.2.1 } : XSymbol)].length = 1 ∧ 1 ≤ SB), (fun vs_ G_ M_ => ∃ (v7 : Value) (c3 : List Value) (v8 : Value), vs_ = [v8, v7] ∧ M_ = [.blk b0 [(.string t0.1), (.bool t0.2.1), (vi t0.2.2.1), (vi t0.2.2.2.1), (vi t0.2.2.2.2.1)] 82, .blk ba1_0 [v5, (vi t0.2.2.2.2.2.2), (.bool a1_0_.live), (.bool a1_0_.bad)] 163, .blk ba0 [(.func (.func 62) #[] #[])] 111, .blk ba1 [(pt ba1_0 0)] 104, .blk ba2 [(pt ba2_0 0)] 110, .blk ba2_0 [va2_0_0, va2_0_1, va2_0_2] 61, .row v7 82 5 (a2_0_0.length + [({ Name := t0.1, Local := t0.2.1, Sort_ := t0.2.2.1, Kind := t0.2.2.2.1, Def := t0.2.2.2.2.1 } : XSymbol)].length) c3, .row va2_0_1 44 9 a2_0_1.length ca2_0_1, .row va2_0_2 49 3 a2_0_2.length ca2_0_2] ∧ EAll TSymbol G_ c3 (a2_0_0 ++ [({ Name := t0.1, Local := t0.2.1, Sort_ := t0.2.2.1, Kind := t0.2.2.2.1, Def := t0.2.2.2.2.1 } : XSymbol)]) ∧ (a2_0_0 ++ [({ Name := t0.1, Local := t0.2.1, Sort_ := t0.2.2.1, Kind := t0.2.2.2.1, Def := t0.2.2.2.2.1 } : XSymbol)]).length = (a2_0_0.length + [({ Name := t0.1, Local := t0.2.1, Sort_ := t0.2.2.1, Kind := t0.2.2.2.1, Def := t0.2.2.2.2.1 } : XSymbol)].length) ∧ (a2_0_0.length + [({ Name := t0.1, Local := t0.2.1, Sort_ := t0.2.2.1, Kind := t0.2.2.2.1, Def := t0.2.2.2.2.1 } : XSymbol)].length) ≤ SB ∧ SRep 82 TSymbol G_ v8 [({ Name := t0.1, Local := t0.2.1, Sort_ := t0.2.2.1, Kind := t0.2.2.2.1, Def := t0.2.2.2.2.1 } : XSymbol)])]) (pk [(fun G_ v_ => v_ = (pt ba2_0 0)), (fun G_ v_ => v_ = (pt ba2_0 0)), (fun G_ v_ => v_ = (pt ba2_0 0)), (fun G_ v_ => v_ = va2_0_0), (fun G_ v_ => v_ = (.agg #[(.string t0.1), (.bool t0.2.1), (vi t0.2.2.1), (vi t0.2.2.2.1), (vi t0.2.2.2.2.1)])), (fun _ _ => True), (fun _ _ => True)]) rfl (by kernel_rfl) rfl (by kernel_rfl) [[6]] (by kernel_rfl) rfl h5 (fun _ _ => ⟨rfl, rfl⟩) ?_ ?_
 ·refine Each2.cons ?_ (Each2.cons ?_ (Each2.cons ?_ (Each2.cons ?_ (Each2.cons ?_ (Each2.cons ?_ (Each2.cons ?_ Each2.nil))))))
  ·intro k0 q1 w3 G4 M0 h7 h8 e2 h9 h10 h11 h12 h13 h14
   have h2_ : k0 ≤ 2 := h7
   rcases (show k0 = 0 ∨ k0 = 1 ∨ k0 = 2 from by omega) with rfl | rfl | rfl
   ·obtain ⟨hvs_, rfl⟩ := h10 G4 (Ext.refl _)
    rw [J3 (ρ := q1) (l := [(2, (pt ba2 0))]) ⟨(h11.1 2 (by decide)).trans rfl, trivial⟩]
    refine Jlb [_, _, _, _] (pt ba2_0 0) ti110 h9 rfl rfl rfl ?_
    exact J0 (J4 (Ext.refl _) h9 fun G5 e3 => rfl)
   ·obtain ⟨v6, hvs_, rfl, f6, f7, f8⟩ := h10 G4 (Ext.refl _)
    have hv19 := (List.cons.inj hvs_).1
    rw [J3 (ρ := q1) (l := [(2, (pt ba2 0)), (19, v6)]) ⟨(h11.1 2 (by decide)).trans rfl, hv19, trivial⟩]
    refine Jlb [_, _, _, _, _] (pt ba2_0 0) ti110 h9 rfl rfl rfl ?_
    exact J0 (J4 (Ext.refl _) h9 fun G5 e3 => rfl)
   obtain ⟨v7, c3, v8, hvs_, rfl, f9, fa, fb, fc⟩ := h10 G4 (Ext.refl _)
   have hv19 := (List.cons.inj hvs_).1
   have hv20 := (List.cons.inj (List.cons.inj hvs_).2).1
   rw [J3 (ρ := q1) (l := [(2, (pt ba2 0)), (19, v8), (20, v7)]) ⟨(h11.1 2 (by decide)).trans rfl, hv19, hv20, trivial⟩]
   refine Jlb [_, _, _, _] (pt ba2_0 0) ti110 h9 rfl rfl rfl ?_
   exact J0 (J4 (Ext.refl _) h9 fun G5 e3 => rfl)
  ·intro k0 q1 w3 G4 M0 h7 h8 e2 h9 h10 h11 h12 h13 h14
   have h2_ : k0 ≤ 1 := h13 1 6 [2, 3, 6] rfl (by kernel_rfl) rfl
   rcases (show k0 = 0 ∨ k0 = 1 from by omega) with rfl | rfl
   ·obtain ⟨hvs_, rfl⟩ := h10 G4 (Ext.refl _)
    rw [J3 (ρ := q1) (l := [(2, (pt ba2 0))]) ⟨(h11.1 2 (by decide)).trans rfl, trivial⟩]
    refine Jlb [_, _, _, _] (pt ba2_0 0) ti110 h9 rfl rfl rfl ?_
    exact J0 (J4 (Ext.refl _) h9 fun G6 e4 => rfl)
   obtain ⟨v6, hvs_, rfl, f6, f7, f8⟩ := h10 G4 (Ext.refl _)
   have hv19 := (List.cons.inj hvs_).1
   rw [J3 (ρ := q1) (l := [(2, (pt ba2 0)), (19, v6)]) ⟨(h11.1 2 (by decide)).trans rfl, hv19, trivial⟩]
   refine Jlb [_, _, _, _, _] (pt ba2_0 0) ti110 h9 rfl rfl rfl ?_
   exact J0 (J4 (Ext.refl _) h9 fun G6 e4 => rfl)
  ·intro k0 q1 w3 G4 M0 h7 h8 e2 h9 h10 h11 h12 h13 h14
   have h2_ : k0 ≤ 1 := h13 1 6 [3, 6] rfl (by kernel_rfl) rfl
   rcases (show k0 = 0 ∨ k0 = 1 from by omega) with rfl | rfl
   ·obtain ⟨hvs_, rfl⟩ := h10 G4 (Ext.refl _)
    obtain ⟨hd0_, _⟩ := h14
    have hv15 := hd0_
    rw [J3 (ρ := q1) (l := [(15, (pt ba2_0 0))]) ⟨hv15, trivial⟩]
    refine Je rfl rfl ?_
    exact J0 (J4 (Ext.refl _) h9 fun G7 e5 => rfl)
   obtain ⟨v6, hvs_, rfl, f6, f7, f8⟩ := h10 G4 (Ext.refl _)
   have hv19 := (List.cons.inj hvs_).1
   obtain ⟨hd0_, _⟩ := h14
   have hv15 := hd0_
   rw [J3 (ρ := q1) (l := [(15, (pt ba2_0 0)), (19, v6)]) ⟨hv15, hv19, trivial⟩]
   refine Je rfl rfl ?_
   exact J0 (J4 (Ext.refl _) h9 fun G7 e5 => rfl)
  ·intro k0 q1 w3 G4 M0 h7 h8 e2 h9 h10 h11 h12 h13 h14
   have h2_ : k0 ≤ 1 := h13 1 6 [6] rfl (by kernel_rfl) rfl
   rcases (show k0 = 0 ∨ k0 = 1 from by omega) with rfl | rfl
   ·obtain ⟨hvs_, rfl⟩ := h10 G4 (Ext.refl _)
    obtain ⟨hd0_, _⟩ := h14
    have hv16 := hd0_
    rw [J3 (ρ := q1) (l := [(16, (pt ba2_0 0))]) ⟨hv16, trivial⟩]
    refine Jlb [_, _, _, _, _] va2_0_0 ti57 h9 rfl rfl rfl ?_
    exact J0 (J4 (Ext.refl _) h9 fun G8 e6 => rfl)
   obtain ⟨v6, hvs_, rfl, f6, f7, f8⟩ := h10 G4 (Ext.refl _)
   have hv19 := (List.cons.inj hvs_).1
   obtain ⟨hd0_, _⟩ := h14
   have hv16 := hd0_
   rw [J3 (ρ := q1) (l := [(16, (pt ba2_0 0)), (19, v6)]) ⟨hv16, hv19, trivial⟩]
   refine Jlb [_, _, _, _, _, _] va2_0_0 ti57 h9 rfl rfl rfl ?_
   exact J0 (J4 (Ext.refl _) h9 fun G8 e6 => rfl)
  ·intro k0 q1 w3 G4 M0 h7 h8 e2 h9 h10 h11 h12 h13 h14
   have h2_ : k0 ≤ 0 := h13 0 5 [5] rfl (by kernel_rfl) rfl
   obtain rfl : k0 = 0 := by omega
   obtain ⟨hvs_, rfl⟩ := h10 G4 (Ext.refl _)
   rw [J3 (ρ := q1) (l := [(4, (pt b0 0))]) ⟨(h11.1 4 (by decide)).trans rfl, trivial⟩]
   refine Jl (l1 := []) (vs := [(.string t0.1), (.bool t0.2.1), (vi t0.2.2.1), (vi t0.2.2.2.1), (vi t0.2.2.2.2.1)]) ti82 h9 rfl rfl rfl rfl ?_
   exact J0 (J4 (Ext.refl _) h9 fun G9 e7 => rfl)
  ·intro k0 q1 w3 G4 M0 h7 h8 e2 h9 h10 h11 h12 h13 h14
   obtain rfl : k0 = 0 := h8
   obtain ⟨hvs_, rfl⟩ := h10 G4 (Ext.refl _)
   obtain ⟨hd0_, _⟩ := h14
   have hv18 := hd0_
   rw [J3 (ρ := q1) (l := [(18, (.agg #[(.string t0.1), (.bool t0.2.1), (vi t0.2.2.1), (vi t0.2.2.2.1), (vi t0.2.2.2.2.1)]))]) ⟨hv18, trivial⟩]
   refine Jj (cells := [(.string t0.1), (.bool t0.2.1), (vi t0.2.2.1), (vi t0.2.2.2.1), (vi t0.2.2.2.2.1)]) underlying57 ti82 h9 rfl rfl rfl rfl rfl (by kernel_rfl) ?_
   intro v9 w4 h15 fd
   have E0 : EAll TSymbol G4 [(.string t0.1), (.bool t0.2.1), (vi t0.2.2.1), (vi t0.2.2.2.1), (vi t0.2.2.2.2.1)] [({ Name := t0.1, Local := t0.2.1, Sort_ := t0.2.2.1, Kind := t0.2.2.2.1, Def := t0.2.2.2.2.1 } : XSymbol)] := ⟨_, _, rfl, ⟨rfl, f0, f1, f2, f3⟩, rfl⟩
   exact J0 (Yi (Ext.refl _) h15 fun Ga e8 => ⟨⟨v9, rfl, rfl, (EAll.mono e8.ro E0), (by rfl), (by decide)⟩, trivial⟩)
  intro k0 q1 w3 G4 M0 h7 h8 e2 h9 h10 h11 h12 h13 h14
  obtain rfl : k0 = 1 := h8
  obtain ⟨v6, hvs_, rfl, f6, f7, f8⟩ := h10 G4 (Ext.refl _)
  have hv19 := (List.cons.inj hvs_).1
  obtain ⟨hd0_, hd1_, _⟩ := h14
  have hv17 := hd0_
  rw [J3 (ρ := q1) (l := [(17, va2_0_0), (19, v6)]) ⟨hv17, hv19, trivial⟩]
  obtain ⟨Gb, h16, e9, fe⟩ := St.rowRep (l1 := []) (T := TSymbol) (xs := [({ Name := t0.1, Local := t0.2.1, Sort_ := t0.2.2.1, Kind := t0.2.2.2.1, Def := t0.2.2.2.2.1 } : XSymbol)]) h9 f6 f7 f8
  refine Yf (l1 := [_, _, _, _, _, _]) (T := TSymbol) (xs := [({ Name := t0.1, Local := t0.2.1, Sort_ := t0.2.2.1, Kind := t0.2.2.2.1, Def := t0.2.2.2.2.1 } : XSymbol)]) underlying57 ti82 h16 rfl rfl fe rfl rfl rfl (app_limN rfl h6) (app_leN rfl h6) ?_
  intro va w5 n0 E1 h17
  have E2 := EAll.append (T := TSymbol) (EAll.mono (e1.ro.trans (e2.ro.trans e9.ro)) ha2_0_0) E1
  exact J0 (Yi e9 h17 fun Gc ea => ⟨⟨va, (ca2_0_0 ++ n0), v6, rfl, rfl, (EAll.mono ea.ro E2), (len_app rfl), (app_leN rfl h6), (SRep.mono ea.ro fe)⟩, trivial⟩)
 intro q1 w3 G4 M0 e2 h9 h10 h11 h14
 obtain ⟨v7, c3, v8, hvs_, rfl, f9, fa, fb, fc⟩ := h10
 have hv20 := (List.cons.inj (List.cons.inj hvs_).2).1
 have hv14 := h14 0 (by decide)
 rw [J3 (ρ := q1) (l := [(5, (vi 0)), (14, (pt ba2_0 0)), (20, v7)]) ⟨(h11.1 5 (by decide)).trans rfl, hv14, hv20, trivial⟩]
 refine Je rfl rfl ?_
 refine Y5 (l1 := [_, _, _, _, _]) (v := v7) ti57 h9 rfl rfl (row_one (St.mid (l1 := [_, _, _, _, _, _]) h9)) rfl ?_
 intro w6 (h18 : St B w6 G4 [.blk b0 [(.string t0.1), (.bool t0.2.1), (vi t0.2.2.1), (vi t0.2.2.2.1), (vi t0.2.2.2.2.1)] 82, .blk ba1_0 [v5, (vi t0.2.2.2.2.2.2), (.bool a1_0_.live), (.bool a1_0_.bad)] 163, .blk ba0 [(.func (.func 62) #[] #[])] 111, .blk ba1 [(pt ba1_0 0)] 104, .blk ba2 [(pt ba2_0 0)] 110, .blk ba2_0 [v7, va2_0_1, va2_0_2] 61, .row v7 82 5 (a2_0_0.length + [({ Name := t0.1, Local := t0.2.1, Sort_ := t0.2.2.1, Kind := t0.2.2.2.1, Def := t0.2.2.2.2.1 } : XSymbol)].length) c3, .row va2_0_1 44 9 a2_0_1.length ca2_0_1, .row va2_0_2 49 3 a2_0_2.length ca2_0_2])
 refine J0 (J2 (J1 ?_))
 refine Jmv (vi 0) rfl rfl ?_
 refine Jsv (vi 0) rfl rfl ?_
 refine J0 (Jg ?_)
 have h19 := St.row_len (l1 := [_, _, _, _, _, _]) (k := (a2_0_0 ++ [({ Name := t0.1, Local := t0.2.1, Sort_ := t0.2.2.1, Kind := t0.2.2.2.1, Def := t0.2.2.2.2.1 } : XSymbol)]).length) fa h18
 have h1a := St.pick 4 rfl h19
 have h1b := St.pick 5 rfl h1a
 have h1c := St.pick 8 rfl h1b
 have h1d := St.pick 8 rfl h1c
 have h1e := St.pick 8 rfl h1d
 have h1f := St.pick 8 rfl h1e
 have h1g := St.pick 7 rfl h1f
 have h1h := St.pick 8 rfl h1g
 have h1i := St.takeN 8 h1h
 obtain rfl := Option.some.inj hr
 exact ⟨[(vi 0)], ⟨rfl, trivial⟩, _, _, _, rfl, (e1.trans e2), h1i, ⟨v5, v7, va2_0_1, va2_0_2, c3, ca2_0_1, ca2_0_2, rfl, rfl, (SRep.mono e2.ro (SRep.mono q0 f4)), f5, f9, (le_eq (m := (a2_0_0.length + [({ Name := t0.1, Local := t0.2.1, Sort_ := t0.2.2.1, Kind := t0.2.2.2.1, Def := t0.2.2.2.2.1 } : XSymbol)].length)) fa fb), (EAll.mono (e1.ro.trans e2.ro) ha2_0_1), lha2_0_1, (EAll.mono (e1.ro.trans e2.ro) ha2_0_2), lha2_0_2⟩⟩
def fun_reader_num.f (a0_0_ : Xoctet_Reader) (a0_1 : Int) (a1 : Int) : Option ((Int × (List Int) × Int)) :=
 (octet_Reader_Num_s2.f a0_0_ a1).bind fun t0 => (octet_Reader_Bad_s2.f ({ b := t0.2.1, at_ := t0.2.2, live := a0_0_.live, bad := a0_0_.bad } : Xoctet_Reader)).bind fun t1 => bif a0_0_.bad then none else some (t0.1, t0.2.1, t0.2.2)
def fun_reader_num.K (ba0_0 : Nat) (a0_0_ : Xoctet_Reader) (ba0 : Nat) (a0_1 : Int) (r : (Int × (List Int) × Int)) (G57 : GH) (v : Value) (N : List Res) : Prop := ∃ (v62 : Value), v = tup [(vi r.1)] ∧ N = [.blk ba0_0 [v62, (vi r.2.2), (.bool a0_0_.live), (.bool a0_0_.bad)] 163, .blk ba0 [(pt ba0_0 0), (vi a0_1)] 169] ∧ InK .i64 r.1 ∧ SRep 5 (tInt .u8) G57 v62 r.2.1 ∧ InK .i64 r.2.2
theorem fun_reader_num.ok {ba0 : Nat} {ba0_0 : Nat} {ca0_0_ : List Value} {a0_0_ : Xoctet_Reader} {a0_1 : Int} {a1 : Int} (st : St B w G [.blk ba0 [(pt ba0_0 0), (vi a0_1)] 169, .blk ba0_0 ca0_0_ 163]) (ha0_0_ : Toctet_Reader.rep G ca0_0_ a0_0_) (ha0_1 : InK .i64 a0_1) (ha1 : InK .i64 a1) {r : (Int × (List Int) × Int)} (hr : fun_reader_num.f a0_0_ a0_1 a1 = some r) :
 Calls Tryz.prog 118 ([(pt ba0 0), (vi a1)] : List Value).toArray w (Ret B G (fun_reader_num.K ba0_0 a0_0_ ba0 a0_1 r)) := by
 obtain ⟨sa0_0__0, rfl, ha0_0__0, ha0_0__1⟩ := ha0_0_
 refine Jc [.tmp 4] func118 rfl ntmps118 rfl rfl ?_
 refine J2 (J1 ?_)
 refine Jsv (vi 0) rfl rfl ?_
 refine J0 (J2 (J1 ?_))
 refine Jmv (pt ba0 0) rfl rfl ?_
 refine Je rfl rfl ?_
 refine Jfa 0 0 underlying169 rfl ti104 rfl rfl rfl rfl ?_
 refine Jlb [] (pt ba0_0 0) ti104 st rfl rfl rfl ?_
 refine Jmv (vi a1) rfl rfl ?_
 have h0 := St.pick 1 rfl st
 obtain ⟨t0, h1, hr⟩ := J6 hr
 refine Jn (f := 110) (av := [(pt ba0_0 0), (vi a1)]) cf110 rfl rfl h0 rfl (fun G0 e0 h2 => octet_Reader_Num_s2.ok (a0_ := a0_0_) h2 (⟨sa0_0__0, rfl, (SRep.mono e0.ro ha0_0__0), ha0_0__1⟩) ha1 h1) ?_
 rintro v0 w0 G1 G2 N0 e1 q0 ⟨v1, rfl, rfl, f0, f1, f2⟩ h3
 refine Jsv (vi t0.1) rfl rfl ?_
 refine J0 (J2 (J2 (J1 ?_)))
 refine Jmv (pt ba0 0) rfl rfl ?_
 refine Je rfl rfl ?_
 refine Jfa 0 0 underlying169 rfl ti104 rfl rfl rfl rfl ?_
 refine Jlb [_] (pt ba0_0 0) ti104 h3 rfl rfl rfl ?_
 obtain ⟨t1, h4, hr⟩ := J6 hr
 refine Jn (f := 113) (av := [(pt ba0_0 0)]) cf113 rfl rfl h3 rfl (fun G3 e2 h5 => octet_Reader_Bad_s2.ok (a0_ := ({ b := t0.2.1, at_ := t0.2.2, live := a0_0_.live, bad := a0_0_.bad } : Xoctet_Reader)) h5 (⟨v1, rfl, (SRep.mono e2.ro (SRep.mono q0 f1)), f2⟩) h4) ?_
 rintro v2 w1 G4 G5 N1 e3 q1 ⟨v3, rfl, rfl, f3⟩ h6
 refine J0 ?_
 refine J7 rfl (fun h7 => ?_) (fun h7 => ?_)
 ·exact Jk hr h7
 replace hr := Jf hr h7
 refine J9 (J2 (J1 ?_))
 refine Jmv (vi t0.1) rfl rfl ?_
 refine Jsv (vi t0.1) rfl rfl ?_
 refine J0 (Jg ?_)
 have h8 := St.pick 1 rfl h6
 have h9 := St.pick 1 rfl h8
 obtain rfl := Option.some.inj hr
 exact ⟨[(vi t0.1)], ⟨rfl, trivial⟩, _, _, _, rfl, (e1.trans e3), h9, ⟨v3, rfl, rfl, f0, (SRep.mono q1 f3), f2⟩⟩
def fun_Get_1.f (a0_0 : Int) (a0_1 : (List Int)) (a0_2 : Int) (a0_3 : Bool) (a0_4 : Int) (a0_5 : Int) (a0_6 : (List XLine)) (a0_7 : (List XInstr)) (a0_8 : (List XReloc)) (a1_0_0_ : Xoctet_Reader) (a1_0_1 : Int) : Option (((List Int) × (List XLine) × (List XInstr) × (List XReloc) × (List Int) × Int)) :=
 (fun_reader_num.f a1_0_0_ a1_0_1 1).bind fun t0 => bif decide ((a0_1.length + [t0.1].length) * 8 ≤ SB) then some ((a0_1 ++ [t0.1]), a0_6, a0_7, a0_8, t0.2.1, t0.2.2) else none
def fun_Get_1.K (ba0 : Nat) (a0_0 : Int) (a0_2 : Int) (a0_3 : Bool) (a0_4 : Int) (a0_5 : Int) (ba1_0_0 : Nat) (a1_0_0_ : Xoctet_Reader) (ba1_0 : Nat) (a1_0_1 : Int) (ba1 : Nat) (r : ((List Int) × (List XLine) × (List XInstr) × (List XReloc) × (List Int) × Int)) (G0 : GH) (v : Value) (N : List Res) : Prop := ∃ (v0 : Value) (v1 : Value) (v2 : Value) (v3 : Value) (v4 : Value) (c0 : List Value) (c1 : List Value) (c2 : List Value) (c3 : List Value), v = tup [] ∧ N = [.row v0 3 1 r.1.length c0, .row v1 157 2 r.2.1.length c1, .row v2 54 5 r.2.2.1.length c2, .row v3 133 3 r.2.2.2.1.length c3, .blk ba0 [(vi a0_0), v0, (vi a0_2), (.bool a0_3), (vi a0_4), (vi a0_5), v1, v2, v3] 44, .blk ba1_0_0 [v4, (vi r.2.2.2.2.2), (.bool a1_0_0_.live), (.bool a1_0_0_.bad)] 163, .blk ba1_0 [(pt ba1_0_0 0), (vi a1_0_1)] 169, .blk ba1 [(pt ba1_0 0)] 167] ∧ EAll (tInt .i64) G0 c0 r.1 ∧ r.1.length ≤ SB ∧ EAll TLine G0 c1 r.2.1 ∧ r.2.1.length ≤ SB ∧ EAll TInstr G0 c2 r.2.2.1 ∧ r.2.2.1.length ≤ SB ∧ EAll TReloc G0 c3 r.2.2.2.1 ∧ r.2.2.2.1.length ≤ SB ∧ SRep 5 (tInt .u8) G0 v4 r.2.2.2.2.1 ∧ InK .i64 r.2.2.2.2.2
theorem fun_Get_1.ok {ba0 : Nat} {a0_0 : Int} {va0_1 : Value} {ca0_1 : List Value} {a0_1 : (List Int)} {a0_2 : Int} {a0_3 : Bool} {a0_4 : Int} {a0_5 : Int} {va0_6 : Value} {ca0_6 : List Value} {a0_6 : (List XLine)} {va0_7 : Value} {ca0_7 : List Value} {a0_7 : (List XInstr)} {va0_8 : Value} {ca0_8 : List Value} {a0_8 : (List XReloc)} {ba1 : Nat} {ba1_0 : Nat} {ba1_0_0 : Nat} {ca1_0_0_ : List Value} {a1_0_0_ : Xoctet_Reader} {a1_0_1 : Int} (st : St B w G [.blk ba0 [(vi a0_0), va0_1, (vi a0_2), (.bool a0_3), (vi a0_4), (vi a0_5), va0_6, va0_7, va0_8] 44, .row va0_1 3 1 a0_1.length ca0_1, .row va0_6 157 2 a0_6.length ca0_6, .row va0_7 54 5 a0_7.length ca0_7, .row va0_8 133 3 a0_8.length ca0_8, .blk ba1 [(pt ba1_0 0)] 167, .blk ba1_0 [(pt ba1_0_0 0), (vi a1_0_1)] 169, .blk ba1_0_0 ca1_0_0_ 163]) (ha0_0 : InK .i64 a0_0) (ha0_1 : EAll (tInt .i64) G ca0_1 a0_1) (lha0_1 : a0_1.length ≤ SB) (ha0_2 : InK .i64 a0_2) (ha0_4 : InK .i64 a0_4) (ha0_5 : InK .i64 a0_5) (ha0_6 : EAll TLine G ca0_6 a0_6) (lha0_6 : a0_6.length ≤ SB) (ha0_7 : EAll TInstr G ca0_7 a0_7) (lha0_7 : a0_7.length ≤ SB) (ha0_8 : EAll TReloc G ca0_8 a0_8) (lha0_8 : a0_8.length ≤ SB) (ha1_0_0_ : Toctet_Reader.rep G ca1_0_0_ a1_0_0_) (ha1_0_1 : InK .i64 a1_0_1) {r : ((List Int) × (List XLine) × (List XInstr) × (List XReloc) × (List Int) × Int)} (hr : fun_Get_1.f a0_0 a0_1 a0_2 a0_3 a0_4 a0_5 a0_6 a0_7 a0_8 a1_0_0_ a1_0_1 = some r) :
 Calls Tryz.prog 120 ([(pt ba0 0), (pt ba1 0)] : List Value).toArray w (Ret B G (fun_Get_1.K ba0 a0_0 a0_2 a0_3 a0_4 a0_5 ba1_0_0 a1_0_0_ ba1_0 a1_0_1 ba1 r)) := by
 obtain ⟨sa1_0_0__0, rfl, ha1_0_0__0, ha1_0_0__1⟩ := ha1_0_0_
 refine Jc [] func120 rfl ntmps120 rfl rfl ?_
 obtain ⟨t0, h0, hr⟩ := J6 hr
 refine Ym 5 [some 2, some 3, some 4, some 5, some 6] [3, 4] [Kind.q, Kind.q, Kind.q, Kind.c 0, Kind.c 1] (pkT [(fun vs_ G_ M_ => vs_ = [] ∧ M_ = [.blk ba0 [(vi a0_0), va0_1, (vi a0_2), (.bool a0_3), (vi a0_4), (vi a0_5), va0_6, va0_7, va0_8] 44, .row va0_1 3 1 a0_1.length ca0_1, .row va0_6 157 2 a0_6.length ca0_6, .row va0_7 54 5 a0_7.length ca0_7, .row va0_8 133 3 a0_8.length ca0_8, .blk ba1 [(pt ba1_0 0)] 167, .blk ba1_0 [(pt ba1_0_0 0), (vi a1_0_1)] 169, .blk ba1_0_0 [sa1_0_0__0, (vi a1_0_0_.at_), (.bool a1_0_0_.live), (.bool a1_0_0_.bad)] 163]), (fun vs_ G_ M_ => ∃ (v5 : Value), vs_ = [(vi t0.1)] ∧ M_ = [.blk ba1_0_0 [v5, (vi t0.2.2), (.bool a1_0_0_.live), (.bool a1_0_0_.bad)] 163, .blk ba1_0 [(pt ba1_0_0 0), (vi a1_0_1)] 169, .blk ba0 [(vi a0_0), va0_1, (vi a0_2), (.bool a0_3), (vi a0_4), (vi a0_5), va0_6, va0_7, va0_8] 44, .row va0_1 3 1 a0_1.length ca0_1, .row va0_6 157 2 a0_6.length ca0_6, .row va0_7 54 5 a0_7.length ca0_7, .row va0_8 133 3 a0_8.length ca0_8, .blk ba1 [(pt ba1_0 0)] 167] ∧ SRep 5 (tInt .u8) G_ v5 t0.2.1 ∧ InK .i64 t0.2.2 ∧ InK .i64 t0.1), (fun vs_ G_ M_ => ∃ (v6 : Value) (v7 : Value), vs_ = [(vi t0.1), v6] ∧ M_ = [.row v6 3 1 1 [(vi t0.1)], .blk ba1_0_0 [v7, (vi t0.2.2), (.bool a1_0_0_.live), (.bool a1_0_0_.bad)] 163, .blk ba1_0 [(pt ba1_0_0 0), (vi a1_0_1)] 169, .blk ba0 [(vi a0_0), va0_1, (vi a0_2), (.bool a0_3), (vi a0_4), (vi a0_5), va0_6, va0_7, va0_8] 44, .row va0_1 3 1 a0_1.length ca0_1, .row va0_6 157 2 a0_6.length ca0_6, .row va0_7 54 5 a0_7.length ca0_7, .row va0_8 133 3 a0_8.length ca0_8, .blk ba1 [(pt ba1_0 0)] 167] ∧ EAll (tInt .i64) G_ [(vi t0.1)] [t0.1] ∧ [t0.1].length = 1 ∧ 1 ≤ SB ∧ SRep 5 (tInt .u8) G_ v7 t0.2.1 ∧ InK .i64 t0.2.2 ∧ InK .i64 t0.1)]) (pk [(fun G_ v_ => v_ = (pt ba0 1)), (fun G_ v_ => v_ = va0_1), (fun G_ v_ => v_ = (pt ba1_0 0)), (fun _ _ => True), (fun _ _ => True)]) rfl (by kernel_rfl) rfl (by kernel_rfl) [[4]] (by kernel_rfl) rfl st (fun _ _ => ⟨rfl, rfl⟩) ?_ ?_
 ·refine Each2.cons ?_ (Each2.cons ?_ (Each2.cons ?_ (Each2.cons ?_ (Each2.cons ?_ Each2.nil))))
  ·intro k0 q0 w0 G1 M0 h1 h2 e0 h3 h4 h5 h6 h7 h8
   have h2_ : k0 ≤ 2 := h1
   rcases (show k0 = 0 ∨ k0 = 1 ∨ k0 = 2 from by omega) with rfl | rfl | rfl
   ·obtain ⟨hvs_, rfl⟩ := h4 G1 (Ext.refl _)
    rw [J3 (ρ := q0) (l := [(0, (pt ba0 0))]) ⟨(h5.1 0 (by decide)).trans rfl, trivial⟩]
    refine Jfa 1 1 underlying44 rfl ti39 rfl rfl rfl rfl ?_
    exact J0 (J4 (Ext.refl _) h3 fun G2 e1 => rfl)
   ·obtain ⟨v5, hvs_, rfl, f0, f1, f2⟩ := h4 G1 (Ext.refl _)
    have hv5 := (List.cons.inj hvs_).1
    rw [J3 (ρ := q0) (l := [(0, (pt ba0 0)), (5, (vi t0.1))]) ⟨(h5.1 0 (by decide)).trans rfl, hv5, trivial⟩]
    refine Jfa 1 1 underlying44 rfl ti39 rfl rfl rfl rfl ?_
    exact J0 (J4 (Ext.refl _) h3 fun G2 e1 => rfl)
   obtain ⟨v6, v7, hvs_, rfl, f3, f4, f5, f6, f7, f8⟩ := h4 G1 (Ext.refl _)
   have hv5 := (List.cons.inj hvs_).1
   have hv6 := (List.cons.inj (List.cons.inj hvs_).2).1
   rw [J3 (ρ := q0) (l := [(0, (pt ba0 0)), (5, (vi t0.1)), (6, v6)]) ⟨(h5.1 0 (by decide)).trans rfl, hv5, hv6, trivial⟩]
   refine Jfa 1 1 underlying44 rfl ti39 rfl rfl rfl rfl ?_
   exact J0 (J4 (Ext.refl _) h3 fun G2 e1 => rfl)
  ·intro k0 q0 w0 G1 M0 h1 h2 e0 h3 h4 h5 h6 h7 h8
   have h2_ : k0 ≤ 2 := h1
   rcases (show k0 = 0 ∨ k0 = 1 ∨ k0 = 2 from by omega) with rfl | rfl | rfl
   ·obtain ⟨hvs_, rfl⟩ := h4 G1 (Ext.refl _)
    obtain ⟨hd0_, _⟩ := h8
    have hv2 := hd0_
    rw [J3 (ρ := q0) (l := [(2, (pt ba0 1))]) ⟨hv2, trivial⟩]
    refine Jlb [] va0_1 ti39 h3 rfl rfl rfl ?_
    exact J0 (J4 (Ext.refl _) h3 fun G3 e2 => rfl)
   ·obtain ⟨v5, hvs_, rfl, f0, f1, f2⟩ := h4 G1 (Ext.refl _)
    have hv5 := (List.cons.inj hvs_).1
    obtain ⟨hd0_, _⟩ := h8
    have hv2 := hd0_
    rw [J3 (ρ := q0) (l := [(2, (pt ba0 1)), (5, (vi t0.1))]) ⟨hv2, hv5, trivial⟩]
    refine Jlb [_, _] va0_1 ti39 h3 rfl rfl rfl ?_
    exact J0 (J4 (Ext.refl _) h3 fun G3 e2 => rfl)
   obtain ⟨v6, v7, hvs_, rfl, f3, f4, f5, f6, f7, f8⟩ := h4 G1 (Ext.refl _)
   have hv5 := (List.cons.inj hvs_).1
   have hv6 := (List.cons.inj (List.cons.inj hvs_).2).1
   obtain ⟨hd0_, _⟩ := h8
   have hv2 := hd0_
   rw [J3 (ρ := q0) (l := [(2, (pt ba0 1)), (5, (vi t0.1)), (6, v6)]) ⟨hv2, hv5, hv6, trivial⟩]
   refine Jlb [_, _, _] va0_1 ti39 h3 rfl rfl rfl ?_
   exact J0 (J4 (Ext.refl _) h3 fun G3 e2 => rfl)
  ·intro k0 q0 w0 G1 M0 h1 h2 e0 h3 h4 h5 h6 h7 h8
   have h2_ : k0 ≤ 0 := h7 0 3 [3] rfl (by kernel_rfl) rfl
   obtain rfl : k0 = 0 := by omega
   obtain ⟨hvs_, rfl⟩ := h4 G1 (Ext.refl _)
   rw [J3 (ρ := q0) (l := [(1, (pt ba1 0))]) ⟨(h5.1 1 (by decide)).trans rfl, trivial⟩]
   refine Jlb [_, _, _, _, _] (pt ba1_0 0) ti167 h3 rfl rfl rfl ?_
   exact J0 (J4 (Ext.refl _) h3 fun G4 e3 => rfl)
  ·intro k0 q0 w0 G1 M0 h1 h2 e0 h3 h4 h5 h6 h7 h8
   obtain rfl : k0 = 0 := h2
   obtain ⟨hvs_, rfl⟩ := h4 G1 (Ext.refl _)
   obtain ⟨hd0_, _⟩ := h8
   have hv4 := hd0_
   rw [J3 (ρ := q0) (l := [(4, (pt ba1_0 0))]) ⟨hv4, trivial⟩]
   have h9 := St.pick 7 rfl h3
   have h10 := St.pick 7 rfl h9
   refine Y6 (f := 118) (av := [(pt ba1_0 0), (vi 1)]) cf118 rfl rfl h10 rfl (fun G5 e4 h11 => fun_reader_num.ok (a0_0_ := a1_0_0_) h11 (⟨sa1_0_0__0, rfl, (SRep.mono (e0.ro.trans e4.ro) ha1_0_0__0), ha1_0_0__1⟩) ha1_0_1 (by rfl) h0) ?_
   rintro v8 w1 G6 G7 N0 e5 q1 ⟨v9, rfl, rfl, f9, fa, fb⟩ h12
   exact J0 (Yi e5 h12 fun G8 e6 => ⟨⟨v9, rfl, rfl, (SRep.mono e6.ro (SRep.mono q1 fa)), fb, f9⟩, trivial⟩)
  intro k0 q0 w0 G1 M0 h1 h2 e0 h3 h4 h5 h6 h7 h8
  obtain rfl : k0 = 1 := h2
  obtain ⟨v5, hvs_, rfl, f0, f1, f2⟩ := h4 G1 (Ext.refl _)
  have hv5 := (List.cons.inj hvs_).1
  rw [J3 (ρ := q0) (l := [(5, (vi t0.1))]) ⟨hv5, trivial⟩]
  refine Jj (cells := [(vi t0.1)]) underlying39 ti3 h3 rfl rfl rfl rfl rfl (by kernel_rfl) ?_
  intro va w2 h13 fc
  have E0 : EAll (tInt .i64) G1 [(vi t0.1)] [t0.1] := ⟨_, _, rfl, ⟨rfl, f2⟩, rfl⟩
  exact J0 (Yi (Ext.refl _) h13 fun G9 e7 => ⟨⟨va, v5, rfl, rfl, (EAll.mono e7.ro E0), (by rfl), (by decide), (SRep.mono e7.ro f0), f1, f2⟩, trivial⟩)
 intro q0 w0 G1 M0 e0 h3 h4 h5 h8
 obtain ⟨v6, v7, hvs_, rfl, f3, f4, f5, f6, f7, f8⟩ := h4
 have hv6 := (List.cons.inj (List.cons.inj hvs_).2).1
 have hv3 := h8 1 (by decide)
 rw [J3 (ρ := q0) (l := [(0, (pt ba0 0)), (3, va0_1), (6, v6)]) ⟨(h5.1 0 (by decide)).trans rfl, hv3, hv6, trivial⟩]
 obtain ⟨Ga, h14, e8, fd⟩ := St.rowRep (l1 := []) (T := (tInt .i64)) (xs := [t0.1]) h3 f3 f4 f5
 obtain ⟨h15, hr⟩ := Ya hr
 refine Yf (l1 := [_, _, _]) (T := (tInt .i64)) (xs := [t0.1]) underlying39 ti3 h14 rfl rfl fd rfl rfl rfl (app_limN rfl h15) (app_leN rfl h15) ?_
 intro vc w3 n0 E1 h16
 have E2 := EAll.append (T := (tInt .i64)) (EAll.mono (e0.ro.trans e8.ro) ha0_1) E1
 refine Jfa 1 1 underlying44 rfl ti39 rfl rfl rfl rfl ?_
 refine Y5 (l1 := [_, _]) (v := vc) ti39 h16 rfl rfl (row_one (St.mid (l1 := [_, _, _]) h16)) rfl ?_
 intro w4 (h17 : St B w4 Ga [.blk ba1_0_0 [v7, (vi t0.2.2), (.bool a1_0_0_.live), (.bool a1_0_0_.bad)] 163, .blk ba1_0 [(pt ba1_0_0 0), (vi a1_0_1)] 169, .blk ba0 [(vi a0_0), vc, (vi a0_2), (.bool a0_3), (vi a0_4), (vi a0_5), va0_6, va0_7, va0_8] 44, .row vc 3 1 (a0_1.length + [t0.1].length) (ca0_1 ++ n0), .row va0_6 157 2 a0_6.length ca0_6, .row va0_7 54 5 a0_7.length ca0_7, .row va0_8 133 3 a0_8.length ca0_8, .blk ba1 [(pt ba1_0 0)] 167])
 refine J0 ?_
 have h18 := St.row_len (l1 := [_, _, _]) (k := (a0_1 ++ [t0.1]).length) (len_app rfl) h17
 have h19 := St.pick 7 rfl h18
 have h1a := St.pick 2 rfl h19
 have h1b := St.pick 2 rfl h1a
 have h1c := St.pick 3 rfl h1b
 have h1d := St.pick 7 rfl h1c
 have h1e := St.pick 7 rfl h1d
 have h1f := St.pick 7 rfl h1e
 have h1g := St.pick 7 rfl h1f
 obtain rfl := Option.some.inj hr
 exact ⟨[], trivial, _, _, _, rfl, (e0.trans e8), h1g, ⟨vc, va0_6, va0_7, va0_8, v7, (ca0_1 ++ n0), ca0_6, ca0_7, ca0_8, rfl, rfl, E2, (le_eq (m := (a0_1.length + [t0.1].length)) (len_app rfl) (app_leN rfl h15)), (EAll.mono (e0.ro.trans e8.ro) ha0_6), lha0_6, (EAll.mono (e0.ro.trans e8.ro) ha0_7), lha0_7, (EAll.mono (e0.ro.trans e8.ro) ha0_8), lha0_8, (SRep.mono e8.ro f6), f7⟩⟩
def fun_reader_yes.f (a0_0_ : Xoctet_Reader) (a0_1 : Int) : Option ((Bool × (List Int) × Int)) :=
 (fun_reader_num.f a0_0_ a0_1 1).bind fun t0 => bif decide (t0.1 > 1) then none else some (decide (t0.1 = 1), t0.2.1, t0.2.2)
def fun_reader_yes.K (ba0_0 : Nat) (a0_0_ : Xoctet_Reader) (ba0 : Nat) (a0_1 : Int) (r : (Bool × (List Int) × Int)) (G26 : GH) (v : Value) (N : List Res) : Prop := ∃ (v30 : Value), v = tup [(.bool r.1)] ∧ N = [.blk ba0_0 [v30, (vi r.2.2), (.bool a0_0_.live), (.bool a0_0_.bad)] 163, .blk ba0 [(pt ba0_0 0), (vi a0_1)] 169] ∧ SRep 5 (tInt .u8) G26 v30 r.2.1 ∧ InK .i64 r.2.2
theorem fun_reader_yes.ok {ba0 : Nat} {ba0_0 : Nat} {ca0_0_ : List Value} {a0_0_ : Xoctet_Reader} {a0_1 : Int} (st : St B w G [.blk ba0 [(pt ba0_0 0), (vi a0_1)] 169, .blk ba0_0 ca0_0_ 163]) (ha0_0_ : Toctet_Reader.rep G ca0_0_ a0_0_) (ha0_1 : InK .i64 a0_1) {r : (Bool × (List Int) × Int)} (hr : fun_reader_yes.f a0_0_ a0_1 = some r) :
 Calls Tryz.prog 121 ([(pt ba0 0)] : List Value).toArray w (Ret B G (fun_reader_yes.K ba0_0 a0_0_ ba0 a0_1 r)) := by
 obtain ⟨sa0_0__0, rfl, ha0_0__0, ha0_0__1⟩ := ha0_0_
 refine Jc [.tmp 2] func121 rfl ntmps121 rfl rfl ?_
 refine J2 (J1 ?_)
 refine Jsv (.bool false) rfl rfl ?_
 refine J0 (J2 (J1 ?_))
 refine Jmv (pt ba0 0) rfl rfl ?_
 have h0 := St.pick 1 rfl st
 have h1 := St.pick 1 rfl h0
 obtain ⟨t0, h2, hr⟩ := J6 hr
 refine Y6 (f := 118) (av := [(pt ba0 0), (vi 1)]) cf118 rfl rfl h1 rfl (fun G0 e0 h3 => fun_reader_num.ok (a0_0_ := a0_0_) h3 (⟨sa0_0__0, rfl, (SRep.mono e0.ro ha0_0__0), ha0_0__1⟩) ha0_1 (by rfl) h2) ?_
 rintro v0 w0 G1 G2 N0 e1 q0 ⟨v1, rfl, rfl, f0, f1, f2⟩ h4
 refine Jsv (vi t0.1) rfl rfl ?_
 refine J0 (J2 (J2 (J1 ?_)))
 refine Jmv (vi t0.1) rfl rfl ?_
 refine Yh rfl rfl rfl ?_
 refine J0 ?_
 refine J7 rfl (fun h5 => ?_) (fun h5 => ?_)
 ·exact Jk hr h5
 replace hr := Jf hr h5
 refine J9 (J2 (J1 ?_))
 refine Jmv (vi t0.1) rfl rfl ?_
 refine Y3 rfl rfl rfl ?_
 refine Jsv (.bool (decide (t0.1 = 1))) rfl rfl ?_
 refine J0 (Jg ?_)
 have h6 := St.pick 1 rfl h4
 have h7 := St.pick 1 rfl h6
 obtain rfl := Option.some.inj hr
 exact ⟨[(.bool (decide (t0.1 = 1)))], ⟨rfl, trivial⟩, _, _, _, rfl, e1, h7, ⟨v1, rfl, rfl, (SRep.mono q0 f1), f2⟩⟩
def fun_reader_many_s2.l0 (t0 : (Int × (List Int) × Int)) (s0 : Unit) : Option (Step Unit Unit) :=
 bif decide (0 < t0.1) then none else some (.done ())
def fun_reader_many_s2.f (a0_0_ : Xoctet_Reader) (a0_1 : Int) (a1_c0_0 : Int) (a1_c0_1 : (List Int)) (a1_c0_2 : Int) (a1_c0_3 : Bool) (a1_c0_4 : Int) (a1_c0_5 : Int) (a1_c0_6 : (List XLine)) (a1_c0_7 : (List XInstr)) (a1_c0_8 : (List XReloc)) : Option (((List Int) × Int × (List Int) × (List XLine) × (List XInstr) × (List XReloc))) :=
 (fun_reader_num.f a0_0_ a0_1 1).bind fun t0 => (loop (fun_reader_many_s2.l0 t0) ()).bind fun t1 => some (t0.2.1, t0.2.2, a1_c0_1, a1_c0_6, a1_c0_7, a1_c0_8)
def fun_reader_many_s2.K (ba0_0 : Nat) (a0_0_ : Xoctet_Reader) (ba0 : Nat) (a0_1 : Int) (ba1_c0 : Nat) (a1_c0_0 : Int) (a1_c0_2 : Int) (a1_c0_3 : Bool) (a1_c0_4 : Int) (a1_c0_5 : Int) (ba1_c1 : Nat) (r : ((List Int) × Int × (List Int) × (List XLine) × (List XInstr) × (List XReloc))) (G63 : GH) (v : Value) (N : List Res) : Prop := ∃ (v67 : Value) (v70 : Value) (v75 : Value) (v80 : Value) (v85 : Value) (c71 : List Value) (c76 : List Value) (c81 : List Value) (c86 : List Value), v = tup [] ∧ N = [.blk ba0_0 [v67, (vi r.2.1), (.bool a0_0_.live), (.bool a0_0_.bad)] 163, .blk ba0 [(pt ba0_0 0), (vi a0_1)] 169, .row v70 3 1 r.2.2.1.length c71, .row v75 157 2 r.2.2.2.1.length c76, .row v80 54 5 r.2.2.2.2.1.length c81, .row v85 133 3 r.2.2.2.2.2.length c86, .blk ba1_c0 [(vi a1_c0_0), v70, (vi a1_c0_2), (.bool a1_c0_3), (vi a1_c0_4), (vi a1_c0_5), v75, v80, v85] 44, .blk ba1_c1 [(pt ba0 0)] 167] ∧ SRep 5 (tInt .u8) G63 v67 r.1 ∧ InK .i64 r.2.1 ∧ EAll (tInt .i64) G63 c71 r.2.2.1 ∧ r.2.2.1.length ≤ SB ∧ EAll TLine G63 c76 r.2.2.2.1 ∧ r.2.2.2.1.length ≤ SB ∧ EAll TInstr G63 c81 r.2.2.2.2.1 ∧ r.2.2.2.2.1.length ≤ SB ∧ EAll TReloc G63 c86 r.2.2.2.2.2 ∧ r.2.2.2.2.2.length ≤ SB
theorem fun_reader_many_s2.ok {ba0 : Nat} {ba0_0 : Nat} {ca0_0_ : List Value} {a0_0_ : Xoctet_Reader} {a0_1 : Int} {ba1_c0 : Nat} {a1_c0_0 : Int} {va1_c0_1 : Value} {ca1_c0_1 : List Value} {a1_c0_1 : (List Int)} {a1_c0_2 : Int} {a1_c0_3 : Bool} {a1_c0_4 : Int} {a1_c0_5 : Int} {va1_c0_6 : Value} {ca1_c0_6 : List Value} {a1_c0_6 : (List XLine)} {va1_c0_7 : Value} {ca1_c0_7 : List Value} {a1_c0_7 : (List XInstr)} {va1_c0_8 : Value} {ca1_c0_8 : List Value} {a1_c0_8 : (List XReloc)} {ba1_c1 : Nat} (st : St B w G [.blk ba0 [(pt ba0_0 0), (vi a0_1)] 169, .blk ba0_0 ca0_0_ 163, .blk ba1_c0 [(vi a1_c0_0), va1_c0_1, (vi a1_c0_2), (.bool a1_c0_3), (vi a1_c0_4), (vi a1_c0_5), va1_c0_6, va1_c0_7, va1_c0_8] 44, .row va1_c0_1 3 1 a1_c0_1.length ca1_c0_1, .row va1_c0_6 157 2 a1_c0_6.length ca1_c0_6, .row va1_c0_7 54 5 a1_c0_7.length ca1_c0_7, .row va1_c0_8 133 3 a1_c0_8.length ca1_c0_8, .blk ba1_c1 [(pt ba0 0)] 167]) (ha0_0_ : Toctet_Reader.rep G ca0_0_ a0_0_) (ha0_1 : InK .i64 a0_1) (ha1_c0_0 : InK .i64 a1_c0_0) (ha1_c0_1 : EAll (tInt .i64) G ca1_c0_1 a1_c0_1) (lha1_c0_1 : a1_c0_1.length ≤ SB) (ha1_c0_2 : InK .i64 a1_c0_2) (ha1_c0_4 : InK .i64 a1_c0_4) (ha1_c0_5 : InK .i64 a1_c0_5) (ha1_c0_6 : EAll TLine G ca1_c0_6 a1_c0_6) (lha1_c0_6 : a1_c0_6.length ≤ SB) (ha1_c0_7 : EAll TInstr G ca1_c0_7 a1_c0_7) (lha1_c0_7 : a1_c0_7.length ≤ SB) (ha1_c0_8 : EAll TReloc G ca1_c0_8 a1_c0_8) (lha1_c0_8 : a1_c0_8.length ≤ SB) {r : ((List Int) × Int × (List Int) × (List XLine) × (List XInstr) × (List XReloc))} (hr : fun_reader_many_s2.f a0_0_ a0_1 a1_c0_0 a1_c0_1 a1_c0_2 a1_c0_3 a1_c0_4 a1_c0_5 a1_c0_6 a1_c0_7 a1_c0_8 = some r) :
 Calls Tryz.prog 119 ([(pt ba0 0), (.func (.func 122) #[] #[(pt ba1_c0 0), (pt ba1_c1 0)])] : List Value).toArray w (Ret B G (fun_reader_many_s2.K ba0_0 a0_0_ ba0 a0_1 ba1_c0 a1_c0_0 a1_c0_2 a1_c0_3 a1_c0_4 a1_c0_5 ba1_c1 r)) := by
 obtain ⟨sa0_0__0, rfl, ha0_0__0, ha0_0__1⟩ := ha0_0_
 refine Jc [] func119 rfl ntmps119 rfl rfl ?_
 refine J2 (J1 ?_)
 refine Jmv (pt ba0 0) rfl rfl ?_
 have h0 := St.pick 1 rfl st
 have h1 := St.pick 1 rfl h0
 obtain ⟨t0, h2, hr⟩ := J6 hr
 refine Y6 (f := 118) (av := [(pt ba0 0), (vi 1)]) cf118 rfl rfl h1 rfl (fun G0 e0 h3 => fun_reader_num.ok (a0_0_ := a0_0_) h3 (⟨sa0_0__0, rfl, (SRep.mono e0.ro ha0_0__0), ha0_0__1⟩) ha0_1 (by rfl) h2) ?_
 rintro v0 w0 G1 G2 N0 e1 q0 ⟨v1, rfl, rfl, f0, f1, f2⟩ h4
 refine Jmv (vi 0) rfl rfl ?_
 refine J0 (Jb ?_)
 obtain ⟨t1, h5, hr⟩ := J6 hr
 have h6 := St.pick 7 rfl h4
 have h7 := St.pick 3 rfl h6
 have h8 := St.pick 7 rfl h7
 have h9 := St.pick 7 rfl h8
 have h10 := St.pick 7 rfl h9
 have h11 := St.pick 7 rfl h10
 have h12 := St.pick 7 rfl h11
 have h13 := St.pick 7 rfl h12
 refine Js 0 h5 (fun s0 ρ w => ∃ (σ0 : Env) (G3 : GH), ρ = En σ0 [(0, (pt ba0 0)), (1, (.func (.func 122) #[] #[(pt ba1_c0 0), (pt ba1_c1 0)])), (5, (vi t0.1)), (6, (vi 0))] ∧ Ext G2 G3 ∧ St B w G3 [.blk ba0_0 [v1, (vi t0.2.2), (.bool a0_0_.live), (.bool a0_0_.bad)] 163, .blk ba0 [(pt ba0_0 0), (vi a0_1)] 169, .row va1_c0_1 3 1 a1_c0_1.length ca1_c0_1, .row va1_c0_6 157 2 a1_c0_6.length ca1_c0_6, .row va1_c0_7 54 5 a1_c0_7.length ca1_c0_7, .row va1_c0_8 133 3 a1_c0_8.length ca1_c0_8, .blk ba1_c0 [(vi a1_c0_0), va1_c0_1, (vi a1_c0_2), (.bool a1_c0_3), (vi a1_c0_4), (vi a1_c0_5), va1_c0_6, va1_c0_7, va1_c0_8] 44, .blk ba1_c1 [(pt ba0 0)] 167]) (fun t2 ρ w => ∃ (σ1 : Env) (G4 : GH), ρ = En σ1 [] ∧ Ext G2 G4 ∧ St B w G4 [.blk ba0_0 [v1, (vi t0.2.2), (.bool a0_0_.live), (.bool a0_0_.bad)] 163, .blk ba0 [(pt ba0_0 0), (vi a0_1)] 169, .row va1_c0_1 3 1 a1_c0_1.length ca1_c0_1, .row va1_c0_6 157 2 a1_c0_6.length ca1_c0_6, .row va1_c0_7 54 5 a1_c0_7.length ca1_c0_7, .row va1_c0_8 133 3 a1_c0_8.length ca1_c0_8, .blk ba1_c0 [(vi a1_c0_0), va1_c0_1, (vi a1_c0_2), (.bool a1_c0_3), (vi a1_c0_4), (vi a1_c0_5), va1_c0_6, va1_c0_7, va1_c0_8] 44, .blk ba1_c1 [(pt ba0 0)] 167]) ⟨_, _, (J3 ⟨rfl, rfl, rfl, rfl, trivial⟩), (Ext.refl _), h13⟩ ?_ ?_
 ·rintro s0 x0 _ _ hr ⟨σ0, G3, rfl, e2, h14⟩
  refine J2 (J1 ?_)
  refine Ji rfl rfl rfl ?_
  refine J0 (J2 ?_)
  refine J7 rfl (fun h15 => ?_) (fun h15 => ?_)
  ·exact Jk hr h15
  replace hr := Jf hr h15
  refine Jr ?_
  have h16 := St.pick 7 rfl h14
  have h17 := St.pick 7 rfl h16
  have h18 := St.pick 7 rfl h17
  have h19 := St.pick 7 rfl h18
  have h1a := St.pick 7 rfl h19
  have h1b := St.pick 7 rfl h1a
  have h1c := St.pick 7 rfl h1b
  have h1d := St.pick 7 rfl h1c
  exact ⟨_, (Option.some.inj hr).symm, rfl, _, _, rfl, e2, h1d⟩
 rintro _ _ ⟨σ1, G4, rfl, e3, h1e⟩
 have h1f := St.pick 7 rfl h1e
 have h1g := St.pick 7 rfl h1f
 have h1h := St.pick 7 rfl h1g
 have h1i := St.pick 7 rfl h1h
 have h1j := St.pick 7 rfl h1i
 have h1k := St.pick 7 rfl h1j
 have h1l := St.pick 7 rfl h1k
 have h1m := St.pick 7 rfl h1l
 obtain rfl := Option.some.inj hr
 exact ⟨[], trivial, _, _, _, rfl, (e1.trans e3), h1m, ⟨v1, va1_c0_1, va1_c0_6, va1_c0_7, va1_c0_8, ca1_c0_1, ca1_c0_6, ca1_c0_7, ca1_c0_8, rfl, rfl, (SRep.mono e3.ro (SRep.mono q0 f1)), f2, (EAll.mono (e1.ro.trans e3.ro) ha1_c0_1), lha1_c0_1, (EAll.mono (e1.ro.trans e3.ro) ha1_c0_6), lha1_c0_6, (EAll.mono (e1.ro.trans e3.ro) ha1_c0_7), lha1_c0_7, (EAll.mono (e1.ro.trans e3.ro) ha1_c0_8), lha1_c0_8⟩⟩
def instr_read.f (a0_ : Xoctet_Reader) (a1 : Int) : Option ((Int × (List Int) × Int)) :=
 (octet_Reader_Num_s2.f a0_ a1).bind fun t0 => some (t0.1, t0.2.1, t0.2.2)
def instr_read.K (ba0 : Nat) (a0_ : Xoctet_Reader) (r : (Int × (List Int) × Int)) (G20 : GH) (v : Value) (N : List Res) : Prop := ∃ (v25 : Value), v = tup [(vi r.1)] ∧ N = [.blk ba0 [v25, (vi r.2.2), (.bool a0_.live), (.bool a0_.bad)] 163] ∧ InK .i64 r.1 ∧ SRep 5 (tInt .u8) G20 v25 r.2.1 ∧ InK .i64 r.2.2
theorem instr_read.ok {ba0 : Nat} {ca0_ : List Value} {a0_ : Xoctet_Reader} {a1 : Int} (st : St B w G [.blk ba0 ca0_ 163]) (ha0_ : Toctet_Reader.rep G ca0_ a0_) (ha1 : InK .i64 a1) {r : (Int × (List Int) × Int)} (hr : instr_read.f a0_ a1 = some r) :
 Calls Tryz.prog 178 ([(pt ba0 0), (vi a1), (.func (.func 110) #[] #[])] : List Value).toArray w (Ret B G (instr_read.K ba0 a0_ r)) := by
 obtain ⟨sa0__0, rfl, ha0__0, ha0__1⟩ := ha0_
 refine Jc [.tmp 6] func178 rfl ntmps178 rfl rfl ?_
 refine J2 (J1 ?_)
 refine Jsv (vi 0) rfl rfl ?_
 refine J0 (J2 (J1 ?_))
 refine Jmv (.func (.func 110) #[] #[]) rfl rfl ?_
 refine Jmv (pt ba0 0) rfl rfl ?_
 refine Jmv (vi a1) rfl rfl ?_
 obtain ⟨t0, h0, hr⟩ := J6 hr
 refine Jn (f := 110) (av := [(pt ba0 0), (vi a1)]) cf110 rfl rfl st rfl (fun G0 e0 h1 => octet_Reader_Num_s2.ok (a0_ := a0_) h1 (⟨sa0__0, rfl, (SRep.mono e0.ro ha0__0), ha0__1⟩) ha1 h0) ?_
 rintro v0 w0 G1 G2 N0 e1 q0 ⟨v1, rfl, rfl, f0, f1, f2⟩ h2
 refine Jsv (vi t0.1) rfl rfl ?_
 refine J0 (Jg ?_)
 obtain rfl := Option.some.inj hr
 exact ⟨[(vi t0.1)], ⟨rfl, trivial⟩, _, _, _, rfl, e1, h2, ⟨v1, rfl, rfl, f0, (SRep.mono q0 f1), f2⟩⟩
def instr_read_s2.f (a0_ : Xoctet_Reader) (a1 : Int) : Option ((Int × (List Int) × Int)) :=
 (octet_Reader_Signed.f a0_ a1).bind fun t0 => some (t0.1, t0.2.1, t0.2.2)
def instr_read_s2.K (ba0 : Nat) (a0_ : Xoctet_Reader) (r : (Int × (List Int) × Int)) (G20 : GH) (v : Value) (N : List Res) : Prop := ∃ (v25 : Value), v = tup [(vi r.1)] ∧ N = [.blk ba0 [v25, (vi r.2.2), (.bool a0_.live), (.bool a0_.bad)] 163] ∧ InK .i64 r.1 ∧ SRep 5 (tInt .u8) G20 v25 r.2.1 ∧ InK .i64 r.2.2
theorem instr_read_s2.ok {ba0 : Nat} {ca0_ : List Value} {a0_ : Xoctet_Reader} {a1 : Int} (st : St B w G [.blk ba0 ca0_ 163]) (ha0_ : Toctet_Reader.rep G ca0_ a0_) (ha1 : InK .i64 a1) {r : (Int × (List Int) × Int)} (hr : instr_read_s2.f a0_ a1 = some r) :
 Calls Tryz.prog 178 ([(pt ba0 0), (vi a1), (.func (.func 116) #[] #[])] : List Value).toArray w (Ret B G (instr_read_s2.K ba0 a0_ r)) := by
 obtain ⟨sa0__0, rfl, ha0__0, ha0__1⟩ := ha0_
 refine Jc [.tmp 6] func178 rfl ntmps178 rfl rfl ?_
 refine J2 (J1 ?_)
 refine Jsv (vi 0) rfl rfl ?_
 refine J0 (J2 (J1 ?_))
 refine Jmv (.func (.func 116) #[] #[]) rfl rfl ?_
 refine Jmv (pt ba0 0) rfl rfl ?_
 refine Jmv (vi a1) rfl rfl ?_
 obtain ⟨t0, h0, hr⟩ := J6 hr
 refine Jn (f := 116) (av := [(pt ba0 0), (vi a1)]) cf116 rfl rfl st rfl (fun G0 e0 h1 => octet_Reader_Signed.ok (a0_ := a0_) h1 (⟨sa0__0, rfl, (SRep.mono e0.ro ha0__0), ha0__1⟩) ha1 h0) ?_
 rintro v0 w0 G1 G2 N0 e1 q0 ⟨v1, rfl, rfl, f0, f1, f2⟩ h2
 refine Jsv (vi t0.1) rfl rfl ?_
 refine J0 (Jg ?_)
 obtain rfl := Option.some.inj hr
 exact ⟨[(vi t0.1)], ⟨rfl, trivial⟩, _, _, _, rfl, e1, h2, ⟨v1, rfl, rfl, f0, (SRep.mono q0 f1), f2⟩⟩
def instr_Get.l0 (a0_ : Xoctet_Reader) (s0 : ((List Int) × Int × (List Int) × Nat)) : Option (Step ((List Int) × Int × (List Int) × Nat) ((List Int) × Int × (List Int))) :=
 bif decide (((s0.2.2.2 : Nat) : Int) < 4) then (instr_read.f ({ b := s0.1, at_ := s0.2.1, live := a0_.live, bad := a0_.bad } : Xoctet_Reader) 1).bind fun t0 => bif (decide (0 ≤ ((s0.2.2.2 : Nat) : Int)) && decide (((s0.2.2.2 : Nat) : Int) < 4)) then some (.next (t0.2.1, t0.2.2, (List.set s0.2.2.1 (Int.toNat (((s0.2.2.2 : Nat) : Int))) t0.1), s0.2.2.2 + 1)) else none else some (.done (s0.1, s0.2.1, s0.2.2.1))
def instr_Get.f (a0_ : Xoctet_Reader) : Option ((Int × Int × Int × Int × Int × (List Int) × Int)) :=
 (octet_Reader_Left_s2.f a0_).bind fun t1 => (bif decide (t1 < 8) then none else (octet_Reader_Bad_s2.f a0_).bind fun t2 => some a0_.b).bind fun t3 => bif a0_.bad then none else (loop (instr_Get.l0 a0_) (t3, a0_.at_, [0, 0, 0, 0], 0)).bind fun t4 => (instr_read_s2.f ({ b := t4.1, at_ := t4.2.1, live := a0_.live, bad := a0_.bad } : Xoctet_Reader) 4).bind fun t5 => (idx t4.2.2 0).bind fun x0 => (idx t4.2.2 1).bind fun x1 => (idx t4.2.2 2).bind fun x2 => (idx t4.2.2 3).bind fun x3 => (instr_Check.f ({ Op := x0, A := x1, B := x2, C := x3, N := t5.1 } : XInstr)).bind fun t6 => some (x0, x1, x2, x3, t5.1, t5.2.1, t5.2.2)
def instr_Get.K (ba0 : Nat) (a0_ : Xoctet_Reader) (r : (Int × Int × Int × Int × Int × (List Int) × Int)) (G0 : GH) (v : Value) (N : List Res) : Prop := ∃ (v0 : Value), v = tup [(.agg #[(vi r.1), (vi r.2.1), (vi r.2.2.1), (vi r.2.2.2.1), (vi r.2.2.2.2.1)]), (vi 0)] ∧ N = [.blk ba0 [v0, (vi r.2.2.2.2.2.2), (.bool a0_.live), (.bool a0_.bad)] 163] ∧ InK .i64 r.1 ∧ InK .i64 r.2.1 ∧ InK .i64 r.2.2.1 ∧ InK .i64 r.2.2.2.1 ∧ InK .i64 r.2.2.2.2.1 ∧ SRep 5 (tInt .u8) G0 v0 r.2.2.2.2.2.1 ∧ InK .i64 r.2.2.2.2.2.2
theorem instr_Get.ok {ba0 : Nat} {ca0_ : List Value} {a0_ : Xoctet_Reader} (st : St B w G [.blk ba0 ca0_ 163]) (ha0_ : Toctet_Reader.rep G ca0_ a0_) {r : (Int × Int × Int × Int × Int × (List Int) × Int)} (hr : instr_Get.f a0_ = some r) :
 Calls Tryz.prog 124 ([(pt ba0 0)] : List Value).toArray w (Ret B G (instr_Get.K ba0 a0_ r)) := by
 obtain ⟨sa0__0, rfl, ha0__0, ha0__1⟩ := ha0_
 refine Jc [.cell 2 54, .tmp 3] func124 rfl ntmps124 rfl rfl ?_
 refine J2 (J1 ?_)
 refine Jo ti54 st rfl ?_
 intro b0 w0 h0
 refine Jsv (vi 0) rfl rfl ?_
 refine J0 (J2 (J2 (J1 ?_)))
 refine Jmv (pt ba0 0) rfl rfl ?_
 have h1 := St.pick 1 rfl h0
 obtain ⟨t1, h2, hr⟩ := J6 hr
 refine Jn (f := 67) (av := [(pt ba0 0)]) cf67 rfl rfl h1 rfl (fun G1 e0 h3 => octet_Reader_Left_s2.ok (a0_ := a0_) h3 (⟨sa0__0, rfl, (SRep.mono e0.ro ha0__0), ha0__1⟩) h2) ?_
 rintro v1 w1 G2 G3 N0 e1 q0 ⟨v2, rfl, rfl, f0, f1⟩ h4
 refine Ji rfl rfl rfl ?_
 refine Jmv (.bool (decide (t1 < 8))) rfl rfl ?_
 obtain ⟨t3, hr, o0⟩ := J6 hr
 refine Jw 3 (fun ρ w => ∃ (σ0 : Env) (G4 : GH) (v3 : Value), ρ = En σ0 [(0, (pt ba0 0)), (2, (pt b0 0)), (14, (.bool a0_.bad))] ∧ Ext G3 G4 ∧ St B w G4 [.blk ba0 [v3, (vi a0_.at_), (.bool a0_.live), (.bool a0_.bad)] 163, .blk b0 [(vi 0), (vi 0), (vi 0), (vi 0), (vi 0)] 54] ∧ SRep 5 (tInt .u8) G4 v3 t3) ?_ ?_
 ·rcases Y8 (decide (t1 < 8)) with hb_ | hb_
  ·exact Jk hr hb_
  have h5 : (decide (t1 < 8)) = false := hb_
  replace hr := Jf hr h5
  refine Ja rfl rfl rfl rfl h5 ?_
  refine Jmv (pt ba0 0) rfl rfl ?_
  refine Ja rfl rfl rfl rfl h5 ?_
  obtain ⟨t2, h6, hr⟩ := J6 hr
  refine Jn (f := 113) (av := [(pt ba0 0)]) cf113 rfl rfl h4 rfl (fun G5 e2 h7 => octet_Reader_Bad_s2.ok (a0_ := a0_) h7 (⟨v2, rfl, (SRep.mono e2.ro (SRep.mono q0 f1)), ha0__1⟩) h6) ?_
  rintro v4 w2 G6 G7 N1 e3 q1 ⟨v5, rfl, rfl, f2⟩ h8
  refine Jt (v := (.bool a0_.bad)) rfl rfl h5 rfl ?_
  refine J0 ?_
  have h9 := St.pick 1 rfl h8
  have h10 := St.pick 1 rfl h9
  obtain rfl := Option.some.inj hr
  exact ⟨_, _, v5, (J3 ⟨rfl, rfl, rfl, trivial⟩), e3, h10, (SRep.mono q1 f2)⟩
 rintro _ _ ⟨σ0, G4, v3, rfl, e4, h11, f3⟩
 replace hr := o0
 refine J0 ?_
 refine J7 rfl (fun h12 => ?_) (fun h12 => ?_)
 ·exact Jk hr h12
 replace hr := Jf hr h12
 refine J9 (J2 (J1 ?_))
 refine Jo ti226 h11 rfl ?_
 intro b1 w3 h13
 have f4 : EAll (tInt .i64) G4 [(vi 0), (vi 0), (vi 0), (vi 0)] [0, 0, 0, 0] := ⟨_, _, rfl, ⟨rfl, rfl⟩, ⟨_, _, rfl, ⟨rfl, rfl⟩, ⟨_, _, rfl, ⟨rfl, rfl⟩, ⟨_, _, rfl, ⟨rfl, rfl⟩, rfl⟩⟩⟩⟩
 refine J0 (J2 (J2 (J1 ?_)))
 refine Jmv (vi 0) rfl rfl ?_
 refine J0 (Jb ?_)
 obtain ⟨t4, h14, hr⟩ := J6 hr
 have h15 := St.pick 2 rfl h13
 have h16 := St.pick 2 rfl h15
 refine Js 0 h14 (fun s0 ρ w => ∃ (σ1 : Env) (G8 : GH) (v6 : Value) (c0 : List Value), ρ = En σ1 [(0, (pt ba0 0)), (2, (pt b0 0)), (4, (pt b1 0)), (18, (vi ((s0.2.2.2 : Nat) : Int)))] ∧ Ext G4 G8 ∧ St B w G8 [.blk ba0 [v6, (vi s0.2.1), (.bool a0_.live), (.bool a0_.bad)] 163, .blk b0 [(vi 0), (vi 0), (vi 0), (vi 0), (vi 0)] 54, .blk b1 c0 226] ∧ SRep 5 (tInt .u8) G8 v6 s0.1 ∧ InK .i64 s0.2.1 ∧ EAll (tInt .i64) G8 c0 s0.2.2.1 ∧ c0.length = 4 ∧ InK .i64 ((s0.2.2.2 : Nat) : Int)) (fun t7 ρ w => ∃ (σ2 : Env) (G9 : GH) (v7 : Value) (c1 : List Value), ρ = En σ2 [(0, (pt ba0 0)), (2, (pt b0 0)), (4, (pt b1 0))] ∧ Ext G4 G9 ∧ St B w G9 [.blk ba0 [v7, (vi t7.2.1), (.bool a0_.live), (.bool a0_.bad)] 163, .blk b0 [(vi 0), (vi 0), (vi 0), (vi 0), (vi 0)] 54, .blk b1 c1 226] ∧ SRep 5 (tInt .u8) G9 v7 t7.1 ∧ InK .i64 t7.2.1 ∧ EAll (tInt .i64) G9 c1 t7.2.2 ∧ c1.length = 4) ⟨_, _, v3, [(vi 0), (vi 0), (vi 0), (vi 0)], (J3 ⟨rfl, rfl, rfl, rfl, trivial⟩), (Ext.refl _), h16, f3, ha0__1, f4, rfl, (by rfl)⟩ ?_ ?_
 ·rintro s0 x4 _ _ hr ⟨σ1, G8, v6, c0, rfl, e5, h17, f5, f6, f7, f8, f9⟩
  refine J2 (J1 ?_)
  refine Ji rfl rfl rfl ?_
  refine J0 (J2 ?_)
  refine J7 rfl (fun h18 => ?_) (fun h18 => ?_)
  ·replace hr := Jx hr h18
   refine J9 (J2 (Jb (J2 (J1 ?_))))
   refine Jmv (vi ((s0.2.2.2 : Nat) : Int)) rfl rfl ?_
   refine Jsv (vi ((s0.2.2.2 : Nat) : Int)) rfl rfl ?_
   refine J0 (J1 ?_)
   refine Jmv (vi ((s0.2.2.2 : Nat) : Int)) rfl rfl ?_
   refine Jmv (pt ba0 0) rfl rfl ?_
   obtain ⟨t0, h19, hr⟩ := J6 hr
   refine Jn (f := 178) (av := [(pt ba0 0), (vi 1), (.func (.func 110) #[] #[])]) cf178 rfl rfl h17 rfl (fun Ga e6 h1a => instr_read.ok (a0_ := ({ b := s0.1, at_ := s0.2.1, live := a0_.live, bad := a0_.bad } : Xoctet_Reader)) h1a (⟨v6, rfl, (SRep.mono e6.ro f5), f6⟩) (by rfl) h19) ?_
   rintro v8 w4 Gb Gc N2 e7 q2 ⟨v9, rfl, rfl, fa, fb, fc⟩ h1b
   obtain ⟨h1c, hr⟩ := Ya hr
   refine Yb underlying226 ti3 rfl rfl rfl (of_decide_eq_true (band h1c).1) (of_decide_eq_true (band h1c).2) ?_
   refine WL_storeArr (l1 := [_, _]) (T := (tInt .i64)) (xs := s0.2.2.1) (u := t0.1) ti3 rfl h1b (EAll.mono e7.ro f7) rfl rfl ⟨rfl, fa⟩ (arr_lt f8 (EAll.mono e7.ro f7) h1c) ?_
   intro w5 h1d fd
   refine J0 (J1 ?_)
   refine Y2 rfl rfl rfl (of_decide_eq_true h18) rfl ?_
   refine Jmv (vi ((s0.2.2.2 + 1 : Nat) : Int)) rfl rfl ?_
   refine J0 ?_
   have h1e := St.pick 2 rfl h1d
   have h1f := St.pick 2 rfl h1e
   have h1g := St.pick 2 rfl h1f
   exact ⟨_, (Option.some.inj hr).symm, _, _, v9, (List.set c0 (Int.toNat (((s0.2.2.2 : Nat) : Int))) (vi t0.1)), (J3 ⟨rfl, rfl, rfl, rfl, trivial⟩), (e5.trans e7), h1g, (SRep.mono q2 fb), fc, fd, ((List.length_set ..).trans f8), (inK_inc (of_decide_eq_true h18) rfl)⟩
  replace hr := Jf hr h18
  refine Jr ?_
  have h1h := St.pick 2 rfl h17
  have h1i := St.pick 2 rfl h1h
  have h1j := St.pick 2 rfl h1i
  exact ⟨_, (Option.some.inj hr).symm, rfl, _, _, v6, c0, (J3 ⟨rfl, rfl, rfl, trivial⟩), e5, h1j, f5, f6, f7, f8⟩
 rintro _ _ ⟨σ2, G9, v7, c1, rfl, e8, h1k, fe, ff, fg, fh⟩
 refine J2 ?_
 obtain ⟨t5, h1l, hr⟩ := J6 hr
 obtain ⟨x0, h1m, hr⟩ := J6 hr
 obtain ⟨x1, h1n, hr⟩ := J6 hr
 obtain ⟨x2, h1o, hr⟩ := J6 hr
 obtain ⟨x3, h1p, hr⟩ := J6 hr
 refine W_drawA 12 [some 26, some 27, some 28, some 29, some 30, some 31, some 32, some 33, some 34, some 35, some 36, some 6] [9] [Kind.q, Kind.q, Kind.q, Kind.q, Kind.q, Kind.q, Kind.q, Kind.q, Kind.q, Kind.c 0, Kind.q, Kind.a [(vi 0), (vi 0), (vi 0), (vi 0), (vi 0)] 54] (pkT [(fun vs_ G_ M_ => vs_ = [] ∧ M_ = [.blk ba0 [v7, (vi t4.2.1), (.bool a0_.live), (.bool a0_.bad)] 163, .blk b0 [(vi 0), (vi 0), (vi 0), (vi 0), (vi 0)] 54, .blk b1 c1 226]), (fun vs_ G_ M_ => ∃ (va : Value), vs_ = [(vi t5.1)] ∧ M_ = [.blk ba0 [va, (vi t5.2.2), (.bool a0_.live), (.bool a0_.bad)] 163, .blk b0 [(vi 0), (vi 0), (vi 0), (vi 0), (vi 0)] 54, .blk b1 c1 226] ∧ SRep 5 (tInt .u8) G_ va t5.2.1 ∧ InK .i64 t5.2.2 ∧ InK .i64 t5.1)]) (pk [(fun G_ v_ => v_ = (pt b1 0)), (fun G_ v_ => v_ = (vi x0) ∧ InK .i64 x0), (fun G_ v_ => v_ = (pt b1 1)), (fun G_ v_ => v_ = (vi x1) ∧ InK .i64 x1), (fun G_ v_ => v_ = (pt b1 2)), (fun G_ v_ => v_ = (vi x2) ∧ InK .i64 x2), (fun G_ v_ => v_ = (pt b1 3)), (fun G_ v_ => v_ = (vi x3) ∧ InK .i64 x3), (fun G_ v_ => v_ = (pt ba0 0)), (fun _ _ => True), (fun G_ v_ => v_ = (.agg #[(vi x0), (vi x1), (vi x2), (vi x3), (vi t5.1)]) ∧ InK .i64 x0 ∧ InK .i64 x1 ∧ InK .i64 x2 ∧ InK .i64 x3 ∧ InK .i64 t5.1), (fun G_ v_ => ∃ b_ : Nat, v_ = .pointer (some ⟨b_, 0, none⟩))]) rfl (by kernel_rfl) rfl (by kernel_rfl) [] (by kernel_rfl) rfl h1k (fun _ _ => ⟨rfl, rfl⟩) ?_ ?_
 ·refine Each2.cons ?_ (Each2.cons ?_ (Each2.cons ?_ (Each2.cons ?_ (Each2.cons ?_ (Each2.cons ?_ (Each2.cons ?_ (Each2.cons ?_ (Each2.cons ?_ (Each2.cons ?_ (Each2.cons ?_ (Each2.cons ?_ Each2.nil)))))))))))
  ·intro k0 q3 w6 Gd M0 A0 h1q h1r _ e9 h1s h1t h1u h1v h1w h1x
   replace h1x := Facts.imp (fun j hj => hj _ (Ext.refl _)) h1x
   have h2_ : k0 ≤ 1 := h1q
   rcases (show k0 = 0 ∨ k0 = 1 from by omega) with rfl | rfl
   ·obtain ⟨hvs_, rfl⟩ := h1t Gd (Ext.refl _)
    rw [J3 (ρ := q3) (l := [(4, (pt b1 0))]) ⟨(h1u.1 4 (by decide)).trans rfl, trivial⟩]
    refine Yb underlying226 ti3 rfl rfl rfl (by decide) (by decide) ?_
    change WL _ _ _ _ _ _ (upd _ _ (pt b1 0)) _
    exact J0 (q_doneA (Ext.refl _) h1s fun Ge ea => rfl)
   obtain ⟨va, hvs_, rfl, fj, fk, fl⟩ := h1t Gd (Ext.refl _)
   have hv35 := (List.cons.inj hvs_).1
   rw [J3 (ρ := q3) (l := [(4, (pt b1 0)), (35, (vi t5.1))]) ⟨(h1u.1 4 (by decide)).trans rfl, hv35, trivial⟩]
   refine Yb underlying226 ti3 rfl rfl rfl (by decide) (by decide) ?_
   change WL _ _ _ _ _ _ (upd _ _ (pt b1 0)) _
   exact J0 (q_doneA (Ext.refl _) h1s fun Ge ea => rfl)
  ·intro k0 q3 w6 Gd M0 A0 h1q h1r _ e9 h1s h1t h1u h1v h1w h1x
   replace h1x := Facts.imp (fun j hj => hj _ (Ext.refl _)) h1x
   have h2_ : k0 ≤ 1 := h1q
   rcases (show k0 = 0 ∨ k0 = 1 from by omega) with rfl | rfl
   ·obtain ⟨hvs_, rfl⟩ := h1t Gd (Ext.refl _)
    obtain ⟨hd0_, _⟩ := h1x
    have hv26 := hd0_
    rw [J3 (ρ := q3) (l := [(26, (pt b1 0))]) ⟨hv26, trivial⟩]
    refine WL_loadArr (l1 := [_, _]) (T := (tInt .i64)) ti3 rfl h1s (EAll.mono e9.ro fg) rfl rfl h1m ?_
    intro c2 fm
    obtain ⟨rfl, fn⟩ := one_int fm
    exact J0 (q_doneA (Ext.refl _) h1s fun Gf eb => ⟨rfl, fn⟩)
   obtain ⟨va, hvs_, rfl, fj, fk, fl⟩ := h1t Gd (Ext.refl _)
   have hv35 := (List.cons.inj hvs_).1
   obtain ⟨hd0_, _⟩ := h1x
   have hv26 := hd0_
   rw [J3 (ρ := q3) (l := [(26, (pt b1 0)), (35, (vi t5.1))]) ⟨hv26, hv35, trivial⟩]
   refine WL_loadArr (l1 := [_, _]) (T := (tInt .i64)) ti3 rfl h1s (EAll.mono e9.ro fg) rfl rfl h1m ?_
   intro c2 fm
   obtain ⟨rfl, fn⟩ := one_int fm
   exact J0 (q_doneA (Ext.refl _) h1s fun Gf eb => ⟨rfl, fn⟩)
  ·intro k0 q3 w6 Gd M0 A0 h1q h1r _ e9 h1s h1t h1u h1v h1w h1x
   replace h1x := Facts.imp (fun j hj => hj _ (Ext.refl _)) h1x
   have h2_ : k0 ≤ 1 := h1q
   rcases (show k0 = 0 ∨ k0 = 1 from by omega) with rfl | rfl
   ·obtain ⟨hvs_, rfl⟩ := h1t Gd (Ext.refl _)
    rw [J3 (ρ := q3) (l := [(4, (pt b1 0))]) ⟨(h1u.1 4 (by decide)).trans rfl, trivial⟩]
    refine Yb underlying226 ti3 rfl rfl rfl (by decide) (by decide) ?_
    change WL _ _ _ _ _ _ (upd _ _ (pt b1 1)) _
    exact J0 (q_doneA (Ext.refl _) h1s fun Gg ec => rfl)
   obtain ⟨va, hvs_, rfl, fj, fk, fl⟩ := h1t Gd (Ext.refl _)
   have hv35 := (List.cons.inj hvs_).1
   rw [J3 (ρ := q3) (l := [(4, (pt b1 0)), (35, (vi t5.1))]) ⟨(h1u.1 4 (by decide)).trans rfl, hv35, trivial⟩]
   refine Yb underlying226 ti3 rfl rfl rfl (by decide) (by decide) ?_
   change WL _ _ _ _ _ _ (upd _ _ (pt b1 1)) _
   exact J0 (q_doneA (Ext.refl _) h1s fun Gg ec => rfl)
  ·intro k0 q3 w6 Gd M0 A0 h1q h1r _ e9 h1s h1t h1u h1v h1w h1x
   replace h1x := Facts.imp (fun j hj => hj _ (Ext.refl _)) h1x
   have h2_ : k0 ≤ 1 := h1q
   rcases (show k0 = 0 ∨ k0 = 1 from by omega) with rfl | rfl
   ·obtain ⟨hvs_, rfl⟩ := h1t Gd (Ext.refl _)
    obtain ⟨hd0_, _⟩ := h1x
    have hv28 := hd0_
    rw [J3 (ρ := q3) (l := [(28, (pt b1 1))]) ⟨hv28, trivial⟩]
    refine WL_loadArr (l1 := [_, _]) (T := (tInt .i64)) ti3 rfl h1s (EAll.mono e9.ro fg) rfl rfl h1n ?_
    intro c3 fo
    obtain ⟨rfl, fp⟩ := one_int fo
    exact J0 (q_doneA (Ext.refl _) h1s fun Gh ed => ⟨rfl, fp⟩)
   obtain ⟨va, hvs_, rfl, fj, fk, fl⟩ := h1t Gd (Ext.refl _)
   have hv35 := (List.cons.inj hvs_).1
   obtain ⟨hd0_, _⟩ := h1x
   have hv28 := hd0_
   rw [J3 (ρ := q3) (l := [(28, (pt b1 1)), (35, (vi t5.1))]) ⟨hv28, hv35, trivial⟩]
   refine WL_loadArr (l1 := [_, _]) (T := (tInt .i64)) ti3 rfl h1s (EAll.mono e9.ro fg) rfl rfl h1n ?_
   intro c3 fo
   obtain ⟨rfl, fp⟩ := one_int fo
   exact J0 (q_doneA (Ext.refl _) h1s fun Gh ed => ⟨rfl, fp⟩)
  ·intro k0 q3 w6 Gd M0 A0 h1q h1r _ e9 h1s h1t h1u h1v h1w h1x
   replace h1x := Facts.imp (fun j hj => hj _ (Ext.refl _)) h1x
   have h2_ : k0 ≤ 1 := h1q
   rcases (show k0 = 0 ∨ k0 = 1 from by omega) with rfl | rfl
   ·obtain ⟨hvs_, rfl⟩ := h1t Gd (Ext.refl _)
    rw [J3 (ρ := q3) (l := [(4, (pt b1 0))]) ⟨(h1u.1 4 (by decide)).trans rfl, trivial⟩]
    refine Yb underlying226 ti3 rfl rfl rfl (by decide) (by decide) ?_
    change WL _ _ _ _ _ _ (upd _ _ (pt b1 2)) _
    exact J0 (q_doneA (Ext.refl _) h1s fun Gi ee => rfl)
   obtain ⟨va, hvs_, rfl, fj, fk, fl⟩ := h1t Gd (Ext.refl _)
   have hv35 := (List.cons.inj hvs_).1
   rw [J3 (ρ := q3) (l := [(4, (pt b1 0)), (35, (vi t5.1))]) ⟨(h1u.1 4 (by decide)).trans rfl, hv35, trivial⟩]
   refine Yb underlying226 ti3 rfl rfl rfl (by decide) (by decide) ?_
   change WL _ _ _ _ _ _ (upd _ _ (pt b1 2)) _
   exact J0 (q_doneA (Ext.refl _) h1s fun Gi ee => rfl)
  ·intro k0 q3 w6 Gd M0 A0 h1q h1r _ e9 h1s h1t h1u h1v h1w h1x
   replace h1x := Facts.imp (fun j hj => hj _ (Ext.refl _)) h1x
   have h2_ : k0 ≤ 1 := h1q
   rcases (show k0 = 0 ∨ k0 = 1 from by omega) with rfl | rfl
   ·obtain ⟨hvs_, rfl⟩ := h1t Gd (Ext.refl _)
    obtain ⟨hd0_, _⟩ := h1x
    have hv30 := hd0_
    rw [J3 (ρ := q3) (l := [(30, (pt b1 2))]) ⟨hv30, trivial⟩]
    refine WL_loadArr (l1 := [_, _]) (T := (tInt .i64)) ti3 rfl h1s (EAll.mono e9.ro fg) rfl rfl h1o ?_
    intro c4 fq
    obtain ⟨rfl, fr⟩ := one_int fq
    exact J0 (q_doneA (Ext.refl _) h1s fun Gj ef => ⟨rfl, fr⟩)
   obtain ⟨va, hvs_, rfl, fj, fk, fl⟩ := h1t Gd (Ext.refl _)
   have hv35 := (List.cons.inj hvs_).1
   obtain ⟨hd0_, _⟩ := h1x
   have hv30 := hd0_
   rw [J3 (ρ := q3) (l := [(30, (pt b1 2)), (35, (vi t5.1))]) ⟨hv30, hv35, trivial⟩]
   refine WL_loadArr (l1 := [_, _]) (T := (tInt .i64)) ti3 rfl h1s (EAll.mono e9.ro fg) rfl rfl h1o ?_
   intro c4 fq
   obtain ⟨rfl, fr⟩ := one_int fq
   exact J0 (q_doneA (Ext.refl _) h1s fun Gj ef => ⟨rfl, fr⟩)
  ·intro k0 q3 w6 Gd M0 A0 h1q h1r _ e9 h1s h1t h1u h1v h1w h1x
   replace h1x := Facts.imp (fun j hj => hj _ (Ext.refl _)) h1x
   have h2_ : k0 ≤ 1 := h1q
   rcases (show k0 = 0 ∨ k0 = 1 from by omega) with rfl | rfl
   ·obtain ⟨hvs_, rfl⟩ := h1t Gd (Ext.refl _)
    rw [J3 (ρ := q3) (l := [(4, (pt b1 0))]) ⟨(h1u.1 4 (by decide)).trans rfl, trivial⟩]
    refine Yb underlying226 ti3 rfl rfl rfl (by decide) (by decide) ?_
    change WL _ _ _ _ _ _ (upd _ _ (pt b1 3)) _
    exact J0 (q_doneA (Ext.refl _) h1s fun Gk eg => rfl)
   obtain ⟨va, hvs_, rfl, fj, fk, fl⟩ := h1t Gd (Ext.refl _)
   have hv35 := (List.cons.inj hvs_).1
   rw [J3 (ρ := q3) (l := [(4, (pt b1 0)), (35, (vi t5.1))]) ⟨(h1u.1 4 (by decide)).trans rfl, hv35, trivial⟩]
   refine Yb underlying226 ti3 rfl rfl rfl (by decide) (by decide) ?_
   change WL _ _ _ _ _ _ (upd _ _ (pt b1 3)) _
   exact J0 (q_doneA (Ext.refl _) h1s fun Gk eg => rfl)
  ·intro k0 q3 w6 Gd M0 A0 h1q h1r _ e9 h1s h1t h1u h1v h1w h1x
   replace h1x := Facts.imp (fun j hj => hj _ (Ext.refl _)) h1x
   have h2_ : k0 ≤ 1 := h1q
   rcases (show k0 = 0 ∨ k0 = 1 from by omega) with rfl | rfl
   ·obtain ⟨hvs_, rfl⟩ := h1t Gd (Ext.refl _)
    obtain ⟨hd0_, _⟩ := h1x
    have hv32 := hd0_
    rw [J3 (ρ := q3) (l := [(32, (pt b1 3))]) ⟨hv32, trivial⟩]
    refine WL_loadArr (l1 := [_, _]) (T := (tInt .i64)) ti3 rfl h1s (EAll.mono e9.ro fg) rfl rfl h1p ?_
    intro c5 fs
    obtain ⟨rfl, ft⟩ := one_int fs
    exact J0 (q_doneA (Ext.refl _) h1s fun Gl eh => ⟨rfl, ft⟩)
   obtain ⟨va, hvs_, rfl, fj, fk, fl⟩ := h1t Gd (Ext.refl _)
   have hv35 := (List.cons.inj hvs_).1
   obtain ⟨hd0_, _⟩ := h1x
   have hv32 := hd0_
   rw [J3 (ρ := q3) (l := [(32, (pt b1 3)), (35, (vi t5.1))]) ⟨hv32, hv35, trivial⟩]
   refine WL_loadArr (l1 := [_, _]) (T := (tInt .i64)) ti3 rfl h1s (EAll.mono e9.ro fg) rfl rfl h1p ?_
   intro c5 fs
   obtain ⟨rfl, ft⟩ := one_int fs
   exact J0 (q_doneA (Ext.refl _) h1s fun Gl eh => ⟨rfl, ft⟩)
  ·intro k0 q3 w6 Gd M0 A0 h1q h1r _ e9 h1s h1t h1u h1v h1w h1x
   replace h1x := Facts.imp (fun j hj => hj _ (Ext.refl _)) h1x
   have h2_ : k0 ≤ 0 := h1w 0 9 [9] rfl (by kernel_rfl) rfl
   obtain rfl : k0 = 0 := by omega
   obtain ⟨hvs_, rfl⟩ := h1t Gd (Ext.refl _)
   rw [J3 (ρ := q3) (l := [(0, (pt ba0 0))]) ⟨(h1u.1 0 (by decide)).trans rfl, trivial⟩]
   refine Jmv (pt ba0 0) rfl rfl ?_
   exact J0 (q_doneA (Ext.refl _) h1s fun Gm ei => rfl)
  ·intro k0 q3 w6 Gd M0 A0 h1q h1r _ e9 h1s h1t h1u h1v h1w h1x
   replace h1x := Facts.imp (fun j hj => hj _ (Ext.refl _)) h1x
   obtain rfl : k0 = 0 := h1r
   obtain ⟨hvs_, rfl⟩ := h1t Gd (Ext.refl _)
   obtain ⟨hd0_, _⟩ := h1x
   have hv34 := hd0_
   rw [J3 (ρ := q3) (l := [(34, (pt ba0 0))]) ⟨hv34, trivial⟩]
   refine Jn (f := 178) (av := [(pt ba0 0), (vi 4), (.func (.func 116) #[] #[])]) cf178 rfl rfl h1s rfl (fun Gn ej h1y => instr_read_s2.ok (a0_ := ({ b := t4.1, at_ := t4.2.1, live := a0_.live, bad := a0_.bad } : Xoctet_Reader)) h1y (⟨v7, rfl, (SRep.mono (e9.ro.trans ej.ro) fe), ff⟩) (by rfl) h1l) ?_
   rintro vc w7 Go Gp N3 ek q4 ⟨vd, rfl, rfl, fu, fv, fw⟩ h1z
   exact J0 (c_doneA ek h1z fun Gq el => ⟨⟨vd, rfl, rfl, (SRep.mono el.ro (SRep.mono q4 fv)), fw, fu⟩, trivial⟩)
  ·intro k0 q3 w6 Gd M0 A0 h1q h1r _ e9 h1s h1t h1u h1v h1w h1x
   replace h1x := Facts.imp (fun j hj => hj _ (Ext.refl _)) h1x
   have h1_ : 0 < k0 := h1v 0 9 10 [] rfl (by kernel_rfl) rfl
   have h2_ : k0 ≤ 1 := h1q
   obtain rfl : k0 = 1 := by omega
   obtain ⟨va, hvs_, rfl, fj, fk, fl⟩ := h1t Gd (Ext.refl _)
   have hv35 := (List.cons.inj hvs_).1
   obtain ⟨hd0_, hd1_, hd2_, hd3_, hd4_, _⟩ := h1x
   obtain ⟨hv27, fx⟩ := hd0_
   obtain ⟨hv29, fy⟩ := hd1_
   obtain ⟨hv31, fz⟩ := hd2_
   obtain ⟨hv33, f10⟩ := hd3_
   rw [J3 (ρ := q3) (l := [(27, (vi x0)), (29, (vi x1)), (31, (vi x2)), (33, (vi x3)), (35, (vi t5.1))]) ⟨hv27, hv29, hv31, hv33, hv35, trivial⟩]
   refine Y0 (cells := #[(vi x0), (vi x1), (vi x2), (vi x3), (vi t5.1)]) rfl (by kernel_rfl) ?_
   exact J0 (q_doneA (Ext.refl _) h1s fun Gr em => ⟨rfl, fx, fy, fz, f10, fl⟩)
  intro k0 q3 w6 Gd M0 A0 h1q h1r _ e9 h1s h1t h1u h1v h1w h1x
  replace h1x := Facts.imp (fun j hj => hj _ (Ext.refl _)) h1x
  have h2_ : k0 ≤ 1 := h1q
  rcases (show k0 = 0 ∨ k0 = 1 from by omega) with rfl | rfl
  ·obtain ⟨hvs_, rfl⟩ := h1t Gd (Ext.refl _)
   refine Jo ti54 h1s rfl ?_
   intro b2 w8 h20
   exact J0 (a_doneA (Ext.refl _) h20 fun Gs en => ⟨b2, rfl⟩)
  obtain ⟨va, hvs_, rfl, fj, fk, fl⟩ := h1t Gd (Ext.refl _)
  have hv35 := (List.cons.inj hvs_).1
  rw [J3 (ρ := q3) (l := [(35, (vi t5.1))]) ⟨hv35, trivial⟩]
  refine Jo ti54 h1s rfl ?_
  intro b2 w8 h20
  exact J0 (a_doneA (Ext.refl _) h20 fun Gs en => ⟨b2, rfl⟩)
 intro q3 w6 Gd M0 e9 h1s h1t h1u h1x
 obtain ⟨va, hvs_, rfl, fj, fk, fl⟩ := h1t
 obtain ⟨b3, hv6⟩ := h1x 11 (by decide)
 have h21 : St B w6 Gd ([.blk ba0 [va, (vi t5.2.2), (.bool a0_.live), (.bool a0_.bad)] 163, .blk b0 [(vi 0), (vi 0), (vi 0), (vi 0), (vi 0)] 54, .blk b1 c1 226] ++ [Res.blk b3 [(vi 0), (vi 0), (vi 0), (vi 0), (vi 0)] 54]) := by rw [← blk_of hv6]; exact h1s
 obtain ⟨hv36, f11, f12, f13, f14, f15⟩ := h1x 10 (by decide)
 rw [J3 (ρ := q3) (l := [(2, (pt b0 0)), (6, (pt b3 0)), (36, (.agg #[(vi x0), (vi x1), (vi x2), (vi x3), (vi t5.1)]))]) ⟨(h1u.1 2 (by decide)).trans rfl, hv6, hv36, trivial⟩]
 refine Jp (l1 := [_, _, _]) (vs := [(vi x0), (vi x1), (vi x2), (vi x3), (vi t5.1)]) ti54 h21 rfl rfl rfl (J5 rfl (J5 rfl (J5 rfl (J5 rfl (J5 rfl (fun _ h => nomatch h)))))) rfl ?_
 intro w9 (h22 : St B w9 Gd [.blk ba0 [va, (vi t5.2.2), (.bool a0_.live), (.bool a0_.bad)] 163, .blk b0 [(vi 0), (vi 0), (vi 0), (vi 0), (vi 0)] 54, .blk b1 c1 226, .blk b3 [(vi x0), (vi x1), (vi x2), (vi x3), (vi t5.1)] 54])
 refine J0 (J2 (J2 (J1 ?_)))
 refine Jl (l1 := [_, _, _]) (vs := [(vi x0), (vi x1), (vi x2), (vi x3), (vi t5.1)]) ti54 h22 rfl rfl rfl rfl ?_
 obtain ⟨t6, h23, hr⟩ := J6 hr
 refine J8 (f := 179) (av := [(.agg #[(vi x0), (vi x1), (vi x2), (vi x3), (vi t5.1)])]) cf179 rfl rfl h22 rfl (fun Gt eo h24 => instr_Check.ok (a0 := ({ Op := x0, A := x1, B := x2, C := x3, N := t5.1 } : XInstr)) h24 (⟨rfl, f11, f12, f13, f14, f15⟩) h23) ?_
 rintro ve wa Gu Gv N4 ep q5 ⟨rfl, rfl⟩ h25
 refine Jsv (vi 0) rfl rfl ?_
 refine J0 (J2 (J1 ?_))
 refine Jmv (vi 0) rfl rfl ?_
 refine Y1 rfl rfl rfl ?_
 change WL _ _ _ _ _ _ (upd _ _ (.bool false)) _
 refine J0 ?_
 refine J7 rfl (fun h => nomatch h) (fun _ => ?_)
 refine J9 (J2 (J1 ?_))
 refine Jl (l1 := [_, _, _]) (vs := [(vi x0), (vi x1), (vi x2), (vi x3), (vi t5.1)]) ti54 h25 rfl rfl rfl rfl ?_
 refine Jp (l1 := [_]) (vs := [(vi x0), (vi x1), (vi x2), (vi x3), (vi t5.1)]) ti54 h25 rfl rfl rfl (J5 rfl (J5 rfl (J5 rfl (J5 rfl (J5 rfl (fun _ h => nomatch h)))))) rfl ?_
 intro wb (h26 : St B wb Gv [.blk ba0 [va, (vi t5.2.2), (.bool a0_.live), (.bool a0_.bad)] 163, .blk b0 [(vi x0), (vi x1), (vi x2), (vi x3), (vi t5.1)] 54, .blk b1 c1 226, .blk b3 [(vi x0), (vi x1), (vi x2), (vi x3), (vi t5.1)] 54])
 refine Jsv (vi 0) rfl rfl ?_
 refine J0 (Jg ?_)
 have h27 := St.takeN 1 h26
 obtain rfl := Option.some.inj hr
 exact ⟨[(.agg #[(vi x0), (vi x1), (vi x2), (vi x3), (vi t5.1)]), (vi 0)], ⟨⟨_, rfl, Yl (l1 := [_]) ti54 h26 rfl⟩, rfl, trivial⟩, _, _, _, rfl, (e1.trans (e4.trans (e8.trans (e9.trans ep)))), h27, ⟨va, rfl, rfl, f11, f12, f13, f14, f15, (SRep.mono ep.ro fj), fk⟩⟩
def data_Get.l0 (t0 : (Int × (List Int) × Int)) (a0_ : Xoctet_Reader) (s0 : ((List Int) × Int × (List Int) × Nat)) : Option (Step ((List Int) × Int × (List Int) × Nat) ((List Int) × Int × (List Int))) :=
 bif decide (((s0.2.2.2 : Nat) : Int) < t0.1) then (octet_Reader_Num_s2.f ({ b := s0.1, at_ := s0.2.1, live := a0_.live, bad := a0_.bad } : Xoctet_Reader) 8).bind fun t1 => bif decide ((s0.2.2.1.length + [t1.1].length) * 8 ≤ SB) then some (.next (t1.2.1, t1.2.2, (s0.2.2.1 ++ [t1.1]), s0.2.2.2 + 1)) else none else some (.done (s0.1, s0.2.1, s0.2.2.1))
def data_Get.l1 (t2 : (Int × (List Int) × Int)) (s1 : Unit) : Option (Step Unit Unit) :=
 bif decide (0 < t2.1) then none else some (.done ())
def data_Get.f (a0_ : Xoctet_Reader) : Option ((Int × (List Int) × (List Int) × Int)) :=
 (octet_Reader_Num_s2.f a0_ 1).bind fun t3 => (octet_Reader_Num_s2.f ({ b := t3.2.1, at_ := t3.2.2, live := a0_.live, bad := a0_.bad } : Xoctet_Reader) 1).bind fun t0 => (loop (data_Get.l0 t0 a0_) (t0.2.1, t0.2.2, [], 0)).bind fun t4 => (octet_Reader_Num_s2.f ({ b := t4.1, at_ := t4.2.1, live := a0_.live, bad := a0_.bad } : Xoctet_Reader) 1).bind fun t2 => (loop (data_Get.l1 t2) ()).bind fun t5 => (octet_Reader_Bad_s2.f ({ b := t2.2.1, at_ := t2.2.2, live := a0_.live, bad := a0_.bad } : Xoctet_Reader)).bind fun t6 => bif a0_.bad then none else some (t3.1, t4.2.2, t2.2.1, t2.2.2)
def data_Get.K (ba0 : Nat) (a0_ : Xoctet_Reader) (r : (Int × (List Int) × (List Int) × Int)) (G0 : GH) (v : Value) (N : List Res) : Prop := ∃ (v0 : Value) (v1 : Value) (c0 : List Value), v = tup [(.agg #[(vi r.1), v0, (.slice none 0 0)]), (vi 0)] ∧ N = [.row v0 2 1 r.2.1.length c0, .blk ba0 [v1, (vi r.2.2.2), (.bool a0_.live), (.bool a0_.bad)] 163] ∧ InK .i64 r.1 ∧ EAll (tInt .i64) G0 c0 r.2.1 ∧ r.2.1.length ≤ SB ∧ SRep 5 (tInt .u8) G0 v1 r.2.2.1 ∧ InK .i64 r.2.2.2
theorem data_Get.ok {ba0 : Nat} {ca0_ : List Value} {a0_ : Xoctet_Reader} (st : St B w G [.blk ba0 ca0_ 163]) (ha0_ : Toctet_Reader.rep G ca0_ a0_) {r : (Int × (List Int) × (List Int) × Int)} (hr : data_Get.f a0_ = some r) :
 Calls Tryz.prog 66 ([(pt ba0 0)] : List Value).toArray w (Ret B G (data_Get.K ba0 a0_ r)) := by
 obtain ⟨sa0__0, rfl, ha0__0, ha0__1⟩ := ha0_
 refine Jc [.cell 2 49, .tmp 3] func66 rfl ntmps66 rfl rfl ?_
 refine J2 (J1 ?_)
 refine Jo ti49 st rfl ?_
 intro b0 w0 h0
 refine Jsv (vi 0) rfl rfl ?_
 refine J0 (J2 (J1 ?_))
 refine Jmv (pt ba0 0) rfl rfl ?_
 have h1 := St.pick 1 rfl h0
 obtain ⟨t3, h2, hr⟩ := J6 hr
 refine Jn (f := 110) (av := [(pt ba0 0), (vi 1)]) cf110 rfl rfl h1 rfl (fun G1 e0 h3 => octet_Reader_Num_s2.ok (a0_ := a0_) h3 (⟨sa0__0, rfl, (SRep.mono e0.ro ha0__0), ha0__1⟩) (by rfl) h2) ?_
 rintro v2 w1 G2 G3 N0 e1 q0 ⟨v3, rfl, rfl, f0, f1, f2⟩ h4
 refine Y0 (cells := #[(vi t3.1), (.slice none 0 0), (.slice none 0 0)]) rfl (by kernel_rfl) ?_
 refine Jo ti49 h4 rfl ?_
 intro b1 w2 h5
 refine Jp (l1 := []) (vs := [(vi t3.1), (.slice none 0 0), (.slice none 0 0)]) ti49 h5 rfl rfl rfl (J5 rfl (J5 rfl (J5 rfl (fun _ h => nomatch h)))) rfl ?_
 intro w3 (h6 : St B w3 G3 [.blk b1 [(vi t3.1), (.slice none 0 0), (.slice none 0 0)] 49, .blk ba0 [v3, (vi t3.2.2), (.bool a0_.live), (.bool a0_.bad)] 163, .blk b0 [(vi 0), (.slice none 0 0), (.slice none 0 0)] 49])
 refine J0 (J2 (J2 (J1 ?_)))
 refine Jmv (pt ba0 0) rfl rfl ?_
 have h7 := St.pick 1 rfl h6
 obtain ⟨t0, h8, hr⟩ := J6 hr
 refine Jn (f := 110) (av := [(pt ba0 0), (vi 1)]) cf110 rfl rfl h7 rfl (fun G4 e2 h9 => octet_Reader_Num_s2.ok (a0_ := ({ b := t3.2.1, at_ := t3.2.2, live := a0_.live, bad := a0_.bad } : Xoctet_Reader)) h9 (⟨v3, rfl, (SRep.mono e2.ro (SRep.mono q0 f1)), f2⟩) (by rfl) h8) ?_
 rintro v4 w4 G5 G6 N1 e3 q1 ⟨v5, rfl, rfl, f3, f4, f5⟩ h10
 refine Jmv (vi 0) rfl rfl ?_
 refine J0 (Jb ?_)
 obtain ⟨t4, h11, hr⟩ := J6 hr
 have h12 := St.nilRow h10 2 1
 have h13 := St.row_len (l1 := []) (k := ([] : List Int).length) rfl h12
 have h14 := St.pick 2 rfl h13
 have h15 := St.pick 1 rfl h14
 have h16 := St.pick 3 rfl h15
 have h17 := St.pick 3 rfl h16
 refine Js 0 h11 (fun s0 ρ w => ∃ (σ0 : Env) (G7 : GH) (v6 : Value) (v7 : Value) (c1 : List Value), ρ = En σ0 [(0, (pt ba0 0)), (2, (pt b0 0)), (4, (pt b1 0)), (11, (vi t0.1)), (12, (vi ((s0.2.2.2 : Nat) : Int)))] ∧ Ext G6 G7 ∧ St B w G7 [.blk ba0 [v6, (vi s0.2.1), (.bool a0_.live), (.bool a0_.bad)] 163, .blk b0 [(vi 0), (.slice none 0 0), (.slice none 0 0)] 49, .row v7 2 1 s0.2.2.1.length c1, .blk b1 [(vi t3.1), v7, (.slice none 0 0)] 49] ∧ SRep 5 (tInt .u8) G7 v6 s0.1 ∧ InK .i64 s0.2.1 ∧ EAll (tInt .i64) G7 c1 s0.2.2.1 ∧ s0.2.2.1.length ≤ SB ∧ InK .i64 ((s0.2.2.2 : Nat) : Int)) (fun t7 ρ w => ∃ (σ1 : Env) (G8 : GH) (v8 : Value) (v9 : Value) (c2 : List Value), ρ = En σ1 [(0, (pt ba0 0)), (2, (pt b0 0)), (4, (pt b1 0))] ∧ Ext G6 G8 ∧ St B w G8 [.blk ba0 [v8, (vi t7.2.1), (.bool a0_.live), (.bool a0_.bad)] 163, .blk b0 [(vi 0), (.slice none 0 0), (.slice none 0 0)] 49, .row v9 2 1 t7.2.2.length c2, .blk b1 [(vi t3.1), v9, (.slice none 0 0)] 49] ∧ SRep 5 (tInt .u8) G8 v8 t7.1 ∧ InK .i64 t7.2.1 ∧ EAll (tInt .i64) G8 c2 t7.2.2 ∧ t7.2.2.length ≤ SB) ⟨_, _, v5, (.slice none 0 0), [], (J3 ⟨rfl, rfl, rfl, rfl, rfl, trivial⟩), (Ext.refl _), h17, (SRep.mono q1 f4), f5, EAll.nil, (le_eq (m := 0) rfl (Nat.zero_le _)), (by rfl)⟩ ?_ ?_
 ·rintro s0 x0 _ _ hr ⟨σ0, G7, v6, v7, c1, rfl, e4, h18, f6, f7, f8, f9, fa⟩
  refine J2 (J1 ?_)
  refine Ji rfl rfl rfl ?_
  refine J0 (J2 ?_)
  refine J7 rfl (fun h19 => ?_) (fun h19 => ?_)
  ·replace hr := Jx hr h19
   refine J9 (J2 (Jb ?_))
   obtain ⟨t1, h1a, hr⟩ := J6 hr
   refine Ym 5 [some 14, some 15, some 16, some 17, some 18] [3, 4] [Kind.q, Kind.q, Kind.q, Kind.c 0, Kind.c 1] (pkT [(fun vs_ G_ M_ => vs_ = [] ∧ M_ = [.blk ba0 [v6, (vi s0.2.1), (.bool a0_.live), (.bool a0_.bad)] 163, .blk b0 [(vi 0), (.slice none 0 0), (.slice none 0 0)] 49, .row v7 2 1 s0.2.2.1.length c1, .blk b1 [(vi t3.1), v7, (.slice none 0 0)] 49]), (fun vs_ G_ M_ => ∃ (va : Value), vs_ = [(vi t1.1)] ∧ M_ = [.blk ba0 [va, (vi t1.2.2), (.bool a0_.live), (.bool a0_.bad)] 163, .blk b0 [(vi 0), (.slice none 0 0), (.slice none 0 0)] 49, .row v7 2 1 s0.2.2.1.length c1, .blk b1 [(vi t3.1), v7, (.slice none 0 0)] 49] ∧ SRep 5 (tInt .u8) G_ va t1.2.1 ∧ InK .i64 t1.2.2 ∧ InK .i64 t1.1), (fun vs_ G_ M_ => ∃ (vc : Value) (vd : Value), vs_ = [(vi t1.1), vc] ∧ M_ = [.row vc 2 1 1 [(vi t1.1)], .blk ba0 [vd, (vi t1.2.2), (.bool a0_.live), (.bool a0_.bad)] 163, .blk b0 [(vi 0), (.slice none 0 0), (.slice none 0 0)] 49, .row v7 2 1 s0.2.2.1.length c1, .blk b1 [(vi t3.1), v7, (.slice none 0 0)] 49] ∧ EAll (tInt .i64) G_ [(vi t1.1)] [t1.1] ∧ [t1.1].length = 1 ∧ 1 ≤ SB ∧ SRep 5 (tInt .u8) G_ vd t1.2.1 ∧ InK .i64 t1.2.2 ∧ InK .i64 t1.1)]) (pk [(fun G_ v_ => v_ = (pt b1 1)), (fun G_ v_ => v_ = v7), (fun G_ v_ => v_ = (pt ba0 0)), (fun _ _ => True), (fun _ _ => True)]) rfl (by kernel_rfl) rfl (by kernel_rfl) [[4]] (by kernel_rfl) rfl h18 (fun _ _ => ⟨rfl, rfl⟩) ?_ ?_
   ·refine Each2.cons ?_ (Each2.cons ?_ (Each2.cons ?_ (Each2.cons ?_ (Each2.cons ?_ Each2.nil))))
    ·intro k0 q2 w5 G9 M0 h1b h1c e5 h1d h1e h1f h1g h1h h1i
     have h2_ : k0 ≤ 2 := h1b
     rcases (show k0 = 0 ∨ k0 = 1 ∨ k0 = 2 from by omega) with rfl | rfl | rfl
     ·obtain ⟨hvs_, rfl⟩ := h1e G9 (Ext.refl _)
      rw [J3 (ρ := q2) (l := [(4, (pt b1 0))]) ⟨(h1f.1 4 (by decide)).trans rfl, trivial⟩]
      refine Jfa 1 1 underlying49 rfl ti47 rfl rfl rfl rfl ?_
      exact J0 (J4 (Ext.refl _) h1d fun Ga e6 => rfl)
     ·obtain ⟨va, hvs_, rfl, fb, fc, fd⟩ := h1e G9 (Ext.refl _)
      have hv17 := (List.cons.inj hvs_).1
      rw [J3 (ρ := q2) (l := [(4, (pt b1 0)), (17, (vi t1.1))]) ⟨(h1f.1 4 (by decide)).trans rfl, hv17, trivial⟩]
      refine Jfa 1 1 underlying49 rfl ti47 rfl rfl rfl rfl ?_
      exact J0 (J4 (Ext.refl _) h1d fun Ga e6 => rfl)
     obtain ⟨vc, vd, hvs_, rfl, fe, ff, fg, fh, fj, fk⟩ := h1e G9 (Ext.refl _)
     have hv17 := (List.cons.inj hvs_).1
     have hv18 := (List.cons.inj (List.cons.inj hvs_).2).1
     rw [J3 (ρ := q2) (l := [(4, (pt b1 0)), (17, (vi t1.1)), (18, vc)]) ⟨(h1f.1 4 (by decide)).trans rfl, hv17, hv18, trivial⟩]
     refine Jfa 1 1 underlying49 rfl ti47 rfl rfl rfl rfl ?_
     exact J0 (J4 (Ext.refl _) h1d fun Ga e6 => rfl)
    ·intro k0 q2 w5 G9 M0 h1b h1c e5 h1d h1e h1f h1g h1h h1i
     have h2_ : k0 ≤ 2 := h1b
     rcases (show k0 = 0 ∨ k0 = 1 ∨ k0 = 2 from by omega) with rfl | rfl | rfl
     ·obtain ⟨hvs_, rfl⟩ := h1e G9 (Ext.refl _)
      obtain ⟨hd0_, _⟩ := h1i
      have hv14 := hd0_
      rw [J3 (ρ := q2) (l := [(14, (pt b1 1))]) ⟨hv14, trivial⟩]
      refine Jlb [_, _, _] v7 ti47 h1d rfl rfl rfl ?_
      exact J0 (J4 (Ext.refl _) h1d fun Gb e7 => rfl)
     ·obtain ⟨va, hvs_, rfl, fb, fc, fd⟩ := h1e G9 (Ext.refl _)
      have hv17 := (List.cons.inj hvs_).1
      obtain ⟨hd0_, _⟩ := h1i
      have hv14 := hd0_
      rw [J3 (ρ := q2) (l := [(14, (pt b1 1)), (17, (vi t1.1))]) ⟨hv14, hv17, trivial⟩]
      refine Jlb [_, _, _] v7 ti47 h1d rfl rfl rfl ?_
      exact J0 (J4 (Ext.refl _) h1d fun Gb e7 => rfl)
     obtain ⟨vc, vd, hvs_, rfl, fe, ff, fg, fh, fj, fk⟩ := h1e G9 (Ext.refl _)
     have hv17 := (List.cons.inj hvs_).1
     have hv18 := (List.cons.inj (List.cons.inj hvs_).2).1
     obtain ⟨hd0_, _⟩ := h1i
     have hv14 := hd0_
     rw [J3 (ρ := q2) (l := [(14, (pt b1 1)), (17, (vi t1.1)), (18, vc)]) ⟨hv14, hv17, hv18, trivial⟩]
     refine Jlb [_, _, _, _] v7 ti47 h1d rfl rfl rfl ?_
     exact J0 (J4 (Ext.refl _) h1d fun Gb e7 => rfl)
    ·intro k0 q2 w5 G9 M0 h1b h1c e5 h1d h1e h1f h1g h1h h1i
     have h2_ : k0 ≤ 0 := h1h 0 3 [3] rfl (by kernel_rfl) rfl
     obtain rfl : k0 = 0 := by omega
     obtain ⟨hvs_, rfl⟩ := h1e G9 (Ext.refl _)
     rw [J3 (ρ := q2) (l := [(0, (pt ba0 0))]) ⟨(h1f.1 0 (by decide)).trans rfl, trivial⟩]
     refine Jmv (pt ba0 0) rfl rfl ?_
     exact J0 (J4 (Ext.refl _) h1d fun Gc e8 => rfl)
    ·intro k0 q2 w5 G9 M0 h1b h1c e5 h1d h1e h1f h1g h1h h1i
     obtain rfl : k0 = 0 := h1c
     obtain ⟨hvs_, rfl⟩ := h1e G9 (Ext.refl _)
     obtain ⟨hd0_, _⟩ := h1i
     have hv16 := hd0_
     rw [J3 (ρ := q2) (l := [(16, (pt ba0 0))]) ⟨hv16, trivial⟩]
     refine Jn (f := 110) (av := [(pt ba0 0), (vi 8)]) cf110 rfl rfl h1d rfl (fun Gd e9 h1j => octet_Reader_Num_s2.ok (a0_ := ({ b := s0.1, at_ := s0.2.1, live := a0_.live, bad := a0_.bad } : Xoctet_Reader)) h1j (⟨v6, rfl, (SRep.mono (e5.ro.trans e9.ro) f6), f7⟩) (by rfl) h1a) ?_
     rintro ve w6 Ge Gf N2 ea q3 ⟨vf, rfl, rfl, fl, fm, fn⟩ h1k
     exact J0 (Yi ea h1k fun Gg eb => ⟨⟨vf, rfl, rfl, (SRep.mono eb.ro (SRep.mono q3 fm)), fn, fl⟩, trivial⟩)
    intro k0 q2 w5 G9 M0 h1b h1c e5 h1d h1e h1f h1g h1h h1i
    obtain rfl : k0 = 1 := h1c
    obtain ⟨va, hvs_, rfl, fb, fc, fd⟩ := h1e G9 (Ext.refl _)
    have hv17 := (List.cons.inj hvs_).1
    rw [J3 (ρ := q2) (l := [(17, (vi t1.1))]) ⟨hv17, trivial⟩]
    refine Jj (cells := [(vi t1.1)]) underlying47 ti2 h1d rfl rfl rfl rfl rfl (by kernel_rfl) ?_
    intro vg w7 h1l fo
    have E0 : EAll (tInt .i64) G9 [(vi t1.1)] [t1.1] := ⟨_, _, rfl, ⟨rfl, fd⟩, rfl⟩
    exact J0 (Yi (Ext.refl _) h1l fun Gh ec => ⟨⟨vg, va, rfl, rfl, (EAll.mono ec.ro E0), (by rfl), (by decide), (SRep.mono ec.ro fb), fc, fd⟩, trivial⟩)
   intro q2 w5 G9 M0 e5 h1d h1e h1f h1i
   obtain ⟨vc, vd, hvs_, rfl, fe, ff, fg, fh, fj, fk⟩ := h1e
   have hv18 := (List.cons.inj (List.cons.inj hvs_).2).1
   have hv15 := h1i 1 (by decide)
   rw [J3 (ρ := q2) (l := [(0, (pt ba0 0)), (2, (pt b0 0)), (4, (pt b1 0)), (11, (vi t0.1)), (12, (vi ((s0.2.2.2 : Nat) : Int))), (15, v7), (18, vc)]) ⟨(h1f.1 0 (by decide)).trans rfl, (h1f.1 2 (by decide)).trans rfl, (h1f.1 4 (by decide)).trans rfl, (h1f.1 11 (by decide)).trans rfl, (h1f.1 12 (by decide)).trans rfl, hv15, hv18, trivial⟩]
   obtain ⟨Gi, h1m, ed, fp⟩ := St.rowRep (l1 := []) (T := (tInt .i64)) (xs := [t1.1]) h1d fe ff fg
   obtain ⟨h1n, hr⟩ := Ya hr
   refine Yf (l1 := [_, _]) (T := (tInt .i64)) (xs := [t1.1]) underlying47 ti2 h1m rfl rfl fp rfl rfl rfl (app_limN rfl h1n) (app_leN rfl h1n) ?_
   intro vh w8 n0 E1 h1o
   have E2 := EAll.append (T := (tInt .i64)) (EAll.mono (e5.ro.trans ed.ro) f8) E1
   refine Jfa 1 1 underlying49 rfl ti47 rfl rfl rfl rfl ?_
   refine Y5 (l1 := [_, _, _]) (v := vh) ti47 h1o rfl rfl (row_one (St.mid (l1 := [_, _]) h1o)) rfl ?_
   intro w9 (h1p : St B w9 Gi [.blk ba0 [vd, (vi t1.2.2), (.bool a0_.live), (.bool a0_.bad)] 163, .blk b0 [(vi 0), (.slice none 0 0), (.slice none 0 0)] 49, .row vh 2 1 (s0.2.2.1.length + [t1.1].length) (c1 ++ n0), .blk b1 [(vi t3.1), vh, (.slice none 0 0)] 49])
   refine J0 (J1 ?_)
   refine Y2 rfl rfl rfl (of_decide_eq_true h19) f3 ?_
   refine Jmv (vi ((s0.2.2.2 + 1 : Nat) : Int)) rfl rfl ?_
   refine J0 ?_
   have h1q := St.row_len (l1 := [_, _]) (k := (s0.2.2.1 ++ [t1.1]).length) (len_app rfl) h1p
   have h1r := St.pick 3 rfl h1q
   have h1s := St.pick 3 rfl h1r
   have h1t := St.pick 3 rfl h1s
   have h1u := St.pick 3 rfl h1t
   exact ⟨_, (Option.some.inj hr).symm, _, _, vd, vh, (c1 ++ n0), (J3 ⟨rfl, rfl, rfl, rfl, rfl, trivial⟩), (e4.trans (e5.trans ed)), h1u, (SRep.mono ed.ro fh), fj, E2, (le_eq (m := (s0.2.2.1.length + [t1.1].length)) (len_app rfl) (app_leN rfl h1n)), (inK_inc (of_decide_eq_true h19) f3)⟩
  replace hr := Jf hr h19
  refine Jr ?_
  have h1v := St.pick 3 rfl h18
  have h1w := St.pick 3 rfl h1v
  have h1x := St.pick 3 rfl h1w
  have h1y := St.pick 3 rfl h1x
  exact ⟨_, (Option.some.inj hr).symm, rfl, _, _, v6, v7, c1, (J3 ⟨rfl, rfl, rfl, trivial⟩), e4, h1y, f6, f7, f8, f9⟩
 rintro _ _ ⟨σ1, G8, v8, v9, c2, rfl, ee, h1z, fq, fr, fs, ft⟩
 refine J2 (J2 (J1 ?_))
 refine Jmv (pt ba0 0) rfl rfl ?_
 obtain ⟨t2, h20, hr⟩ := J6 hr
 refine Jn (f := 110) (av := [(pt ba0 0), (vi 1)]) cf110 rfl rfl h1z rfl (fun Gj ef h21 => octet_Reader_Num_s2.ok (a0_ := ({ b := t4.1, at_ := t4.2.1, live := a0_.live, bad := a0_.bad } : Xoctet_Reader)) h21 (⟨v8, rfl, (SRep.mono ef.ro fq), fr⟩) (by rfl) h20) ?_
 rintro vj wa Gk Gl N3 eg q4 ⟨vk, rfl, rfl, fu, fv, fw⟩ h22
 refine Jmv (vi 0) rfl rfl ?_
 refine J0 (Jb ?_)
 obtain ⟨t5, h23, hr⟩ := J6 hr
 have h24 := St.pick 3 rfl h22
 have h25 := St.pick 3 rfl h24
 have h26 := St.pick 3 rfl h25
 have h27 := St.pick 3 rfl h26
 refine Js 2 h23 (fun s1 ρ w => ∃ (σ2 : Env) (Gm : GH), ρ = En σ2 [(0, (pt ba0 0)), (2, (pt b0 0)), (4, (pt b1 0)), (23, (vi t2.1)), (24, (vi 0))] ∧ Ext Gl Gm ∧ St B w Gm [.blk ba0 [vk, (vi t2.2.2), (.bool a0_.live), (.bool a0_.bad)] 163, .blk b0 [(vi 0), (.slice none 0 0), (.slice none 0 0)] 49, .row v9 2 1 t4.2.2.length c2, .blk b1 [(vi t3.1), v9, (.slice none 0 0)] 49]) (fun t8 ρ w => ∃ (σ3 : Env) (Gn : GH), ρ = En σ3 [(0, (pt ba0 0)), (2, (pt b0 0)), (4, (pt b1 0))] ∧ Ext Gl Gn ∧ St B w Gn [.blk ba0 [vk, (vi t2.2.2), (.bool a0_.live), (.bool a0_.bad)] 163, .blk b0 [(vi 0), (.slice none 0 0), (.slice none 0 0)] 49, .row v9 2 1 t4.2.2.length c2, .blk b1 [(vi t3.1), v9, (.slice none 0 0)] 49]) ⟨_, _, (J3 ⟨rfl, rfl, rfl, rfl, rfl, trivial⟩), (Ext.refl _), h27⟩ ?_ ?_
 ·rintro s1 x1 _ _ hr ⟨σ2, Gm, rfl, eh, h28⟩
  refine J2 (J1 ?_)
  refine Ji rfl rfl rfl ?_
  refine J0 (J2 ?_)
  refine J7 rfl (fun h29 => ?_) (fun h29 => ?_)
  ·exact Jk hr h29
  replace hr := Jf hr h29
  refine Jr ?_
  have h2a := St.pick 3 rfl h28
  have h2b := St.pick 3 rfl h2a
  have h2c := St.pick 3 rfl h2b
  have h2d := St.pick 3 rfl h2c
  exact ⟨_, (Option.some.inj hr).symm, rfl, _, _, (J3 ⟨rfl, rfl, rfl, trivial⟩), eh, h2d⟩
 rintro _ _ ⟨σ3, Gn, rfl, ei, h2e⟩
 refine J2 (J2 (J1 ?_))
 refine Jmv (pt ba0 0) rfl rfl ?_
 obtain ⟨t6, h2f, hr⟩ := J6 hr
 refine Jn (f := 113) (av := [(pt ba0 0)]) cf113 rfl rfl h2e rfl (fun Go ej h2g => octet_Reader_Bad_s2.ok (a0_ := ({ b := t2.2.1, at_ := t2.2.2, live := a0_.live, bad := a0_.bad } : Xoctet_Reader)) h2g (⟨vk, rfl, (SRep.mono (ei.ro.trans ej.ro) (SRep.mono q4 fv)), fw⟩) h2f) ?_
 rintro vl wb Gp Gq N4 ek q5 ⟨vm, rfl, rfl, fx⟩ h2h
 refine J0 ?_
 refine J7 rfl (fun h2i => ?_) (fun h2i => ?_)
 ·exact Jk hr h2i
 replace hr := Jf hr h2i
 refine J9 (J2 (J1 ?_))
 refine Jl (l1 := [_, _, _]) (vs := [(vi t3.1), v9, (.slice none 0 0)]) ti49 h2h rfl rfl rfl rfl ?_
 refine Jp (l1 := [_]) (vs := [(vi t3.1), v9, (.slice none 0 0)]) ti49 h2h rfl rfl rfl (J5 rfl (J5 (row_one (St.mid (l1 := [_, _]) h2h)) (J5 rfl (fun _ h => nomatch h)))) rfl ?_
 intro wc (h2j : St B wc Gq [.blk ba0 [vm, (vi t2.2.2), (.bool a0_.live), (.bool a0_.bad)] 163, .blk b0 [(vi t3.1), v9, (.slice none 0 0)] 49, .row v9 2 1 t4.2.2.length c2, .blk b1 [(vi t3.1), v9, (.slice none 0 0)] 49])
 refine Jsv (vi 0) rfl rfl ?_
 refine J0 (Jg ?_)
 have h2k := St.pick 2 rfl h2j
 have h2l := St.takeN 2 h2k
 obtain rfl := Option.some.inj hr
 exact ⟨[(.agg #[(vi t3.1), v9, (.slice none 0 0)]), (vi 0)], ⟨⟨_, rfl, Yl (l1 := [_]) ti49 h2j rfl⟩, rfl, trivial⟩, _, _, _, rfl, (e1.trans (e3.trans (ee.trans (eg.trans (ei.trans ek))))), h2l, ⟨v9, vm, c2, rfl, rfl, f0, (EAll.mono (eg.ro.trans (ei.ro.trans ek.ro)) fs), ft, (SRep.mono q5 fx), fw⟩⟩
def api_Data_1.f (a1_0_ : Xoctet_Reader) (a2_0_0 : (List XSymbol)) (a2_0_1 : (List XFunc)) (a2_0_2 : (List XData)) : Option (((List Int) × Int × (List XSymbol) × (List XFunc) × (List XData))) :=
 (data_Get.f a1_0_).bind fun t0 => bif decide ((a2_0_2.length + [({ Kind := t0.1, Words := t0.2.1, Relocs := [] } : XData)].length) * 56 ≤ SB) then some (t0.2.2.1, t0.2.2.2, a2_0_0, a2_0_1, (a2_0_2 ++ [({ Kind := t0.1, Words := t0.2.1, Relocs := [] } : XData)])) else none
def api_Data_1.K (ba0 : Nat) (ba1_0 : Nat) (a1_0_ : Xoctet_Reader) (ba1 : Nat) (ba2_0 : Nat) (ba2 : Nat) (r : ((List Int) × Int × (List XSymbol) × (List XFunc) × (List XData))) (G0 : GH) (v : Value) (N : List Res) : Prop := ∃ (v0 : Value) (v1 : Value) (v2 : Value) (v3 : Value) (c0 : List Value) (c1 : List Value) (c2 : List Value), v = tup [(vi 0)] ∧ N = [.blk ba0 [(.func (.func 66) #[] #[])] 117, .blk ba1_0 [v0, (vi r.2.1), (.bool a1_0_.live), (.bool a1_0_.bad)] 163, .blk ba1 [(pt ba1_0 0)] 104, .row v1 82 5 r.2.2.1.length c0, .row v2 44 9 r.2.2.2.1.length c1, .row v3 49 3 r.2.2.2.2.length c2, .blk ba2_0 [v1, v2, v3] 61, .blk ba2 [(pt ba2_0 2)] 116] ∧ SRep 5 (tInt .u8) G0 v0 r.1 ∧ InK .i64 r.2.1 ∧ EAll TSymbol G0 c0 r.2.2.1 ∧ r.2.2.1.length ≤ SB ∧ EAll TFunc G0 c1 r.2.2.2.1 ∧ r.2.2.2.1.length ≤ SB ∧ EAll TData G0 c2 r.2.2.2.2 ∧ r.2.2.2.2.length ≤ SB
theorem api_Data_1.ok {ba0 : Nat} {ba1 : Nat} {ba1_0 : Nat} {ca1_0_ : List Value} {a1_0_ : Xoctet_Reader} {ba2 : Nat} {ba2_0 : Nat} {va2_0_0 : Value} {ca2_0_0 : List Value} {a2_0_0 : (List XSymbol)} {va2_0_1 : Value} {ca2_0_1 : List Value} {a2_0_1 : (List XFunc)} {va2_0_2 : Value} {ca2_0_2 : List Value} {a2_0_2 : (List XData)} (st : St B w G [.blk ba0 [(.func (.func 66) #[] #[])] 117, .blk ba1 [(pt ba1_0 0)] 104, .blk ba1_0 ca1_0_ 163, .blk ba2 [(pt ba2_0 2)] 116, .blk ba2_0 [va2_0_0, va2_0_1, va2_0_2] 61, .row va2_0_0 82 5 a2_0_0.length ca2_0_0, .row va2_0_1 44 9 a2_0_1.length ca2_0_1, .row va2_0_2 49 3 a2_0_2.length ca2_0_2]) (ha1_0_ : Toctet_Reader.rep G ca1_0_ a1_0_) (ha2_0_0 : EAll TSymbol G ca2_0_0 a2_0_0) (lha2_0_0 : a2_0_0.length ≤ SB) (ha2_0_1 : EAll TFunc G ca2_0_1 a2_0_1) (lha2_0_1 : a2_0_1.length ≤ SB) (ha2_0_2 : EAll TData G ca2_0_2 a2_0_2) (lha2_0_2 : a2_0_2.length ≤ SB) {r : ((List Int) × Int × (List XSymbol) × (List XFunc) × (List XData))} (hr : api_Data_1.f a1_0_ a2_0_0 a2_0_1 a2_0_2 = some r) :
 Calls Tryz.prog 127 ([(pt ba0 0), (pt ba1 0), (pt ba2 0)] : List Value).toArray w (Ret B G (api_Data_1.K ba0 ba1_0 a1_0_ ba1 ba2_0 ba2 r)) := by
 obtain ⟨sa1_0__0, rfl, ha1_0__0, ha1_0__1⟩ := ha1_0_
 refine Jc [.tmp 3] func127 rfl ntmps127 rfl rfl ?_
 refine J2 (J1 ?_)
 refine Jsv (vi 0) rfl rfl ?_
 refine J0 (J2 (J1 ?_))
 refine Jlb [] (.func (.func 66) #[] #[]) ti117 st rfl rfl rfl ?_
 refine Jlb [_] (pt ba1_0 0) ti104 st rfl rfl rfl ?_
 have h0 := St.pick 2 rfl st
 obtain ⟨t0, h1, hr⟩ := J6 hr
 refine Jn (f := 66) (av := [(pt ba1_0 0)]) cf66 rfl rfl h0 rfl (fun G1 e0 h2 => data_Get.ok (a0_ := a1_0_) h2 (⟨sa1_0__0, rfl, (SRep.mono e0.ro ha1_0__0), ha1_0__1⟩) h1) ?_
 rintro v4 w0 G2 G3 N0 e1 q0 ⟨v5, v6, c3, rfl, rfl, f0, f1, f2, f3, f4⟩ h3
 refine Jmv (.tuple #[(.agg #[(vi t0.1), v5, (.slice none 0 0)]), (vi 0)]) rfl rfl ?_
 refine Jm rfl rfl rfl ?_
 refine Jm rfl rfl rfl ?_
 refine Jo ti49 h3 rfl ?_
 intro b0 w1 h4
 refine Jp (l1 := []) (vs := [(vi t0.1), v5, (.slice none 0 0)]) ti49 h4 rfl rfl rfl (J5 rfl (J5 (row_one (St.mid (l1 := [_]) h4)) (J5 rfl (fun _ h => nomatch h)))) rfl ?_
 intro w2 (h5 : St B w2 G3 [.blk b0 [(vi t0.1), v5, (.slice none 0 0)] 49, .row v5 2 1 t0.2.1.length c3, .blk ba1_0 [v6, (vi t0.2.2.2), (.bool a1_0_.live), (.bool a1_0_.bad)] 163, .blk ba0 [(.func (.func 66) #[] #[])] 117, .blk ba1 [(pt ba1_0 0)] 104, .blk ba2 [(pt ba2_0 2)] 116, .blk ba2_0 [va2_0_0, va2_0_1, va2_0_2] 61, .row va2_0_0 82 5 a2_0_0.length ca2_0_0, .row va2_0_1 44 9 a2_0_1.length ca2_0_1, .row va2_0_2 49 3 a2_0_2.length ca2_0_2])
 refine Jsv (vi 0) rfl rfl ?_
 refine J0 (J2 (J2 (J1 ?_)))
 refine Jmv (vi 0) rfl rfl ?_
 refine Y3 rfl rfl rfl ?_
 change WL _ _ _ _ _ _ (upd _ _ (.bool true)) _
 refine J0 ?_
 refine J7 rfl (fun _ => ?_) (fun h => nomatch h)
 obtain ⟨h6, hr⟩ := Ya hr
 refine Ym 7 [some 14, some 15, some 16, some 17, some 18, some 19, some 20] [5, 6] [Kind.q, Kind.q, Kind.q, Kind.q, Kind.q, Kind.c 0, Kind.c 1] (pkT [(fun vs_ G_ M_ => vs_ = [] ∧ M_ = [.blk b0 [(vi t0.1), v5, (.slice none 0 0)] 49, .row v5 2 1 t0.2.1.length c3, .blk ba1_0 [v6, (vi t0.2.2.2), (.bool a1_0_.live), (.bool a1_0_.bad)] 163, .blk ba0 [(.func (.func 66) #[] #[])] 117, .blk ba1 [(pt ba1_0 0)] 104, .blk ba2 [(pt ba2_0 2)] 116, .blk ba2_0 [va2_0_0, va2_0_1, va2_0_2] 61, .row va2_0_0 82 5 a2_0_0.length ca2_0_0, .row va2_0_1 44 9 a2_0_1.length ca2_0_1, .row va2_0_2 49 3 a2_0_2.length ca2_0_2]), (fun vs_ G_ M_ => ∃ (v7 : Value), vs_ = [v7] ∧ M_ = [.row v7 49 3 1 [(vi t0.1), v5, (.slice none 0 0)], .blk b0 [(vi t0.1), v5, (.slice none 0 0)] 49, .blk ba1_0 [v6, (vi t0.2.2.2), (.bool a1_0_.live), (.bool a1_0_.bad)] 163, .blk ba0 [(.func (.func 66) #[] #[])] 117, .blk ba1 [(pt ba1_0 0)] 104, .blk ba2 [(pt ba2_0 2)] 116, .blk ba2_0 [va2_0_0, va2_0_1, va2_0_2] 61, .row va2_0_0 82 5 a2_0_0.length ca2_0_0, .row va2_0_1 44 9 a2_0_1.length ca2_0_1, .row va2_0_2 49 3 a2_0_2.length ca2_0_2] ∧ EAll TData G_ [(vi t0.1), v5, (.slice none 0 0)] [({ Kind := t0.1, Words := t0.2.1, Relocs := [] } : XData)] ∧ [({ Kind := t0.1, Words := t0.2.1, Relocs := [] } : XData)].length = 1 ∧ 1 ≤ SB ∧ SRep 2 (tInt .i64) G_ v5 t0.2.1), (fun vs_ G_ M_ => ∃ (v8 : Value) (c4 : List Value) (v9 : Value), vs_ = [v9, v8] ∧ M_ = [.blk b0 [(vi t0.1), v5, (.slice none 0 0)] 49, .blk ba1_0 [v6, (vi t0.2.2.2), (.bool a1_0_.live), (.bool a1_0_.bad)] 163, .blk ba0 [(.func (.func 66) #[] #[])] 117, .blk ba1 [(pt ba1_0 0)] 104, .blk ba2 [(pt ba2_0 2)] 116, .blk ba2_0 [va2_0_0, va2_0_1, va2_0_2] 61, .row va2_0_0 82 5 a2_0_0.length ca2_0_0, .row va2_0_1 44 9 a2_0_1.length ca2_0_1, .row v8 49 3 (a2_0_2.length + [({ Kind := t0.1, Words := t0.2.1, Relocs := [] } : XData)].length) c4] ∧ SRep 2 (tInt .i64) G_ v5 t0.2.1 ∧ EAll TData G_ c4 (a2_0_2 ++ [({ Kind := t0.1, Words := t0.2.1, Relocs := [] } : XData)]) ∧ (a2_0_2 ++ [({ Kind := t0.1, Words := t0.2.1, Relocs := [] } : XData)]).length = (a2_0_2.length + [({ Kind := t0.1, Words := t0.2.1, Relocs := [] } : XData)].length) ∧ (a2_0_2.length + [({ Kind := t0.1, Words := t0.2.1, Relocs := [] } : XData)].length) ≤ SB ∧ SRep 49 TData G_ v9 [({ Kind := t0.1, Words := t0.2.1, Relocs := [] } : XData)])]) (pk [(fun G_ v_ => v_ = (pt ba2_0 2)), (fun G_ v_ => v_ = (pt ba2_0 2)), (fun G_ v_ => v_ = (pt ba2_0 2)), (fun G_ v_ => v_ = va2_0_2), (fun G_ v_ => v_ = (.agg #[(vi t0.1), v5, (.slice none 0 0)])), (fun _ _ => True), (fun _ _ => True)]) rfl (by kernel_rfl) rfl (by kernel_rfl) [[6]] (by kernel_rfl) rfl h5 (fun _ _ => ⟨rfl, rfl⟩) ?_ ?_
 ·refine Each2.cons ?_ (Each2.cons ?_ (Each2.cons ?_ (Each2.cons ?_ (Each2.cons ?_ (Each2.cons ?_ (Each2.cons ?_ Each2.nil))))))
  ·intro k0 q1 w3 G4 M0 h7 h8 e2 h9 h10 h11 h12 h13 h14
   have h2_ : k0 ≤ 2 := h7
   rcases (show k0 = 0 ∨ k0 = 1 ∨ k0 = 2 from by omega) with rfl | rfl | rfl
   ·obtain ⟨hvs_, rfl⟩ := h10 G4 (Ext.refl _)
    rw [J3 (ρ := q1) (l := [(2, (pt ba2 0))]) ⟨(h11.1 2 (by decide)).trans rfl, trivial⟩]
    refine Jlb [_, _, _, _, _] (pt ba2_0 2) ti116 h9 rfl rfl rfl ?_
    exact J0 (J4 (Ext.refl _) h9 fun G5 e3 => rfl)
   ·obtain ⟨v7, hvs_, rfl, f5, f6, f7, f8⟩ := h10 G4 (Ext.refl _)
    have hv19 := (List.cons.inj hvs_).1
    rw [J3 (ρ := q1) (l := [(2, (pt ba2 0)), (19, v7)]) ⟨(h11.1 2 (by decide)).trans rfl, hv19, trivial⟩]
    refine Jlb [_, _, _, _, _] (pt ba2_0 2) ti116 h9 rfl rfl rfl ?_
    exact J0 (J4 (Ext.refl _) h9 fun G5 e3 => rfl)
   obtain ⟨v8, c4, v9, hvs_, rfl, f9, fa, fb, fc, fd⟩ := h10 G4 (Ext.refl _)
   have hv19 := (List.cons.inj hvs_).1
   have hv20 := (List.cons.inj (List.cons.inj hvs_).2).1
   rw [J3 (ρ := q1) (l := [(2, (pt ba2 0)), (19, v9), (20, v8)]) ⟨(h11.1 2 (by decide)).trans rfl, hv19, hv20, trivial⟩]
   refine Jlb [_, _, _, _] (pt ba2_0 2) ti116 h9 rfl rfl rfl ?_
   exact J0 (J4 (Ext.refl _) h9 fun G5 e3 => rfl)
  ·intro k0 q1 w3 G4 M0 h7 h8 e2 h9 h10 h11 h12 h13 h14
   have h2_ : k0 ≤ 1 := h13 1 6 [2, 3, 6] rfl (by kernel_rfl) rfl
   rcases (show k0 = 0 ∨ k0 = 1 from by omega) with rfl | rfl
   ·obtain ⟨hvs_, rfl⟩ := h10 G4 (Ext.refl _)
    rw [J3 (ρ := q1) (l := [(2, (pt ba2 0))]) ⟨(h11.1 2 (by decide)).trans rfl, trivial⟩]
    refine Jlb [_, _, _, _, _] (pt ba2_0 2) ti116 h9 rfl rfl rfl ?_
    exact J0 (J4 (Ext.refl _) h9 fun G6 e4 => rfl)
   obtain ⟨v7, hvs_, rfl, f5, f6, f7, f8⟩ := h10 G4 (Ext.refl _)
   have hv19 := (List.cons.inj hvs_).1
   rw [J3 (ρ := q1) (l := [(2, (pt ba2 0)), (19, v7)]) ⟨(h11.1 2 (by decide)).trans rfl, hv19, trivial⟩]
   refine Jlb [_, _, _, _, _] (pt ba2_0 2) ti116 h9 rfl rfl rfl ?_
   exact J0 (J4 (Ext.refl _) h9 fun G6 e4 => rfl)
  ·intro k0 q1 w3 G4 M0 h7 h8 e2 h9 h10 h11 h12 h13 h14
   have h2_ : k0 ≤ 1 := h13 1 6 [3, 6] rfl (by kernel_rfl) rfl
   rcases (show k0 = 0 ∨ k0 = 1 from by omega) with rfl | rfl
   ·obtain ⟨hvs_, rfl⟩ := h10 G4 (Ext.refl _)
    obtain ⟨hd0_, _⟩ := h14
    have hv15 := hd0_
    rw [J3 (ρ := q1) (l := [(15, (pt ba2_0 2))]) ⟨hv15, trivial⟩]
    refine Je rfl rfl ?_
    exact J0 (J4 (Ext.refl _) h9 fun G7 e5 => rfl)
   obtain ⟨v7, hvs_, rfl, f5, f6, f7, f8⟩ := h10 G4 (Ext.refl _)
   have hv19 := (List.cons.inj hvs_).1
   obtain ⟨hd0_, _⟩ := h14
   have hv15 := hd0_
   rw [J3 (ρ := q1) (l := [(15, (pt ba2_0 2)), (19, v7)]) ⟨hv15, hv19, trivial⟩]
   refine Je rfl rfl ?_
   exact J0 (J4 (Ext.refl _) h9 fun G7 e5 => rfl)
  ·intro k0 q1 w3 G4 M0 h7 h8 e2 h9 h10 h11 h12 h13 h14
   have h2_ : k0 ≤ 1 := h13 1 6 [6] rfl (by kernel_rfl) rfl
   rcases (show k0 = 0 ∨ k0 = 1 from by omega) with rfl | rfl
   ·obtain ⟨hvs_, rfl⟩ := h10 G4 (Ext.refl _)
    obtain ⟨hd0_, _⟩ := h14
    have hv16 := hd0_
    rw [J3 (ρ := q1) (l := [(16, (pt ba2_0 2))]) ⟨hv16, trivial⟩]
    refine Jlb [_, _, _, _, _, _] va2_0_2 ti59 h9 rfl rfl rfl ?_
    exact J0 (J4 (Ext.refl _) h9 fun G8 e6 => rfl)
   obtain ⟨v7, hvs_, rfl, f5, f6, f7, f8⟩ := h10 G4 (Ext.refl _)
   have hv19 := (List.cons.inj hvs_).1
   obtain ⟨hd0_, _⟩ := h14
   have hv16 := hd0_
   rw [J3 (ρ := q1) (l := [(16, (pt ba2_0 2)), (19, v7)]) ⟨hv16, hv19, trivial⟩]
   refine Jlb [_, _, _, _, _, _] va2_0_2 ti59 h9 rfl rfl rfl ?_
   exact J0 (J4 (Ext.refl _) h9 fun G8 e6 => rfl)
  ·intro k0 q1 w3 G4 M0 h7 h8 e2 h9 h10 h11 h12 h13 h14
   have h2_ : k0 ≤ 0 := h13 0 5 [5] rfl (by kernel_rfl) rfl
   obtain rfl : k0 = 0 := by omega
   obtain ⟨hvs_, rfl⟩ := h10 G4 (Ext.refl _)
   rw [J3 (ρ := q1) (l := [(4, (pt b0 0))]) ⟨(h11.1 4 (by decide)).trans rfl, trivial⟩]
   refine Jl (l1 := []) (vs := [(vi t0.1), v5, (.slice none 0 0)]) ti49 h9 rfl rfl rfl rfl ?_
   exact J0 (J4 (Ext.refl _) h9 fun G9 e7 => rfl)
  ·intro k0 q1 w3 G4 M0 h7 h8 e2 h9 h10 h11 h12 h13 h14
   obtain rfl : k0 = 0 := h8
   obtain ⟨hvs_, rfl⟩ := h10 G4 (Ext.refl _)
   obtain ⟨hd0_, _⟩ := h14
   have hv18 := hd0_
   rw [J3 (ρ := q1) (l := [(18, (.agg #[(vi t0.1), v5, (.slice none 0 0)]))]) ⟨hv18, trivial⟩]
   obtain ⟨Ga, h15, e8, fe⟩ := St.rowRep (l1 := [_]) (T := (tInt .i64)) (xs := t0.2.1) h9 (EAll.mono e2.ro (EAll.mono q0 f1)) rfl f2
   refine Jj (cells := [(vi t0.1), v5, (.slice none 0 0)]) underlying59 ti49 h15 rfl rfl rfl rfl rfl (by obtain ⟨_, _, _, e_⟩ := SRep.shape fe; subst e_; kernel_rfl) ?_
   intro va w4 h16 ff
   have E0 : EAll TData Ga [(vi t0.1), v5, (.slice none 0 0)] [({ Kind := t0.1, Words := t0.2.1, Relocs := [] } : XData)] := ⟨_, _, rfl, ⟨v5, (.slice none 0 0), rfl, f0, fe, SRep.nil⟩, rfl⟩
   exact J0 (Yi e8 h16 fun Gb e9 => ⟨⟨va, rfl, rfl, (EAll.mono e9.ro E0), (by rfl), (by decide), (SRep.mono e9.ro fe)⟩, trivial⟩)
  intro k0 q1 w3 G4 M0 h7 h8 e2 h9 h10 h11 h12 h13 h14
  obtain rfl : k0 = 1 := h8
  obtain ⟨v7, hvs_, rfl, f5, f6, f7, f8⟩ := h10 G4 (Ext.refl _)
  have hv19 := (List.cons.inj hvs_).1
  obtain ⟨hd0_, hd1_, _⟩ := h14
  have hv17 := hd0_
  rw [J3 (ρ := q1) (l := [(17, va2_0_2), (19, v7)]) ⟨hv17, hv19, trivial⟩]
  obtain ⟨Gc, h17, ea, fg⟩ := St.rowRep (l1 := []) (T := TData) (xs := [({ Kind := t0.1, Words := t0.2.1, Relocs := [] } : XData)]) h9 f5 f6 f7
  refine Yf (l1 := [_, _, _, _, _, _, _, _]) (T := TData) (xs := [({ Kind := t0.1, Words := t0.2.1, Relocs := [] } : XData)]) underlying59 ti49 h17 rfl rfl fg rfl rfl rfl (app_limN rfl h6) (app_leN rfl h6) ?_
  intro vc w5 n0 E1 h18
  have E2 := EAll.append (T := TData) (EAll.mono (e1.ro.trans (e2.ro.trans ea.ro)) ha2_0_2) E1
  exact J0 (Yi ea h18 fun Gd eb => ⟨⟨vc, (ca2_0_2 ++ n0), v7, rfl, rfl, (SRep.mono (ea.ro.trans eb.ro) f8), (EAll.mono eb.ro E2), (len_app rfl), (app_leN rfl h6), (SRep.mono eb.ro fg)⟩, trivial⟩)
 intro q1 w3 G4 M0 e2 h9 h10 h11 h14
 obtain ⟨v8, c4, v9, hvs_, rfl, f9, fa, fb, fc, fd⟩ := h10
 have hv20 := (List.cons.inj (List.cons.inj hvs_).2).1
 have hv14 := h14 0 (by decide)
 rw [J3 (ρ := q1) (l := [(5, (vi 0)), (14, (pt ba2_0 2)), (20, v8)]) ⟨(h11.1 5 (by decide)).trans rfl, hv14, hv20, trivial⟩]
 refine Je rfl rfl ?_
 refine Y5 (l1 := [_, _, _, _, _]) (v := v8) ti59 h9 rfl rfl (row_one (St.mid (l1 := [_, _, _, _, _, _, _, _]) h9)) rfl ?_
 intro w6 (h19 : St B w6 G4 [.blk b0 [(vi t0.1), v5, (.slice none 0 0)] 49, .blk ba1_0 [v6, (vi t0.2.2.2), (.bool a1_0_.live), (.bool a1_0_.bad)] 163, .blk ba0 [(.func (.func 66) #[] #[])] 117, .blk ba1 [(pt ba1_0 0)] 104, .blk ba2 [(pt ba2_0 2)] 116, .blk ba2_0 [va2_0_0, va2_0_1, v8] 61, .row va2_0_0 82 5 a2_0_0.length ca2_0_0, .row va2_0_1 44 9 a2_0_1.length ca2_0_1, .row v8 49 3 (a2_0_2.length + [({ Kind := t0.1, Words := t0.2.1, Relocs := [] } : XData)].length) c4])
 refine J0 (J2 (J1 ?_))
 refine Jmv (vi 0) rfl rfl ?_
 refine Jsv (vi 0) rfl rfl ?_
 refine J0 (Jg ?_)
 have h1a := St.row_len (l1 := [_, _, _, _, _, _, _, _]) (k := (a2_0_2 ++ [({ Kind := t0.1, Words := t0.2.1, Relocs := [] } : XData)]).length) fb h19
 have h1b := St.pick 4 rfl h1a
 have h1c := St.pick 5 rfl h1b
 have h1d := St.pick 8 rfl h1c
 have h1e := St.pick 8 rfl h1d
 have h1f := St.pick 8 rfl h1e
 have h1g := St.pick 8 rfl h1f
 have h1h := St.pick 7 rfl h1g
 have h1i := St.pick 8 rfl h1h
 have h1j := St.takeN 8 h1i
 obtain rfl := Option.some.inj hr
 exact ⟨[(vi 0)], ⟨rfl, trivial⟩, _, _, _, rfl, (e1.trans e2), h1j, ⟨v6, va2_0_0, va2_0_1, v8, ca2_0_0, ca2_0_1, c4, rfl, rfl, (SRep.mono e2.ro (SRep.mono q0 f3)), f4, (EAll.mono (e1.ro.trans e2.ro) ha2_0_0), lha2_0_0, (EAll.mono (e1.ro.trans e2.ro) ha2_0_1), lha2_0_1, fa, (le_eq (m := (a2_0_2.length + [({ Kind := t0.1, Words := t0.2.1, Relocs := [] } : XData)].length)) fb fc)⟩⟩
end Go.Proofs.YtnglgjgflohkmaaGreat.Sk
