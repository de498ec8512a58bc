/- The types' rows, and how the program's data lie. No condition. -/
import Derived.Test.YtnglgjgflohkmaaGreatSkGiven
import Derived.Test.YtnglgjgflohkmaaGreatProg
namespace Go.Proofs.YtnglgjgflohkmaaGreat.Sk
open Go
set_option linter.unusedVariables false
set_option linter.unusedSimpArgs false
set_option linter.unusedVariables false
set_option linter.unusedSimpArgs false
structure XSymbol where
  Name : ByteArray
  Local : Bool
  Sort_ : Int
  Kind : Int
  Def : Int
def TSymbol : Ty XSymbol where
  sz := 5
  rep := fun G cs x => cs = [.string x.Name, .bool x.Local, .int .i64 x.Sort_, .int .i64 x.Kind, .int .i64 x.Def] ∧ x.Name.size ≤ SB ∧ InK .i64 x.Sort_ ∧ InK .i64 x.Kind ∧ InK .i64 x.Def
  len := by rintro G cs x ⟨rfl, f0, f1, f2, f3⟩; rfl
  one := by
    rintro G cs x ⟨rfl, f0, f1, f2, f3⟩ c hc
    simp only [List.mem_cons, List.not_mem_nil, or_false] at hc
    rcases hc with rfl | rfl | rfl | rfl | rfl <;> first | rfl | exact SRep.one (by assumption)
  mono := by rintro G G' cs x hr ⟨rfl, f0, f1, f2, f3⟩; exact ⟨rfl, f0, f1, f2, f3⟩
structure XLine where
  At : Int
  Line : Int
def TLine : Ty XLine where
  sz := 2
  rep := fun G cs x => cs = [.int .i64 x.At, .int .i64 x.Line] ∧ InK .i64 x.At ∧ InK .i64 x.Line
  len := by rintro G cs x ⟨rfl, f0, f1⟩; rfl
  one := by
    rintro G cs x ⟨rfl, f0, f1⟩ c hc
    simp only [List.mem_cons, List.not_mem_nil, or_false] at hc
    rcases hc with rfl | rfl <;> first | rfl | exact SRep.one (by assumption)
  mono := by rintro G G' cs x hr ⟨rfl, f0, f1⟩; exact ⟨rfl, f0, f1⟩
structure XInstr where
  Op : Int
  A : Int
  B : Int
  C : Int
  N : Int
def TInstr : Ty XInstr where
  sz := 5
  rep := fun G cs x => cs = [.int .i64 x.Op, .int .i64 x.A, .int .i64 x.B, .int .i64 x.C, .int .i64 x.N] ∧ InK .i64 x.Op ∧ InK .i64 x.A ∧ InK .i64 x.B ∧ InK .i64 x.C ∧ InK .i64 x.N
  len := by rintro G cs x ⟨rfl, f0, f1, f2, f3, f4⟩; rfl
  one := by
    rintro G cs x ⟨rfl, f0, f1, f2, f3, f4⟩ c hc
    simp only [List.mem_cons, List.not_mem_nil, or_false] at hc
    rcases hc with rfl | rfl | rfl | rfl | rfl <;> first | rfl | exact SRep.one (by assumption)
  mono := by rintro G G' cs x hr ⟨rfl, f0, f1, f2, f3, f4⟩; exact ⟨rfl, f0, f1, f2, f3, f4⟩
structure XReloc where
  At : Int
  Sym : Int
  Wide : Bool
def TReloc : Ty XReloc where
  sz := 3
  rep := fun G cs x => cs = [.int .i64 x.At, .int .i64 x.Sym, .bool x.Wide] ∧ InK .i64 x.At ∧ InK .i64 x.Sym
  len := by rintro G cs x ⟨rfl, f0, f1⟩; rfl
  one := by
    rintro G cs x ⟨rfl, f0, f1⟩ c hc
    simp only [List.mem_cons, List.not_mem_nil, or_false] at hc
    rcases hc with rfl | rfl | rfl <;> first | rfl | exact SRep.one (by assumption)
  mono := by rintro G G' cs x hr ⟨rfl, f0, f1⟩; exact ⟨rfl, f0, f1⟩
structure XFunc where
  Class : Int
  Kinds : (List Int)
  Pad : Int
  Nosplit : Bool
  From : Int
  To : Int
  Lines : (List XLine)
  Code : (List XInstr)
  Relocs : (List XReloc)
def TFunc : Ty XFunc where
  sz := 9
  rep := fun G cs x => ∃ s1 s6 s7 s8 : Value, cs = [.int .i64 x.Class, s1, .int .i64 x.Pad, .bool x.Nosplit, .int .i64 x.From, .int .i64 x.To, s6, s7, s8] ∧ InK .i64 x.Class ∧ SRep 3 (tInt .i64) G s1 x.Kinds ∧ InK .i64 x.Pad ∧ InK .i64 x.From ∧ InK .i64 x.To ∧ SRep 157 TLine G s6 x.Lines ∧ SRep 54 TInstr G s7 x.Code ∧ SRep 133 TReloc G s8 x.Relocs
  len := by rintro G cs x ⟨s1, s6, s7, s8, rfl, f0, f1, f2, f3, f4, f5, f6, f7⟩; rfl
  one := by
    rintro G cs x ⟨s1, s6, s7, s8, rfl, f0, f1, f2, f3, f4, f5, f6, f7⟩ c hc
    simp only [List.mem_cons, List.not_mem_nil, or_false] at hc
    rcases hc with rfl | rfl | rfl | rfl | rfl | rfl | rfl | rfl | rfl <;> first | rfl | exact SRep.one (by assumption)
  mono := by rintro G G' cs x hr ⟨s1, s6, s7, s8, rfl, f0, f1, f2, f3, f4, f5, f6, f7⟩; exact ⟨s1, s6, s7, s8, rfl, f0, SRep.mono hr f1, f2, f3, f4, SRep.mono hr f5, SRep.mono hr f6, SRep.mono hr f7⟩
structure XData where
  Kind : Int
  Words : (List Int)
  Relocs : (List XReloc)
def TData : Ty XData where
  sz := 3
  rep := fun G cs x => ∃ s1 s2 : Value, cs = [.int .i64 x.Kind, s1, s2] ∧ InK .i64 x.Kind ∧ SRep 2 (tInt .i64) G s1 x.Words ∧ SRep 133 TReloc G s2 x.Relocs
  len := by rintro G cs x ⟨s1, s2, rfl, f0, f1, f2⟩; rfl
  one := by
    rintro G cs x ⟨s1, s2, rfl, f0, f1, f2⟩ c hc
    simp only [List.mem_cons, List.not_mem_nil, or_false] at hc
    rcases hc with rfl | rfl | rfl <;> first | rfl | exact SRep.one (by assumption)
  mono := by rintro G G' cs x hr ⟨s1, s2, rfl, f0, f1, f2⟩; exact ⟨s1, s2, rfl, f0, SRep.mono hr f1, SRep.mono hr f2⟩
structure XObject where
  Symbols : (List XSymbol)
  Funcs : (List XFunc)
  Datas : (List XData)
def TObject : Ty XObject where
  sz := 3
  rep := fun G cs x => ∃ s0 s1 s2 : Value, cs = [s0, s1, s2] ∧ SRep 82 TSymbol G s0 x.Symbols ∧ SRep 44 TFunc G s1 x.Funcs ∧ SRep 49 TData G s2 x.Datas
  len := by rintro G cs x ⟨s0, s1, s2, rfl, f0, f1, f2⟩; rfl
  one := by
    rintro G cs x ⟨s0, s1, s2, rfl, f0, f1, f2⟩ c hc
    simp only [List.mem_cons, List.not_mem_nil, or_false] at hc
    rcases hc with rfl | rfl | rfl <;> first | rfl | exact SRep.one (by assumption)
  mono := by rintro G G' cs x hr ⟨s0, s1, s2, rfl, f0, f1, f2⟩; exact ⟨s0, s1, s2, rfl, SRep.mono hr f0, SRep.mono hr f1, SRep.mono hr f2⟩
structure Xverify_checker where
  f : XFunc
  x : XInstr
  sym : XSymbol
  class_ : Int
def Tverify_checker : Ty Xverify_checker where
  sz := 20
  rep := fun G cs x => ∃ s1 s6 s7 s8 : Value, cs = [.int .i64 x.f.Class, s1, .int .i64 x.f.Pad, .bool x.f.Nosplit, .int .i64 x.f.From, .int .i64 x.f.To, s6, s7, s8, .int .i64 x.x.Op, .int .i64 x.x.A, .int .i64 x.x.B, .int .i64 x.x.C, .int .i64 x.x.N, .string x.sym.Name, .bool x.sym.Local, .int .i64 x.sym.Sort_, .int .i64 x.sym.Kind, .int .i64 x.sym.Def, .int .i64 x.class_] ∧ InK .i64 x.f.Class ∧ SRep 3 (tInt .i64) G s1 x.f.Kinds ∧ InK .i64 x.f.Pad ∧ InK .i64 x.f.From ∧ InK .i64 x.f.To ∧ SRep 157 TLine G s6 x.f.Lines ∧ SRep 54 TInstr G s7 x.f.Code ∧ SRep 133 TReloc G s8 x.f.Relocs ∧ InK .i64 x.x.Op ∧ InK .i64 x.x.A ∧ InK .i64 x.x.B ∧ InK .i64 x.x.C ∧ InK .i64 x.x.N ∧ x.sym.Name.size ≤ SB ∧ InK .i64 x.sym.Sort_ ∧ InK .i64 x.sym.Kind ∧ InK .i64 x.sym.Def ∧ InK .i64 x.class_
  len := by rintro G cs x ⟨s1, s6, s7, s8, rfl, f0, f1, f2, f3, f4, f5, f6, f7, f8, f9, f10, f11, f12, f13, f14, f15, f16, f17⟩; rfl
  one := by
    rintro G cs x ⟨s1, s6, s7, s8, rfl, f0, f1, f2, f3, f4, f5, f6, f7, f8, f9, f10, f11, f12, f13, f14, f15, f16, f17⟩ c hc
    simp only [List.mem_cons, List.not_mem_nil, or_false] at hc
    rcases hc with rfl | rfl | rfl | rfl | rfl | rfl | rfl | rfl | rfl | rfl | rfl | rfl | rfl | rfl | rfl | rfl | rfl | rfl | rfl | rfl <;> first | rfl | exact SRep.one (by assumption)
  mono := by rintro G G' cs x hr ⟨s1, s6, s7, s8, rfl, f0, f1, f2, f3, f4, f5, f6, f7, f8, f9, f10, f11, f12, f13, f14, f15, f16, f17⟩; exact ⟨s1, s6, s7, s8, rfl, f0, SRep.mono hr f1, f2, f3, f4, SRep.mono hr f5, SRep.mono hr f6, SRep.mono hr f7, f8, f9, f10, f11, f12, f13, f14, f15, f16, f17⟩
structure Xfun_writer where
  b : (List Int)
def Tfun_writer : Ty Xfun_writer where
  sz := 1
  rep := fun G cs x => ∃ s0 : Value, cs = [s0] ∧ SRep 5 (tInt .u8) G s0 x.b
  len := by rintro G cs x ⟨s0, rfl, f0⟩; rfl
  one := by
    rintro G cs x ⟨s0, rfl, f0⟩ c hc
    simp only [List.mem_cons, List.not_mem_nil, or_false] at hc
    subst hc <;> first | rfl | exact SRep.one (by assumption)
  mono := by rintro G G' cs x hr ⟨s0, rfl, f0⟩; exact ⟨s0, rfl, SRep.mono hr f0⟩
structure Xsum_Adder where
  a : Int
  b : Int
  live : Bool
def Tsum_Adder : Ty Xsum_Adder where
  sz := 3
  rep := fun G cs x => cs = [.int .i64 x.a, .int .i64 x.b, .bool x.live] ∧ InK .i64 x.a ∧ InK .i64 x.b
  len := by rintro G cs x ⟨rfl, f0, f1⟩; rfl
  one := by
    rintro G cs x ⟨rfl, f0, f1⟩ c hc
    simp only [List.mem_cons, List.not_mem_nil, or_false] at hc
    rcases hc with rfl | rfl | rfl <;> first | rfl | exact SRep.one (by assumption)
  mono := by rintro G G' cs x hr ⟨rfl, f0, f1⟩; exact ⟨rfl, f0, f1⟩
structure Xoctet_Reader where
  b : (List Int)
  at_ : Int
  live : Bool
  bad : Bool
def Toctet_Reader : Ty Xoctet_Reader where
  sz := 4
  rep := fun G cs x => ∃ s0 : Value, cs = [s0, .int .i64 x.at_, .bool x.live, .bool x.bad] ∧ SRep 5 (tInt .u8) G s0 x.b ∧ InK .i64 x.at_
  len := by rintro G cs x ⟨s0, rfl, f0, f1⟩; rfl
  one := by
    rintro G cs x ⟨s0, rfl, f0, f1⟩ c hc
    simp only [List.mem_cons, List.not_mem_nil, or_false] at hc
    rcases hc with rfl | rfl | rfl | rfl <;> first | rfl | exact SRep.one (by assumption)
  mono := by rintro G G' cs x hr ⟨s0, rfl, f0, f1⟩; exact ⟨s0, rfl, SRep.mono hr f0, f1⟩
theorem ti2 : TI Tryz.prog 2 false 1 8 (.int .i64 0) := TI.mk' Tryz.underlying2 rfl (by kernel_rfl)
theorem ti3 : TI Tryz.prog 3 false 1 8 (.int .i64 0) := TI.mk' Tryz.underlying3 rfl (by kernel_rfl)
theorem ti4 : TI Tryz.prog 4 false 1 1 (.bool false) := TI.mk' Tryz.underlying4 rfl (by kernel_rfl)
theorem ti5 : TI Tryz.prog 5 false 1 1 (.int .u8 0) := TI.mk' Tryz.underlying5 rfl (by kernel_rfl)
theorem ti9 : TI Tryz.prog 9 false 1 16 (.string ⟨#[]⟩) := TI.mk' Tryz.underlying9 rfl (by kernel_rfl)
theorem ti21 : TI Tryz.prog 21 false 1 4 (.int .i32 0) := TI.mk' Tryz.underlying21 rfl (by kernel_rfl)
theorem ti29 : TI Tryz.prog 29 false 1 8 (.int .i64 0) := TI.mk' Tryz.underlying29 rfl (by kernel_rfl)
theorem ti39 : TI Tryz.prog 39 false 1 24 (.slice none 0 0) := TI.mk' Tryz.underlying39 rfl (by kernel_rfl)
theorem ti40 : TI Tryz.prog 40 false 1 24 (.slice none 0 0) := TI.mk' Tryz.underlying40 rfl (by kernel_rfl)
theorem ti41 : TI Tryz.prog 41 false 1 24 (.slice none 0 0) := TI.mk' Tryz.underlying41 rfl (by kernel_rfl)
theorem ti42 : TI Tryz.prog 42 false 1 24 (.slice none 0 0) := TI.mk' Tryz.underlying42 rfl (by kernel_rfl)
theorem ti44 : TI Tryz.prog 44 true 9 136 (.agg #[.int .i64 0, .slice none 0 0, .int .i64 0, .bool false, .int .i64 0, .int .i64 0, .slice none 0 0, .slice none 0 0, .slice none 0 0]) := TI.mk' Tryz.underlying44 rfl (by kernel_rfl)
theorem ti47 : TI Tryz.prog 47 false 1 24 (.slice none 0 0) := TI.mk' Tryz.underlying47 rfl (by kernel_rfl)
theorem ti49 : TI Tryz.prog 49 true 3 56 (.agg #[.int .i64 0, .slice none 0 0, .slice none 0 0]) := TI.mk' Tryz.underlying49 rfl (by kernel_rfl)
theorem ti54 : TI Tryz.prog 54 true 5 40 (.agg #[.int .i64 0, .int .i64 0, .int .i64 0, .int .i64 0, .int .i64 0]) := TI.mk' Tryz.underlying54 rfl (by kernel_rfl)
theorem ti57 : TI Tryz.prog 57 false 1 24 (.slice none 0 0) := TI.mk' Tryz.underlying57 rfl (by kernel_rfl)
theorem ti58 : TI Tryz.prog 58 false 1 24 (.slice none 0 0) := TI.mk' Tryz.underlying58 rfl (by kernel_rfl)
theorem ti59 : TI Tryz.prog 59 false 1 24 (.slice none 0 0) := TI.mk' Tryz.underlying59 rfl (by kernel_rfl)
theorem ti61 : TI Tryz.prog 61 true 3 72 (.agg #[.slice none 0 0, .slice none 0 0, .slice none 0 0]) := TI.mk' Tryz.underlying61 rfl (by kernel_rfl)
theorem ti63 : TI Tryz.prog 63 false 1 24 (.slice none 0 0) := TI.mk' Tryz.underlying63 rfl (by kernel_rfl)
theorem ti82 : TI Tryz.prog 82 true 5 48 (.agg #[.string ⟨#[]⟩, .bool false, .int .i64 0, .int .i64 0, .int .i64 0]) := TI.mk' Tryz.underlying82 rfl (by kernel_rfl)
theorem ti104 : TI Tryz.prog 104 false 1 8 (.pointer none) := TI.mk' Tryz.underlying104 rfl (by kernel_rfl)
theorem ti107 : TI Tryz.prog 107 false 1 8 (.nilFunc) := TI.mk' Tryz.underlying107 rfl (by kernel_rfl)
theorem ti110 : TI Tryz.prog 110 false 1 8 (.pointer none) := TI.mk' Tryz.underlying110 rfl (by kernel_rfl)
theorem ti111 : TI Tryz.prog 111 false 1 8 (.nilFunc) := TI.mk' Tryz.underlying111 rfl (by kernel_rfl)
theorem ti113 : TI Tryz.prog 113 false 1 8 (.pointer none) := TI.mk' Tryz.underlying113 rfl (by kernel_rfl)
theorem ti114 : TI Tryz.prog 114 false 1 8 (.nilFunc) := TI.mk' Tryz.underlying114 rfl (by kernel_rfl)
theorem ti116 : TI Tryz.prog 116 false 1 8 (.pointer none) := TI.mk' Tryz.underlying116 rfl (by kernel_rfl)
theorem ti117 : TI Tryz.prog 117 false 1 8 (.nilFunc) := TI.mk' Tryz.underlying117 rfl (by kernel_rfl)
theorem ti127 : TI Tryz.prog 127 false 1 8 (.nilFunc) := TI.mk' Tryz.underlying127 rfl (by kernel_rfl)
theorem ti129 : TI Tryz.prog 129 true 2 16 (.agg #[.nilFunc, .int .i64 0]) := TI.mk' Tryz.underlying129 rfl (by kernel_rfl)
theorem ti133 : TI Tryz.prog 133 true 3 24 (.agg #[.int .i64 0, .int .i64 0, .bool false]) := TI.mk' Tryz.underlying133 rfl (by kernel_rfl)
theorem ti157 : TI Tryz.prog 157 true 2 16 (.agg #[.int .i64 0, .int .i64 0]) := TI.mk' Tryz.underlying157 rfl (by kernel_rfl)
theorem ti167 : TI Tryz.prog 167 false 1 8 (.pointer none) := TI.mk' Tryz.underlying167 rfl (by kernel_rfl)
theorem ti185 : TI Tryz.prog 185 true 8 8 (.agg #[.int .u8 0, .int .u8 0, .int .u8 0, .int .u8 0, .int .u8 0, .int .u8 0, .int .u8 0, .int .u8 0]) := TI.mk' Tryz.underlying185 rfl (by kernel_rfl)
theorem ti226 : TI Tryz.prog 226 true 4 32 (.agg #[.int .i64 0, .int .i64 0, .int .i64 0, .int .i64 0]) := TI.mk' Tryz.underlying226 rfl (by kernel_rfl)
theorem ti238 : TI Tryz.prog 238 true 5 40 (.agg #[.int .i64 0, .int .i64 0, .int .i64 0, .int .i64 0, .int .i64 0]) := TI.mk' Tryz.underlying238 rfl (by kernel_rfl)
theorem ti249 : TI Tryz.prog 249 true 2 16 (.agg #[.nilFunc, .int .i64 0]) := TI.mk' Tryz.underlying249 rfl (by kernel_rfl)
theorem ti276 : TI Tryz.prog 276 true 28 448 (.agg #[.string ⟨#[]⟩, .string ⟨#[]⟩, .string ⟨#[]⟩, .string ⟨#[]⟩, .string ⟨#[]⟩, .string ⟨#[]⟩, .string ⟨#[]⟩, .string ⟨#[]⟩, .string ⟨#[]⟩, .string ⟨#[]⟩, .string ⟨#[]⟩, .string ⟨#[]⟩, .string ⟨#[]⟩, .string ⟨#[]⟩, .string ⟨#[]⟩, .string ⟨#[]⟩, .string ⟨#[]⟩, .string ⟨#[]⟩, .string ⟨#[]⟩, .string ⟨#[]⟩, .string ⟨#[]⟩, .string ⟨#[]⟩, .string ⟨#[]⟩, .string ⟨#[]⟩, .string ⟨#[]⟩, .string ⟨#[]⟩, .string ⟨#[]⟩, .string ⟨#[]⟩]) := TI.mk' Tryz.underlying276 rfl (by kernel_rfl)
theorem ti278 : TI Tryz.prog 278 true 24 384 (.agg #[.string ⟨#[]⟩, .string ⟨#[]⟩, .string ⟨#[]⟩, .string ⟨#[]⟩, .string ⟨#[]⟩, .string ⟨#[]⟩, .string ⟨#[]⟩, .string ⟨#[]⟩, .string ⟨#[]⟩, .string ⟨#[]⟩, .string ⟨#[]⟩, .string ⟨#[]⟩, .string ⟨#[]⟩, .string ⟨#[]⟩, .string ⟨#[]⟩, .string ⟨#[]⟩, .string ⟨#[]⟩, .string ⟨#[]⟩, .string ⟨#[]⟩, .string ⟨#[]⟩, .string ⟨#[]⟩, .string ⟨#[]⟩, .string ⟨#[]⟩, .string ⟨#[]⟩]) := TI.mk' Tryz.underlying278 rfl (by kernel_rfl)
theorem ti285 : TI Tryz.prog 285 false 1 8 (.nilFunc) := TI.mk' Tryz.underlying285 rfl (by kernel_rfl)
theorem ti287 : TI Tryz.prog 287 true 2 24 (.agg #[.string ⟨#[]⟩, .nilFunc]) := TI.mk' Tryz.underlying287 rfl (by kernel_rfl)
theorem cf19 : Callable Tryz.prog 19 := ⟨_, Tryz.func19, by rfl, rfl⟩
theorem cf20 : Callable Tryz.prog 20 := ⟨_, Tryz.func20, by rfl, rfl⟩
theorem cf21 : Callable Tryz.prog 21 := ⟨_, Tryz.func21, by rfl, rfl⟩
theorem cf23 : Callable Tryz.prog 23 := ⟨_, Tryz.func23, by rfl, rfl⟩
theorem cf25 : Callable Tryz.prog 25 := ⟨_, Tryz.func25, by rfl, rfl⟩
theorem cf26 : Callable Tryz.prog 26 := ⟨_, Tryz.func26, by rfl, rfl⟩
theorem cf28 : Callable Tryz.prog 28 := ⟨_, Tryz.func28, by rfl, rfl⟩
theorem cf30 : Callable Tryz.prog 30 := ⟨_, Tryz.func30, by rfl, rfl⟩
theorem cf31 : Callable Tryz.prog 31 := ⟨_, Tryz.func31, by rfl, rfl⟩
theorem cf42 : Callable Tryz.prog 42 := ⟨_, Tryz.func42, by rfl, rfl⟩
theorem cf43 : Callable Tryz.prog 43 := ⟨_, Tryz.func43, by rfl, rfl⟩
theorem cf44 : Callable Tryz.prog 44 := ⟨_, Tryz.func44, by rfl, rfl⟩
theorem cf49 : Callable Tryz.prog 49 := ⟨_, Tryz.func49, by rfl, rfl⟩
theorem cf54 : Callable Tryz.prog 54 := ⟨_, Tryz.func54, by rfl, rfl⟩
theorem cf55 : Callable Tryz.prog 55 := ⟨_, Tryz.func55, by rfl, rfl⟩
theorem cf56 : Callable Tryz.prog 56 := ⟨_, Tryz.func56, by rfl, rfl⟩
theorem cf57 : Callable Tryz.prog 57 := ⟨_, Tryz.func57, by rfl, rfl⟩
theorem cf58 : Callable Tryz.prog 58 := ⟨_, Tryz.func58, by rfl, rfl⟩
theorem cf59 : Callable Tryz.prog 59 := ⟨_, Tryz.func59, by rfl, rfl⟩
theorem cf60 : Callable Tryz.prog 60 := ⟨_, Tryz.func60, by rfl, rfl⟩
theorem cf61 : Callable Tryz.prog 61 := ⟨_, Tryz.func61, by rfl, rfl⟩
theorem cf62 : Callable Tryz.prog 62 := ⟨_, Tryz.func62, by rfl, rfl⟩
theorem cf63 : Callable Tryz.prog 63 := ⟨_, Tryz.func63, by rfl, rfl⟩
theorem cf64 : Callable Tryz.prog 64 := ⟨_, Tryz.func64, by rfl, rfl⟩
theorem cf65 : Callable Tryz.prog 65 := ⟨_, Tryz.func65, by rfl, rfl⟩
theorem cf66 : Callable Tryz.prog 66 := ⟨_, Tryz.func66, by rfl, rfl⟩
theorem cf67 : Callable Tryz.prog 67 := ⟨_, Tryz.func67, by rfl, rfl⟩
theorem cf70 : Callable Tryz.prog 70 := ⟨_, Tryz.func70, by rfl, rfl⟩
theorem cf71 : Callable Tryz.prog 71 := ⟨_, Tryz.func71, by rfl, rfl⟩
theorem cf72 : Callable Tryz.prog 72 := ⟨_, Tryz.func72, by rfl, rfl⟩
theorem cf73 : Callable Tryz.prog 73 := ⟨_, Tryz.func73, by rfl, rfl⟩
theorem cf74 : Callable Tryz.prog 74 := ⟨_, Tryz.func74, by rfl, rfl⟩
theorem cf75 : Callable Tryz.prog 75 := ⟨_, Tryz.func75, by rfl, rfl⟩
theorem cf82 : Callable Tryz.prog 82 := ⟨_, Tryz.func82, by rfl, rfl⟩
theorem cf83 : Callable Tryz.prog 83 := ⟨_, Tryz.func83, by rfl, rfl⟩
theorem cf84 : Callable Tryz.prog 84 := ⟨_, Tryz.func84, by rfl, rfl⟩
theorem cf85 : Callable Tryz.prog 85 := ⟨_, Tryz.func85, by rfl, rfl⟩
theorem cf86 : Callable Tryz.prog 86 := ⟨_, Tryz.func86, by rfl, rfl⟩
theorem cf105 : Callable Tryz.prog 105 := ⟨_, Tryz.func105, by rfl, rfl⟩
theorem cf106 : Callable Tryz.prog 106 := ⟨_, Tryz.func106, by rfl, rfl⟩
theorem cf109 : Callable Tryz.prog 109 := ⟨_, Tryz.func109, by rfl, rfl⟩
theorem cf110 : Callable Tryz.prog 110 := ⟨_, Tryz.func110, by rfl, rfl⟩
theorem cf111 : Callable Tryz.prog 111 := ⟨_, Tryz.func111, by rfl, rfl⟩
theorem cf112 : Callable Tryz.prog 112 := ⟨_, Tryz.func112, by rfl, rfl⟩
theorem cf113 : Callable Tryz.prog 113 := ⟨_, Tryz.func113, by rfl, rfl⟩
theorem cf114 : Callable Tryz.prog 114 := ⟨_, Tryz.func114, by rfl, rfl⟩
theorem cf115 : Callable Tryz.prog 115 := ⟨_, Tryz.func115, by rfl, rfl⟩
theorem cf116 : Callable Tryz.prog 116 := ⟨_, Tryz.func116, by rfl, rfl⟩
theorem cf117 : Callable Tryz.prog 117 := ⟨_, Tryz.func117, by rfl, rfl⟩
theorem cf118 : Callable Tryz.prog 118 := ⟨_, Tryz.func118, by rfl, rfl⟩
theorem cf119 : Callable Tryz.prog 119 := ⟨_, Tryz.func119, by rfl, rfl⟩
theorem cf120 : Callable Tryz.prog 120 := ⟨_, Tryz.func120, by rfl, rfl⟩
theorem cf121 : Callable Tryz.prog 121 := ⟨_, Tryz.func121, by rfl, rfl⟩
theorem cf123 : Callable Tryz.prog 123 := ⟨_, Tryz.func123, by rfl, rfl⟩
theorem cf124 : Callable Tryz.prog 124 := ⟨_, Tryz.func124, by rfl, rfl⟩
theorem cf126 : Callable Tryz.prog 126 := ⟨_, Tryz.func126, by rfl, rfl⟩
theorem cf127 : Callable Tryz.prog 127 := ⟨_, Tryz.func127, by rfl, rfl⟩
theorem cf132 : Callable Tryz.prog 132 := ⟨_, Tryz.func132, by rfl, rfl⟩
theorem cf133 : Callable Tryz.prog 133 := ⟨_, Tryz.func133, by rfl, rfl⟩
theorem cf134 : Callable Tryz.prog 134 := ⟨_, Tryz.func134, by rfl, rfl⟩
theorem cf135 : Callable Tryz.prog 135 := ⟨_, Tryz.func135, by rfl, rfl⟩
theorem cf139 : Callable Tryz.prog 139 := ⟨_, Tryz.func139, by rfl, rfl⟩
theorem cf140 : Callable Tryz.prog 140 := ⟨_, Tryz.func140, by rfl, rfl⟩
theorem cf141 : Callable Tryz.prog 141 := ⟨_, Tryz.func141, by rfl, rfl⟩
theorem cf142 : Callable Tryz.prog 142 := ⟨_, Tryz.func142, by rfl, rfl⟩
theorem cf143 : Callable Tryz.prog 143 := ⟨_, Tryz.func143, by rfl, rfl⟩
theorem cf144 : Callable Tryz.prog 144 := ⟨_, Tryz.func144, by rfl, rfl⟩
theorem cf145 : Callable Tryz.prog 145 := ⟨_, Tryz.func145, by rfl, rfl⟩
theorem cf146 : Callable Tryz.prog 146 := ⟨_, Tryz.func146, by rfl, rfl⟩
theorem cf147 : Callable Tryz.prog 147 := ⟨_, Tryz.func147, by rfl, rfl⟩
theorem cf148 : Callable Tryz.prog 148 := ⟨_, Tryz.func148, by rfl, rfl⟩
theorem cf167 : Callable Tryz.prog 167 := ⟨_, Tryz.func167, by rfl, rfl⟩
theorem cf169 : Callable Tryz.prog 169 := ⟨_, Tryz.func169, by rfl, rfl⟩
theorem cf170 : Callable Tryz.prog 170 := ⟨_, Tryz.func170, by rfl, rfl⟩
theorem cf171 : Callable Tryz.prog 171 := ⟨_, Tryz.func171, by rfl, rfl⟩
theorem cf172 : Callable Tryz.prog 172 := ⟨_, Tryz.func172, by rfl, rfl⟩
theorem cf173 : Callable Tryz.prog 173 := ⟨_, Tryz.func173, by rfl, rfl⟩
theorem cf174 : Callable Tryz.prog 174 := ⟨_, Tryz.func174, by rfl, rfl⟩
theorem cf175 : Callable Tryz.prog 175 := ⟨_, Tryz.func175, by rfl, rfl⟩
theorem cf176 : Callable Tryz.prog 176 := ⟨_, Tryz.func176, by rfl, rfl⟩
theorem cf177 : Callable Tryz.prog 177 := ⟨_, Tryz.func177, by rfl, rfl⟩
theorem cf178 : Callable Tryz.prog 178 := ⟨_, Tryz.func178, by rfl, rfl⟩
theorem cf179 : Callable Tryz.prog 179 := ⟨_, Tryz.func179, by rfl, rfl⟩
theorem cf185 : Callable Tryz.prog 185 := ⟨_, Tryz.func185, by rfl, rfl⟩
theorem cf186 : Callable Tryz.prog 186 := ⟨_, Tryz.func186, by rfl, rfl⟩
theorem cf187 : Callable Tryz.prog 187 := ⟨_, Tryz.func187, by rfl, rfl⟩
theorem cf188 : Callable Tryz.prog 188 := ⟨_, Tryz.func188, by rfl, rfl⟩
theorem cf189 : Callable Tryz.prog 189 := ⟨_, Tryz.func189, by rfl, rfl⟩
theorem cf192 : Callable Tryz.prog 192 := ⟨_, Tryz.func192, by rfl, rfl⟩
theorem cf193 : Callable Tryz.prog 193 := ⟨_, Tryz.func193, by rfl, rfl⟩
theorem cf194 : Callable Tryz.prog 194 := ⟨_, Tryz.func194, by rfl, rfl⟩
theorem cf195 : Callable Tryz.prog 195 := ⟨_, Tryz.func195, by rfl, rfl⟩
theorem cf196 : Callable Tryz.prog 196 := ⟨_, Tryz.func196, by rfl, rfl⟩
theorem cf208 : Callable Tryz.prog 208 := ⟨_, Tryz.func208, by rfl, rfl⟩
theorem cf209 : Callable Tryz.prog 209 := ⟨_, Tryz.func209, by rfl, rfl⟩
theorem cf212 : Callable Tryz.prog 212 := ⟨_, Tryz.func212, by rfl, rfl⟩
theorem cf214 : Callable Tryz.prog 214 := ⟨_, Tryz.func214, by rfl, rfl⟩
theorem cf220 : Callable Tryz.prog 220 := ⟨_, Tryz.func220, by rfl, rfl⟩
theorem cf221 : Callable Tryz.prog 221 := ⟨_, Tryz.func221, by rfl, rfl⟩
theorem cf222 : Callable Tryz.prog 222 := ⟨_, Tryz.func222, by rfl, rfl⟩
theorem cf223 : Callable Tryz.prog 223 := ⟨_, Tryz.func223, by rfl, rfl⟩
theorem cf224 : Callable Tryz.prog 224 := ⟨_, Tryz.func224, by rfl, rfl⟩
theorem cf226 : Callable Tryz.prog 226 := ⟨_, Tryz.func226, by rfl, rfl⟩
theorem cf227 : Callable Tryz.prog 227 := ⟨_, Tryz.func227, by rfl, rfl⟩
theorem cf228 : Callable Tryz.prog 228 := ⟨_, Tryz.func228, by rfl, rfl⟩
theorem cf229 : Callable Tryz.prog 229 := ⟨_, Tryz.func229, by rfl, rfl⟩
theorem cf241 : Callable Tryz.prog 241 := ⟨_, Tryz.func241, by rfl, rfl⟩
theorem cf242 : Callable Tryz.prog 242 := ⟨_, Tryz.func242, by rfl, rfl⟩
theorem cf243 : Callable Tryz.prog 243 := ⟨_, Tryz.func243, by rfl, rfl⟩
theorem cf244 : Callable Tryz.prog 244 := ⟨_, Tryz.func244, by rfl, rfl⟩
theorem cf245 : Callable Tryz.prog 245 := ⟨_, Tryz.func245, by rfl, rfl⟩
theorem cf246 : Callable Tryz.prog 246 := ⟨_, Tryz.func246, by rfl, rfl⟩
theorem cf247 : Callable Tryz.prog 247 := ⟨_, Tryz.func247, by rfl, rfl⟩
theorem cf248 : Callable Tryz.prog 248 := ⟨_, Tryz.func248, by rfl, rfl⟩
theorem cf249 : Callable Tryz.prog 249 := ⟨_, Tryz.func249, by rfl, rfl⟩
theorem cf250 : Callable Tryz.prog 250 := ⟨_, Tryz.func250, by rfl, rfl⟩
theorem cf251 : Callable Tryz.prog 251 := ⟨_, Tryz.func251, by rfl, rfl⟩
theorem cf252 : Callable Tryz.prog 252 := ⟨_, Tryz.func252, by rfl, rfl⟩
theorem cf253 : Callable Tryz.prog 253 := ⟨_, Tryz.func253, by rfl, rfl⟩
theorem cf254 : Callable Tryz.prog 254 := ⟨_, Tryz.func254, by rfl, rfl⟩
theorem cf265 : Callable Tryz.prog 265 := ⟨_, Tryz.func265, by rfl, rfl⟩
theorem cf266 : Callable Tryz.prog 266 := ⟨_, Tryz.func266, by rfl, rfl⟩
theorem cf270 : Callable Tryz.prog 270 := ⟨_, Tryz.func270, by rfl, rfl⟩
theorem cf271 : Callable Tryz.prog 271 := ⟨_, Tryz.func271, by rfl, rfl⟩
theorem cf272 : Callable Tryz.prog 272 := ⟨_, Tryz.func272, by rfl, rfl⟩
theorem cf273 : Callable Tryz.prog 273 := ⟨_, Tryz.func273, by rfl, rfl⟩
theorem cf274 : Callable Tryz.prog 274 := ⟨_, Tryz.func274, by rfl, rfl⟩
theorem cf275 : Callable Tryz.prog 275 := ⟨_, Tryz.func275, by rfl, rfl⟩
theorem cf277 : Callable Tryz.prog 277 := ⟨_, Tryz.func277, by rfl, rfl⟩
end Go.Proofs.YtnglgjgflohkmaaGreat.Sk
