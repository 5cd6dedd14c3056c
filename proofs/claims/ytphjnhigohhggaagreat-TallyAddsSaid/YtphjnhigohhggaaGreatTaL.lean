import Derived.Test.YtphjnhigohhggaaGreatTaX
set_option linter.unusedSimpArgs false
set_option linter.unusedVariables false
/- The law TallyAdds: for any two tallies it answers true. -/
namespace Go.Ab.T
open Go Go.Proofs Go.Ab
set_option maxRecDepth 20000
attribute [local irreducible] Ar CmpW condW Idx Conv CallR AggEq LoopV Round EndW
/-- The tally's sum of two numbers, as the program reckons it. -/
def held (n : Int) : Int := min (max n (-1125899906842624)) 1125899906842624
def tsum (a b : Int) : Int := held (IntKind.i64.wrap (held a + held b))
/-- And as the document's answer does. -/
def heldR (n : Int) : Int := max (-1125899906842624) (min n 1125899906842624)
def rsum (a b : Int) : Int := heldR (IntKind.i64.wrap (heldR a + heldR b))
theorem held_eq (n : Int) : heldR n = held n := by unfold heldR held; omega
theorem rsum_eq (a b : Int) : rsum a b = tsum a b := by simp only [rsum, tsum, held_eq]
theorem tsum_comm (a b : Int) : tsum a b = tsum b a := by unfold tsum; rw [Int.add_comm]
structure Ty10 where
  (a b c d e f g h i j : Int)
def Ty10.enc (x : Ty10) : List D := [.int .i64 x.a, .int .i64 x.b, .int .i64 x.c, .int .i64 x.d, .int .i64 x.e, .int .i64 x.f, .int .i64 x.g, .int .i64 x.h, .int .i64 x.i, .int .i64 x.j]
def Ty10.add (x y : Ty10) : Ty10 := ⟨tsum x.a y.a, tsum x.b y.b, tsum x.c y.c, tsum x.d y.d, tsum x.e y.e, tsum x.f y.f, tsum x.g y.g, tsum x.h y.h, tsum x.i y.i, tsum x.j y.j⟩
theorem Ty10.add_comm (x y : Ty10) : x.add y = y.add x := by simp only [Ty10.add]; congr 1 <;> exact tsum_comm _ _
set_option maxRecDepth 100000 in
theorem p38 (x y : Ty10) : Pure Tryz.prog 38 [.agg x.enc, .agg y.enc] (.agg (x.add y).enc) :=
  pure_of_run AA_ok hmix TT_ok XX_ok (lim := 100) (q := 20) (by kernel_rfl)
set_option maxRecDepth 100000 in
theorem p36 (x : Ty10) : Pure Tryz.prog 36 [.agg x.enc] (.agg x.enc) :=
  pure_of_run AA_ok hmix TT_ok XX_ok (lim := 100) (q := 20) (by kernel_rfl)
set_option maxRecDepth 100000 in
theorem p128 (x y : Int) : Pure Tryz.prog 128 [.int .i64 x, .int .i64 y] (.int .i64 (rsum x y)) :=
  pure_of_run AA_ok hmix TT_ok XX_ok (lim := 100) (q := 20) (by kernel_rfl)
def Ty10.addR (x y : Ty10) : Ty10 := ⟨rsum x.a y.a, rsum x.b y.b, rsum x.c y.c, rsum x.d y.d, rsum x.e y.e, rsum x.f y.f, rsum x.g y.g, rsum x.h y.h, rsum x.i y.i, rsum x.j y.j⟩
set_option maxRecDepth 100000 in
theorem p39 (x y : Ty10) : Pure Tryz.prog 39 [.agg x.enc, .agg y.enc] (.agg (x.addR y).enc) :=
  pure_of_run AA_ok hmix TT_ok XX_ok (lim := 100) (q := 20) (by kernel_rfl)
set_option maxRecDepth 100000 in
/-- The program, awake. -/
theorem p31 : Pure Tryz.prog 31 [] (.bool true) := pure_of_run AA_ok hmix TT_ok XX_ok (lim := 2000) (q := 60) (by kernel_rfl)
end Go.Ab.T
