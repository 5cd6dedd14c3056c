import Derived.Test.YtphjnhigohhggaaGreatAe2
import Derived.Test.YtphjnhigohhggaaGreatProg
set_option linter.unusedSimpArgs false
set_option linter.unusedVariables false
/- Functions of the program, told in the small language (printed by mc.py); each is checked against the program. -/
namespace Go.Ab
open Go Go.Proofs
set_option maxRecDepth 100000
/-- slices.Clone[[]tympan/api.Item,tympan/api.Item] -/
def m199 : MF := { N := 8, np := 1, res := [.tmp 2], body :=
  (.seq (.region [o 2 .move [.const .nils]])
  (.seq (.seq (.region [o 3 .move [T 0],
    o 4 (.eq false .sl) [T 3, .const .nils]])
  (.cond (T 4) (.seq (.region [o 2 .move [.const .nils]])
   .ret) .skip))
  (.seq (.region [o 5 .emptySlice [],
    o 6 .move [T 0],
    o 7 (.append 7 56) [T 5, T 6],
    o 2 .move [T 7]])
  .ret))) }
theorem ok199 : fnOk Tryz.prog 199 m199 = true := by kernel_rfl
/-- slices.Clone[[]tympan/api.Float,tympan/api.Float] -/
def m200 : MF := { N := 8, np := 1, res := [.tmp 2], body :=
  (.seq (.region [o 2 .move [.const .nils]])
  (.seq (.seq (.region [o 3 .move [T 0],
    o 4 (.eq false .sl) [T 3, .const .nils]])
  (.cond (T 4) (.seq (.region [o 2 .move [.const .nils]])
   .ret) .skip))
  (.seq (.region [o 5 .emptySlice [],
    o 6 .move [T 0],
    o 7 (.append 3 24) [T 5, T 6],
    o 2 .move [T 7]])
  .ret))) }
theorem ok200 : fnOk Tryz.prog 200 m200 = true := by kernel_rfl
/-- tympan/sums.fair -/
def m208 : MF := { N := 26, np := 1, res := [.tmp 2], body :=
  (.seq (.region [o 1 .box [T 0],
    o 2 .move [B false]])
  (.seq (.region [o 3 .move [Fc 312]])
  (.seq (.seq (.region [o 5 .move [I 0]])
  (.block 0 (.loop (.seq (.region [o 6 (.cmp .lss) [T 5, I 4]])
    (.seq (.cond (T 6) .skip (.exit 0))
    (.seq (.block 1 (.seq (.region [o 7 .move [T 5],
       o 4 .move [T 7]])
     (.seq (.region [o 8 .move [T 3],
       o 9 .move [T 4],
       o 10 (.fieldAddr 1) [T 1],
       o 11 (.indexA 4 1) [T 10, T 9],
       o 12 (.load 1 false) [T 11],
       o 13 .callv [T 8, T 12],
       o 14 .not [T 13]])
     (.cond (T 14) (.seq (.region [o 2 .move [B false]])
      .ret) .skip))))
    (.region [o 15 (.arith .add) [T 5, I 1],
      o 5 .move [T 15]])))))))
  (.seq (.region [o 16 .move [T 3],
    o 17 (.fieldAddr 0) [T 1],
    o 18 (.load 1 false) [T 17],
    o 19 .callv [T 16, T 18],
    o 20 .move [T 19],
    og 21 .move [T 3] 20 true,
    og 22 (.fieldAddr 5) [T 1] 20 true,
    og 23 (.load 1 false) [T 22] 20 true,
    og 24 .callv [T 21, T 23] 20 true,
    o 25 .pick [T 20, T 24, B false],
    o 2 .move [T 25]])
  .ret)))) }
theorem ok208 : fnOk Tryz.prog 208 m208 = true := by kernel_rfl
/-- tympan/total.Add -/
def m209 : MF := { N := 11, np := 2, res := [.cell 4 6 true, .tmp 5], body :=
  (.seq (.region [o 2 .box [T 0],
    o 3 .box [T 1],
    o 4 (.alloc [.fz (.int .i64 0), .fz (.int .i64 0), .fz (.int .i64 0), .fz (.int .i64 0), .fz (.int .i64 0), .fz (.int .i64 0)]) [],
    o 5 .move [B false]])
  (.seq (.region [o 6 (.load 6 true) [T 2],
    o 7 (.load 6 true) [T 3],
    o 8 (.call 313) [T 6, T 7, Fc 314],
    o 9 (.extract 0) [T 8],
    o 10 (.extract 1) [T 8],
    on (.store 6) [T 4, T 9],
    o 5 .move [T 10]])
  .ret)) }
theorem ok209 : fnOk Tryz.prog 209 m209 = true := by kernel_rfl
/-- (*tympan/anchor.Map).place -/
def m210 : MF := { N := 16, np := 2, res := [.tmp 4, .tmp 5], body :=
  (.seq (.region [o 4 .move [I 0],
    o 5 .move [B false]])
  (.seq (.seq (.region [o 6 .move [T 0],
    o 7 (.eq false .ptr) [T 6, CN .nilp]])
  (.cond (T 7) (.seq (.region [o 4 .move [I 0],
     o 5 .move [B false]])
   .ret) .skip))
  (.seq (.region [o 8 .move [T 1],
    o 9 .max [T 8, I 0],
    o 10 .move [T 0],
    o 11 .nilCheck [T 10],
    o 12 (.fieldAddr 0) [T 11],
    o 13 (.load 1 false) [T 12],
    o 14 .len [T 13],
    o 15 .min [T 9, T 14],
    o 4 .move [T 15],
    o 5 .move [B true]])
  .ret))) }
theorem ok210 : fnOk Tryz.prog 210 m210 = true := by kernel_rfl
/-- tympan/legal.rules -/
def m211 : MF := { N := 19, np := 0, res := [.tmp 0], body :=
  (.seq (.region [o 0 .move [CN .nilm]])
  (.seq (.region [o 1 .move [Fc 315]])
  (.seq (.region [o 2 .makeMap [],
    o 3 (.build [.fz (.int .i64 0), .fz .nilf] [(0, 1), (1, 1)]) [I 19, Fc 316],
    o 4 (.build [.fz (.int .i64 0), .fz .nilf] [(0, 1), (1, 1)]) [I 18, Fc 317],
    o 5 (.build [.fz (.int .i64 0), .fz .nilf] [(0, 1), (1, 1)]) [I 14, Fc 319],
    o 6 (.build [.fz (.int .i64 0), .fz .nilf] [(0, 1), (1, 1)]) [I 15, Fc 320],
    o 7 (.build [.fz (.int .i64 0), .fz .nilf] [(0, 1), (1, 1)]) [I 16, Fc 322],
    o 8 (.buildSlice 2 5) [T 3, T 4, T 5, T 6, T 7],
    on (.mapPut none) [T 2, I 1, T 8],
    o 9 (.build [.fz (.int .i64 0), .fz .nilf] [(0, 1), (1, 1)]) [I 19, Fc 325],
    o 10 .move [T 1],
    o 11 (.build [.fz (.int .i64 0), .fz .nilf] [(0, 1), (1, 1)]) [I 15, T 10],
    o 12 (.build [.fz (.int .i64 0), .fz .nilf] [(0, 1), (1, 1)]) [I 16, Fc 326],
    o 13 (.buildSlice 2 3) [T 9, T 11, T 12],
    on (.mapPut none) [T 2, I 2, T 13],
    o 14 (.build [.fz (.int .i64 0), .fz .nilf] [(0, 1), (1, 1)]) [I 19, Fc 327],
    o 15 (.build [.fz (.int .i64 0), .fz .nilf] [(0, 1), (1, 1)]) [I 15, Fc 328],
    o 16 (.build [.fz (.int .i64 0), .fz .nilf] [(0, 1), (1, 1)]) [I 16, Fc 330],
    o 17 (.buildSlice 2 3) [T 14, T 15, T 16],
    on (.mapPut none) [T 2, I 3, T 17],
    o 18 .move [T 2],
    o 0 .move [T 18]])
  .ret))) }
theorem ok211 : fnOk Tryz.prog 211 m211 = true := by kernel_rfl
/-- (tympan/legal.asked).over -/
def m212 : MF := { N := 11, np := 1, res := [.tmp 2], body :=
  (.seq (.region [o 1 .box [T 0],
    o 2 .move [B false]])
  (.seq (.region [o 3 (.fieldAddr 0) [T 1],
    o 4 (.load 1 false) [T 3],
    o 5 (.fieldAddr 1) [T 1],
    o 6 (.load 7 true) [T 5],
    o 7 (.fieldAddr 8) [T 1],
    o 8 (.load 6 true) [T 7],
    o 9 (.call 21) [T 4, T 6, T 8],
    o 10 (.field 4 1 false) [T 9],
    o 2 .move [T 10]])
  .ret)) }
theorem ok212 : fnOk Tryz.prog 212 m212 = true := by kernel_rfl
/-- (*tympan/state.World).carries -/
def m215 : MF := { N := 60, np := 2, res := [.tmp 4], body :=
  (.seq (.region [o 3 .box [T 1],
    o 4 .move [B false]])
  (.seq (.draw [o 7 .move [T 0],
    o 8 .nilCheck [T 7],
    o 9 (.fieldAddr 0) [T 8],
    o 10 (.load 1 false) [T 9],
    o 11 .nilCheck [T 10],
    o 12 (.fieldAddr 2) [T 11],
    o 13 (.load 1 false) [T 12],
    o 14 (.fieldAddr 0) [T 3],
    o 15 (.load 1 false) [T 14],
    o 16 (.call 304) [T 13, T 15],
    o 5 .move [T 16]]
    [0, 1, 3, 7, 15, 31, 63, 0, 128, 511, 1023])
  (.seq (.seq (.region [o 17 (.fieldAddr 3) [T 3],
    o 18 (.load 1 false) [T 17],
    o 19 (.eq false .int) [T 18, I 0]])
  (.cond (T 19) (.seq (.region [o 20 (.fieldAddr 2) [T 3],
     o 21 (.load 1 false) [T 20],
     o 22 .move [T 5],
     o 23 (.eq false .int) [T 21, T 22],
     o 4 .move [T 23]])
   .ret) .skip))
  (.seq (.seq (.region [o 24 (.fieldAddr 2) [T 3],
    o 25 (.load 1 false) [T 24],
    o 26 .move [T 5],
    o 27 (.arith .sub) [T 26, I 1],
    o 28 (.eq true .int) [T 25, T 27],
    o 29 .move [T 28],
    og 30 (.fieldAddr 2) [T 3] 29 false,
    og 31 (.load 1 false) [T 30] 29 false,
    og 32 (.cmp .lss) [T 31, I 0] 29 false,
    o 33 .pick [T 29, B true, T 32],
    o 34 .move [T 33],
    og 35 (.fieldAddr 3) [T 3] 34 false,
    og 36 (.load 1 false) [T 35] 34 false,
    og 37 (.cmp .lss) [T 36, I 1] 34 false,
    o 38 .pick [T 34, B true, T 37]])
  (.cond (T 38) (.seq (.region [o 4 .move [B false]])
   .ret) .skip))
  (.seq (.draw [o 39 .move [T 0],
    o 40 .nilCheck [T 39],
    o 41 (.fieldAddr 1) [T 40],
    o 42 (.fieldAddr 20) [T 41],
    o 43 (.load 1 false) [T 42],
    o 44 (.fieldAddr 2) [T 3],
    o 45 (.load 1 false) [T 44],
    o 46 (.indexS 2) [T 43, T 45],
    o 47 (.load 2 true) [T 46],
    o 6 (.alloc [.nils, .nils]) [],
    on (.store 2) [T 6, T 47]]
    [0, 1, 3, 7, 15, 0, 32, 127, 255, 0, 1023])
  (.seq (.region [o 48 (.fieldAddr 3) [T 3],
    o 49 (.load 1 false) [T 48],
    o 50 (.fieldAddr 0) [T 6],
    o 51 (.load 1 false) [T 50],
    o 52 .len [T 51],
    o 53 (.cmp .lss) [T 49, T 52],
    o 54 .move [T 53],
    og 55 (.load 2 true) [T 6] 54 true,
    og 56 (.fieldAddr 3) [T 3] 54 true,
    og 57 (.load 1 false) [T 56] 54 true,
    og 58 (.call 337) [T 55, T 57] 54 true,
    o 59 .pick [T 54, T 58, B false],
    o 4 .move [T 59]])
  .ret)))))) }
theorem ok215 : fnOk Tryz.prog 215 m215 = true := by kernel_rfl
/-- (tympan/queue.Counts).Within -/
def m216 : MF := { N := 18, np := 2, res := [.tmp 4], body :=
  (.seq (.region [o 2 .box [T 0],
    o 3 .box [T 1],
    o 4 .move [B false]])
  (.seq (.seq (.region [o 7 (.load 3 true) [T 2],
    o 8 .move [I 0]])
  (.block 0 (.loop (.seq (.region [o 9 (.cmp .lss) [T 8, I 3]])
    (.seq (.cond (T 9) .skip (.exit 0))
    (.seq (.block 1 (.seq (.region [o 10 .move [T 8],
       o 11 (.index 3 1 1 false) [T 7, T 8],
       o 5 .move [T 10],
       o 6 .move [T 11]])
     (.seq (.region [o 12 .move [T 6],
       o 13 .move [T 5],
       o 14 (.indexA 3 1) [T 3, T 13],
       o 15 (.load 1 false) [T 14],
       o 16 (.cmp .gtr) [T 12, T 15]])
     (.cond (T 16) (.seq (.region [o 4 .move [B false]])
      .ret) .skip))))
    (.region [o 17 (.arith .add) [T 8, I 1],
      o 8 .move [T 17]])))))))
  (.seq (.region [o 4 .move [B true]])
  .ret))) }
theorem ok216 : fnOk Tryz.prog 216 m216 = true := by kernel_rfl
/-- (*tympan/vlist.List).At -/
def m220 : MF := { N := 22, np := 2, res := [.cell 4 7 true, .tmp 5], body :=
  (.seq (.region [o 4 (.alloc [.fz (.int .i64 0), .fz (.int .i64 0), .fz (.int .i64 0), .fz (.int .i64 0), .fz (.int .i64 0), .fz (.int .i64 0), .fz (.int .i64 0)]) [],
    o 5 .move [B false]])
  (.seq (.seq (.region [o 6 .move [T 1],
    o 7 (.cmp .lss) [T 6, I 0],
    o 8 .move [T 7],
    og 9 .move [T 1] 8 false,
    og 10 .move [T 0] 8 false,
    og 11 (.call 178) [T 10] 8 false,
    og 12 (.cmp .geq) [T 9, T 11] 8 false,
    o 13 .pick [T 8, B true, T 12]])
  (.cond (T 13) (.seq (.region [o 14 (.build [.fz (.int .i64 0), .fz (.int .i64 0), .fz (.int .i64 0), .fz (.int .i64 0), .fz (.int .i64 0), .fz (.int .i64 0), .fz (.int .i64 0)] []) [],
     on (.store 7) [T 4, T 14],
     o 5 .move [B false]])
   .ret) .skip))
  (.seq (.region [o 15 .move [T 0],
    o 16 .nilCheck [T 15],
    o 17 (.fieldAddr 0) [T 16],
    o 18 (.load 1 false) [T 17],
    o 19 .move [T 1],
    o 20 (.indexS 7) [T 18, T 19],
    o 21 (.load 7 true) [T 20],
    on (.store 7) [T 4, T 21],
    o 5 .move [B true]])
  .ret))) }
theorem ok220 : fnOk Tryz.prog 220 m220 = true := by kernel_rfl
/-- tympan/item.Forces -/
def m221 : MF := { N := 11, np := 1, res := [.tmp 2], body :=
  (.seq (.region [o 1 .box [T 0],
    o 2 .move [B false]])
  (.seq (.region [o 3 (.fieldAddr 0) [T 1],
    o 4 (.load 1 false) [T 3],
    o 5 (.eq false .int) [T 4, I 3],
    o 6 .move [T 5],
    og 7 (.fieldAddr 6) [T 1] 6 true,
    og 8 (.load 1 false) [T 7] 6 true,
    og 9 (.cmp .leq) [T 8, I (-10000)] 6 true,
    o 10 .pick [T 6, T 9, B false],
    o 2 .move [T 10]])
  .ret)) }
theorem ok221 : fnOk Tryz.prog 221 m221 = true := by kernel_rfl
/-- tympan/gset.Right -/
def m222 : MF := { N := 15, np := 2, res := [.tmp 4], body :=
  (.seq (.region [o 2 .box [T 0],
    o 4 .move [B false]])
  (.seq (.region [o 5 (.load 6 true) [T 2],
    o 6 (.call 108) [T 5],
    o 7 .move [T 6],
    og 8 .move [T 1] 7 true,
    og 9 (.cmp .geq) [T 8, I (-1125899906842624)] 7 true,
    o 10 .pick [T 7, T 9, B false],
    o 11 .move [T 10],
    og 12 .move [T 1] 11 true,
    og 13 (.cmp .leq) [T 12, I 1125899906842624] 11 true,
    o 14 .pick [T 11, T 13, B false],
    o 4 .move [T 14]])
  .ret)) }
theorem ok222 : fnOk Tryz.prog 222 m222 = true := by kernel_rfl
/-- tympan/total.Order -/
def m223 : MF := { N := 14, np := 1, res := [.tmp 2], body :=
  (.seq (.region [o 1 .box [T 0],
    o 2 .move [I 0]])
  (.seq (.seq (.region [o 3 .move [I 3]])
  (.block 0 (.loop (.seq (.seq (.region [o 4 .move [T 3],
      o 5 (.cmp .gtr) [T 4, I 0]])
    (.cond (T 5) .skip (.exit 0)))
    (.seq (.block 1 (.seq (.region [o 8 .move [T 3],
       o 9 (.fieldAddr 1) [T 1],
       o 10 (.indexA 4 1) [T 9, T 8],
       o 11 (.load 1 false) [T 10],
       o 12 (.eq true .int) [T 11, I 0]])
     (.cond (T 12) (.seq (.region [o 13 .move [T 3],
        o 2 .move [T 13]])
      .ret) .skip)))
    (.region [o 6 .move [T 3],
      o 7 (.arith .sub) [T 6, I 1],
      o 3 .move [T 7]]))))))
  (.seq (.region [o 2 .move [I 0]])
  .ret))) }
theorem ok223 : fnOk Tryz.prog 223 m223 = true := by kernel_rfl
/-- tympan/total.Sub -/
def m224 : MF := { N := 11, np := 2, res := [.cell 4 6 true, .tmp 5], body :=
  (.seq (.region [o 2 .box [T 0],
    o 3 .box [T 1],
    o 4 (.alloc [.fz (.int .i64 0), .fz (.int .i64 0), .fz (.int .i64 0), .fz (.int .i64 0), .fz (.int .i64 0), .fz (.int .i64 0)]) [],
    o 5 .move [B false]])
  (.seq (.region [o 6 (.load 6 true) [T 2],
    o 7 (.load 6 true) [T 3],
    o 8 (.call 313) [T 6, T 7, Fc 338],
    o 9 (.extract 0) [T 8],
    o 10 (.extract 1) [T 8],
    on (.store 6) [T 4, T 9],
    o 5 .move [T 10]])
  .ret)) }
theorem ok224 : fnOk Tryz.prog 224 m224 = true := by kernel_rfl
/-- (*tympan/sums.Sums).Len -/
def m228 : MF := { N := 10, np := 1, res := [.tmp 2], body :=
  (.seq (.region [o 2 .move [I 0]])
  (.seq (.seq (.region [o 3 .move [T 0],
    o 4 (.eq false .ptr) [T 3, CN .nilp]])
  (.cond (T 4) (.seq (.region [o 2 .move [I 0]])
   .ret) .skip))
  (.seq (.region [o 5 .move [T 0],
    o 6 .nilCheck [T 5],
    o 7 (.fieldAddr 0) [T 6],
    o 8 (.load 1 false) [T 7],
    o 9 .len [T 8],
    o 2 .move [T 9]])
  .ret))) }
theorem ok228 : fnOk Tryz.prog 228 m228 = true := by kernel_rfl
/-- tympan/total.Box -/
def m229 : MF := { N := 5, np := 1, res := [.cell 2 6 true], body :=
  (.seq (.region [o 2 (.alloc [.fz (.int .i64 0), .fz (.int .i64 0), .fz (.int .i64 0), .fz (.int .i64 0), .fz (.int .i64 0), .fz (.int .i64 0)]) []])
  (.seq (.region [o 3 .move [T 0],
    o 4 (.build [.fz (.int .i64 0), .fz (.int .i64 0), .fz (.int .i64 0), .fz (.int .i64 0), .fz (.int .i64 0), .fz (.int .i64 0)] [(0, 1)]) [T 3],
    on (.store 6) [T 2, T 4]])
  .ret)) }
theorem ok229 : fnOk Tryz.prog 229 m229 = true := by kernel_rfl
/-- tympan/tally.count -/
def m231 : MF := { N := 4, np := 1, res := [.tmp 2], body :=
  (.seq (.region [o 2 .move [I 0]])
  (.seq (.seq (.region [o 3 .move [T 0]])
  (.cond (T 3) (.seq (.region [o 2 .move [I 1]])
   .ret) .skip))
  (.seq (.region [o 2 .move [I 0]])
  .ret))) }
theorem ok231 : fnOk Tryz.prog 231 m231 = true := by kernel_rfl
/-- tympan/split.Lines -/
def m232 : MF := { N := 22, np := 1, res := [.tmp 2], body :=
  (.seq (.region [o 2 .move [I 0]])
  (.seq (.region [o 3 .move [I 0]])
  (.seq (.seq (.region [o 6 .move [T 0],
    o 7 .len [T 6],
    o 8 .move [I 0]])
  (.block 0 (.loop (.seq (.region [o 9 (.cmp .lss) [T 8, T 7]])
    (.seq (.cond (T 9) .skip (.exit 0))
    (.seq (.block 1 (.seq (.region [o 10 (.indexS 3) [T 6, T 8],
       o 11 (.load 3 true) [T 10],
       o 5 (.alloc [.fz (.int .i64 0), .fz (.int .i64 0), .fz (.int .i64 0)]) [],
       on (.store 3) [T 5, T 11]])
     (.region [o 12 .move [T 3],
       o 13 (.fieldAddr 2) [T 5],
       o 14 (.load 1 false) [T 13],
       o 15 (.fieldAddr 1) [T 5],
       o 16 (.load 1 false) [T 15],
       o 17 (.arith .sub) [T 14, T 16],
       o 18 .max [T 17, I 0],
       o 19 (.arith .add) [T 12, T 18],
       o 3 .move [T 19]])))
    (.region [o 20 (.arith .add) [T 8, I 1],
      o 8 .move [T 20]])))))))
  (.seq (.region [o 21 .move [T 3],
    o 2 .move [T 21]])
  .ret)))) }
theorem ok232 : fnOk Tryz.prog 232 m232 = true := by kernel_rfl
/-- tympan/tally.sum[int]$1 -/
def m249 : MF := { N := 6, np := 1, res := [.tmp 2], body :=
  (.seq (.region [o 2 .move [I 0]])
  (.seq (.region [o 3 .move [T 0],
    o 4 .max [T 3, I (-1125899906842624)],
    o 5 .min [T 4, I 1125899906842624],
    o 2 .move [T 5]])
  .ret)) }
theorem ok249 : fnOk Tryz.prog 249 m249 = true := by kernel_rfl
/-- tympan/tally.sum[tympan/api.Sp]$1 -/
def m250 : MF := { N := 6, np := 1, res := [.tmp 2], body :=
  (.seq (.region [o 2 .move [I 0]])
  (.seq (.region [o 3 .move [T 0],
    o 4 .max [T 3, I (-1125899906842624)],
    o 5 .min [T 4, I 1125899906842624],
    o 2 .move [T 5]])
  .ret)) }
theorem ok250 : fnOk Tryz.prog 250 m250 = true := by kernel_rfl
/-- tympan/tympanref48.held -/
def m251 : MF := { N := 6, np := 1, res := [.tmp 2], body :=
  (.seq (.region [o 2 .move [I 0]])
  (.seq (.region [o 3 .move [T 0],
    o 4 .min [T 3, I 1125899906842624],
    o 5 .max [I (-1125899906842624), T 4],
    o 2 .move [T 5]])
  .ret)) }
theorem ok251 : fnOk Tryz.prog 251 m251 = true := by kernel_rfl
/-- (*tympan/vlist.List).May -/
def m253 : MF := { N := 47, np := 2, res := [.tmp 4], body :=
  (.seq (.region [o 4 .move [B false]])
  (.seq (.region [o 8 .move [T 0],
    o 9 .move [T 1],
    o 10 (.call 220) [T 8, T 9],
    o 7 .move [T 10],
    o 11 (.extract 0) [T 7],
    o 12 (.extract 1) [T 7],
    o 5 (.alloc [.fz (.int .i64 0), .fz (.int .i64 0), .fz (.int .i64 0), .fz (.int .i64 0), .fz (.int .i64 0), .fz (.int .i64 0), .fz (.int .i64 0)]) [],
    on (.store 7) [T 5, T 11],
    o 6 .move [T 12]])
  (.seq (.block 0 (.seq (.region [o 14 .move [T 1],
     o 15 (.cmp .lss) [T 14, I 1],
     o 16 .move [T 15],
     og 17 .move [T 1] 16 false,
     og 18 .move [T 0] 16 false,
     og 19 (.call 178) [T 18] 16 false,
     og 20 (.cmp .gtr) [T 17, T 19] 16 false,
     o 21 .pick [T 16, B true, T 20],
     o 13 .move [T 21]])
   (.cond (T 13) (.seq (.region [o 4 .move [B false]])
    .ret) (.seq (.region [o 23 .move [T 6],
      o 24 .not [T 23],
      o 22 .move [T 24]])
    (.cond (T 22) (.seq (.region [o 4 .move [B true]])
     .ret) (.seq (.region [o 26 (.fieldAddr 0) [T 5],
       o 27 (.load 1 false) [T 26],
       o 28 (.eq false .int) [T 27, I 2],
       o 25 .move [T 28]])
     (.cond (T 25) (.seq (.region [o 29 .move [T 0],
        o 30 .nilCheck [T 29],
        o 31 (.fieldAddr 0) [T 30],
        o 32 (.load 1 false) [T 31],
        o 33 .move [T 1],
        o 34 (.arith .sub) [T 33, I 1],
        o 35 (.indexS 7) [T 32, T 34],
        o 36 (.load 7 true) [T 35],
        o 37 (.call 357) [T 36],
        o 38 .not [T 37],
        o 4 .move [T 38]])
      .ret) .skip)))))))
  (.seq (.region [o 39 (.fieldAddr 0) [T 5],
    o 40 (.load 1 false) [T 39],
    o 41 (.eq false .int) [T 40, I 3],
    o 42 .move [T 41],
    og 43 (.load 7 true) [T 5] 42 true,
    og 44 (.call 358) [T 43] 42 true,
    og 45 .not [T 44] 42 true,
    o 46 .pick [T 42, T 45, B false],
    o 4 .move [T 46]])
  .ret)))) }
theorem ok253 : fnOk Tryz.prog 253 m253 = true := by kernel_rfl
/-- tympan/para.Club -/
def m254 : MF := { N := 11, np := 2, res := [.tmp 4], body :=
  (.seq (.region [o 4 .move [B false]])
  (.seq (.region [o 5 .move [T 0],
    o 6 (.call 359) [T 5, I 1],
    o 7 .move [T 0],
    o 8 .move [T 1],
    o 9 (.call 360) [T 7, T 8],
    o 10 .callv [T 6, T 9],
    o 4 .move [T 10]])
  .ret)) }
theorem ok254 : fnOk Tryz.prog 254 m254 = true := by kernel_rfl
/-- tympan/para.Widow -/
def m255 : MF := { N := 11, np := 2, res := [.tmp 4], body :=
  (.seq (.region [o 4 .move [B false]])
  (.seq (.region [o 5 .move [T 0],
    o 6 (.call 359) [T 5, I 2],
    o 7 .move [T 0],
    o 8 .move [T 1],
    o 9 (.call 361) [T 7, T 8],
    o 10 .callv [T 6, T 9],
    o 4 .move [T 10]])
  .ret)) }
theorem ok255 : fnOk Tryz.prog 255 m255 = true := by kernel_rfl
/-- tympan/queue.Ready -/
def m257 : MF := { N := 8, np := 2, res := [.cell 4 3 true], body :=
  (.seq (.region [o 2 .box [T 0],
    o 3 .box [T 1],
    o 4 (.alloc [.fz (.int .i64 0), .fz (.int .i64 0), .fz (.int .i64 0)]) []])
  (.seq (.region [o 5 (.load 3 true) [T 2],
    o 6 (.load 3 true) [T 3],
    o 7 (.call 305) [T 5, T 6, I 0, Fc 363],
    on (.store 3) [T 4, T 7]])
  .ret)) }
theorem ok257 : fnOk Tryz.prog 257 m257 = true := by kernel_rfl
/-- tympan/queue.held -/
def m258 : MF := { N := 12, np := 3, res := [.tmp 6], body :=
  (.seq (.region [o 6 .move [I 0]])
  (.seq (.region [o 7 .move [T 0],
    o 8 .move [T 1],
    o 9 .max [T 7, T 8],
    o 10 .move [T 2],
    o 11 .min [T 9, T 10],
    o 6 .move [T 11]])
  .ret)) }
theorem ok258 : fnOk Tryz.prog 258 m258 = true := by kernel_rfl
/-- (*tympan/state.text).List -/
def m267 : MF := { N := 9, np := 1, res := [.tmp 2], body :=
  (.seq (.region [o 2 .move [CN .nilp]])
  (.seq (.seq (.region [o 3 .move [T 0],
    o 4 (.eq false .ptr) [T 3, CN .nilp]])
  (.cond (T 4) (.seq (.region [o 2 .move [CN .nilp]])
   .ret) .skip))
  (.seq (.region [o 5 .move [T 0],
    o 6 .nilCheck [T 5],
    o 7 (.fieldAddr 0) [T 6],
    o 8 (.load 1 false) [T 7],
    o 2 .move [T 8]])
  .ret))) }
theorem ok267 : fnOk Tryz.prog 267 m267 = true := by kernel_rfl
/-- tympan/cost.Cmp -/
def m268 : MF := { N := 8, np := 2, res := [.tmp 4], body :=
  (.seq (.region [o 2 .box [T 0],
    o 3 .box [T 1],
    o 4 .move [I 0]])
  (.seq (.region [o 5 (.load 2 true) [T 2],
    o 6 (.load 2 true) [T 3],
    o 7 (.call 298) [T 5, T 6],
    o 4 .move [T 7]])
  .ret)) }
theorem ok268 : fnOk Tryz.prog 268 m268 = true := by kernel_rfl
/-- tympan/tympanref04.Of -/
def m269 : MF := { N := 23, np := 2, res := [.cell 4 2 true], body :=
  (.seq (.region [o 4 (.alloc [.fz (.int .i64 0), .fz (.int .i64 0)]) []])
  (.seq (.region [o 5 (.alloc [.fz (.int .i64 0), .fz (.int .i64 0)]) []])
  (.seq (.seq (.region [o 7 .move [T 0]])
  (.cond (T 7) (.region [o 8 (.fieldAddr 0) [T 5],
     on (.store 1) [T 8, I 1]]) .skip))
  (.seq (.seq (.region [o 6 .move [I 0]])
  (.block 0 (.loop (.seq (.seq (.region [o 9 .move [T 6],
      o 10 .move [T 1],
      o 11 .len [T 10],
      o 12 (.cmp .lss) [T 9, T 11]])
    (.cond (T 12) .skip (.exit 0)))
    (.seq (.block 1 (.draw [o 15 (.load 2 true) [T 5],
       o 16 .move [T 1],
       o 17 .move [T 6],
       o 18 (.indexS 1) [T 16, T 17],
       o 19 (.load 1 false) [T 18],
       o 20 (.build [.fz (.int .i64 0), .fz (.int .i64 0)] [(1, 1)]) [T 19],
       o 21 (.call 75) [T 15, T 20],
       on (.store 2) [T 5, T 21]]
       [0, 0, 0, 6, 14, 30, 63, 127]))
    (.region [o 13 .move [T 6],
      o 14 (.arith .add) [T 13, I 1],
      o 6 .move [T 14]]))))))
  (.seq (.region [o 22 (.load 2 true) [T 5],
    on (.store 2) [T 4, T 22]])
  .ret))))) }
theorem ok269 : fnOk Tryz.prog 269 m269 = true := by kernel_rfl
/-- cmp.Or[int] -/
def m270 : MF := { N := 18, np := 1, res := [.tmp 2], body :=
  (.seq (.region [o 2 .move [I 0]])
  (.seq (.region [o 3 .move [I 0]])
  (.seq (.seq (.region [o 6 .move [T 0],
    o 7 .len [T 6],
    o 8 .move [I 0]])
  (.block 0 (.loop (.seq (.region [o 9 (.cmp .lss) [T 8, T 7]])
    (.seq (.cond (T 9) .skip (.exit 0))
    (.seq (.block 1 (.seq (.region [o 10 (.indexS 1) [T 6, T 8],
       o 11 (.load 1 false) [T 10],
       o 5 .move [T 11]])
     (.seq (.region [o 12 .move [T 5],
       o 13 .move [T 3],
       o 14 (.eq true .int) [T 12, T 13]])
     (.cond (T 14) (.seq (.region [o 15 .move [T 5],
        o 2 .move [T 15]])
      .ret) .skip))))
    (.region [o 16 (.arith .add) [T 8, I 1],
      o 8 .move [T 16]])))))))
  (.seq (.region [o 17 .move [T 3],
    o 2 .move [T 17]])
  .ret)))) }
theorem ok270 : fnOk Tryz.prog 270 m270 = true := by kernel_rfl
/-- cmp.Compare[int] -/
def m271 : MF := { N := 20, np := 2, res := [.tmp 4], body :=
  (.seq (.region [o 4 .move [I 0]])
  (.seq (.region [o 7 .move [T 0],
    o 8 (.call 367) [T 7],
    o 5 .move [T 8]])
  (.seq (.region [o 9 .move [T 1],
    o 10 (.call 367) [T 9],
    o 6 .move [T 10]])
  (.seq (.seq (.region [o 11 .move [T 5]])
  (.cond (T 11) (.seq (.seq (.region [o 12 .move [T 6]])
   (.cond (T 12) (.seq (.region [o 4 .move [I 0]])
    .ret) .skip))
   (.seq (.region [o 4 .move [I (-1)]])
   .ret)) .skip))
  (.seq (.seq (.region [o 13 .move [T 6]])
  (.cond (T 13) (.seq (.region [o 4 .move [I 1]])
   .ret) .skip))
  (.seq (.seq (.region [o 14 .move [T 0],
    o 15 .move [T 1],
    o 16 (.cmp .lss) [T 14, T 15]])
  (.cond (T 16) (.seq (.region [o 4 .move [I (-1)]])
   .ret) .skip))
  (.seq (.seq (.region [o 17 .move [T 0],
    o 18 .move [T 1],
    o 19 (.cmp .gtr) [T 17, T 18]])
  (.cond (T 19) (.seq (.region [o 4 .move [I 1]])
   .ret) .skip))
  (.seq (.region [o 4 .move [I 0]])
  .ret)))))))) }
theorem ok271 : fnOk Tryz.prog 271 m271 = true := by kernel_rfl
/-- (*tympan/vlist.List).seek -/
def m290 : MF := { N := 19, np := 3, res := [.tmp 6], body :=
  (.seq (.region [o 6 .move [I 0]])
  (.seq (.seq (.region [o 8 .move [T 1],
    o 7 .move [T 8]])
  (.block 0 (.loop (.seq (.seq (.region [o 9 .move [T 7],
      o 10 .move [T 0],
      o 11 (.call 178) [T 10],
      o 12 (.cmp .leq) [T 9, T 11]])
    (.cond (T 12) .skip (.exit 0)))
    (.seq (.block 1 (.seq (.region [o 15 .move [T 2],
       o 16 .move [T 7],
       o 17 .callv [T 15, T 16]])
     (.cond (T 17) (.seq (.region [o 18 .move [T 7],
        o 6 .move [T 18]])
      .ret) .skip)))
    (.region [o 13 .move [T 7],
      o 14 (.arith .add) [T 13, I 1],
      o 7 .move [T 14]]))))))
  (.seq (.region [o 6 .move [I (-1)]])
  .ret))) }
theorem ok290 : fnOk Tryz.prog 290 m290 = true := by kernel_rfl
/-- (*tympan/vlist.List).stays -/
def m291 : MF := { N := 20, np := 2, res := [.tmp 4], body :=
  (.seq (.region [o 4 .move [B false]])
  (.seq (.region [o 8 .move [T 0],
    o 9 .move [T 1],
    o 10 (.call 220) [T 8, T 9],
    o 7 .move [T 10],
    o 11 (.extract 0) [T 7],
    o 12 (.extract 1) [T 7],
    o 5 (.alloc [.fz (.int .i64 0), .fz (.int .i64 0), .fz (.int .i64 0), .fz (.int .i64 0), .fz (.int .i64 0), .fz (.int .i64 0), .fz (.int .i64 0)]) [],
    on (.store 7) [T 5, T 11],
    o 6 .move [T 12]])
  (.seq (.region [o 13 .move [T 6],
    o 14 .not [T 13],
    o 15 .move [T 14],
    og 16 (.load 7 true) [T 5] 15 false,
    og 17 (.call 357) [T 16] 15 false,
    og 18 .not [T 17] 15 false,
    o 19 .pick [T 15, B true, T 18],
    o 4 .move [T 19]])
  .ret))) }
theorem ok291 : fnOk Tryz.prog 291 m291 = true := by kernel_rfl
/-- slices.Contains[[]int,int] -/
def m292 : MF := { N := 9, np := 2, res := [.tmp 4], body :=
  (.seq (.region [o 4 .move [B false]])
  (.seq (.region [o 5 .move [T 0],
    o 6 .move [T 1],
    o 7 (.call 385) [T 5, T 6],
    o 8 (.cmp .geq) [T 7, I 0],
    o 4 .move [T 8]])
  .ret)) }
theorem ok292 : fnOk Tryz.prog 292 m292 = true := by kernel_rfl
/-- (*tympan/vlist.List).Force -/
def m293 : MF := { N := 16, np := 2, res := [.tmp 4], body :=
  (.seq (.region [o 4 .move [I 0]])
  (.seq (.seq (.region [o 5 .move [T 1],
    o 6 .move [T 0],
    o 7 (.call 178) [T 6],
    o 8 (.cmp .geq) [T 5, T 7]])
  (.cond (T 8) (.seq (.region [o 4 .move [I (-1)]])
   .ret) .skip))
  (.seq (.region [o 9 .move [T 0],
    o 10 .move [T 1],
    o 11 .max [T 10, I 0],
    o 12 (.arith .add) [T 11, I 1],
    o 13 .move [T 0],
    o 14 (.makeFunc 386 1) [T 13],
    o 15 (.call 290) [T 9, T 12, T 14],
    o 4 .move [T 15]])
  .ret))) }
theorem ok293 : fnOk Tryz.prog 293 m293 = true := by kernel_rfl
/-- (*tympan/vlist.List).First -/
def m294 : MF := { N := 16, np := 2, res := [.tmp 4], body :=
  (.seq (.region [o 4 .move [I 0]])
  (.seq (.seq (.region [o 5 .move [T 1],
    o 6 .move [T 0],
    o 7 (.call 178) [T 6],
    o 8 (.cmp .geq) [T 5, T 7]])
  (.cond (T 8) (.seq (.region [o 4 .move [I (-1)]])
   .ret) .skip))
  (.seq (.region [o 9 .move [T 0],
    o 10 .move [T 1],
    o 11 .max [T 10, I 0],
    o 12 (.arith .add) [T 11, I 1],
    o 13 .move [T 0],
    o 14 (.makeFunc 253 1) [T 13],
    o 15 (.call 290) [T 9, T 12, T 14],
    o 4 .move [T 15]])
  .ret))) }
theorem ok294 : fnOk Tryz.prog 294 m294 = true := by kernel_rfl
/-- tympan/cost.add[int] -/
def m295 : MF := { N := 15, np := 2, res := [.tmp 4], body :=
  (.seq (.region [o 4 .move [I 0]])
  (.seq (.region [o 5 .move [Fc 387]])
  (.seq (.region [o 6 .move [T 5],
    o 7 .move [T 5],
    o 8 .move [T 0],
    o 9 .callv [T 7, T 8],
    o 10 .move [T 5],
    o 11 .move [T 1],
    o 12 .callv [T 10, T 11],
    o 13 (.arith .add) [T 9, T 12],
    o 14 .callv [T 6, T 13],
    o 4 .move [T 14]])
  .ret))) }
theorem ok295 : fnOk Tryz.prog 295 m295 = true := by kernel_rfl
/-- tympan/cost.add[int64] -/
def m296 : MF := { N := 15, np := 2, res := [.tmp 4], body :=
  (.seq (.region [o 4 .move [I 0]])
  (.seq (.region [o 5 .move [Fc 388]])
  (.seq (.region [o 6 .move [T 5],
    o 7 .move [T 5],
    o 8 .move [T 0],
    o 9 .callv [T 7, T 8],
    o 10 .move [T 5],
    o 11 .move [T 1],
    o 12 .callv [T 10, T 11],
    o 13 (.arith .add) [T 9, T 12],
    o 14 .callv [T 6, T 13],
    o 4 .move [T 14]])
  .ret))) }
theorem ok296 : fnOk Tryz.prog 296 m296 = true := by kernel_rfl
/-- (tympan/cost.order).cmp -/
def m298 : MF := { N := 17, np := 2, res := [.tmp 4], body :=
  (.seq (.region [o 2 .box [T 0],
    o 3 .box [T 1],
    o 4 .move [I 0]])
  (.seq (.draw [o 5 (.fieldAddr 0) [T 2],
    o 6 (.load 1 false) [T 5],
    o 7 (.fieldAddr 0) [T 3],
    o 8 (.load 1 false) [T 7],
    o 9 (.call 271) [T 6, T 8],
    o 10 (.fieldAddr 1) [T 2],
    o 11 (.load 1 false) [T 10],
    o 12 (.fieldAddr 1) [T 3],
    o 13 (.load 1 false) [T 12],
    o 14 (.call 389) [T 11, T 13],
    o 15 (.buildSlice 1 2) [T 9, T 14],
    o 16 (.call 270) [T 15],
    o 4 .move [T 16]]
    [0, 1, 0, 4, 15, 0, 32, 0, 128, 511, 1023, 2047, 4095])
  .ret)) }
theorem ok298 : fnOk Tryz.prog 298 m298 = true := by kernel_rfl
/-- (*tympan/anchor.Map).Begun -/
def m304 : MF := { N := 21, np := 2, res := [.tmp 4], body :=
  (.seq (.region [o 4 .move [I 0]])
  (.seq (.region [o 7 .move [T 0],
    o 8 .move [T 1],
    o 9 (.call 210) [T 7, T 8],
    o 6 .move [T 9],
    o 10 (.extract 0) [T 6],
    o 11 (.extract 1) [T 6],
    o 1 .move [T 10],
    o 5 .move [T 11]])
  (.seq (.seq (.region [o 12 .move [T 5],
    o 13 .not [T 12]])
  (.cond (T 13) (.seq (.region [o 4 .move [I 0]])
   .ret) .skip))
  (.seq (.region [o 14 .move [T 0],
    o 15 .nilCheck [T 14],
    o 16 (.fieldAddr 1) [T 15],
    o 17 (.load 1 false) [T 16],
    o 18 .move [T 1],
    o 19 (.indexS 1) [T 17, T 18],
    o 20 (.load 1 false) [T 19],
    o 4 .move [T 20]])
  .ret)))) }
theorem ok304 : fnOk Tryz.prog 304 m304 = true := by kernel_rfl
/-- tympan/queue.zip -/
def m305 : MF := { N := 32, np := 4, res := [.cell 8 3 true], body :=
  (.seq (.region [o 4 .box [T 0],
    o 5 .box [T 1],
    o 8 (.alloc [.fz (.int .i64 0), .fz (.int .i64 0), .fz (.int .i64 0)]) []])
  (.seq (.region [o 9 (.alloc [.fz (.int .i64 0), .fz (.int .i64 0), .fz (.int .i64 0)]) []])
  (.seq (.seq (.region [o 11 .move [I 0]])
  (.block 0 (.loop (.seq (.region [o 12 (.cmp .lss) [T 11, I 3]])
    (.seq (.cond (T 12) .skip (.exit 0))
    (.seq (.block 1 (.seq (.region [o 13 .move [T 11],
       o 10 .move [T 13]])
     (.draw [o 14 .move [T 10],
       o 15 .move [T 3],
       o 16 .move [T 10],
       o 17 (.indexA 3 1) [T 4, T 16],
       o 18 (.load 1 false) [T 17],
       o 19 .move [T 2],
       o 20 (.call 258) [T 18, T 19, I 1073741824],
       o 21 .move [T 10],
       o 22 (.indexA 3 1) [T 5, T 21],
       o 23 (.load 1 false) [T 22],
       o 24 .move [T 2],
       o 25 (.call 258) [T 23, T 24, I 1073741824],
       o 26 .callv [T 15, T 20, T 25],
       o 27 .move [T 2],
       o 28 (.call 258) [T 26, T 27, I 1073741824],
       o 29 (.indexA 3 1) [T 9, T 14],
       on (.store 1) [T 29, T 28]]
       [0, 0, 0, 4, 12, 0, 60, 0, 128, 384, 0, 2044, 4094, 0, 16382, 32767, 65535])))
    (.region [o 30 (.arith .add) [T 11, I 1],
      o 11 .move [T 30]])))))))
  (.seq (.region [o 31 (.load 3 true) [T 9],
    on (.store 3) [T 8, T 31]])
  .ret)))) }
theorem ok305 : fnOk Tryz.prog 305 m305 = true := by kernel_rfl
/-- (tympan/queue.Counts).Add$1 -/
def m306 : MF := { N := 8, np := 2, res := [.tmp 4], body :=
  (.seq (.region [o 4 .move [I 0]])
  (.seq (.region [o 5 .move [T 0],
    o 6 .move [T 1],
    o 7 (.arith .add) [T 5, T 6],
    o 4 .move [T 7]])
  .ret)) }
theorem ok306 : fnOk Tryz.prog 306 m306 = true := by kernel_rfl
/-- tympan/valid.clauses -/
def m307 : MF := { N := 17, np := 0, res := [.tmp 0], body :=
  (.seq (.region [o 0 .move [.const .nils]])
  (.seq (.region [o 1 (.call 394) [Fc 395],
    o 2 (.build [.fz (.int .i64 0), .fz .nilf] [(0, 1), (1, 1)]) [I 3, T 1],
    o 3 (.call 394) [Fc 396],
    o 4 (.build [.fz (.int .i64 0), .fz .nilf] [(0, 1), (1, 1)]) [I 4, T 3],
    o 5 (.call 394) [Fc 397],
    o 6 (.build [.fz (.int .i64 0), .fz .nilf] [(0, 1), (1, 1)]) [I 5, T 5],
    o 7 (.call 394) [Fc 398],
    o 8 (.build [.fz (.int .i64 0), .fz .nilf] [(0, 1), (1, 1)]) [I 6, T 7],
    o 9 (.call 394) [Fc 400],
    o 10 (.build [.fz (.int .i64 0), .fz .nilf] [(0, 1), (1, 1)]) [I 7, T 9],
    o 11 (.build [.fz (.int .i64 0), .fz .nilf] [(0, 1), (1, 1)]) [I 8, Fc 401],
    o 12 (.build [.fz (.int .i64 0), .fz .nilf] [(0, 1), (1, 1)]) [I 9, Fc 404],
    o 13 (.build [.fz (.int .i64 0), .fz .nilf] [(0, 1), (1, 1)]) [I 10, Fc 407],
    o 14 (.build [.fz (.int .i64 0), .fz .nilf] [(0, 1), (1, 1)]) [I 11, Fc 410],
    o 15 (.build [.fz (.int .i64 0), .fz .nilf] [(0, 1), (1, 1)]) [I 12, Fc 411],
    o 16 (.buildSlice 2 10) [T 2, T 4, T 6, T 8, T 10, T 11, T 12, T 13, T 14, T 15],
    o 0 .move [T 16]])
  .ret)) }
theorem ok307 : fnOk Tryz.prog 307 m307 = true := by kernel_rfl
/-- tympan/sums.fair$1 -/
def m312 : MF := { N := 9, np := 1, res := [.tmp 2], body :=
  (.seq (.region [o 2 .move [B false]])
  (.seq (.region [o 3 .move [T 0],
    o 4 (.cmp .geq) [T 3, I 0],
    o 5 .move [T 4],
    og 6 .move [T 0] 5 true,
    og 7 (.cmp .leq) [T 6, I 4294967296] 5 true,
    o 8 .pick [T 5, T 7, B false],
    o 2 .move [T 8]])
  .ret)) }
theorem ok312 : fnOk Tryz.prog 312 m312 = true := by kernel_rfl
/-- tympan/total.both -/
def m313 : MF := { N := 47, np := 3, res := [.cell 6 6 true, .tmp 7], body :=
  (.seq (.region [o 3 .box [T 0],
    o 4 .box [T 1],
    o 5 .box [T 2],
    o 6 (.alloc [.fz (.int .i64 0), .fz (.int .i64 0), .fz (.int .i64 0), .fz (.int .i64 0), .fz (.int .i64 0), .fz (.int .i64 0)]) [],
    o 7 .move [B false]])
  (.seq (.region [o 8 (.alloc [.fz (.bool false)]) [],
    on (.store 1) [T 8, B true]])
  (.seq (.region [o 12 (.makeFunc 413 0) [T 5, T 8],
    o 9 .move [T 12]])
  (.seq (.draw [o 13 .move [T 9],
    o 14 (.fieldAddr 0) [T 3],
    o 15 (.load 1 false) [T 14],
    o 16 (.fieldAddr 0) [T 4],
    o 17 (.load 1 false) [T 16],
    o 18 .callv [T 13, T 15, T 17],
    o 19 .move [T 9],
    o 20 (.fieldAddr 5) [T 3],
    o 21 (.load 1 false) [T 20],
    o 22 (.fieldAddr 5) [T 4],
    o 23 (.load 1 false) [T 22],
    o 24 .callv [T 19, T 21, T 23],
    o 25 (.build [.fz (.int .i64 0), .fz (.int .i64 0), .fz (.int .i64 0), .fz (.int .i64 0), .fz (.int .i64 0), .fz (.int .i64 0)] [(0, 1), (5, 1)]) [T 18, T 24],
    o 10 (.alloc [.fz (.int .i64 0), .fz (.int .i64 0), .fz (.int .i64 0), .fz (.int .i64 0), .fz (.int .i64 0), .fz (.int .i64 0)]) [],
    on (.store 6) [T 10, T 25]]
    [0, 0, 2, 0, 8, 31, 0, 0, 128, 0, 512, 2047, 4095, 0, 16383])
  (.seq (.seq (.region [o 26 .move [I 0]])
  (.block 0 (.loop (.seq (.region [o 27 (.cmp .lss) [T 26, I 4]])
    (.seq (.cond (T 27) .skip (.exit 0))
    (.seq (.block 1 (.seq (.region [o 28 .move [T 26],
       o 11 .move [T 28]])
     (.draw [o 29 .move [T 11],
       o 30 .move [T 9],
       o 31 .move [T 11],
       o 32 (.fieldAddr 1) [T 3],
       o 33 (.indexA 4 1) [T 32, T 31],
       o 34 (.load 1 false) [T 33],
       o 35 .move [T 11],
       o 36 (.fieldAddr 1) [T 4],
       o 37 (.indexA 4 1) [T 36, T 35],
       o 38 (.load 1 false) [T 37],
       o 39 .callv [T 30, T 34, T 38],
       o 40 (.fieldAddr 1) [T 10],
       o 41 (.indexA 4 1) [T 40, T 29],
       on (.store 1) [T 41, T 39]]
       [0, 0, 0, 0, 12, 28, 0, 0, 192, 448, 1022, 0, 4095, 8191])))
    (.region [o 42 (.arith .add) [T 26, I 1],
      o 26 .move [T 42]])))))))
  (.seq (.seq (.region [o 43 (.load 1 false) [T 8],
    o 44 .not [T 43]])
  (.cond (T 44) (.seq (.region [o 45 (.build [.fz (.int .i64 0), .fz (.int .i64 0), .fz (.int .i64 0), .fz (.int .i64 0), .fz (.int .i64 0), .fz (.int .i64 0)] []) [],
     on (.store 6) [T 6, T 45],
     o 7 .move [B false]])
   .ret) .skip))
  (.seq (.region [o 46 (.load 6 true) [T 10],
    on (.store 6) [T 6, T 46],
    o 7 .move [B true]])
  .ret))))))) }
theorem ok313 : fnOk Tryz.prog 313 m313 = true := by kernel_rfl
/-- tympan/sp.Add -/
def m314 : MF := { N := 21, np := 2, res := [.tmp 4, .tmp 5], body :=
  (.seq (.region [o 4 .move [I 0],
    o 5 .move [B false]])
  (.seq (.region [o 7 .move [T 0],
    o 8 .move [T 1],
    o 9 (.arith .add) [T 7, T 8],
    o 6 .move [T 9]])
  (.seq (.seq (.region [o 10 .move [T 6],
    o 11 .move [T 0],
    o 12 (.cmp .gtr) [T 10, T 11],
    o 13 .move [T 1],
    o 14 (.cmp .gtr) [T 13, I 0],
    o 15 (.eq true .bool) [T 12, T 14],
    o 16 .move [T 15],
    og 17 .move [T 1] 16 true,
    og 18 (.eq true .int) [T 17, I 0] 16 true,
    o 19 .pick [T 16, T 18, B false]])
  (.cond (T 19) (.seq (.region [o 4 .move [I 0],
     o 5 .move [B false]])
   .ret) .skip))
  (.seq (.region [o 20 .move [T 6],
    o 4 .move [T 20],
    o 5 .move [B true]])
  .ret)))) }
theorem ok314 : fnOk Tryz.prog 314 m314 = true := by kernel_rfl
/-- (tympan/legal.asked).ended -/
def m316 : MF := { N := 11, np := 1, res := [.tmp 2], body :=
  (.seq (.region [o 1 .box [T 0],
    o 2 .move [B false]])
  (.seq (.draw [o 3 (.fieldAddr 1) [T 1],
    o 4 (.fieldAddr 0) [T 3],
    o 5 (.load 1 false) [T 4],
    o 6 (.fieldAddr 0) [T 1],
    o 7 (.load 1 false) [T 6],
    o 8 (.call 150) [T 7],
    o 9 (.call 178) [T 8],
    o 10 (.eq false .int) [T 5, T 9],
    o 2 .move [T 10]]
    [0, 1, 3, 0, 8, 24, 56, 127, 255])
  .ret)) }
theorem ok316 : fnOk Tryz.prog 316 m316 = true := by kernel_rfl
/-- tympan/legal.rules$2 -/
def m317 : MF := { N := 9, np := 1, res := [.tmp 2], body :=
  (.seq (.region [o 1 .box [T 0],
    o 2 .move [B false]])
  (.seq (.region [o 3 (.fieldAddr 0) [T 1],
    o 4 (.load 1 false) [T 3],
    o 5 (.fieldAddr 1) [T 1],
    o 6 (.load 7 true) [T 5],
    o 7 (.call 318) [T 4, T 6],
    o 8 .not [T 7],
    o 2 .move [T 8]])
  .ret)) }
theorem ok317 : fnOk Tryz.prog 317 m317 = true := by kernel_rfl
/-- (*tympan/state.World).Flushed -/
def m318 : MF := { N := 23, np := 2, res := [.tmp 4], body :=
  (.seq (.region [o 3 .box [T 1],
    o 4 .move [B false]])
  (.seq (.draw [o 5 .move [T 0],
    o 6 (.load 7 true) [T 3],
    o 7 (.call 95) [T 5, T 6],
    o 8 .move [T 7],
    og 9 .move [T 0] 8 true,
    og 10 .nilCheck [T 9] 8 true,
    og 11 (.fieldAddr 0) [T 10] 8 true,
    og 12 (.load 1 false) [T 11] 8 true,
    og 13 .nilCheck [T 12] 8 true,
    og 14 (.fieldAddr 2) [T 13] 8 true,
    og 15 (.load 1 false) [T 14] 8 true,
    og 16 (.fieldAddr 0) [T 3] 8 true,
    og 17 (.load 1 false) [T 16] 8 true,
    og 18 (.call 414) [T 15, T 17] 8 true,
    og 19 (.fieldAddr 4) [T 3] 8 true,
    og 20 (.load 3 true) [T 19] 8 true,
    og 21 (.call 216) [T 18, T 20] 8 true,
    o 22 .pick [T 8, T 21, B false],
    o 4 .move [T 22]]
    [0, 0, 3, 7, 15, 31, 63, 127, 255, 511, 1023, 15, 2063, 8191, 15, 16399, 65535, 131071, 262143])
  .ret)) }
theorem ok318 : fnOk Tryz.prog 318 m318 = true := by kernel_rfl
/-- tympan/legal.rules$3 -/
def m319 : MF := { N := 15, np := 1, res := [.tmp 2], body :=
  (.seq (.region [o 1 .box [T 0],
    o 2 .move [B false]])
  (.seq (.draw [o 3 (.fieldAddr 0) [T 1],
    o 4 (.load 1 false) [T 3],
    o 5 (.call 150) [T 4],
    o 6 (.fieldAddr 1) [T 1],
    o 7 (.fieldAddr 0) [T 6],
    o 8 (.load 1 false) [T 7],
    o 9 (.call 184) [T 5, T 8],
    o 10 (.fieldAddr 8) [T 1],
    o 11 (.fieldAddr 2) [T 10],
    o 12 (.load 1 false) [T 11],
    o 13 (.call 292) [T 9, T 12],
    o 14 .not [T 13],
    o 2 .move [T 14]]
    [0, 1, 3, 0, 8, 24, 63, 0, 128, 384, 1023, 2047, 4095])
  .ret)) }
theorem ok319 : fnOk Tryz.prog 319 m319 = true := by kernel_rfl
/-- tympan/legal.rules$4 -/
def m320 : MF := { N := 19, np := 1, res := [.tmp 2], body :=
  (.seq (.region [o 1 .box [T 0],
    o 2 .move [B false]])
  (.seq (.draw [o 3 (.fieldAddr 14) [T 1],
    o 4 (.fieldAddr 20) [T 3],
    o 5 (.load 1 false) [T 4],
    o 6 (.fieldAddr 0) [T 1],
    o 7 (.load 1 false) [T 6],
    o 8 (.fieldAddr 1) [T 1],
    o 9 (.load 7 true) [T 8],
    o 10 (.fieldAddr 8) [T 1],
    o 11 (.fieldAddr 2) [T 10],
    o 12 (.load 1 false) [T 11],
    o 13 (.call 192) [T 7, T 9, T 12],
    o 14 (.fieldAddr 8) [T 1],
    o 15 (.fieldAddr 3) [T 14],
    o 16 (.load 1 false) [T 15],
    o 17 (.call 321) [T 5, T 13, T 16],
    o 18 .not [T 17],
    o 2 .move [T 18]]
    [0, 1, 3, 0, 8, 0, 32, 0, 128, 384, 1016, 0, 2048, 6144, 16383, 32767, 65535])
  .ret)) }
theorem ok320 : fnOk Tryz.prog 320 m320 = true := by kernel_rfl
/-- tympan/split.May -/
def m321 : MF := { N := 15, np := 3, res := [.cell 6 1 false], body :=
  (.seq (.region [o 4 .box [T 1],
    o 5 .box [T 2],
    o 6 (.alloc [.fz (.bool false)]) []])
  (.seq (.seq (.region [o 8 .move [T 0],
    o 9 (.load 4 true) [T 4],
    o 10 (.call 415) [T 8, T 9]])
  (.block 0 (.rangeFunc (T 10) [11]
   (.region [o 7 .move [T 11]])
   (.block 1 (.seq (.region [o 12 .move [T 7],
       o 13 (.load 1 false) [T 5],
       o 14 (.call 335) [T 12, T 13]])
     (.cond (T 14) (.seq (.region [on (.store 1) [T 6, B true]])
      .ret) .skip))))))
  (.seq (.region [on (.store 1) [T 6, B false]])
  .ret))) }
theorem ok321 : fnOk Tryz.prog 321 m321 = true := by kernel_rfl
/-- tympan/legal.rules$5 -/
def m322 : MF := { N := 26, np := 1, res := [.tmp 2], body :=
  (.seq (.region [o 1 .box [T 0],
    o 2 .move [B false]])
  (.seq (.region [o 3 (.load 36 true) [T 1],
    o 4 (.fieldAddr 8) [T 1],
    o 5 (.fieldAddr 2) [T 4],
    o 6 (.load 1 false) [T 5],
    o 7 (.call 323) [T 3, T 6],
    o 8 .not [T 7],
    o 9 .move [T 8],
    og 10 (.fieldAddr 14) [T 1] 9 false,
    og 11 (.fieldAddr 0) [T 10] 9 false,
    og 12 (.load 19 true) [T 11] 9 false,
    og 13 (.fieldAddr 14) [T 1] 9 false,
    og 14 (.fieldAddr 21) [T 13] 9 false,
    og 15 (.load 1 false) [T 14] 9 false,
    og 16 (.fieldAddr 8) [T 1] 9 false,
    og 17 (.fieldAddr 4) [T 16] 9 false,
    og 18 (.load 1 false) [T 17] 9 false,
    og 19 (.fieldAddr 8) [T 1] 9 false,
    og 20 (.fieldAddr 5) [T 19] 9 false,
    og 21 (.load 1 false) [T 20] 9 false,
    og 22 (.build [.nils, .nils] [(0, 1), (1, 1)]) [T 18, T 21] 9 false,
    og 23 (.call 324) [T 12, T 15, T 22] 9 false,
    og 24 .not [T 23] 9 false,
    o 25 .pick [T 9, B true, T 24],
    o 2 .move [T 25]])
  .ret)) }
theorem ok322 : fnOk Tryz.prog 322 m322 = true := by kernel_rfl
/-- (tympan/legal.asked).set -/
def m323 : MF := { N := 52, np := 2, res := [.tmp 4], body :=
  (.seq (.region [o 2 .box [T 0],
    o 4 .move [B false]])
  (.seq (.region [o 8 (.fieldAddr 14) [T 2],
    o 9 (.fieldAddr 21) [T 8],
    o 10 (.load 1 false) [T 9],
    o 5 .move [T 10]])
  (.seq (.draw [o 11 (.fieldAddr 1) [T 2],
    o 12 (.fieldAddr 4) [T 11],
    o 13 (.load 3 true) [T 12],
    o 14 .move [T 5],
    o 15 (.fieldAddr 8) [T 2],
    o 16 (.fieldAddr 4) [T 15],
    o 17 (.load 1 false) [T 16],
    o 18 (.call 194) [T 14, T 17],
    o 19 (.call 193) [T 13, T 18],
    o 6 (.alloc [.fz (.int .i64 0), .fz (.int .i64 0), .fz (.int .i64 0)]) [],
    on (.store 3) [T 6, T 19]]
    [0, 1, 3, 0, 0, 16, 48, 120, 255, 0, 1023])
  (.seq (.draw [o 20 (.load 3 true) [T 6],
    o 21 .move [T 5],
    o 22 (.fieldAddr 8) [T 2],
    o 23 (.fieldAddr 5) [T 22],
    o 24 (.load 1 false) [T 23],
    o 25 (.call 194) [T 21, T 24],
    o 26 (.call 193) [T 20, T 25],
    o 7 (.alloc [.fz (.int .i64 0), .fz (.int .i64 0), .fz (.int .i64 0)]) [],
    on (.store 3) [T 7, T 26]]
    [0, 0, 0, 4, 12, 30, 63, 0, 255])
  (.seq (.draw [o 27 .move [T 5],
    o 28 (.fieldAddr 1) [T 2],
    o 29 (.fieldAddr 4) [T 28],
    o 30 (.load 3 true) [T 29],
    o 31 (.fieldAddr 8) [T 2],
    o 32 (.fieldAddr 4) [T 31],
    o 33 (.load 1 false) [T 32],
    o 34 (.call 416) [T 27, T 30, T 33],
    o 35 .move [T 34],
    og 36 .move [T 5] 35 true,
    og 37 (.load 3 true) [T 6] 35 true,
    og 38 (.fieldAddr 8) [T 2] 35 true,
    og 39 (.fieldAddr 5) [T 38] 35 true,
    og 40 (.load 1 false) [T 39] 35 true,
    og 41 (.call 416) [T 36, T 37, T 40] 35 true,
    o 42 .pick [T 35, T 41, B false],
    o 43 .move [T 42],
    og 44 (.load 3 true) [T 7] 43 true,
    og 45 (.fieldAddr 0) [T 2] 43 true,
    og 46 (.load 1 false) [T 45] 43 true,
    og 47 (.call 417) [T 46] 43 true,
    og 48 .move [T 1] 43 true,
    og 49 (.call 92) [T 47, T 48] 43 true,
    og 50 (.call 216) [T 44, T 49] 43 true,
    o 51 .pick [T 43, T 50, B false],
    o 4 .move [T 51]]
    [0, 0, 2, 6, 0, 16, 48, 127, 255, 511, 511, 511, 2559, 6655, 16383, 32767, 65535, 131071, 131071, 393215, 917503, 131071, 4063231, 8388607, 16777215, 33554431])
  .ret))))) }
theorem ok323 : fnOk Tryz.prog 323 m323 = true := by kernel_rfl
/-- tympan/area.Fits -/
def m324 : MF := { N := 23, np := 3, res := [.tmp 6], body :=
  (.seq (.region [o 3 .box [T 0],
    o 5 .box [T 2],
    o 6 .move [B false]])
  (.seq (.draw [o 7 (.load 19 true) [T 3],
    o 8 (.call 418) [T 7],
    o 9 (.load 19 true) [T 3],
    o 10 .move [T 1],
    o 11 (.fieldAddr 0) [T 5],
    o 12 (.load 1 false) [T 11],
    o 13 (.call 419) [T 8, T 9, T 10, T 12],
    o 14 .move [T 13],
    og 15 (.load 19 true) [T 3] 14 true,
    og 16 (.call 420) [T 15] 14 true,
    og 17 (.load 19 true) [T 3] 14 true,
    og 18 .move [T 1] 14 true,
    og 19 (.fieldAddr 1) [T 5] 14 true,
    og 20 (.load 1 false) [T 19] 14 true,
    og 21 (.call 419) [T 16, T 17, T 18, T 20] 14 true,
    o 22 .pick [T 14, T 21, B false],
    o 6 .move [T 22]]
    [0, 1, 0, 0, 0, 16, 63, 127, 255, 511, 255, 255, 255, 4351, 16383, 32767, 65535])
  .ret)) }
theorem ok324 : fnOk Tryz.prog 324 m324 = true := by kernel_rfl
/-- tympan/split.Same -/
def m335 : MF := { N := 8, np := 2, res := [.tmp 4], body :=
  (.seq (.region [o 4 .move [B false]])
  (.seq (.region [o 5 .move [T 0],
    o 6 .move [T 1],
    o 7 (.call 424) [T 5, T 6],
    o 4 .move [T 7]])
  .ret)) }
theorem ok335 : fnOk Tryz.prog 335 m335 = true := by kernel_rfl
/-- slices.Equal[[]int,int] -/
def m336 : MF := { N := 26, np := 2, res := [.tmp 4], body :=
  (.seq (.region [o 4 .move [B false]])
  (.seq (.seq (.region [o 6 .move [T 0],
    o 7 .len [T 6],
    o 8 .move [T 1],
    o 9 .len [T 8],
    o 10 (.eq true .int) [T 7, T 9]])
  (.cond (T 10) (.seq (.region [o 4 .move [B false]])
   .ret) .skip))
  (.seq (.seq (.region [o 11 .move [T 0],
    o 12 .len [T 11],
    o 13 .move [I 0]])
  (.block 0 (.loop (.seq (.region [o 14 (.cmp .lss) [T 13, T 12]])
    (.seq (.cond (T 14) .skip (.exit 0))
    (.seq (.block 1 (.seq (.region [o 15 .move [T 13],
       o 5 .move [T 15]])
     (.seq (.draw [o 16 .move [T 0],
       o 17 .move [T 5],
       o 18 (.indexS 1) [T 16, T 17],
       o 19 (.load 1 false) [T 18],
       o 20 .move [T 1],
       o 21 .move [T 5],
       o 22 (.indexS 1) [T 20, T 21],
       o 23 (.load 1 false) [T 22],
       o 24 (.eq true .int) [T 19, T 23]]
       [0, 0, 3, 7, 0, 0, 48, 112, 255])
     (.cond (T 24) (.seq (.region [o 4 .move [B false]])
      .ret) .skip))))
    (.region [o 25 (.arith .add) [T 13, I 1],
      o 13 .move [T 25]])))))))
  (.seq (.region [o 4 .move [B true]])
  .ret)))) }
theorem ok336 : fnOk Tryz.prog 336 m336 = true := by kernel_rfl
/-- tympan/sp.Sub -/
def m338 : MF := { N := 21, np := 2, res := [.tmp 4, .tmp 5], body :=
  (.seq (.region [o 4 .move [I 0],
    o 5 .move [B false]])
  (.seq (.region [o 7 .move [T 0],
    o 8 .move [T 1],
    o 9 (.arith .sub) [T 7, T 8],
    o 6 .move [T 9]])
  (.seq (.seq (.region [o 10 .move [T 6],
    o 11 .move [T 0],
    o 12 (.cmp .lss) [T 10, T 11],
    o 13 .move [T 1],
    o 14 (.cmp .gtr) [T 13, I 0],
    o 15 (.eq true .bool) [T 12, T 14],
    o 16 .move [T 15],
    og 17 .move [T 1] 16 true,
    og 18 (.eq true .int) [T 17, I 0] 16 true,
    o 19 .pick [T 16, T 18, B false]])
  (.cond (T 19) (.seq (.region [o 4 .move [I 0],
     o 5 .move [B false]])
   .ret) .skip))
  (.seq (.region [o 20 .move [T 6],
    o 4 .move [T 20],
    o 5 .move [B true]])
  .ret)))) }
theorem ok338 : fnOk Tryz.prog 338 m338 = true := by kernel_rfl
/-- tympan/item.Loose -/
def m357 : MF := { N := 11, np := 1, res := [.tmp 2], body :=
  (.seq (.region [o 1 .box [T 0],
    o 2 .move [B false]])
  (.seq (.region [o 3 (.fieldAddr 0) [T 1],
    o 4 (.load 1 false) [T 3],
    o 5 (.eq false .int) [T 4, I 2],
    o 6 .move [T 5],
    og 7 (.fieldAddr 0) [T 1] 6 false,
    og 8 (.load 1 false) [T 7] 6 false,
    og 9 (.eq false .int) [T 8, I 3] 6 false,
    o 10 .pick [T 6, B true, T 9],
    o 2 .move [T 10]])
  .ret)) }
theorem ok357 : fnOk Tryz.prog 357 m357 = true := by kernel_rfl
/-- tympan/item.Forbids -/
def m358 : MF := { N := 11, np := 1, res := [.tmp 2], body :=
  (.seq (.region [o 1 .box [T 0],
    o 2 .move [B false]])
  (.seq (.region [o 3 (.fieldAddr 0) [T 1],
    o 4 (.load 1 false) [T 3],
    o 5 (.eq false .int) [T 4, I 3],
    o 6 .move [T 5],
    og 7 (.fieldAddr 6) [T 1] 6 true,
    og 8 (.load 1 false) [T 7] 6 true,
    og 9 (.cmp .geq) [T 8, I 10000] 6 true,
    o 10 .pick [T 6, T 9, B false],
    o 2 .move [T 10]])
  .ret)) }
theorem ok358 : fnOk Tryz.prog 358 m358 = true := by kernel_rfl
/-- tympan/para.is -/
def m359 : MF := { N := 6, np := 2, res := [.tmp 4], body :=
  (.seq (.region [o 2 .box [T 0],
    o 3 .box [T 1],
    o 4 .move [CN .nilf]])
  (.seq (.region [o 5 (.makeFunc 438 0) [T 2, T 3],
    o 4 .move [T 5]])
  .ret)) }
theorem ok359 : fnOk Tryz.prog 359 m359 = true := by kernel_rfl
/-- tympan/para.Ahead -/
def m360 : MF := { N := 14, np := 2, res := [.tmp 4], body :=
  (.seq (.region [o 4 .move [I 0]])
  (.seq (.seq (.region [o 5 .move [T 1],
    o 6 (.cmp .lss) [T 5, I 1]])
  (.cond (T 6) (.seq (.region [o 4 .move [I (-1)]])
   .ret) .skip))
  (.seq (.region [o 7 .move [T 0],
    o 8 .move [T 1],
    o 9 .move [T 0],
    o 10 (.call 178) [T 9],
    o 11 .min [T 8, T 10],
    o 12 (.arith .sub) [T 11, I 1],
    o 13 (.call 439) [T 7, T 12, I (-1)],
    o 4 .move [T 13]])
  .ret))) }
theorem ok360 : fnOk Tryz.prog 360 m360 = true := by kernel_rfl
/-- tympan/para.Behind -/
def m361 : MF := { N := 9, np := 2, res := [.tmp 4], body :=
  (.seq (.region [o 4 .move [I 0]])
  (.seq (.region [o 5 .move [T 0],
    o 6 .move [T 1],
    o 7 .max [T 6, I 0],
    o 8 (.call 439) [T 5, T 7, I 1],
    o 4 .move [T 8]])
  .ret)) }
theorem ok361 : fnOk Tryz.prog 361 m361 = true := by kernel_rfl
/-- tympan/queue.Ready$1 -/
def m363 : MF := { N := 8, np := 2, res := [.tmp 4], body :=
  (.seq (.region [o 4 .move [I 0]])
  (.seq (.region [o 5 .move [T 1],
    o 6 .move [T 0],
    o 7 (.arith .sub) [T 5, T 6],
    o 4 .move [T 7]])
  .ret)) }
theorem ok363 : fnOk Tryz.prog 363 m363 = true := by kernel_rfl
/-- cmp.isNaN[int] -/
def m367 : MF := { N := 6, np := 1, res := [.tmp 2], body :=
  (.seq (.region [o 2 .move [B false]])
  (.seq (.region [o 3 .move [T 0],
    o 4 .move [T 0],
    o 5 (.eq true .int) [T 3, T 4],
    o 2 .move [T 5]])
  .ret)) }
theorem ok367 : fnOk Tryz.prog 367 m367 = true := by kernel_rfl
/-- slices.Index[[]int,int] -/
def m385 : MF := { N := 19, np := 2, res := [.tmp 4], body :=
  (.seq (.region [o 4 .move [I 0]])
  (.seq (.seq (.region [o 6 .move [T 0],
    o 7 .len [T 6],
    o 8 .move [I 0]])
  (.block 0 (.loop (.seq (.region [o 9 (.cmp .lss) [T 8, T 7]])
    (.seq (.cond (T 9) .skip (.exit 0))
    (.seq (.block 1 (.seq (.region [o 10 .move [T 8],
       o 5 .move [T 10]])
     (.seq (.region [o 11 .move [T 1],
       o 12 .move [T 0],
       o 13 .move [T 5],
       o 14 (.indexS 1) [T 12, T 13],
       o 15 (.load 1 false) [T 14],
       o 16 (.eq false .int) [T 11, T 15]])
     (.cond (T 16) (.seq (.region [o 17 .move [T 5],
        o 4 .move [T 17]])
      .ret) .skip))))
    (.region [o 18 (.arith .add) [T 8, I 1],
      o 8 .move [T 18]])))))))
  (.seq (.region [o 4 .move [I (-1)]])
  .ret))) }
theorem ok385 : fnOk Tryz.prog 385 m385 = true := by kernel_rfl
/-- (*tympan/vlist.List).must -/
def m386 : MF := { N := 19, np := 2, res := [.tmp 4], body :=
  (.seq (.region [o 4 .move [B false]])
  (.seq (.region [o 8 .move [T 0],
    o 9 .move [T 1],
    o 10 (.call 220) [T 8, T 9],
    o 7 .move [T 10],
    o 11 (.extract 0) [T 7],
    o 12 (.extract 1) [T 7],
    o 5 (.alloc [.fz (.int .i64 0), .fz (.int .i64 0), .fz (.int .i64 0), .fz (.int .i64 0), .fz (.int .i64 0), .fz (.int .i64 0), .fz (.int .i64 0)]) [],
    on (.store 7) [T 5, T 11],
    o 6 .move [T 12]])
  (.seq (.region [o 13 .move [T 6],
    o 14 .not [T 13],
    o 15 .move [T 14],
    og 16 (.load 7 true) [T 5] 15 false,
    og 17 (.call 221) [T 16] 15 false,
    o 18 .pick [T 15, B true, T 17],
    o 4 .move [T 18]])
  .ret))) }
theorem ok386 : fnOk Tryz.prog 386 m386 = true := by kernel_rfl
/-- tympan/cost.add[int]$1 -/
def m387 : MF := { N := 6, np := 1, res := [.tmp 2], body :=
  (.seq (.region [o 2 .move [I 0]])
  (.seq (.region [o 3 .move [T 0],
    o 4 .max [T 3, I 0],
    o 5 .min [T 4, I 1125899906842624],
    o 2 .move [T 5]])
  .ret)) }
theorem ok387 : fnOk Tryz.prog 387 m387 = true := by kernel_rfl
/-- tympan/cost.add[int64]$1 -/
def m388 : MF := { N := 6, np := 1, res := [.tmp 2], body :=
  (.seq (.region [o 2 .move [I 0]])
  (.seq (.region [o 3 .move [T 0],
    o 4 .max [T 3, I 0],
    o 5 .min [T 4, I 1125899906842624],
    o 2 .move [T 5]])
  .ret)) }
theorem ok388 : fnOk Tryz.prog 388 m388 = true := by kernel_rfl
/-- cmp.Compare[int64] -/
def m389 : MF := { N := 20, np := 2, res := [.tmp 4], body :=
  (.seq (.region [o 4 .move [I 0]])
  (.seq (.region [o 7 .move [T 0],
    o 8 (.call 444) [T 7],
    o 5 .move [T 8]])
  (.seq (.region [o 9 .move [T 1],
    o 10 (.call 444) [T 9],
    o 6 .move [T 10]])
  (.seq (.seq (.region [o 11 .move [T 5]])
  (.cond (T 11) (.seq (.seq (.region [o 12 .move [T 6]])
   (.cond (T 12) (.seq (.region [o 4 .move [I 0]])
    .ret) .skip))
   (.seq (.region [o 4 .move [I (-1)]])
   .ret)) .skip))
  (.seq (.seq (.region [o 13 .move [T 6]])
  (.cond (T 13) (.seq (.region [o 4 .move [I 1]])
   .ret) .skip))
  (.seq (.seq (.region [o 14 .move [T 0],
    o 15 .move [T 1],
    o 16 (.cmp .lss) [T 14, T 15]])
  (.cond (T 16) (.seq (.region [o 4 .move [I (-1)]])
   .ret) .skip))
  (.seq (.seq (.region [o 17 .move [T 0],
    o 18 .move [T 1],
    o 19 (.cmp .gtr) [T 17, T 18]])
  (.cond (T 19) (.seq (.region [o 4 .move [I 1]])
   .ret) .skip))
  (.seq (.region [o 4 .move [I 0]])
  .ret)))))))) }
theorem ok389 : fnOk Tryz.prog 389 m389 = true := by kernel_rfl
/-- tympan/valid.when -/
def m394 : MF := { N := 4, np := 1, res := [.tmp 2], body :=
  (.seq (.region [o 1 .box [T 0],
    o 2 .move [CN .nilf]])
  (.seq (.region [o 3 (.makeFunc 451 0) [T 1],
    o 2 .move [T 3]])
  .ret)) }
theorem ok394 : fnOk Tryz.prog 394 m394 = true := by kernel_rfl
/-- tympan/valid.clauses$1 -/
def m395 : MF := { N := 7, np := 1, res := [.tmp 2], body :=
  (.seq (.region [o 1 .box [T 0],
    o 2 .move [B false]])
  (.seq (.region [o 3 (.fieldAddr 19) [T 1],
    o 4 (.load 1 false) [T 3],
    o 5 .len [T 4],
    o 6 (.cmp .gtr) [T 5, I 4096],
    o 2 .move [T 6]])
  .ret)) }
theorem ok395 : fnOk Tryz.prog 395 m395 = true := by kernel_rfl
/-- tympan/valid.clauses$2 -/
def m396 : MF := { N := 7, np := 1, res := [.tmp 2], body :=
  (.seq (.region [o 1 .box [T 0],
    o 2 .move [B false]])
  (.seq (.region [o 3 (.fieldAddr 21) [T 1],
    o 4 (.load 1 false) [T 3],
    o 5 .len [T 4],
    o 6 (.cmp .gtr) [T 5, I 256],
    o 2 .move [T 6]])
  .ret)) }
theorem ok396 : fnOk Tryz.prog 396 m396 = true := by kernel_rfl
/-- tympan/valid.clauses$3 -/
def m397 : MF := { N := 7, np := 1, res := [.tmp 2], body :=
  (.seq (.region [o 1 .box [T 0],
    o 2 .move [B false]])
  (.seq (.region [o 3 (.fieldAddr 20) [T 1],
    o 4 (.load 1 false) [T 3],
    o 5 .len [T 4],
    o 6 (.cmp .gtr) [T 5, I 512],
    o 2 .move [T 6]])
  .ret)) }
theorem ok397 : fnOk Tryz.prog 397 m397 = true := by kernel_rfl
/-- tympan/valid.clauses$4 -/
def m398 : MF := { N := 7, np := 1, res := [.tmp 2], body :=
  (.seq (.region [o 1 .box [T 0],
    o 2 .move [B false]])
  (.seq (.region [o 3 (.fieldAddr 0) [T 1],
    o 4 (.load 19 true) [T 3],
    o 5 (.call 399) [T 4],
    o 6 (.eq false .int) [T 5, I 6],
    o 2 .move [T 6]])
  .ret)) }
theorem ok398 : fnOk Tryz.prog 398 m398 = true := by kernel_rfl
/-- tympan/geom.Check -/
def m399 : MF := { N := 90, np := 1, res := [.tmp 2], body :=
  (.seq (.region [o 1 .box [T 0],
    o 2 .move [I 0]])
  (.seq (.seq (.draw [o 8 (.call 452) [I 1, I 8],
    o 9 (.fieldAddr 0) [T 1],
    o 10 (.load 1 false) [T 9],
    o 11 (.buildSlice 1 1) [T 10],
    o 12 .callv [T 8, T 11],
    o 13 .not [T 12]]
    [0, 0, 2, 6, 15, 31])
  (.cond (T 13) (.seq (.region [o 2 .move [I 6]])
   .ret) .skip))
  (.seq (.region [o 14 (.call 453) [I 1, I 1073741823],
    o 15 (.call 453) [I 0, I 1073741823],
    o 16 (.call 453) [I 0, I 536870912],
    o 3 .move [T 14],
    o 4 .move [T 15],
    o 5 .move [T 16]])
  (.seq (.region [o 17 (.fieldAddr 2) [T 1],
    o 18 (.load 1 false) [T 17],
    o 19 (.fieldAddr 8) [T 1],
    o 20 (.load 1 false) [T 19],
    o 21 (.fieldAddr 9) [T 1],
    o 22 (.load 1 false) [T 21],
    o 23 (.fieldAddr 10) [T 1],
    o 24 (.load 1 false) [T 23],
    o 25 (.build [.fz (.int .i64 0), .fz (.int .i64 0), .fz (.int .i64 0), .fz (.int .i64 0)] [(0, 1), (1, 1), (2, 1), (3, 1)]) [T 18, T 20, T 22, T 24],
    o 6 (.alloc [.fz (.int .i64 0), .fz (.int .i64 0), .fz (.int .i64 0), .fz (.int .i64 0)]) [],
    on (.store 4) [T 6, T 25]])
  (.seq (.region [o 26 (.fieldAddr 13) [T 1],
    o 27 (.load 1 false) [T 26],
    o 28 (.fieldAddr 14) [T 1],
    o 29 (.load 1 false) [T 28],
    o 30 (.fieldAddr 15) [T 1],
    o 31 (.load 1 false) [T 30],
    o 32 (.fieldAddr 16) [T 1],
    o 33 (.load 1 false) [T 32],
    o 34 (.fieldAddr 17) [T 1],
    o 35 (.load 1 false) [T 34],
    o 36 (.build [.fz (.int .i64 0), .fz (.int .i64 0), .fz (.int .i64 0), .fz (.int .i64 0), .fz (.int .i64 0)] [(0, 1), (1, 1), (2, 1), (3, 1), (4, 1)]) [T 27, T 29, T 31, T 33, T 35],
    o 7 (.alloc [.fz (.int .i64 0), .fz (.int .i64 0), .fz (.int .i64 0), .fz (.int .i64 0), .fz (.int .i64 0)]) [],
    on (.store 5) [T 7, T 36]])
  (.seq (.block 0 (.seq (.seq (.region [o 38 .move [T 3],
     o 39 (.fieldAddr 1) [T 1],
     o 40 (.load 1 false) [T 39],
     o 41 (.fieldAddr 3) [T 1],
     o 42 (.load 1 false) [T 41],
     o 43 (.buildSlice 1 2) [T 40, T 42],
     o 44 .callv [T 38, T 43],
     o 45 .not [T 44],
     o 37 .move [T 45]])
   (.cond (T 37) .skip (.seq (.region [o 46 .move [T 4],
      o 47 (.sliceArr 4 1) [T 6],
      o 48 .callv [T 46, T 47],
      o 49 .not [T 48],
      o 37 .move [T 49]])
    (.cond (T 37) .skip (.region [o 50 .move [T 5],
       o 51 (.fieldAddr 6) [T 1],
       o 52 (.load 1 false) [T 51],
       o 53 (.fieldAddr 7) [T 1],
       o 54 (.load 1 false) [T 53],
       o 55 (.fieldAddr 5) [T 1],
       o 56 (.load 1 false) [T 55],
       o 57 (.buildSlice 1 3) [T 52, T 54, T 56],
       o 58 .callv [T 50, T 57],
       o 59 .not [T 58],
       o 37 .move [T 59]])))))
   (.cond (T 37) (.seq (.region [o 2 .move [I 7]])
    .ret) (.seq (.seq (.draw [o 61 (.fieldAddr 3) [T 1],
      o 62 (.load 1 false) [T 61],
      o 63 (.call 453) [I 1, T 62],
      o 64 (.fieldAddr 4) [T 1],
      o 65 (.load 1 false) [T 64],
      o 66 (.buildSlice 1 1) [T 65],
      o 67 .callv [T 63, T 66],
      o 68 .not [T 67],
      o 60 .move [T 68]]
      [0, 1, 3, 0, 8, 24, 63, 127, 255])
    (.cond (T 60) .skip (.draw [o 69 (.fieldAddr 4) [T 1],
       o 70 (.load 1 false) [T 69],
       o 71 (.call 453) [I 0, T 70],
       o 72 (.fieldAddr 5) [T 1],
       o 73 (.load 1 false) [T 72],
       o 74 (.buildSlice 1 1) [T 73],
       o 75 .callv [T 71, T 74],
       o 76 .not [T 75],
       o 60 .move [T 76]]
       [0, 1, 3, 0, 8, 24, 63, 127, 255])))
    (.cond (T 60) (.seq (.region [o 2 .move [I 7]])
     .ret) (.seq (.seq (.draw [o 78 (.call 452) [I 0, I 4],
       o 79 (.fieldAddr 11) [T 1],
       o 80 (.load 1 false) [T 79],
       o 81 (.fieldAddr 12) [T 1],
       o 82 (.load 1 false) [T 81],
       o 83 (.buildSlice 1 2) [T 80, T 82],
       o 84 .callv [T 78, T 83],
       o 85 .not [T 84],
       o 77 .move [T 85]]
       [0, 0, 2, 0, 8, 30, 63, 127, 255])
     (.cond (T 77) .skip (.draw [o 86 (.call 452) [I 0, I 1048576],
        o 87 (.sliceArr 5 1) [T 7],
        o 88 .callv [T 86, T 87],
        o 89 .not [T 88],
        o 77 .move [T 89]]
        [0, 0, 3, 7, 15])))
     (.cond (T 77) (.seq (.region [o 2 .move [I 7]])
      .ret) .skip)))))))
  (.seq (.region [o 2 .move [I 0]])
  .ret))))))) }
theorem ok399 : fnOk Tryz.prog 399 m399 = true := by kernel_rfl
/-- tympan/valid.clauses$5 -/
def m400 : MF := { N := 7, np := 1, res := [.tmp 2], body :=
  (.seq (.region [o 1 .box [T 0],
    o 2 .move [B false]])
  (.seq (.region [o 3 (.fieldAddr 0) [T 1],
    o 4 (.load 19 true) [T 3],
    o 5 (.call 399) [T 4],
    o 6 (.eq false .int) [T 5, I 7],
    o 2 .move [T 6]])
  .ret)) }
theorem ok400 : fnOk Tryz.prog 400 m400 = true := by kernel_rfl
/-- tympan/valid.clauses$6 -/
def m401 : MF := { N := 7, np := 1, res := [.tmp 2], body :=
  (.seq (.region [o 1 .box [T 0],
    o 2 .move [I 0]])
  (.seq (.draw [o 3 (.call 402) [Fc 403],
    o 4 (.fieldAddr 19) [T 1],
    o 5 (.load 1 false) [T 4],
    o 6 .callv [T 3, T 5],
    o 2 .move [T 6]]
    [0, 0, 2, 7, 15])
  .ret)) }
theorem ok401 : fnOk Tryz.prog 401 m401 = true := by kernel_rfl
/-- tympan/valid.first[tympan/api.Item] -/
def m402 : MF := { N := 4, np := 1, res := [.tmp 2], body :=
  (.seq (.region [o 1 .box [T 0],
    o 2 .move [CN .nilf]])
  (.seq (.region [o 3 (.makeFunc 454 0) [T 1],
    o 2 .move [T 3]])
  .ret)) }
theorem ok402 : fnOk Tryz.prog 402 m402 = true := by kernel_rfl
/-- tympan/item.Check -/
def m403 : MF := { N := 71, np := 1, res := [.tmp 2], body :=
  (.seq (.region [o 1 .box [T 0],
    o 2 .move [I 0]])
  (.seq (.seq (.region [o 5 (.fieldAddr 0) [T 1],
    o 6 (.load 1 false) [T 5],
    o 7 (.cmp .lss) [T 6, I 1],
    o 8 .move [T 7],
    og 9 (.fieldAddr 0) [T 1] 8 false,
    og 10 (.load 1 false) [T 9] 8 false,
    og 11 (.cmp .gtr) [T 10, I 7] 8 false,
    o 12 .pick [T 8, B true, T 11]])
  (.cond (T 12) (.seq (.region [o 2 .move [I 8]])
   .ret) .skip))
  (.seq (.draw [o 13 (.call 457) [],
    o 14 (.fieldAddr 0) [T 1],
    o 15 (.load 1 false) [T 14],
    o 16 (.arith .sub) [T 15, I 1],
    o 17 (.indexS 2) [T 13, T 16],
    o 18 (.load 2 true) [T 17],
    o 3 (.alloc [.fz .nilf, .fz .nilf]) [],
    on (.store 2) [T 3, T 18]]
    [0, 0, 2, 6, 15, 31, 0, 127])
  (.seq (.region [o 19 (.call 458) [I 3],
    o 4 .move [T 19]])
  (.seq (.seq (.draw [o 20 (.fieldAddr 0) [T 3],
    o 21 (.load 1 false) [T 20],
    o 22 (.load 7 true) [T 1],
    o 23 .callv [T 21, T 22],
    o 24 (.load 7 true) [T 1],
    o 25 (.eq true (.agg 149 [some .i64, some .i64, some .i64, some .i64, some .i64, some .i64, some .i64])) [T 23, T 24],
    o 26 .move [T 25],
    og 27 (.fieldAddr 1) [T 3] 26 false,
    og 28 (.load 1 false) [T 27] 26 false,
    og 29 (.fieldAddr 6) [T 1] 26 false,
    og 30 (.load 1 false) [T 29] 26 false,
    og 31 .callv [T 28, T 30] 26 false,
    og 32 .not [T 31] 26 false,
    o 33 .pick [T 26, B true, T 32],
    o 34 .move [T 33],
    og 35 (.fieldAddr 1) [T 1] 34 false,
    og 36 (.load 1 false) [T 35] 34 false,
    og 37 (.fieldAddr 3) [T 1] 34 false,
    og 38 (.load 1 false) [T 37] 34 false,
    og 39 (.fieldAddr 5) [T 1] 34 false,
    og 40 (.load 1 false) [T 39] 34 false,
    og 41 (.buildSlice 1 3) [T 36, T 38, T 40] 34 false,
    og 42 (.call 459) [T 41] 34 false,
    og 43 .not [T 42] 34 false,
    o 44 .pick [T 34, B true, T 43],
    o 45 .move [T 44],
    og 46 .move [T 4] 45 false,
    og 47 (.fieldAddr 2) [T 1] 45 false,
    og 48 (.load 1 false) [T 47] 45 false,
    og 49 .callv [T 46, T 48] 45 false,
    og 50 .not [T 49] 45 false,
    o 51 .pick [T 45, B true, T 50],
    o 52 .move [T 51],
    og 53 .move [T 4] 52 false,
    og 54 (.fieldAddr 4) [T 1] 52 false,
    og 55 (.load 1 false) [T 54] 52 false,
    og 56 .callv [T 53, T 55] 52 false,
    og 57 .not [T 56] 52 false,
    o 58 .pick [T 52, B true, T 57],
    o 59 .move [T 58],
    og 60 (.fieldAddr 0) [T 1] 59 false,
    og 61 (.load 1 false) [T 60] 59 false,
    og 62 (.eq false .int) [T 61, I 2] 59 false,
    og 63 .move [T 62] 59 false,
    og 64 (.fieldAddr 5) [T 1] 63 true,
    og 65 (.load 1 false) [T 64] 63 true,
    og 66 (.fieldAddr 1) [T 1] 63 true,
    og 67 (.load 1 false) [T 66] 63 true,
    og 68 (.cmp .gtr) [T 65, T 67] 63 true,
    og 69 .pick [T 63, T 68, B false] 59 false,
    o 70 .pick [T 59, B true, T 69]]
    [0, 1, 0, 7, 0, 31, 63, 127, 255, 127, 639, 2047, 4095, 8191, 16383, 32767, 65535, 32767, 163839, 32767, 557055, 2097151, 4194303, 8388607, 16777215, 33554431, 67108863, 67108863, 201326591, 536870911, 1073741823, 2147483647, 4294967295, 8589934591, 8589934591, 25769803775, 68719476735, 137438953471, 274877906943, 549755813887, 1099511627775, 2199023255551, 4398046511103, 8796093022207, 17592186044415, 35184372088831, 17592186044415, 87960930222079, 281474976710655, 562949953421311, 1125899906842623])
  (.cond (T 70) (.seq (.region [o 2 .move [I 8]])
   .ret) .skip))
  (.seq (.region [o 2 .move [I 0]])
  .ret)))))) }
theorem ok403 : fnOk Tryz.prog 403 m403 = true := by kernel_rfl
/-- tympan/valid.clauses$7 -/
def m404 : MF := { N := 7, np := 1, res := [.tmp 2], body :=
  (.seq (.region [o 1 .box [T 0],
    o 2 .move [I 0]])
  (.seq (.draw [o 3 (.call 405) [Fc 406],
    o 4 (.fieldAddr 20) [T 1],
    o 5 (.load 1 false) [T 4],
    o 6 .callv [T 3, T 5],
    o 2 .move [T 6]]
    [0, 0, 2, 7, 15])
  .ret)) }
theorem ok404 : fnOk Tryz.prog 404 m404 = true := by kernel_rfl
/-- tympan/valid.first[tympan/api.Note] -/
def m405 : MF := { N := 4, np := 1, res := [.tmp 2], body :=
  (.seq (.region [o 1 .box [T 0],
    o 2 .move [CN .nilf]])
  (.seq (.region [o 3 (.makeFunc 460 0) [T 1],
    o 2 .move [T 3]])
  .ret)) }
theorem ok405 : fnOk Tryz.prog 405 m405 = true := by kernel_rfl
/-- tympan/valid.clauses$8 -/
def m407 : MF := { N := 7, np := 1, res := [.tmp 2], body :=
  (.seq (.region [o 1 .box [T 0],
    o 2 .move [I 0]])
  (.seq (.draw [o 3 (.call 408) [Fc 409],
    o 4 (.fieldAddr 21) [T 1],
    o 5 (.load 1 false) [T 4],
    o 6 .callv [T 3, T 5],
    o 2 .move [T 6]]
    [0, 0, 2, 7, 15])
  .ret)) }
theorem ok407 : fnOk Tryz.prog 407 m407 = true := by kernel_rfl
/-- tympan/valid.first[tympan/api.Float] -/
def m408 : MF := { N := 4, np := 1, res := [.tmp 2], body :=
  (.seq (.region [o 1 .box [T 0],
    o 2 .move [CN .nilf]])
  (.seq (.region [o 3 (.makeFunc 463 0) [T 1],
    o 2 .move [T 3]])
  .ret)) }
theorem ok408 : fnOk Tryz.prog 408 m408 = true := by kernel_rfl
/-- tympan/valid.loose -/
def m410 : MF := { N := 29, np := 1, res := [.tmp 2], body :=
  (.seq (.region [o 1 .box [T 0],
    o 2 .move [I 0]])
  (.seq (.draw [o 5 (.fieldAddr 19) [T 1],
    o 6 (.load 1 false) [T 5],
    o 7 (.fieldAddr 20) [T 1],
    o 8 (.load 1 false) [T 7],
    o 9 .len [T 8],
    o 10 (.call 466) [T 6, I 5, T 9],
    o 11 (.fieldAddr 19) [T 1],
    o 12 (.load 1 false) [T 11],
    o 13 (.fieldAddr 21) [T 1],
    o 14 (.load 1 false) [T 13],
    o 15 .len [T 14],
    o 16 (.call 466) [T 12, I 6, T 15],
    o 3 .move [T 10],
    o 4 .move [T 16]]
    [0, 1, 0, 4, 12, 31, 0, 64, 0, 256, 768, 2047, 4095, 8191])
  (.seq (.seq (.region [o 17 .move [T 3],
    o 18 (.cmp .lss) [T 17, I 0],
    o 19 .move [T 18],
    og 20 .move [T 4] 19 false,
    og 21 (.cmp .lss) [T 20, I 0] 19 false,
    o 22 .pick [T 19, B true, T 21]])
  (.cond (T 22) (.seq (.region [o 23 .move [T 3],
     o 24 .move [T 4],
     o 25 .max [T 23, T 24],
     o 2 .move [T 25]])
   .ret) .skip))
  (.seq (.region [o 26 .move [T 3],
    o 27 .move [T 4],
    o 28 .min [T 26, T 27],
    o 2 .move [T 28]])
  .ret)))) }
theorem ok410 : fnOk Tryz.prog 410 m410 = true := by kernel_rfl
/-- tympan/valid.tall -/
def m411 : MF := { N := 10, np := 1, res := [.tmp 2], body :=
  (.seq (.region [o 1 .box [T 0],
    o 2 .move [I 0]])
  (.seq (.region [o 4 (.load 22 true) [T 1],
    o 5 (.call 88) [T 4],
    o 3 (.alloc [.fz (.int .i64 0), .fz (.int .i64 0), .fz (.int .i64 0), .fz (.int .i64 0), .fz (.int .i64 0), .fz (.int .i64 0), .fz (.int .i64 0), .fz (.int .i64 0), .fz (.int .i64 0), .fz (.int .i64 0), .fz (.int .i64 0), .fz (.int .i64 0), .fz (.int .i64 0), .fz (.int .i64 0), .fz (.int .i64 0), .fz (.int .i64 0), .fz (.int .i64 0), .fz (.int .i64 0), .fz (.bool false), .nils, .nils, .nils]) [],
    on (.store 22) [T 3, T 5]])
  (.seq (.region [o 6 (.fieldAddr 21) [T 3],
    o 7 (.load 1 false) [T 6],
    o 8 (.makeFunc 467 0) [T 3],
    o 9 (.call 464) [T 7, T 8],
    o 2 .move [T 9]])
  .ret))) }
theorem ok411 : fnOk Tryz.prog 411 m411 = true := by kernel_rfl
/-- tympan/total.both$1 -/
def m413 : MF := { N := 21, np := 4, res := [.tmp 6], body :=
  (.seq (.region [o 6 .move [I 0]])
  (.seq (.region [o 10 (.load 1 false) [T 2],
    o 11 .move [T 0],
    o 12 .move [T 1],
    o 13 .callv [T 10, T 11, T 12],
    o 9 .move [T 13],
    o 14 (.extract 0) [T 9],
    o 15 (.extract 1) [T 9],
    o 7 .move [T 14],
    o 8 .move [T 15]])
  (.seq (.region [o 16 (.load 1 false) [T 3],
    o 17 .move [T 16],
    og 18 .move [T 8] 17 true,
    o 19 .pick [T 17, T 18, B false],
    on (.store 1) [T 3, T 19]])
  (.seq (.region [o 20 .move [T 7],
    o 6 .move [T 20]])
  .ret)))) }
theorem ok413 : fnOk Tryz.prog 413 m413 = true := by kernel_rfl
/-- (*tympan/anchor.Map).Due -/
def m414 : MF := { N := 22, np := 2, res := [.cell 4 3 true], body :=
  (.seq (.region [o 4 (.alloc [.fz (.int .i64 0), .fz (.int .i64 0), .fz (.int .i64 0)]) []])
  (.seq (.region [o 7 .move [T 0],
    o 8 .move [T 1],
    o 9 (.call 210) [T 7, T 8],
    o 6 .move [T 9],
    o 10 (.extract 0) [T 6],
    o 11 (.extract 1) [T 6],
    o 1 .move [T 10],
    o 5 .move [T 11]])
  (.seq (.seq (.region [o 12 .move [T 5],
    o 13 .not [T 12]])
  (.cond (T 13) (.seq (.region [o 14 (.build [.fz (.int .i64 0), .fz (.int .i64 0), .fz (.int .i64 0)] []) [],
     on (.store 3) [T 4, T 14]])
   .ret) .skip))
  (.seq (.region [o 15 .move [T 0],
    o 16 .nilCheck [T 15],
    o 17 (.fieldAddr 3) [T 16],
    o 18 (.load 1 false) [T 17],
    o 19 .move [T 1],
    o 20 (.indexS 3) [T 18, T 19],
    o 21 (.load 3 true) [T 20],
    on (.store 3) [T 4, T 21]])
  .ret)))) }
theorem ok414 : fnOk Tryz.prog 414 m414 = true := by kernel_rfl
/-- tympan/split.all -/
def m415 : MF := { N := 6, np := 2, res := [.tmp 4], body :=
  (.seq (.region [o 2 .box [T 0],
    o 3 .box [T 1],
    o 4 .move [CN .nilf]])
  (.seq (.region [o 5 (.makeFunc 468 0) [T 3, T 2],
    o 4 .move [T 5]])
  .ret)) }
theorem ok415 : fnOk Tryz.prog 415 m415 = true := by kernel_rfl
/-- tympan/queue.Next -/
def m416 : MF := { N := 24, np := 3, res := [.tmp 6], body :=
  (.seq (.region [o 4 .box [T 1],
    o 6 .move [B false]])
  (.seq (.draw [o 10 .move [T 0],
    o 11 (.load 3 true) [T 4],
    o 12 .move [T 0],
    o 13 .move [T 2],
    o 14 (.call 194) [T 12, T 13],
    o 15 (.call 449) [T 10, T 11, T 14],
    o 9 .move [T 15],
    o 16 (.extract 0) [T 9],
    o 17 (.extract 1) [T 9],
    o 7 .move [T 16],
    o 8 .move [T 17]]
    [0, 0, 0, 0, 12, 31, 63, 127, 127, 255, 1023])
  (.seq (.region [o 18 .move [T 8],
    o 19 .move [T 18],
    og 20 .move [T 7] 19 true,
    og 21 .move [T 2] 19 true,
    og 22 (.call 336) [T 20, T 21] 19 true,
    o 23 .pick [T 19, T 22, B false],
    o 6 .move [T 23]])
  .ret))) }
theorem ok416 : fnOk Tryz.prog 416 m416 = true := by kernel_rfl
/-- (*tympan/state.World).Map -/
def m417 : MF := { N := 6, np := 1, res := [.tmp 2], body :=
  (.seq (.region [o 2 .move [CN .nilp]])
  (.seq (.region [o 3 .move [T 0],
    o 4 (.call 111) [T 3],
    o 5 (.call 472) [T 4],
    o 2 .move [T 5]])
  .ret)) }
theorem ok417 : fnOk Tryz.prog 417 m417 = true := by kernel_rfl
/-- tympan/area.top -/
def m418 : MF := { N := 8, np := 1, res := [.cell 2 3 true], body :=
  (.seq (.region [o 1 .box [T 0],
    o 2 (.alloc [.fz (.int .i64 0), .fz (.int .i64 0), .fz .nilf]) []])
  (.seq (.region [o 3 (.fieldAddr 11) [T 1],
    o 4 (.load 1 false) [T 3],
    o 5 (.fieldAddr 9) [T 1],
    o 6 (.load 1 false) [T 5],
    o 7 (.build [.fz (.int .i64 0), .fz (.int .i64 0), .fz .nilf] [(0, 1), (1, 1), (2, 1)]) [T 4, T 6, Fc 473],
    on (.store 3) [T 2, T 7]])
  .ret)) }
theorem ok418 : fnOk Tryz.prog 418 m418 = true := by kernel_rfl
/-- (tympan/area.place).fits -/
def m419 : MF := { N := 48, np := 4, res := [.tmp 8], body :=
  (.seq (.region [o 4 .box [T 0],
    o 5 .box [T 1],
    o 8 .move [B false]])
  (.seq (.seq (.region [o 13 .move [T 3],
    o 14 .len [T 13],
    o 15 (.fieldAddr 0) [T 4],
    o 16 (.load 1 false) [T 15],
    o 17 (.cmp .gtr) [T 14, T 16]])
  (.cond (T 17) (.seq (.region [o 8 .move [B false]])
   .ret) .skip))
  (.seq (.seq (.region [o 18 .move [T 3],
    o 19 .len [T 18],
    o 20 .move [I 0]])
  (.block 0 (.loop (.seq (.region [o 21 (.cmp .lss) [T 20, T 19]])
    (.seq (.cond (T 21) .skip (.exit 0))
    (.seq (.block 1 (.seq (.region [o 22 (.indexS 1) [T 18, T 20],
       o 23 (.load 1 false) [T 22],
       o 10 .move [T 23]])
     (.seq (.region [o 25 .move [T 2],
       o 26 .move [T 10],
       o 27 (.call 106) [T 25, T 26],
       o 24 .move [T 27],
       o 28 (.extract 0) [T 24],
       o 29 (.extract 1) [T 24],
       o 11 (.alloc [.fz (.int .i64 0), .fz (.int .i64 0), .fz (.int .i64 0)]) [],
       on (.store 3) [T 11, T 28],
       o 12 .move [T 29]])
     (.seq (.region [o 30 .move [T 12],
       o 31 .not [T 30],
       o 32 .move [T 31],
       og 33 (.fieldAddr 2) [T 4] 32 false,
       og 34 (.load 1 false) [T 33] 32 false,
       og 35 (.load 3 true) [T 11] 32 false,
       og 36 .callv [T 34, T 35] 32 false,
       og 37 .not [T 36] 32 false,
       o 38 .pick [T 32, B true, T 37]])
     (.cond (T 38) (.seq (.region [o 8 .move [B false]])
      .ret) .skip)))))
    (.region [o 39 (.arith .add) [T 20, I 1],
      o 20 .move [T 39]])))))))
  (.seq (.draw [o 40 .move [T 2],
    o 41 .move [T 3],
    o 42 (.fieldAddr 7) [T 5],
    o 43 (.load 1 false) [T 42],
    o 44 (.call 24) [T 40, T 41, T 43],
    o 45 (.fieldAddr 1) [T 4],
    o 46 (.load 1 false) [T 45],
    o 47 (.cmp .leq) [T 44, T 46],
    o 8 .move [T 47]]
    [0, 0, 0, 4, 15, 0, 32, 127, 255])
  .ret)))) }
theorem ok419 : fnOk Tryz.prog 419 m419 = true := by kernel_rfl
/-- tympan/area.bottom -/
def m420 : MF := { N := 8, np := 1, res := [.cell 2 3 true], body :=
  (.seq (.region [o 1 .box [T 0],
    o 2 (.alloc [.fz (.int .i64 0), .fz (.int .i64 0), .fz .nilf]) []])
  (.seq (.region [o 3 (.fieldAddr 12) [T 1],
    o 4 (.load 1 false) [T 3],
    o 5 (.fieldAddr 10) [T 1],
    o 6 (.load 1 false) [T 5],
    o 7 (.build [.fz (.int .i64 0), .fz (.int .i64 0), .fz .nilf] [(0, 1), (1, 1), (2, 1)]) [T 4, T 6, Fc 474],
    on (.store 3) [T 2, T 7]])
  .ret)) }
theorem ok420 : fnOk Tryz.prog 420 m420 = true := by kernel_rfl
/-- slices.Equal[[]tympan/api.Piece,tympan/api.Piece] -/
def m424 : MF := { N := 26, np := 2, res := [.tmp 4], body :=
  (.seq (.region [o 4 .move [B false]])
  (.seq (.seq (.region [o 6 .move [T 0],
    o 7 .len [T 6],
    o 8 .move [T 1],
    o 9 .len [T 8],
    o 10 (.eq true .int) [T 7, T 9]])
  (.cond (T 10) (.seq (.region [o 4 .move [B false]])
   .ret) .skip))
  (.seq (.seq (.region [o 11 .move [T 0],
    o 12 .len [T 11],
    o 13 .move [I 0]])
  (.block 0 (.loop (.seq (.region [o 14 (.cmp .lss) [T 13, T 12]])
    (.seq (.cond (T 14) .skip (.exit 0))
    (.seq (.block 1 (.seq (.region [o 15 .move [T 13],
       o 5 .move [T 15]])
     (.seq (.draw [o 16 .move [T 0],
       o 17 .move [T 5],
       o 18 (.indexS 3) [T 16, T 17],
       o 19 (.load 3 true) [T 18],
       o 20 .move [T 1],
       o 21 .move [T 5],
       o 22 (.indexS 3) [T 20, T 21],
       o 23 (.load 3 true) [T 22],
       o 24 (.eq true (.agg 147 [some .i64, some .i64, some .i64])) [T 19, T 23]]
       [0, 0, 3, 7, 0, 0, 48, 112, 255])
     (.cond (T 24) (.seq (.region [o 4 .move [B false]])
      .ret) .skip))))
    (.region [o 25 (.arith .add) [T 13, I 1],
      o 13 .move [T 25]])))))))
  (.seq (.region [o 4 .move [B true]])
  .ret)))) }
theorem ok424 : fnOk Tryz.prog 424 m424 = true := by kernel_rfl
/-- tympan/para.is$1 -/
def m438 : MF := { N := 20, np := 3, res := [.tmp 4], body :=
  (.seq (.region [o 4 .move [B false]])
  (.seq (.region [o 8 (.load 1 false) [T 1],
    o 9 .move [T 0],
    o 10 (.call 220) [T 8, T 9],
    o 7 .move [T 10],
    o 11 (.extract 0) [T 7],
    o 12 (.extract 1) [T 7],
    o 5 (.alloc [.fz (.int .i64 0), .fz (.int .i64 0), .fz (.int .i64 0), .fz (.int .i64 0), .fz (.int .i64 0), .fz (.int .i64 0), .fz (.int .i64 0)]) [],
    on (.store 7) [T 5, T 11],
    o 6 .move [T 12]])
  (.seq (.region [o 13 .move [T 6],
    o 14 .move [T 13],
    og 15 (.fieldAddr 2) [T 5] 14 true,
    og 16 (.load 1 false) [T 15] 14 true,
    og 17 (.load 1 false) [T 2] 14 true,
    og 18 (.eq false .int) [T 16, T 17] 14 true,
    o 19 .pick [T 14, T 18, B false],
    o 4 .move [T 19]])
  .ret))) }
theorem ok438 : fnOk Tryz.prog 438 m438 = true := by kernel_rfl
/-- tympan/para.seek -/
def m439 : MF := { N := 35, np := 3, res := [.tmp 6], body :=
  (.seq (.region [o 6 .move [I 0]])
  (.scope (.seq (.region [o 7 .move [I (-1)]])
   (.seq .skip
   (.seq (.seq (.region [o 11 .move [T 1],
     o 8 .move [T 11]])
   (.block 0 (.loop (.seq (.seq (.region [o 12 .move [T 8],
       o 13 (.cmp .geq) [T 12, I 0],
       o 14 .move [T 13],
       og 15 .move [T 8] 14 true,
       og 16 .move [T 0] 14 true,
       og 17 (.call 178) [T 16] 14 true,
       og 18 (.cmp .lss) [T 15, T 17] 14 true,
       o 19 .pick [T 14, T 18, B false]])
     (.cond (T 19) .skip (.exit 0)))
     (.seq (.block 1 (.seq (.region [o 24 .move [T 0],
        o 25 .move [T 8],
        o 26 (.call 220) [T 24, T 25],
        o 23 .move [T 26],
        o 27 (.extract 0) [T 23],
        o 28 (.extract 1) [T 23],
        o 9 (.alloc [.fz (.int .i64 0), .fz (.int .i64 0), .fz (.int .i64 0), .fz (.int .i64 0), .fz (.int .i64 0), .fz (.int .i64 0), .fz (.int .i64 0)]) [],
        on (.store 7) [T 9, T 27],
        o 10 .move [T 28]])
      (.seq (.region [o 29 (.fieldAddr 0) [T 9],
        o 30 (.load 1 false) [T 29]])
      (.block 2 (.seq (.region [o 32 (.eq false .int) [T 30, I 1],
         o 31 .move [T 32]])
       (.cond (T 31) (.seq (.region [o 33 .move [T 8],
          o 7 .move [T 33]])
        (.exit 0)) .skip))))))
     (.region [o 20 .move [T 8],
       o 21 .move [T 2],
       o 22 (.arith .add) [T 20, T 21],
       o 8 .move [T 22]]))))))
   (.seq (.region [o 34 .move [T 7],
     o 6 .move [T 34]])
   .ret)))))) }
theorem ok439 : fnOk Tryz.prog 439 m439 = true := by kernel_rfl
/-- cmp.isNaN[int64] -/
def m444 : MF := { N := 6, np := 1, res := [.tmp 2], body :=
  (.seq (.region [o 2 .move [B false]])
  (.seq (.region [o 3 .move [T 0],
    o 4 .move [T 0],
    o 5 (.eq true .int) [T 3, T 4],
    o 2 .move [T 5]])
  .ret)) }
theorem ok444 : fnOk Tryz.prog 444 m444 = true := by kernel_rfl
/-- tympan/queue.Take -/
def m449 : MF := { N := 65, np := 3, res := [.tmp 6, .tmp 7], body :=
  (.seq (.region [o 4 .box [T 1],
    o 5 .box [T 2],
    o 6 .move [.const .nils],
    o 7 .move [B false]])
  (.seq (.region [o 8 .move [.const .nils]])
  (.seq (.seq (.region [o 11 .move [I 0]])
  (.block 0 (.loop (.seq (.region [o 12 (.cmp .lss) [T 11, I 3]])
    (.seq (.cond (T 12) .skip (.exit 0))
    (.seq (.block 1 (.seq (.region [o 13 .move [T 11],
       o 9 .move [T 13]])
     (.seq (.region [o 14 .move [T 0],
       o 15 .move [T 9],
       o 16 (.call 486) [T 14, T 15],
       o 10 .move [T 16]])
     (.seq (.seq (.draw [o 17 .move [T 9],
       o 18 (.indexA 3 1) [T 4, T 17],
       o 19 (.load 1 false) [T 18],
       o 20 (.cmp .lss) [T 19, I 0],
       o 21 .move [T 20],
       og 22 .move [T 9] 21 false,
       og 23 (.indexA 3 1) [T 5, T 22] 21 false,
       og 24 (.load 1 false) [T 23] 21 false,
       og 25 (.cmp .lss) [T 24, I 0] 21 false,
       o 26 .pick [T 21, B true, T 25],
       o 27 .move [T 26],
       og 28 .move [T 9] 27 false,
       og 29 (.indexA 3 1) [T 4, T 28] 27 false,
       og 30 (.load 1 false) [T 29] 27 false,
       og 31 .move [T 10] 27 false,
       og 32 .len [T 31] 27 false,
       og 33 (.cmp .gtr) [T 30, T 32] 27 false,
       o 34 .pick [T 27, B true, T 33],
       o 35 .move [T 34],
       og 36 .move [T 9] 35 false,
       og 37 (.indexA 3 1) [T 5, T 36] 35 false,
       og 38 (.load 1 false) [T 37] 35 false,
       og 39 .move [T 10] 35 false,
       og 40 .len [T 39] 35 false,
       og 41 .move [T 9] 35 false,
       og 42 (.indexA 3 1) [T 4, T 41] 35 false,
       og 43 (.load 1 false) [T 42] 35 false,
       og 44 (.arith .sub) [T 40, T 43] 35 false,
       og 45 (.cmp .gtr) [T 38, T 44] 35 false,
       o 46 .pick [T 35, B true, T 45]]
       [0, 1, 3, 7, 15, 31, 63, 127, 255, 511, 1023, 2047, 4095, 8191, 2047, 18431, 65535, 131071, 262143, 524287, 1048575, 2097151, 524287, 4718591, 524287, 17301503, 50855935, 130547711, 268435455, 536870911])
     (.cond (T 46) (.seq (.region [o 6 .move [.const .nils],
        o 7 .move [B false]])
      .ret) .skip))
     (.draw [o 47 .move [T 8],
       o 48 .move [T 10],
       o 49 .move [T 9],
       o 50 (.indexA 3 1) [T 4, T 49],
       o 51 (.load 1 false) [T 50],
       o 52 .move [T 9],
       o 53 (.indexA 3 1) [T 4, T 52],
       o 54 (.load 1 false) [T 53],
       o 55 .move [T 9],
       o 56 (.indexA 3 1) [T 5, T 55],
       o 57 (.load 1 false) [T 56],
       o 58 (.arith .add) [T 54, T 57],
       o 59 (.slice 1 true true false) [T 48, T 51, T 58],
       o 60 (.append 1 8) [T 47, T 59],
       o 8 .move [T 60]]
       [0, 0, 0, 4, 12, 0, 32, 96, 0, 256, 768, 2016, 4094, 8191, 16383])))))
    (.region [o 61 (.arith .add) [T 11, I 1],
      o 11 .move [T 61]])))))))
  (.seq (.region [o 62 .move [T 8],
    o 63 (.call 487) [T 62]])
  (.seq (.region [o 64 .move [T 8],
    o 6 .move [T 64],
    o 7 .move [B true]])
  .ret))))) }
theorem ok449 : fnOk Tryz.prog 449 m449 = true := by kernel_rfl
/-- tympan/valid.when$1 -/
def m451 : MF := { N := 7, np := 2, res := [.tmp 3], body :=
  (.seq (.region [o 2 .box [T 0],
    o 3 .move [I 0]])
  (.seq (.seq (.region [o 4 (.load 1 false) [T 1],
    o 5 (.load 22 true) [T 2],
    o 6 .callv [T 4, T 5]])
  (.cond (T 6) (.seq (.region [o 3 .move [I 0]])
   .ret) .skip))
  (.seq (.region [o 3 .move [I (-1)]])
  .ret))) }
theorem ok451 : fnOk Tryz.prog 451 m451 = true := by kernel_rfl
/-- tympan/geom.within[int] -/
def m452 : MF := { N := 6, np := 2, res := [.tmp 4], body :=
  (.seq (.region [o 2 .box [T 0],
    o 3 .box [T 1],
    o 4 .move [CN .nilf]])
  (.seq (.region [o 5 (.makeFunc 489 0) [T 2, T 3],
    o 4 .move [T 5]])
  .ret)) }
theorem ok452 : fnOk Tryz.prog 452 m452 = true := by kernel_rfl
/-- tympan/geom.within[tympan/api.Sp] -/
def m453 : MF := { N := 6, np := 2, res := [.tmp 4], body :=
  (.seq (.region [o 2 .box [T 0],
    o 3 .box [T 1],
    o 4 .move [CN .nilf]])
  (.seq (.region [o 5 (.makeFunc 490 0) [T 2, T 3],
    o 4 .move [T 5]])
  .ret)) }
theorem ok453 : fnOk Tryz.prog 453 m453 = true := by kernel_rfl
/-- tympan/valid.first[tympan/api.Item]$1 -/
def m454 : MF := { N := 7, np := 2, res := [.tmp 3], body :=
  (.seq (.region [o 3 .move [I 0]])
  (.seq (.region [o 4 .move [T 0],
    o 5 (.makeFunc 456 0) [T 1],
    o 6 (.call 455) [T 4, T 5],
    o 3 .move [T 6]])
  .ret)) }
theorem ok454 : fnOk Tryz.prog 454 m454 = true := by kernel_rfl
/-- slices.IndexFunc[[]tympan/api.Item,tympan/api.Item] -/
def m455 : MF := { N := 19, np := 2, res := [.tmp 4], body :=
  (.seq (.region [o 4 .move [I 0]])
  (.seq (.seq (.region [o 6 .move [T 0],
    o 7 .len [T 6],
    o 8 .move [I 0]])
  (.block 0 (.loop (.seq (.region [o 9 (.cmp .lss) [T 8, T 7]])
    (.seq (.cond (T 9) .skip (.exit 0))
    (.seq (.block 1 (.seq (.region [o 10 .move [T 8],
       o 5 .move [T 10]])
     (.seq (.region [o 11 .move [T 1],
       o 12 .move [T 0],
       o 13 .move [T 5],
       o 14 (.indexS 7) [T 12, T 13],
       o 15 (.load 7 true) [T 14],
       o 16 .callv [T 11, T 15]])
     (.cond (T 16) (.seq (.region [o 17 .move [T 5],
        o 4 .move [T 17]])
      .ret) .skip))))
    (.region [o 18 (.arith .add) [T 8, I 1],
      o 8 .move [T 18]])))))))
  (.seq (.region [o 4 .move [I (-1)]])
  .ret))) }
theorem ok455 : fnOk Tryz.prog 455 m455 = true := by kernel_rfl
/-- tympan/valid.first[tympan/api.Item]$1$1 -/
def m456 : MF := { N := 8, np := 2, res := [.tmp 3], body :=
  (.seq (.region [o 2 .box [T 0],
    o 3 .move [B false]])
  (.seq (.region [o 4 (.load 1 false) [T 1],
    o 5 (.load 7 true) [T 2],
    o 6 .callv [T 4, T 5],
    o 7 (.eq true .int) [T 6, I 0],
    o 3 .move [T 7]])
  .ret)) }
theorem ok456 : fnOk Tryz.prog 456 m456 = true := by kernel_rfl
/-- tympan/item.forms -/
def m457 : MF := { N := 24, np := 0, res := [.tmp 0], body :=
  (.seq (.region [o 0 .move [.const .nils]])
  (.seq (.region [o 1 .move [Fc 491]])
  (.seq (.region [o 2 (.call 458) [I 0],
    o 3 (.build [.fz .nilf, .fz .nilf] [(0, 1), (1, 1)]) [Fc 493, T 2],
    o 4 (.call 458) [I 0],
    o 5 (.build [.fz .nilf, .fz .nilf] [(0, 1), (1, 1)]) [Fc 495, T 4],
    o 6 .move [T 1],
    o 7 .callv [T 6, Fc 497],
    o 8 (.build [.fz .nilf, .fz .nilf] [(0, 1), (1, 1)]) [T 7, Fc 498],
    o 9 .move [T 1],
    o 10 .callv [T 9, Fc 499],
    o 11 (.call 458) [I 1048576],
    o 12 (.build [.fz .nilf, .fz .nilf] [(0, 1), (1, 1)]) [T 10, T 11],
    o 13 .move [T 1],
    o 14 .callv [T 13, Fc 500],
    o 15 (.call 458) [I 511],
    o 16 (.build [.fz .nilf, .fz .nilf] [(0, 1), (1, 1)]) [T 14, T 15],
    o 17 .move [T 1],
    o 18 .callv [T 17, Fc 501],
    o 19 (.call 458) [I 255],
    o 20 (.build [.fz .nilf, .fz .nilf] [(0, 1), (1, 1)]) [T 18, T 19],
    o 21 (.call 458) [I 0],
    o 22 (.build [.fz .nilf, .fz .nilf] [(0, 1), (1, 1)]) [Fc 502, T 21],
    o 23 (.buildSlice 2 7) [T 3, T 5, T 8, T 12, T 16, T 20, T 22],
    o 0 .move [T 23]])
  .ret))) }
theorem ok457 : fnOk Tryz.prog 457 m457 = true := by kernel_rfl
/-- tympan/item.upTo -/
def m458 : MF := { N := 4, np := 1, res := [.tmp 2], body :=
  (.seq (.region [o 1 .box [T 0],
    o 2 .move [CN .nilf]])
  (.seq (.region [o 3 (.makeFunc 504 0) [T 1],
    o 2 .move [T 3]])
  .ret)) }
theorem ok458 : fnOk Tryz.prog 458 m458 = true := by kernel_rfl
/-- tympan/item.long -/
def m459 : MF := { N := 6, np := 1, res := [.tmp 2], body :=
  (.seq (.region [o 2 .move [B false]])
  (.seq (.region [o 3 .move [T 0],
    o 4 (.call 505) [T 3, Fc 506],
    o 5 .not [T 4],
    o 2 .move [T 5]])
  .ret)) }
theorem ok459 : fnOk Tryz.prog 459 m459 = true := by kernel_rfl
/-- tympan/valid.first[tympan/api.Note]$1 -/
def m460 : MF := { N := 7, np := 2, res := [.tmp 3], body :=
  (.seq (.region [o 3 .move [I 0]])
  (.seq (.region [o 4 .move [T 0],
    o 5 (.makeFunc 462 0) [T 1],
    o 6 (.call 461) [T 4, T 5],
    o 3 .move [T 6]])
  .ret)) }
theorem ok460 : fnOk Tryz.prog 460 m460 = true := by kernel_rfl
/-- slices.IndexFunc[[]tympan/api.Note,tympan/api.Note] -/
def m461 : MF := { N := 19, np := 2, res := [.tmp 4], body :=
  (.seq (.region [o 4 .move [I 0]])
  (.seq (.seq (.region [o 6 .move [T 0],
    o 7 .len [T 6],
    o 8 .move [I 0]])
  (.block 0 (.loop (.seq (.region [o 9 (.cmp .lss) [T 8, T 7]])
    (.seq (.cond (T 9) .skip (.exit 0))
    (.seq (.block 1 (.seq (.region [o 10 .move [T 8],
       o 5 .move [T 10]])
     (.seq (.region [o 11 .move [T 1],
       o 12 .move [T 0],
       o 13 .move [T 5],
       o 14 (.indexS 2) [T 12, T 13],
       o 15 (.load 2 true) [T 14],
       o 16 .callv [T 11, T 15]])
     (.cond (T 16) (.seq (.region [o 17 .move [T 5],
        o 4 .move [T 17]])
      .ret) .skip))))
    (.region [o 18 (.arith .add) [T 8, I 1],
      o 8 .move [T 18]])))))))
  (.seq (.region [o 4 .move [I (-1)]])
  .ret))) }
theorem ok461 : fnOk Tryz.prog 461 m461 = true := by kernel_rfl
/-- tympan/valid.first[tympan/api.Float]$1 -/
def m463 : MF := { N := 7, np := 2, res := [.tmp 3], body :=
  (.seq (.region [o 3 .move [I 0]])
  (.seq (.region [o 4 .move [T 0],
    o 5 (.makeFunc 465 0) [T 1],
    o 6 (.call 464) [T 4, T 5],
    o 3 .move [T 6]])
  .ret)) }
theorem ok463 : fnOk Tryz.prog 463 m463 = true := by kernel_rfl
/-- slices.IndexFunc[[]tympan/api.Float,tympan/api.Float] -/
def m464 : MF := { N := 19, np := 2, res := [.tmp 4], body :=
  (.seq (.region [o 4 .move [I 0]])
  (.seq (.seq (.region [o 6 .move [T 0],
    o 7 .len [T 6],
    o 8 .move [I 0]])
  (.block 0 (.loop (.seq (.region [o 9 (.cmp .lss) [T 8, T 7]])
    (.seq (.cond (T 9) .skip (.exit 0))
    (.seq (.block 1 (.seq (.region [o 10 .move [T 8],
       o 5 .move [T 10]])
     (.seq (.region [o 11 .move [T 1],
       o 12 .move [T 0],
       o 13 .move [T 5],
       o 14 (.indexS 3) [T 12, T 13],
       o 15 (.load 3 true) [T 14],
       o 16 .callv [T 11, T 15]])
     (.cond (T 16) (.seq (.region [o 17 .move [T 5],
        o 4 .move [T 17]])
      .ret) .skip))))
    (.region [o 18 (.arith .add) [T 8, I 1],
      o 8 .move [T 18]])))))))
  (.seq (.region [o 4 .move [I (-1)]])
  .ret))) }
theorem ok464 : fnOk Tryz.prog 464 m464 = true := by kernel_rfl
/-- tympan/valid.refs -/
def m466 : MF := { N := 48, np := 3, res := [.tmp 6], body :=
  (.seq (.region [o 6 .move [I 0]])
  (.seq (.region [o 11 .move [T 0],
    o 12 .move [T 1],
    o 13 (.call 507) [T 11, T 12],
    o 7 .move [T 13]])
  (.seq (.region [o 8 .move [I 0]])
  (.seq (.seq (.region [o 14 .move [T 0],
    o 15 .len [T 14],
    o 16 .move [I 0]])
  (.block 0 (.loop (.seq (.region [o 17 (.cmp .lss) [T 16, T 15]])
    (.seq (.cond (T 17) .skip (.exit 0))
    (.seq (.block 1 (.seq (.region [o 18 .move [T 16],
       o 19 (.indexS 7) [T 14, T 16],
       o 20 (.load 7 true) [T 19],
       o 10 (.alloc [.fz (.int .i64 0), .fz (.int .i64 0), .fz (.int .i64 0), .fz (.int .i64 0), .fz (.int .i64 0), .fz (.int .i64 0), .fz (.int .i64 0)]) [],
       o 9 .move [T 18],
       on (.store 7) [T 10, T 20]])
     (.seq (.seq (.region [o 21 .move [T 9],
       o 22 .move [T 7],
       o 23 (.eq false .int) [T 21, T 22],
       o 24 .move [T 23],
       og 25 (.fieldAddr 0) [T 10] 24 false,
       og 26 (.load 1 false) [T 25] 24 false,
       og 27 .move [T 1] 24 false,
       og 28 (.eq false .int) [T 26, T 27] 24 false,
       og 29 .move [T 28] 24 false,
       og 30 .move [T 8] 29 true,
       og 31 .move [T 2] 29 true,
       og 32 (.eq false .int) [T 30, T 31] 29 true,
       og 33 .pick [T 29, T 32, B false] 24 false,
       o 34 .pick [T 24, B true, T 33]])
     (.cond (T 34) (.seq (.region [o 35 .move [T 9],
        o 6 .move [T 35]])
      .ret) .skip))
     (.seq (.region [o 36 (.fieldAddr 0) [T 10],
       o 37 (.load 1 false) [T 36],
       o 38 .move [T 1],
       o 39 (.eq false .int) [T 37, T 38]])
     (.cond (T 39) (.region [o 40 .move [T 8],
        o 41 (.arith .add) [T 40, I 1],
        o 8 .move [T 41]]) .skip)))))
    (.region [o 42 (.arith .add) [T 16, I 1],
      o 16 .move [T 42]])))))))
  (.seq (.seq (.region [o 43 .move [T 8],
    o 44 .move [T 2],
    o 45 (.cmp .lss) [T 43, T 44]])
  (.cond (T 45) (.seq (.region [o 46 .move [T 0],
     o 47 .len [T 46],
     o 6 .move [T 47]])
   .ret) .skip))
  (.seq (.region [o 6 .move [I (-1)]])
  .ret)))))) }
theorem ok466 : fnOk Tryz.prog 466 m466 = true := by kernel_rfl
/-- tympan/split.all$1 -/
def m468 : MF := { N := 91, np := 3, res := [], body :=
  (.seq (.region [o 13 (.load 4 true) [T 1],
    o 14 (.load 1 false) [T 2],
    o 15 (.call 469) [T 13, T 14],
    o 4 .move [T 15]])
  (.seq (.seq (.region [o 16 .move [T 4],
    o 17 (.eq false .int) [T 16, I 0],
    o 18 .move [T 17],
    og 19 (.fieldAddr 3) [T 1] 18 false,
    og 20 (.load 1 false) [T 19] 18 false,
    og 21 .not [T 20] 18 false,
    o 22 .pick [T 18, B true, T 21],
    o 23 .move [T 22],
    og 24 .move [T 0] 23 true,
    og 25 .callv [T 24, .const .nils] 23 true,
    og 26 .not [T 25] 23 true,
    o 27 .pick [T 23, T 26, B false],
    o 28 .move [T 27],
    og 29 .move [T 4] 28 false,
    og 30 (.eq false .int) [T 29, I 0] 28 false,
    o 31 .pick [T 28, B true, T 30]])
  (.cond (T 31) .ret .skip))
  (.seq (.region [o 5 .move [.const .nils]])
  (.seq (.region [o 32 (.fieldAddr 1) [T 1],
    o 33 (.load 1 false) [T 32],
    o 6 .move [T 33]])
  (.seq (.seq (.region [o 34 (.load 1 false) [T 2],
    o 35 (.fieldAddr 0) [T 1],
    o 36 (.load 1 false) [T 35],
    o 37 (.fieldAddr 0) [T 1],
    o 38 (.load 1 false) [T 37],
    o 39 .move [T 4],
    o 40 (.arith .add) [T 38, T 39],
    o 41 (.arith .sub) [T 40, I 1],
    o 42 (.slice 2 true true false) [T 34, T 36, T 41],
    o 43 .len [T 42],
    o 44 .move [I 0]])
  (.block 0 (.loop (.seq (.region [o 45 (.cmp .lss) [T 44, T 43]])
    (.seq (.cond (T 45) .skip (.exit 0))
    (.seq (.block 1 (.seq (.region [o 46 .move [T 44],
       o 47 (.indexS 2) [T 42, T 44],
       o 48 (.load 2 true) [T 47],
       o 8 (.alloc [.nils, .nils]) [],
       o 7 .move [T 46],
       on (.store 2) [T 8, T 48]])
     (.seq (.region [o 49 .move [T 5],
       o 50 (.fieldAddr 0) [T 1],
       o 51 (.load 1 false) [T 50],
       o 52 .move [T 7],
       o 53 (.arith .add) [T 51, T 52],
       o 54 .move [T 6],
       o 55 (.fieldAddr 0) [T 8],
       o 56 (.load 1 false) [T 55],
       o 57 .len [T 56],
       o 58 (.build [.fz (.int .i64 0), .fz (.int .i64 0), .fz (.int .i64 0)] [(0, 1), (1, 1), (2, 1)]) [T 53, T 54, T 57],
       o 59 (.buildSlice 3 1) [T 58],
       o 60 (.append 3 24) [T 49, T 59],
       o 5 .move [T 60]])
     (.region [o 6 .move [I 0]]))))
    (.region [o 61 (.arith .add) [T 44, I 1],
      o 44 .move [T 61]])))))))
  (.seq (.region [o 62 (.fieldAddr 0) [T 1],
    o 63 (.load 1 false) [T 62],
    o 64 .move [T 4],
    o 65 (.arith .add) [T 63, T 64],
    o 66 (.arith .sub) [T 65, I 1],
    o 9 .move [T 66]])
  (.seq (.region [o 67 (.load 1 false) [T 2],
    o 68 .move [T 9],
    o 69 (.indexS 2) [T 67, T 68],
    o 70 (.load 2 true) [T 69],
    o 71 .move [T 6],
    o 72 (.call 470) [T 70, T 71],
    o 73 .len [T 72],
    o 74 .move [I 0]])
  (.block 2 (.loop (.seq (.region [o 75 (.cmp .lss) [T 74, T 73]])
    (.seq (.cond (T 75) .skip (.exit 2))
    (.seq (.block 3 (.seq (.region [o 76 (.indexS 1) [T 72, T 74],
       o 77 (.load 1 false) [T 76],
       o 11 .move [T 77]])
     (.seq (.region [o 78 .move [T 5],
       o 79 (.call 471) [T 78],
       o 80 .move [T 9],
       o 81 .move [T 6],
       o 82 .move [T 11],
       o 83 (.build [.fz (.int .i64 0), .fz (.int .i64 0), .fz (.int .i64 0)] [(0, 1), (1, 1), (2, 1)]) [T 80, T 81, T 82],
       o 84 (.buildSlice 3 1) [T 83],
       o 85 (.append 3 24) [T 79, T 84],
       o 12 .move [T 85]])
     (.seq (.region [o 86 .move [T 0],
       o 87 .move [T 12],
       o 88 .callv [T 86, T 87],
       o 89 .not [T 88]])
     (.cond (T 89) .ret .skip)))))
    (.region [o 90 (.arith .add) [T 74, I 1],
      o 74 .move [T 90]]))))))))))))) }
theorem ok468 : fnOk Tryz.prog 468 m468 = true := by kernel_rfl
/-- (tympan/split.Spot).open -/
def m469 : MF := { N := 23, np := 2, res := [.tmp 4], body :=
  (.seq (.region [o 2 .box [T 0],
    o 4 .move [I 0]])
  (.seq (.seq (.region [o 5 (.fieldAddr 0) [T 2],
    o 6 (.load 1 false) [T 5],
    o 7 (.cmp .lss) [T 6, I 0],
    o 8 .move [T 7],
    og 9 (.fieldAddr 1) [T 2] 8 false,
    og 10 (.load 1 false) [T 9] 8 false,
    og 11 (.cmp .lss) [T 10, I 0] 8 false,
    o 12 .pick [T 8, B true, T 11]])
  (.cond (T 12) (.seq (.region [o 4 .move [I 0]])
   .ret) .skip))
  (.seq (.region [o 13 (.fieldAddr 2) [T 2],
    o 14 (.load 1 false) [T 13],
    o 15 .move [T 1],
    o 16 .len [T 15],
    o 17 .min [T 14, T 16],
    o 18 .max [T 17, I 0],
    o 19 (.fieldAddr 0) [T 2],
    o 20 (.load 1 false) [T 19],
    o 21 (.arith .sub) [T 18, T 20],
    o 22 .max [T 21, I 0],
    o 4 .move [T 22]])
  .ret))) }
theorem ok469 : fnOk Tryz.prog 469 m469 = true := by kernel_rfl
/-- (*tympan/state.text).Map -/
def m472 : MF := { N := 9, np := 1, res := [.tmp 2], body :=
  (.seq (.region [o 2 .move [CN .nilp]])
  (.seq (.seq (.region [o 3 .move [T 0],
    o 4 (.eq false .ptr) [T 3, CN .nilp]])
  (.cond (T 4) (.seq (.region [o 2 .move [CN .nilp]])
   .ret) .skip))
  (.seq (.region [o 5 .move [T 0],
    o 6 .nilCheck [T 5],
    o 7 (.fieldAddr 2) [T 6],
    o 8 (.load 1 false) [T 7],
    o 2 .move [T 8]])
  .ret))) }
theorem ok472 : fnOk Tryz.prog 472 m472 = true := by kernel_rfl
/-- tympan/figure.Of -/
def m486 : MF := { N := 25, np := 2, res := [.tmp 4], body :=
  (.seq (.region [o 4 .move [.const .nils]])
  (.seq (.region [o 5 .move [.const .nils]])
  (.seq (.seq (.region [o 8 .move [T 0],
    o 9 .len [T 8],
    o 10 .move [I 0]])
  (.block 0 (.loop (.seq (.region [o 11 (.cmp .lss) [T 10, T 9]])
    (.seq (.cond (T 11) .skip (.exit 0))
    (.seq (.block 1 (.seq (.region [o 12 .move [T 10],
       o 13 (.indexS 3) [T 8, T 10],
       o 14 (.load 3 true) [T 13],
       o 7 (.alloc [.fz (.int .i64 0), .fz (.int .i64 0), .fz (.int .i64 0)]) [],
       o 6 .move [T 12],
       on (.store 3) [T 7, T 14]])
     (.seq (.region [o 15 (.fieldAddr 0) [T 7],
       o 16 (.load 1 false) [T 15],
       o 17 .move [T 1],
       o 18 (.eq false .int) [T 16, T 17]])
     (.cond (T 18) (.region [o 19 .move [T 5],
        o 20 .move [T 6],
        o 21 (.buildSlice 1 1) [T 20],
        o 22 (.append 1 8) [T 19, T 21],
        o 5 .move [T 22]]) .skip))))
    (.region [o 23 (.arith .add) [T 10, I 1],
      o 10 .move [T 23]])))))))
  (.seq (.region [o 24 .move [T 5],
    o 4 .move [T 24]])
  .ret)))) }
theorem ok486 : fnOk Tryz.prog 486 m486 = true := by kernel_rfl
/-- slices.Sort[[]int,int] -/
def m487 : MF := { N := 11, np := 1, res := [], body :=
  (.seq (.region [o 3 .move [T 0],
    o 4 .len [T 3],
    o 2 .move [T 4]])
  (.region [o 5 .move [T 0],
    o 6 .move [T 2],
    o 7 .move [T 2],
    o 8 (.conv .u64) [T 7],
    o 9 (.call 514) [T 8],
    o 10 (.call 513) [T 5, I 0, T 6, T 9]])) }
theorem ok487 : fnOk Tryz.prog 487 m487 = true := by kernel_rfl
/-- tympan/geom.within[int]$1 -/
def m489 : MF := { N := 22, np := 3, res := [.tmp 4], body :=
  (.seq (.region [o 4 .move [B false]])
  (.seq (.seq (.region [o 7 .move [T 0],
    o 8 .len [T 7],
    o 9 .move [I 0]])
  (.block 0 (.loop (.seq (.region [o 10 (.cmp .lss) [T 9, T 8]])
    (.seq (.cond (T 10) .skip (.exit 0))
    (.seq (.block 1 (.seq (.region [o 11 (.indexS 1) [T 7, T 9],
       o 12 (.load 1 false) [T 11],
       o 6 .move [T 12]])
     (.seq (.region [o 13 .move [T 6],
       o 14 (.load 1 false) [T 1],
       o 15 (.cmp .lss) [T 13, T 14],
       o 16 .move [T 15],
       og 17 .move [T 6] 16 false,
       og 18 (.load 1 false) [T 2] 16 false,
       og 19 (.cmp .gtr) [T 17, T 18] 16 false,
       o 20 .pick [T 16, B true, T 19]])
     (.cond (T 20) (.seq (.region [o 4 .move [B false]])
      .ret) .skip))))
    (.region [o 21 (.arith .add) [T 9, I 1],
      o 9 .move [T 21]])))))))
  (.seq (.region [o 4 .move [B true]])
  .ret))) }
theorem ok489 : fnOk Tryz.prog 489 m489 = true := by kernel_rfl
/-- tympan/geom.within[tympan/api.Sp]$1 -/
def m490 : MF := { N := 22, np := 3, res := [.tmp 4], body :=
  (.seq (.region [o 4 .move [B false]])
  (.seq (.seq (.region [o 7 .move [T 0],
    o 8 .len [T 7],
    o 9 .move [I 0]])
  (.block 0 (.loop (.seq (.region [o 10 (.cmp .lss) [T 9, T 8]])
    (.seq (.cond (T 10) .skip (.exit 0))
    (.seq (.block 1 (.seq (.region [o 11 (.indexS 1) [T 7, T 9],
       o 12 (.load 1 false) [T 11],
       o 6 .move [T 12]])
     (.seq (.region [o 13 .move [T 6],
       o 14 (.load 1 false) [T 1],
       o 15 (.cmp .lss) [T 13, T 14],
       o 16 .move [T 15],
       og 17 .move [T 6] 16 false,
       og 18 (.load 1 false) [T 2] 16 false,
       og 19 (.cmp .gtr) [T 17, T 18] 16 false,
       o 20 .pick [T 16, B true, T 19]])
     (.cond (T 20) (.seq (.region [o 4 .move [B false]])
      .ret) .skip))))
    (.region [o 21 (.arith .add) [T 9, I 1],
      o 9 .move [T 21]])))))))
  (.seq (.region [o 4 .move [B true]])
  .ret))) }
theorem ok490 : fnOk Tryz.prog 490 m490 = true := by kernel_rfl
/-- tympan/item.forms$1 -/
def m491 : MF := { N := 4, np := 1, res := [.tmp 2], body :=
  (.seq (.region [o 1 .box [T 0],
    o 2 .move [CN .nilf]])
  (.seq (.region [o 3 (.makeFunc 492 0) [T 1],
    o 2 .move [T 3]])
  .ret)) }
theorem ok491 : fnOk Tryz.prog 491 m491 = true := by kernel_rfl
/-- tympan/item.forms$1$1 -/
def m492 : MF := { N := 8, np := 2, res := [.cell 3 7 true], body :=
  (.seq (.region [o 2 .box [T 0],
    o 3 (.alloc [.fz (.int .i64 0), .fz (.int .i64 0), .fz (.int .i64 0), .fz (.int .i64 0), .fz (.int .i64 0), .fz (.int .i64 0), .fz (.int .i64 0)]) []])
  (.seq (.region [o 4 (.load 1 false) [T 1],
    o 5 (.fieldAddr 6) [T 2],
    o 6 (.load 1 false) [T 5],
    o 7 .callv [T 4, T 6],
    on (.store 7) [T 3, T 7]])
  .ret)) }
theorem ok492 : fnOk Tryz.prog 492 m492 = true := by kernel_rfl
/-- tympan/item.forms$2 -/
def m493 : MF := { N := 8, np := 1, res := [.cell 2 7 true], body :=
  (.seq (.region [o 1 .box [T 0],
    o 2 (.alloc [.fz (.int .i64 0), .fz (.int .i64 0), .fz (.int .i64 0), .fz (.int .i64 0), .fz (.int .i64 0), .fz (.int .i64 0), .fz (.int .i64 0)]) []])
  (.seq (.region [o 3 (.fieldAddr 1) [T 1],
    o 4 (.load 1 false) [T 3],
    o 5 (.fieldAddr 2) [T 1],
    o 6 (.load 1 false) [T 5],
    o 7 (.call 494) [T 4, T 6],
    on (.store 7) [T 2, T 7]])
  .ret)) }
theorem ok493 : fnOk Tryz.prog 493 m493 = true := by kernel_rfl
/-- tympan/item.Box -/
def m494 : MF := { N := 8, np := 2, res := [.cell 4 7 true], body :=
  (.seq (.region [o 4 (.alloc [.fz (.int .i64 0), .fz (.int .i64 0), .fz (.int .i64 0), .fz (.int .i64 0), .fz (.int .i64 0), .fz (.int .i64 0), .fz (.int .i64 0)]) []])
  (.seq (.region [o 5 .move [T 0],
    o 6 .move [T 1],
    o 7 (.build [.fz (.int .i64 0), .fz (.int .i64 0), .fz (.int .i64 0), .fz (.int .i64 0), .fz (.int .i64 0), .fz (.int .i64 0), .fz (.int .i64 0)] [(0, 1), (1, 1), (2, 1)]) [I 1, T 5, T 6],
    on (.store 7) [T 4, T 7]])
  .ret)) }
theorem ok494 : fnOk Tryz.prog 494 m494 = true := by kernel_rfl
/-- tympan/item.Pen -/
def m497 : MF := { N := 5, np := 1, res := [.cell 2 7 true], body :=
  (.seq (.region [o 2 (.alloc [.fz (.int .i64 0), .fz (.int .i64 0), .fz (.int .i64 0), .fz (.int .i64 0), .fz (.int .i64 0), .fz (.int .i64 0), .fz (.int .i64 0)]) []])
  (.seq (.region [o 3 .move [T 0],
    o 4 (.build [.fz (.int .i64 0), .fz (.int .i64 0), .fz (.int .i64 0), .fz (.int .i64 0), .fz (.int .i64 0), .fz (.int .i64 0), .fz (.int .i64 0)] [(0, 1), (6, 1)]) [I 3, T 3],
    on (.store 7) [T 2, T 4]])
  .ret)) }
theorem ok497 : fnOk Tryz.prog 497 m497 = true := by kernel_rfl
/-- tympan/item.forms$4 -/
def m498 : MF := { N := 10, np := 1, res := [.tmp 2], body :=
  (.seq (.region [o 2 .move [B false]])
  (.seq (.region [o 3 .move [T 0],
    o 4 (.eq false .int) [T 3, I (-10000)],
    o 5 .move [T 4],
    og 6 (.call 458) [I 10000] 5 false,
    og 7 .move [T 0] 5 false,
    og 8 .callv [T 6, T 7] 5 false,
    o 9 .pick [T 5, B true, T 8],
    o 2 .move [T 9]])
  .ret)) }
theorem ok498 : fnOk Tryz.prog 498 m498 = true := by kernel_rfl
/-- tympan/item.upTo$1 -/
def m504 : MF := { N := 11, np := 2, res := [.tmp 3], body :=
  (.seq (.region [o 3 .move [B false]])
  (.seq (.region [o 4 .move [T 0],
    o 5 (.cmp .geq) [T 4, I 0],
    o 6 .move [T 5],
    og 7 .move [T 0] 6 true,
    og 8 (.load 1 false) [T 1] 6 true,
    og 9 (.cmp .leq) [T 7, T 8] 6 true,
    o 10 .pick [T 6, T 9, B false],
    o 3 .move [T 10]])
  .ret)) }
theorem ok504 : fnOk Tryz.prog 504 m504 = true := by kernel_rfl
/-- slices.ContainsFunc[[]tympan/api.Sp,tympan/api.Sp] -/
def m505 : MF := { N := 9, np := 2, res := [.tmp 4], body :=
  (.seq (.region [o 4 .move [B false]])
  (.seq (.region [o 5 .move [T 0],
    o 6 .move [T 1],
    o 7 (.call 515) [T 5, T 6],
    o 8 (.cmp .geq) [T 7, I 0],
    o 4 .move [T 8]])
  .ret)) }
theorem ok505 : fnOk Tryz.prog 505 m505 = true := by kernel_rfl
/-- tympan/item.long$1 -/
def m506 : MF := { N := 9, np := 1, res := [.tmp 2], body :=
  (.seq (.region [o 2 .move [B false]])
  (.seq (.region [o 3 .move [T 0],
    o 4 (.cmp .lss) [T 3, I 0],
    o 5 .move [T 4],
    og 6 .move [T 0] 5 false,
    og 7 (.cmp .gtr) [T 6, I 1073741823] 5 false,
    o 8 .pick [T 5, B true, T 7],
    o 2 .move [T 8]])
  .ret)) }
theorem ok506 : fnOk Tryz.prog 506 m506 = true := by kernel_rfl
/-- tympan/valid.Anchors -/
def m507 : MF := { N := 9, np := 2, res := [.tmp 4], body :=
  (.seq (.region [o 3 .box [T 1],
    o 4 .move [I 0]])
  (.seq (.region [o 5 (.alloc [.fz (.int .i64 0)]) [],
    on (.store 1) [T 5, I 0]])
  (.seq (.region [o 6 .move [T 0],
    o 7 (.makeFunc 516 0) [T 3, T 5],
    o 8 (.call 455) [T 6, T 7],
    o 4 .move [T 8]])
  .ret))) }
theorem ok507 : fnOk Tryz.prog 507 m507 = true := by kernel_rfl
/-- math/bits.Len64 -/
def m512 : MF := { N := 25, np := 1, res := [.tmp 2], body :=
  (.seq (.region [o 2 .move [I 0]])
  (.seq (.seq (.region [o 3 .move [T 0],
    o 4 (.cmp .geq) [T 3, CN (.int .u64 4294967296)]])
  (.cond (T 4) (.seq (.region [o 5 .move [T 0],
     o 6 (.arith .shr) [T 5, CN (.int .u64 32)],
     o 0 .move [T 6]])
   (.region [o 2 .move [I 32]])) .skip))
  (.seq (.seq (.region [o 7 .move [T 0],
    o 8 (.cmp .geq) [T 7, CN (.int .u64 65536)]])
  (.cond (T 8) (.seq (.region [o 9 .move [T 0],
     o 10 (.arith .shr) [T 9, CN (.int .u64 16)],
     o 0 .move [T 10]])
   (.region [o 11 .move [T 2],
     o 12 (.arith .add) [T 11, I 16],
     o 2 .move [T 12]])) .skip))
  (.seq (.seq (.region [o 13 .move [T 0],
    o 14 (.cmp .geq) [T 13, CN (.int .u64 256)]])
  (.cond (T 14) (.seq (.region [o 15 .move [T 0],
     o 16 (.arith .shr) [T 15, CN (.int .u64 8)],
     o 0 .move [T 16]])
   (.region [o 17 .move [T 2],
     o 18 (.arith .add) [T 17, I 8],
     o 2 .move [T 18]])) .skip))
  (.seq (.region [o 19 .move [T 2],
    o 20 .move [T 0],
    o 21 (.conv .u8) [T 20],
    o 22 .strIdx [.const (.fz (.str ⟨#[0, 1, 2, 2, 3, 3, 3, 3, 4, 4, 4, 4, 4, 4, 4, 4, 5, 5, 5, 5, 5, 5, 5, 5, 5, 5, 5, 5, 5, 5, 5, 5, 6, 6, 6, 6, 6, 6, 6, 6, 6, 6, 6, 6, 6, 6, 6, 6, 6, 6, 6, 6, 6, 6, 6, 6, 6, 6, 6, 6, 6, 6, 6, 6, 7, 7, 7, 7, 7, 7, 7, 7, 7, 7, 7, 7, 7, 7, 7, 7, 7, 7, 7, 7, 7, 7, 7, 7, 7, 7, 7, 7, 7, 7, 7, 7, 7, 7, 7, 7, 7, 7, 7, 7, 7, 7, 7, 7, 7, 7, 7, 7, 7, 7, 7, 7, 7, 7, 7, 7, 7, 7, 7, 7, 7, 7, 7, 7, 8, 8, 8, 8, 8, 8, 8, 8, 8, 8, 8, 8, 8, 8, 8, 8, 8, 8, 8, 8, 8, 8, 8, 8, 8, 8, 8, 8, 8, 8, 8, 8, 8, 8, 8, 8, 8, 8, 8, 8, 8, 8, 8, 8, 8, 8, 8, 8, 8, 8, 8, 8, 8, 8, 8, 8, 8, 8, 8, 8, 8, 8, 8, 8, 8, 8, 8, 8, 8, 8, 8, 8, 8, 8, 8, 8, 8, 8, 8, 8, 8, 8, 8, 8, 8, 8, 8, 8, 8, 8, 8, 8, 8, 8, 8, 8, 8, 8, 8, 8, 8, 8, 8, 8, 8, 8, 8, 8, 8, 8, 8, 8, 8, 8, 8, 8, 8, 8, 8, 8, 8, 8, 8, 8, 8, 8, 8, 8]⟩)), T 21],
    o 23 (.conv .i64) [T 22],
    o 24 (.arith .add) [T 19, T 23],
    o 2 .move [T 24]])
  .ret))))) }
theorem ok512 : fnOk Tryz.prog 512 m512 = true := by kernel_rfl
/-- slices.pdqsortOrdered[int] -/
def m513 : MF := { N := 134, np := 4, res := [], body :=
  (.seq (.region [o 8 .move [B true]])
  (.seq (.region [o 9 .move [B true]])
  (.block 0 (.loop (.block 1 (.seq (.region [o 19 .move [T 2],
       o 20 .move [T 1],
       o 21 (.arith .sub) [T 19, T 20],
       o 10 .move [T 21]])
     (.seq (.seq (.region [o 22 .move [T 10],
       o 23 (.cmp .leq) [T 22, I 12]])
     (.cond (T 23) (.seq (.region [o 24 .move [T 0],
        o 25 .move [T 1],
        o 26 .move [T 2],
        o 27 (.call 517) [T 24, T 25, T 26]])
      .ret) .skip))
     (.seq (.seq (.region [o 28 .move [T 3],
       o 29 (.eq false .int) [T 28, I 0]])
     (.cond (T 29) (.seq (.region [o 30 .move [T 0],
        o 31 .move [T 1],
        o 32 .move [T 2],
        o 33 (.call 518) [T 30, T 31, T 32]])
      .ret) .skip))
     (.seq (.seq (.region [o 34 .move [T 8],
       o 35 .not [T 34]])
     (.cond (T 35) (.seq (.region [o 36 .move [T 0],
        o 37 .move [T 1],
        o 38 .move [T 2],
        o 39 (.call 519) [T 36, T 37, T 38]])
      (.region [o 40 .move [T 3],
        o 41 (.arith .sub) [T 40, I 1],
        o 3 .move [T 41]])) .skip))
     (.seq (.region [o 43 .move [T 0],
       o 44 .move [T 1],
       o 45 .move [T 2],
       o 46 (.call 520) [T 43, T 44, T 45],
       o 42 .move [T 46],
       o 47 (.extract 0) [T 42],
       o 48 (.extract 1) [T 42],
       o 11 .move [T 47],
       o 12 .move [T 48]])
     (.seq (.seq (.region [o 49 .move [T 12],
       o 50 (.eq false .int) [T 49, I 2]])
     (.cond (T 50) (.seq (.region [o 51 .move [T 0],
        o 52 .move [T 1],
        o 53 .move [T 2],
        o 54 (.call 521) [T 51, T 52, T 53]])
      (.seq (.region [o 55 .move [T 2],
        o 56 (.arith .sub) [T 55, I 1],
        o 57 .move [T 11],
        o 58 .move [T 1],
        o 59 (.arith .sub) [T 57, T 58],
        o 60 (.arith .sub) [T 56, T 59],
        o 11 .move [T 60]])
      (.region [o 12 .move [I 1]]))) .skip))
     (.seq (.seq (.region [o 61 .move [T 8],
       o 62 .move [T 61],
       og 63 .move [T 9] 62 true,
       o 64 .pick [T 62, T 63, B false],
       o 65 .move [T 64],
       og 66 .move [T 12] 65 true,
       og 67 (.eq false .int) [T 66, I 1] 65 true,
       o 68 .pick [T 65, T 67, B false]])
     (.cond (T 68) (.seq (.region [o 69 .move [T 0],
        o 70 .move [T 1],
        o 71 .move [T 2],
        o 72 (.call 522) [T 69, T 70, T 71]])
      (.cond (T 72) .ret .skip)) .skip))
     (.seq (.seq (.draw [o 73 .move [T 1],
       o 74 (.cmp .gtr) [T 73, I 0],
       o 75 .move [T 74],
       og 76 .move [T 0] 75 true,
       og 77 .move [T 1] 75 true,
       og 78 (.arith .sub) [T 77, I 1] 75 true,
       og 79 (.indexS 1) [T 76, T 78] 75 true,
       og 80 (.load 1 false) [T 79] 75 true,
       og 81 .move [T 0] 75 true,
       og 82 .move [T 11] 75 true,
       og 83 (.indexS 1) [T 81, T 82] 75 true,
       og 84 (.load 1 false) [T 83] 75 true,
       og 85 (.call 523) [T 80, T 84] 75 true,
       og 86 .not [T 85] 75 true,
       o 87 .pick [T 75, T 86, B false]]
       [0, 1, 3, 7, 7, 23, 63, 127, 7, 7, 775, 1799, 4095, 8191, 16383])
     (.cond (T 87) (.seq (.region [o 88 .move [T 0],
        o 89 .move [T 1],
        o 90 .move [T 2],
        o 91 .move [T 11],
        o 92 (.call 524) [T 88, T 89, T 90, T 91],
        o 13 .move [T 92]])
      (.seq (.region [o 93 .move [T 13],
        o 1 .move [T 93]])
      (.exit 1))) .skip))
     (.seq (.region [o 95 .move [T 0],
       o 96 .move [T 1],
       o 97 .move [T 2],
       o 98 .move [T 11],
       o 99 (.call 525) [T 95, T 96, T 97, T 98],
       o 94 .move [T 99],
       o 100 (.extract 0) [T 94],
       o 101 (.extract 1) [T 94],
       o 14 .move [T 100],
       o 15 .move [T 101]])
     (.seq (.region [o 102 .move [T 15],
       o 9 .move [T 102]])
     (.seq (.region [o 103 .move [T 14],
       o 104 .move [T 1],
       o 105 (.arith .sub) [T 103, T 104],
       o 106 .move [T 2],
       o 107 .move [T 14],
       o 108 (.arith .sub) [T 106, T 107],
       o 16 .move [T 105],
       o 17 .move [T 108]])
     (.seq (.region [o 109 .move [T 10],
       o 110 (.arith .quo) [T 109, I 8],
       o 18 .move [T 110]])
     (.seq (.region [o 111 .move [T 16],
       o 112 .move [T 17],
       o 113 (.cmp .lss) [T 111, T 112]])
     (.cond (T 113) (.seq (.region [o 114 .move [T 16],
        o 115 .move [T 18],
        o 116 (.cmp .geq) [T 114, T 115],
        o 8 .move [T 116]])
      (.seq (.region [o 117 .move [T 0],
        o 118 .move [T 1],
        o 119 .move [T 14],
        o 120 .move [T 3],
        o 121 (.call 513) [T 117, T 118, T 119, T 120]])
      (.region [o 122 .move [T 14],
        o 123 (.arith .add) [T 122, I 1],
        o 1 .move [T 123]]))) (.seq (.region [o 124 .move [T 17],
        o 125 .move [T 18],
        o 126 (.cmp .geq) [T 124, T 125],
        o 8 .move [T 126]])
      (.seq (.region [o 127 .move [T 0],
        o 128 .move [T 14],
        o 129 (.arith .add) [T 128, I 1],
        o 130 .move [T 2],
        o 131 .move [T 3],
        o 132 (.call 513) [T 127, T 129, T 130, T 131]])
      (.region [o 133 .move [T 14],
        o 2 .move [T 133]])))))))))))))))))))))) }
theorem ok513 : fnOk Tryz.prog 513 m513 = true := by kernel_rfl
/-- math/bits.Len -/
def m514 : MF := { N := 8, np := 1, res := [.tmp 2], body :=
  (.seq (.region [o 2 .move [I 0]])
  (.seq (.cond (B false) (.seq (.region [o 3 .move [T 0],
     o 4 (.conv .u32) [T 3],
     o 5 (.call 526) [T 4],
     o 2 .move [T 5]])
   .ret) .skip)
  (.seq (.region [o 6 .move [T 0],
    o 7 (.call 512) [T 6],
    o 2 .move [T 7]])
  .ret))) }
theorem ok514 : fnOk Tryz.prog 514 m514 = true := by kernel_rfl
/-- slices.IndexFunc[[]tympan/api.Sp,tympan/api.Sp] -/
def m515 : MF := { N := 19, np := 2, res := [.tmp 4], body :=
  (.seq (.region [o 4 .move [I 0]])
  (.seq (.seq (.region [o 6 .move [T 0],
    o 7 .len [T 6],
    o 8 .move [I 0]])
  (.block 0 (.loop (.seq (.region [o 9 (.cmp .lss) [T 8, T 7]])
    (.seq (.cond (T 9) .skip (.exit 0))
    (.seq (.block 1 (.seq (.region [o 10 .move [T 8],
       o 5 .move [T 10]])
     (.seq (.region [o 11 .move [T 1],
       o 12 .move [T 0],
       o 13 .move [T 5],
       o 14 (.indexS 1) [T 12, T 13],
       o 15 (.load 1 false) [T 14],
       o 16 .callv [T 11, T 15]])
     (.cond (T 16) (.seq (.region [o 17 .move [T 5],
        o 4 .move [T 17]])
      .ret) .skip))))
    (.region [o 18 (.arith .add) [T 8, I 1],
      o 8 .move [T 18]])))))))
  (.seq (.region [o 4 .move [I (-1)]])
  .ret))) }
theorem ok515 : fnOk Tryz.prog 515 m515 = true := by kernel_rfl
/-- tympan/valid.Anchors$1 -/
def m516 : MF := { N := 16, np := 3, res := [.tmp 4], body :=
  (.seq (.region [o 3 .box [T 0],
    o 4 .move [B false]])
  (.seq (.seq (.region [o 5 (.fieldAddr 0) [T 3],
    o 6 (.load 1 false) [T 5],
    o 7 (.load 1 false) [T 1],
    o 8 (.eq true .int) [T 6, T 7]])
  (.cond (T 8) (.seq (.region [o 4 .move [B false]])
   .ret) .skip))
  (.seq (.region [o 9 (.load 1 false) [T 2],
    o 10 (.arith .add) [T 9, I 1],
    on (.store 1) [T 2, T 10]])
  (.seq (.region [o 11 (.fieldAddr 6) [T 3],
    o 12 (.load 1 false) [T 11],
    o 13 (.load 1 false) [T 2],
    o 14 (.arith .sub) [T 13, I 1],
    o 15 (.eq true .int) [T 12, T 14],
    o 4 .move [T 15]])
  .ret)))) }
theorem ok516 : fnOk Tryz.prog 516 m516 = true := by kernel_rfl
/-- slices.insertionSortOrdered[int] -/
def m517 : MF := { N := 49, np := 3, res := [], body :=
  (.seq (.region [o 8 .move [T 1],
    o 9 (.arith .add) [T 8, I 1],
    o 6 .move [T 9]])
  (.block 0 (.loop (.seq (.seq (.region [o 10 .move [T 6],
      o 11 .move [T 2],
      o 12 (.cmp .lss) [T 10, T 11]])
    (.cond (T 12) .skip (.exit 0)))
    (.seq (.block 1 (.seq (.region [o 15 .move [T 6],
       o 7 .move [T 15]])
     (.block 2 (.loop (.seq (.seq (.draw [o 16 .move [T 7],
         o 17 .move [T 1],
         o 18 (.cmp .gtr) [T 16, T 17],
         o 19 .move [T 18],
         og 20 .move [T 0] 19 true,
         og 21 .move [T 7] 19 true,
         og 22 (.indexS 1) [T 20, T 21] 19 true,
         og 23 (.load 1 false) [T 22] 19 true,
         og 24 .move [T 0] 19 true,
         og 25 .move [T 7] 19 true,
         og 26 (.arith .sub) [T 25, I 1] 19 true,
         og 27 (.indexS 1) [T 24, T 26] 19 true,
         og 28 (.load 1 false) [T 27] 19 true,
         og 29 (.call 523) [T 23, T 28] 19 true,
         o 30 .pick [T 19, T 29, B false]]
         [0, 0, 3, 7, 15, 15, 63, 127, 15, 15, 527, 1807, 3855, 8191, 16383])
       (.cond (T 30) .skip (.exit 2)))
       (.seq (.block 3 (.draw [o 33 .move [T 0],
          o 34 .move [T 7],
          o 35 .move [T 0],
          o 36 .move [T 7],
          o 37 (.arith .sub) [T 36, I 1],
          o 38 .move [T 0],
          o 39 .move [T 7],
          o 40 (.arith .sub) [T 39, I 1],
          o 41 (.indexS 1) [T 38, T 40],
          o 42 (.load 1 false) [T 41],
          o 43 .move [T 0],
          o 44 .move [T 7],
          o 45 (.indexS 1) [T 43, T 44],
          o 46 (.load 1 false) [T 45],
          o 47 (.indexS 1) [T 33, T 34],
          on (.store 1) [T 47, T 42],
          o 48 (.indexS 1) [T 35, T 37],
          on (.store 1) [T 48, T 46]]
          [0, 0, 0, 0, 8, 0, 0, 64, 224, 480, 0, 0, 3072, 7168, 16355, 32739, 65535, 131071]))
       (.region [o 31 .move [T 7],
         o 32 (.arith .sub) [T 31, I 1],
         o 7 .move [T 32]])))))))
    (.region [o 13 .move [T 6],
      o 14 (.arith .add) [T 13, I 1],
      o 6 .move [T 14]])))))) }
theorem ok517 : fnOk Tryz.prog 517 m517 = true := by kernel_rfl
end Go.Ab
