import Derived.Test.YtphjnhigohhggaaGreatAe2
import Derived.Test.YtphjnhigohhggaaGreatProg
set_option linter.unusedSimpArgs false
set_option linter.unusedVariables false
/- Functions of the program, told in the small language (printed by mc.py); each is checked against the program. -/
namespace Go.Ab
open Go Go.Proofs
set_option maxRecDepth 100000
/-- tympan/tympanlaw48.TallyAdds -/
def m5 : MF := { N := 27, np := 2, res := [.tmp 4], body :=
  (.seq (.region [o 2 .box [T 0],
    o 3 .box [T 1],
    o 4 .move [B false]])
  (.seq (.region [o 6 (.load 10 true) [T 2],
    o 7 (.load 10 true) [T 3],
    o 8 (.call 38) [T 6, T 7],
    o 5 (.alloc [.fz (.int .i64 0), .fz (.int .i64 0), .fz (.int .i64 0), .fz (.int .i64 0), .fz (.int .i64 0), .fz (.int .i64 0), .fz (.int .i64 0), .fz (.int .i64 0), .fz (.int .i64 0), .fz (.int .i64 0)]) [],
    on (.store 10) [T 5, T 8]])
  (.seq (.draw [o 9 (.load 10 true) [T 5],
    o 10 (.call 36) [T 9],
    o 11 (.load 10 true) [T 2],
    o 12 (.call 36) [T 11],
    o 13 (.load 10 true) [T 3],
    o 14 (.call 36) [T 13],
    o 15 (.call 39) [T 12, T 14],
    o 16 (.eq false (.agg 79 [some .i64, some .i64, some .i64, some .i64, some .i64, some .i64, some .i64, some .i64, some .i64, some .i64])) [T 10, T 15],
    o 17 .move [T 16],
    og 18 (.load 10 true) [T 5] 17 true,
    og 19 (.load 10 true) [T 3] 17 true,
    og 20 (.load 10 true) [T 2] 17 true,
    og 21 (.call 38) [T 19, T 20] 17 true,
    og 22 (.eq false (.agg 68 [some .i64, some .i64, some .i64, some .i64, some .i64, some .i64, some .i64, some .i64, some .i64, some .i64])) [T 18, T 21] 17 true,
    o 23 .pick [T 17, T 22, B false],
    o 24 .move [T 23],
    og 25 (.call 31) [] 24 true,
    o 26 .pick [T 24, T 25, B false],
    o 4 .move [T 26]]
    [0, 1, 0, 7, 0, 31, 63, 127, 255, 511, 511, 511, 3583, 8191, 16383, 32767, 65535, 131071, 262143])
  .ret))) }
theorem ok5 : fnOk Tryz.prog 5 m5 = true := by kernel_rfl
/-- tympan/tympanlaw47.BillSums -/
def m8 : MF := { N := 55, np := 1, res := [.tmp 2], body :=
  (.seq (.region [o 2 .move [B false]])
  (.seq (.seq (.region [o 6 .move [T 0],
    o 7 .len [T 6],
    o 8 (.cmp .gtr) [T 7, I 60]])
  (.cond (T 8) (.seq (.region [o 9 (.call 42) [],
     o 2 .move [T 9]])
   .ret) .skip))
  (.seq (.region [o 3 .move [.const .nils]])
  (.seq (.seq (.region [o 4 .move [I 0]])
  (.block 0 (.loop (.seq (.seq (.region [o 10 .move [T 4],
      o 11 .move [T 0],
      o 12 .len [T 11],
      o 13 (.cmp .lss) [T 10, T 12]])
    (.cond (T 13) .skip (.exit 0)))
    (.seq (.block 1 (.region [o 16 .move [T 3],
       o 17 .move [T 0],
       o 18 .move [T 4],
       o 19 (.indexS 9) [T 17, T 18],
       o 20 (.load 9 true) [T 19],
       o 21 (.call 45) [T 20],
       o 22 (.buildSlice 9 1) [T 21],
       o 23 (.append 9 72) [T 16, T 22],
       o 3 .move [T 23]]))
    (.region [o 14 .move [T 4],
      o 15 (.arith .add) [T 14, I 1],
      o 4 .move [T 15]]))))))
  (.seq (.region [o 24 .move [T 0],
    o 25 (.call 49) [T 24],
    o 5 .move [T 25]])
  (.seq (.seq (.region [o 26 .move [T 5],
    o 27 .move [T 3],
    o 28 (.call 50) [T 27],
    o 29 (.eq true .int) [T 26, T 28],
    o 30 .move [T 29],
    og 31 .move [T 0] 30 false,
    og 32 (.call 47) [T 31] 30 false,
    og 33 .move [T 3] 30 false,
    og 34 (.call 51) [T 33] 30 false,
    og 35 (.eq true (.agg 90 [some .i64, some .i64])) [T 32, T 34] 30 false,
    o 36 .pick [T 30, B true, T 35]])
  (.cond (T 36) (.seq (.region [o 2 .move [B false]])
   .ret) .skip))
  (.seq (.draw [o 37 .move [T 5],
    o 38 (.cmp .lss) [T 37, I 0],
    o 39 .move [T 38],
    og 40 .move [T 0] 39 false,
    og 41 .move [T 5] 39 false,
    og 42 .move [T 5] 39 false,
    og 43 (.arith .add) [T 42, I 1] 39 false,
    og 44 (.slice 9 true true false) [T 40, T 41, T 43] 39 false,
    og 45 (.call 47) [T 44] 39 false,
    og 46 .move [T 0] 39 false,
    og 47 (.slice 9 false true false) [T 46, I 1] 39 false,
    og 48 (.call 47) [T 47] 39 false,
    og 49 (.call 52) [T 45, T 48] 39 false,
    og 50 (.cmp .geq) [T 49, I 0] 39 false,
    o 51 .pick [T 39, B true, T 50],
    o 52 .move [T 51],
    og 53 (.call 42) [] 52 true,
    o 54 .pick [T 52, T 53, B false],
    o 2 .move [T 54]]
    [0, 1, 3, 7, 7, 7, 39, 127, 255, 7, 519, 2047, 4095, 8191, 16383, 32767, 65535, 131071, 262143])
  .ret))))))) }
theorem ok8 : fnOk Tryz.prog 8 m8 = true := by kernel_rfl
/-- tympan/state.New -/
def m18 : MF := { N := 73, np := 1, res := [.tmp 2, .tmp 3], body :=
  (.seq (.region [o 1 .box [T 0],
    o 2 .move [CN .nilp],
    o 3 .move [B false]])
  (.seq (.seq (.region [o 8 (.load 22 true) [T 1],
    o 9 (.call 86) [T 8],
    o 10 .not [T 9]])
  (.cond (T 10) (.seq (.region [o 2 .move [CN .nilp],
     o 3 .move [B false]])
   .ret) .skip))
  (.seq (.region [o 11 (.load 22 true) [T 1],
    o 12 (.call 88) [T 11],
    o 13 (.call 87) [T 12],
    on (.store 22) [T 1, T 13]])
  (.seq (.region [o 15 (.fieldAddr 19) [T 1],
    o 16 (.load 1 false) [T 15],
    o 17 (.call 89) [T 16],
    o 14 .move [T 17],
    o 18 (.extract 0) [T 14],
    o 19 (.extract 1) [T 14],
    o 4 .move [T 18],
    o 5 .move [T 19]])
  (.seq (.seq (.region [o 20 .move [T 5],
    o 21 .not [T 20]])
  (.cond (T 21) (.seq (.region [o 2 .move [CN .nilp],
     o 3 .move [B false]])
   .ret) .skip))
  (.seq (.draw [o 22 (.fieldAddr 19) [T 1],
    o 23 (.load 1 false) [T 22],
    o 24 (.call 90) [T 23],
    o 25 .move [T 4],
    o 26 (.fieldAddr 19) [T 1],
    o 27 (.load 1 false) [T 26],
    o 28 (.fieldAddr 21) [T 1],
    o 29 (.load 1 false) [T 28],
    o 30 (.call 91) [T 27, T 29],
    o 31 (.build [.fz .nilp, .fz .nilp, .fz .nilp] [(0, 1), (1, 1), (2, 1)]) [T 24, T 25, T 30],
    o 32 .box [T 31],
    o 33 (.load 22 true) [T 1],
    o 34 (.build [.fz .nilp, .fz (.int .i64 0), .fz (.int .i64 0), .fz (.int .i64 0), .fz (.int .i64 0), .fz (.int .i64 0), .fz (.int .i64 0), .fz (.int .i64 0), .fz (.int .i64 0), .fz (.int .i64 0), .fz (.int .i64 0), .fz (.int .i64 0), .fz (.int .i64 0), .fz (.int .i64 0), .fz (.int .i64 0), .fz (.int .i64 0), .fz (.int .i64 0), .fz (.int .i64 0), .fz (.int .i64 0), .fz (.bool false), .nils, .nils, .nils, .nils, .fz (.int .i64 0), .fz (.int .i64 0), .fz (.int .i64 0)] [(0, 1), (1, 22)]) [T 32, T 33],
    o 35 .box [T 34],
    o 6 .move [T 35]]
    [0, 1, 3, 0, 0, 16, 0, 64, 247, 511, 1023, 0, 4095, 8191, 16383])
  (.seq (.draw [o 36 .move [T 6],
    o 37 .move [T 6],
    o 38 .nilCheck [T 37],
    o 39 (.fieldAddr 0) [T 38],
    o 40 (.load 1 false) [T 39],
    o 41 .nilCheck [T 40],
    o 42 (.fieldAddr 2) [T 41],
    o 43 (.load 1 false) [T 42],
    o 44 (.fieldAddr 19) [T 1],
    o 45 (.load 1 false) [T 44],
    o 46 .len [T 45],
    o 47 (.call 92) [T 43, T 46],
    o 48 .nilCheck [T 36],
    o 49 (.fieldAddr 24) [T 48],
    on (.store 3) [T 49, T 47]]
    [0, 0, 2, 6, 14, 30, 62, 126, 0, 256, 768, 2046, 4095, 8191, 16383])
  (.seq (.seq (.region [o 50 (.fieldAddr 20) [T 1],
    o 51 (.load 1 false) [T 50],
    o 52 .len [T 51],
    o 53 (.arith .add) [T 52, I 1],
    o 54 .move [I 0]])
  (.block 0 (.loop (.seq (.region [o 55 (.cmp .lss) [T 54, T 53]])
    (.seq (.cond (T 55) .skip (.exit 0))
    (.seq (.block 1 (.seq (.region [o 56 .move [T 54],
       o 7 .move [T 56]])
     (.draw [o 57 .move [T 6],
       o 58 .move [T 6],
       o 59 .nilCheck [T 58],
       o 60 (.fieldAddr 23) [T 59],
       o 61 (.load 1 false) [T 60],
       o 62 (.fieldAddr 20) [T 1],
       o 63 (.load 1 false) [T 62],
       o 64 .move [T 7],
       o 65 (.slice 2 false true false) [T 63, T 64],
       o 66 (.call 93) [T 65],
       o 67 (.buildSlice 1 1) [T 66],
       o 68 (.append 1 8) [T 61, T 67],
       o 69 .nilCheck [T 57],
       o 70 (.fieldAddr 23) [T 69],
       on (.store 1) [T 70, T 68]]
       [0, 0, 2, 6, 14, 0, 32, 0, 224, 480, 992, 2046, 4095, 8191, 16383])))
    (.region [o 71 (.arith .add) [T 54, I 1],
      o 54 .move [T 71]])))))))
  (.seq (.region [o 72 .move [T 6],
    o 2 .move [T 72],
    o 3 .move [B true]])
  .ret))))))))) }
theorem ok18 : fnOk Tryz.prog 18 m18 = true := by kernel_rfl
/-- tympan/column.Of -/
def m21 : MF := { N := 110, np := 3, res := [.cell 6 10 true], body :=
  (.seq (.region [o 4 .box [T 1],
    o 5 .box [T 2],
    o 6 (.alloc [.fz (.int .i64 0), .fz (.int .i64 0), .fz (.int .i64 0), .fz (.bool false), .fz (.bool false), .fz (.int .i64 0), .fz (.int .i64 0), .fz (.int .i64 0), .fz (.int .i64 0), .fz (.int .i64 0)]) []])
  (.seq (.region [o 7 (.alloc [.fz (.int .i64 0), .fz (.int .i64 0), .fz (.int .i64 0), .fz (.bool false), .fz (.bool false), .fz (.int .i64 0), .fz (.int .i64 0), .fz (.int .i64 0), .fz (.int .i64 0), .fz (.int .i64 0)]) []])
  (.seq (.seq (.region [o 10 .move [T 0],
    o 11 (.load 7 true) [T 4],
    o 12 (.call 95) [T 10, T 11],
    o 13 .not [T 12]])
  (.cond (T 13) (.seq (.region [o 14 (.load 10 true) [T 7],
     on (.store 10) [T 6, T 14]])
   .ret) .skip))
  (.seq (.region [o 15 .move [T 0],
    o 16 (.call 25) [T 15],
    o 8 (.alloc [.fz (.int .i64 0), .fz (.int .i64 0), .fz (.int .i64 0), .fz (.int .i64 0), .fz (.int .i64 0), .fz (.int .i64 0), .fz (.int .i64 0), .fz (.int .i64 0), .fz (.int .i64 0), .fz (.int .i64 0), .fz (.int .i64 0), .fz (.int .i64 0), .fz (.int .i64 0), .fz (.int .i64 0), .fz (.int .i64 0), .fz (.int .i64 0), .fz (.int .i64 0), .fz (.int .i64 0), .fz (.bool false), .nils, .nils, .nils]) [],
    on (.store 22) [T 8, T 16]])
  (.seq (.region [o 17 (.fieldAddr 20) [T 8],
    o 18 (.load 1 false) [T 17],
    o 19 (.fieldAddr 3) [T 5],
    o 20 (.load 1 false) [T 19],
    o 21 (.fieldAddr 0) [T 8],
    o 22 (.fieldAddr 6) [T 21],
    o 23 (.load 1 false) [T 22],
    o 24 (.call 99) [T 18, T 20, T 23],
    o 25 (.fieldAddr 0) [T 7],
    on (.store 1) [T 25, T 24]])
  (.seq (.seq (.region [o 26 (.fieldAddr 0) [T 5],
    o 27 (.load 1 false) [T 26]])
  (.block 0 (.seq (.region [o 29 (.eq false .int) [T 27, I 1],
     o 28 .move [T 29]])
   (.cond (T 28) (.region [o 30 (.fieldAddr 0) [T 8],
      o 31 (.load 19 true) [T 30],
      o 32 (.fieldAddr 21) [T 8],
      o 33 (.load 1 false) [T 32],
      o 34 (.fieldAddr 4) [T 5],
      o 35 (.load 1 false) [T 34],
      o 36 (.fieldAddr 5) [T 5],
      o 37 (.load 1 false) [T 36],
      o 38 (.build [.nils, .nils] [(0, 1), (1, 1)]) [T 35, T 37],
      o 39 (.call 100) [T 31, T 33, T 38],
      o 40 (.fieldAddr 1) [T 7],
      on (.store 1) [T 40, T 39]]) (.seq (.region [o 42 (.eq false .int) [T 27, I 2],
      o 41 .move [T 42]])
    (.cond (T 41) (.region [o 43 (.fieldAddr 0) [T 8],
       o 44 (.load 19 true) [T 43],
       o 45 (.fieldAddr 21) [T 8],
       o 46 (.load 1 false) [T 45],
       o 47 (.fieldAddr 4) [T 5],
       o 48 (.load 1 false) [T 47],
       o 49 (.call 101) [T 44, T 46, T 48],
       o 50 (.fieldAddr 1) [T 7],
       on (.store 1) [T 50, T 49]]) .skip))))))
  (.seq (.draw [o 51 .move [T 0],
    o 52 (.load 7 true) [T 4],
    o 53 (.call 23) [T 51, T 52],
    o 54 (.fieldAddr 0) [T 7],
    o 55 (.load 1 false) [T 54],
    o 56 (.arith .sub) [T 53, T 55],
    o 57 (.fieldAddr 1) [T 7],
    o 58 (.load 1 false) [T 57],
    o 59 (.arith .sub) [T 56, T 58],
    o 60 (.fieldAddr 2) [T 7],
    on (.store 1) [T 60, T 59]]
    [0, 0, 3, 0, 8, 31, 0, 64, 255, 511, 1023])
  (.seq (.region [o 61 .move [T 0],
    o 62 (.load 6 true) [T 5],
    o 63 (.call 102) [T 61, T 62],
    o 64 (.fieldAddr 3) [T 7],
    on (.store 1) [T 64, T 63]])
  (.seq (.region [o 65 (.fieldAddr 3) [T 5],
    o 66 (.load 1 false) [T 65],
    o 67 .len [T 66],
    o 68 (.cmp .gtr) [T 67, I 0],
    o 69 .move [T 68],
    og 70 (.fieldAddr 0) [T 7] 69 true,
    og 71 (.load 1 false) [T 70] 69 true,
    og 72 (.fieldAddr 0) [T 8] 69 true,
    og 73 (.fieldAddr 8) [T 72] 69 true,
    og 74 (.load 1 false) [T 73] 69 true,
    og 75 (.cmp .gtr) [T 71, T 74] 69 true,
    o 76 .pick [T 69, T 75, B false],
    o 9 .move [T 76]])
  (.seq (.seq (.region [o 77 (.fieldAddr 0) [T 5],
    o 78 (.load 1 false) [T 77],
    o 79 (.eq true .int) [T 78, I 1]])
  (.cond (T 79) (.seq (.region [o 80 .move [T 9],
     o 81 .move [T 80],
     og 82 (.fieldAddr 2) [T 7] 81 false,
     og 83 (.load 1 false) [T 82] 81 false,
     og 84 (.cmp .lss) [T 83, I 0] 81 false,
     o 85 .pick [T 81, B true, T 84],
     o 86 (.fieldAddr 4) [T 7],
     on (.store 1) [T 86, T 85]])
   (.seq (.region [o 87 (.load 10 true) [T 7],
     on (.store 10) [T 6, T 87]])
   .ret)) .skip))
  (.seq (.draw [o 88 .move [T 0],
    o 89 (.call 28) [T 88],
    o 90 (.fieldAddr 0) [T 4],
    o 91 (.load 1 false) [T 90],
    o 92 (.fieldAddr 2) [T 5],
    o 93 (.load 1 false) [T 92],
    o 94 (.call 104) [T 89, T 91, T 93],
    o 95 (.fieldAddr 2) [T 7],
    o 96 (.load 1 false) [T 95],
    o 97 (.fieldAddr 3) [T 7],
    o 98 (.load 1 false) [T 97],
    o 99 (.call 103) [T 94, T 96, T 98],
    o 100 (.fieldAddr 5) [T 7],
    on (.store 5) [T 100, T 99]]
    [0, 1, 0, 4, 0, 16, 63, 0, 128, 0, 512, 2047, 4095, 8191])
  (.seq (.region [o 101 .move [T 9],
    o 102 .move [T 101],
    og 103 (.fieldAddr 5) [T 7] 102 false,
    og 104 (.fieldAddr 0) [T 103] 102 false,
    og 105 (.load 1 false) [T 104] 102 false,
    og 106 (.eq false .int) [T 105, I 3] 102 false,
    o 107 .pick [T 102, B true, T 106],
    o 108 (.fieldAddr 4) [T 7],
    on (.store 1) [T 108, T 107]])
  (.seq (.region [o 109 (.load 10 true) [T 7],
    on (.store 10) [T 6, T 109]])
  .ret))))))))))))) }
theorem ok21 : fnOk Tryz.prog 21 m21 = true := by kernel_rfl
/-- (*tympan/state.World).High -/
def m23 : MF := { N := 32, np := 2, res := [.tmp 4], body :=
  (.seq (.region [o 3 .box [T 1],
    o 4 .move [I 0]])
  (.seq (.block 0 (.seq (.region [o 6 .move [T 0],
     o 7 (.load 7 true) [T 3],
     o 8 (.call 95) [T 6, T 7],
     o 9 .not [T 8],
     o 5 .move [T 9]])
   (.cond (T 5) (.seq (.region [o 4 .move [I 0]])
    .ret) (.seq (.draw [o 11 (.fieldAddr 1) [T 3],
      o 12 (.load 1 false) [T 11],
      o 13 .move [T 0],
      o 14 .nilCheck [T 13],
      o 15 (.fieldAddr 1) [T 14],
      o 16 (.fieldAddr 0) [T 15],
      o 17 (.fieldAddr 0) [T 16],
      o 18 (.load 1 false) [T 17],
      o 19 (.cmp .lss) [T 12, T 18],
      o 10 .move [T 19]]
      [0, 1, 0, 4, 12, 28, 60, 124, 255, 511])
    (.cond (T 10) (.seq (.region [o 20 .move [T 0],
       o 21 .nilCheck [T 20],
       o 22 (.fieldAddr 1) [T 21],
       o 23 (.fieldAddr 0) [T 22],
       o 24 (.fieldAddr 4) [T 23],
       o 25 (.load 1 false) [T 24],
       o 4 .move [T 25]])
     .ret) .skip)))))
  (.seq (.region [o 26 .move [T 0],
    o 27 .nilCheck [T 26],
    o 28 (.fieldAddr 1) [T 27],
    o 29 (.fieldAddr 0) [T 28],
    o 30 (.fieldAddr 3) [T 29],
    o 31 (.load 1 false) [T 30],
    o 4 .move [T 31]])
  .ret))) }
theorem ok23 : fnOk Tryz.prog 23 m23 = true := by kernel_rfl
/-- tympan/figure.High -/
def m24 : MF := { N := 40, np := 3, res := [.tmp 6], body :=
  (.seq (.region [o 6 .move [I 0]])
  (.seq (.region [o 7 .move [Fc 105]])
  (.seq (.region [o 8 .move [I 0]])
  (.seq (.seq (.region [o 13 .move [T 1],
    o 14 .len [T 13],
    o 15 .move [I 0]])
  (.block 0 (.loop (.seq (.region [o 16 (.cmp .lss) [T 15, T 14]])
    (.seq (.cond (T 16) .skip (.exit 0))
    (.seq (.block 1 (.seq (.region [o 17 (.indexS 1) [T 13, T 15],
       o 18 (.load 1 false) [T 17],
       o 10 .move [T 18]])
     (.seq (.region [o 20 .move [T 0],
       o 21 .move [T 10],
       o 22 (.call 106) [T 20, T 21],
       o 19 .move [T 22],
       o 23 (.extract 0) [T 19],
       o 24 (.extract 1) [T 19],
       o 11 (.alloc [.fz (.int .i64 0), .fz (.int .i64 0), .fz (.int .i64 0)]) [],
       on (.store 3) [T 11, T 23],
       o 12 .move [T 24]])
     (.seq (.region [o 25 .move [T 12]])
     (.cond (T 25) (.region [o 26 .move [T 7],
        o 27 .move [T 8],
        o 28 .move [T 7],
        o 29 (.fieldAddr 1) [T 11],
        o 30 (.load 1 false) [T 29],
        o 31 .callv [T 28, T 30],
        o 32 (.arith .add) [T 27, T 31],
        o 33 .move [T 7],
        o 34 .move [T 2],
        o 35 .callv [T 33, T 34],
        o 36 (.arith .add) [T 32, T 35],
        o 37 .callv [T 26, T 36],
        o 8 .move [T 37]]) .skip)))))
    (.region [o 38 (.arith .add) [T 15, I 1],
      o 15 .move [T 38]])))))))
  (.seq (.region [o 39 .move [T 8],
    o 6 .move [T 39]])
  .ret))))) }
theorem ok24 : fnOk Tryz.prog 24 m24 = true := by kernel_rfl
/-- (*tympan/state.World).Plain -/
def m25 : MF := { N := 10, np := 1, res := [.cell 2 22 true], body :=
  (.seq (.region [o 2 (.alloc [.fz (.int .i64 0), .fz (.int .i64 0), .fz (.int .i64 0), .fz (.int .i64 0), .fz (.int .i64 0), .fz (.int .i64 0), .fz (.int .i64 0), .fz (.int .i64 0), .fz (.int .i64 0), .fz (.int .i64 0), .fz (.int .i64 0), .fz (.int .i64 0), .fz (.int .i64 0), .fz (.int .i64 0), .fz (.int .i64 0), .fz (.int .i64 0), .fz (.int .i64 0), .fz (.int .i64 0), .fz (.bool false), .nils, .nils, .nils]) []])
  (.seq (.seq (.region [o 3 .move [T 0],
    o 4 (.eq false .ptr) [T 3, CN .nilp]])
  (.cond (T 4) (.seq (.region [o 5 (.build [.fz (.int .i64 0), .fz (.int .i64 0), .fz (.int .i64 0), .fz (.int .i64 0), .fz (.int .i64 0), .fz (.int .i64 0), .fz (.int .i64 0), .fz (.int .i64 0), .fz (.int .i64 0), .fz (.int .i64 0), .fz (.int .i64 0), .fz (.int .i64 0), .fz (.int .i64 0), .fz (.int .i64 0), .fz (.int .i64 0), .fz (.int .i64 0), .fz (.int .i64 0), .fz (.int .i64 0), .fz (.bool false), .nils, .nils, .nils] []) [],
     on (.store 22) [T 2, T 5]])
   .ret) .skip))
  (.seq (.region [o 6 .move [T 0],
    o 7 .nilCheck [T 6],
    o 8 (.fieldAddr 1) [T 7],
    o 9 (.load 22 true) [T 8],
    on (.store 22) [T 2, T 9]])
  .ret))) }
theorem ok25 : fnOk Tryz.prog 25 m25 = true := by kernel_rfl
/-- (*tympan/state.World).Sums -/
def m28 : MF := { N := 6, np := 1, res := [.tmp 2], body :=
  (.seq (.region [o 2 .move [CN .nilp]])
  (.seq (.region [o 3 .move [T 0],
    o 4 (.call 111) [T 3],
    o 5 (.call 112) [T 4],
    o 2 .move [T 5]])
  .ret)) }
theorem ok28 : fnOk Tryz.prog 28 m28 = true := by kernel_rfl
/-- tympan/tympanlaw48.awake -/
def m31 : MF := { N := 20, np := 0, res := [.tmp 0], body :=
  (.seq (.region [o 0 .move [B false]])
  (.seq (.region [o 4 (.build [.fz (.int .i64 0), .fz (.int .i64 0), .fz (.int .i64 0), .fz (.int .i64 0), .fz (.int .i64 0), .fz (.int .i64 0), .fz (.int .i64 0), .fz (.int .i64 0), .fz (.int .i64 0), .fz (.int .i64 0), .fz (.int .i64 0), .fz (.int .i64 0), .fz (.int .i64 0), .fz (.int .i64 0), .fz (.int .i64 0), .fz (.int .i64 0), .fz (.int .i64 0), .fz (.int .i64 0), .fz (.bool false)] [(0, 1), (1, 1), (3, 1), (4, 1)]) [I 1, I 1, I 6, I 6],
    o 5 (.build [.fz (.int .i64 0), .fz (.int .i64 0), .fz (.int .i64 0), .fz (.int .i64 0), .fz (.int .i64 0), .fz (.int .i64 0), .fz (.int .i64 0)] [(0, 1), (1, 1)]) [I 1, I 4],
    o 6 (.buildSlice 7 1) [T 5],
    o 7 (.build [.fz (.int .i64 0), .fz (.int .i64 0), .fz (.int .i64 0), .fz (.int .i64 0), .fz (.int .i64 0), .fz (.int .i64 0), .fz (.int .i64 0), .fz (.int .i64 0), .fz (.int .i64 0), .fz (.int .i64 0), .fz (.int .i64 0), .fz (.int .i64 0), .fz (.int .i64 0), .fz (.int .i64 0), .fz (.int .i64 0), .fz (.int .i64 0), .fz (.int .i64 0), .fz (.int .i64 0), .fz (.bool false), .nils, .nils, .nils] [(0, 19), (19, 1)]) [T 4, T 6],
    o 8 (.call 18) [T 7],
    o 3 .move [T 8],
    o 9 (.extract 0) [T 3],
    o 10 (.extract 1) [T 3],
    o 1 .move [T 9],
    o 2 .move [T 10]])
  (.seq (.region [o 11 .move [T 2],
    o 12 .move [T 11],
    og 13 .move [T 1] 12 true,
    og 14 (.build [.fz (.int .i64 0), .fz (.int .i64 0), .fz (.int .i64 0), .nils, .nils, .nils] [(0, 1), (2, 1)]) [I 1, I 1] 12 true,
    og 15 (.buildSlice 6 1) [T 14] 12 true,
    og 16 (.call 32) [T 13, T 15] 12 true,
    og 17 (.build [.fz (.int .i64 0), .fz (.int .i64 0), .fz (.int .i64 0), .fz (.int .i64 0), .fz (.int .i64 0), .fz (.int .i64 0), .fz (.int .i64 0), .fz (.int .i64 0), .fz (.int .i64 0), .fz (.int .i64 0)] [(0, 1), (9, 1)]) [I 1, I 2] 12 true,
    og 18 (.eq false (.agg 68 [some .i64, some .i64, some .i64, some .i64, some .i64, some .i64, some .i64, some .i64, some .i64, some .i64])) [T 16, T 17] 12 true,
    o 19 .pick [T 12, T 18, B false],
    o 0 .move [T 19]])
  .ret))) }
theorem ok31 : fnOk Tryz.prog 31 m31 = true := by kernel_rfl
/-- tympan/tally.Of -/
def m32 : MF := { N := 21, np := 2, res := [.cell 4 10 true], body :=
  (.seq (.region [o 4 (.alloc [.fz (.int .i64 0), .fz (.int .i64 0), .fz (.int .i64 0), .fz (.int .i64 0), .fz (.int .i64 0), .fz (.int .i64 0), .fz (.int .i64 0), .fz (.int .i64 0), .fz (.int .i64 0), .fz (.int .i64 0)]) []])
  (.seq (.region [o 5 (.alloc [.fz (.int .i64 0), .fz (.int .i64 0), .fz (.int .i64 0), .fz (.int .i64 0), .fz (.int .i64 0), .fz (.int .i64 0), .fz (.int .i64 0), .fz (.int .i64 0), .fz (.int .i64 0), .fz (.int .i64 0)]) []])
  (.seq (.seq (.region [o 8 .move [T 0],
    o 9 .move [T 1],
    o 10 (.call 33) [T 8, T 9],
    o 11 .len [T 10],
    o 12 .move [I 0]])
  (.block 0 (.loop (.seq (.region [o 13 (.cmp .lss) [T 12, T 11]])
    (.seq (.cond (T 13) .skip (.exit 0))
    (.seq (.block 1 (.seq (.region [o 14 (.indexS 10) [T 10, T 12],
       o 15 (.load 10 true) [T 14],
       o 7 (.alloc [.fz (.int .i64 0), .fz (.int .i64 0), .fz (.int .i64 0), .fz (.int .i64 0), .fz (.int .i64 0), .fz (.int .i64 0), .fz (.int .i64 0), .fz (.int .i64 0), .fz (.int .i64 0), .fz (.int .i64 0)]) [],
       on (.store 10) [T 7, T 15]])
     (.region [o 16 (.load 10 true) [T 5],
       o 17 (.load 10 true) [T 7],
       o 18 (.call 38) [T 16, T 17],
       on (.store 10) [T 5, T 18]])))
    (.region [o 19 (.arith .add) [T 12, I 1],
      o 12 .move [T 19]])))))))
  (.seq (.region [o 20 (.load 10 true) [T 5],
    on (.store 10) [T 4, T 20]])
  .ret)))) }
theorem ok32 : fnOk Tryz.prog 32 m32 = true := by kernel_rfl
/-- tympan/tally.Each -/
def m33 : MF := { N := 37, np := 2, res := [.tmp 4], body :=
  (.seq (.region [o 4 .move [.const .nils]])
  (.seq (.region [o 5 .move [.const .nils]])
  (.seq (.region [o 8 .move [T 0],
    o 9 .move [T 1],
    o 10 (.call 115) [T 8, T 9],
    o 6 .move [T 10]])
  (.seq (.seq (.region [o 7 .move [I 1]])
  (.block 0 (.loop (.seq (.seq (.region [o 11 .move [T 7],
      o 12 .move [T 6],
      o 13 .len [T 12],
      o 14 (.cmp .lss) [T 11, T 13]])
    (.cond (T 14) .skip (.exit 0)))
    (.seq (.block 1 (.draw [o 17 .move [T 5],
       o 18 .move [T 0],
       o 19 .move [T 6],
       o 20 .move [T 7],
       o 21 (.arith .sub) [T 20, I 1],
       o 22 (.indexS 7) [T 19, T 21],
       o 23 (.load 7 true) [T 22],
       o 24 .move [T 6],
       o 25 .move [T 7],
       o 26 (.indexS 7) [T 24, T 25],
       o 27 (.load 7 true) [T 26],
       o 28 .move [T 1],
       o 29 .move [T 7],
       o 30 (.arith .sub) [T 29, I 1],
       o 31 (.indexS 6) [T 28, T 30],
       o 32 (.load 6 true) [T 31],
       o 33 (.call 116) [T 18, T 23, T 27, T 32],
       o 34 (.buildSlice 10 1) [T 33],
       o 35 (.append 10 80) [T 17, T 34],
       o 5 .move [T 35]]
       [0, 0, 0, 0, 8, 28, 60, 0, 0, 384, 896, 0, 0, 4096, 14336, 30720, 65534, 131070, 262143, 524287]))
    (.region [o 15 .move [T 7],
      o 16 (.arith .add) [T 15, I 1],
      o 7 .move [T 16]]))))))
  (.seq (.region [o 36 .move [T 5],
    o 4 .move [T 36]])
  .ret))))) }
theorem ok33 : fnOk Tryz.prog 33 m33 = true := by kernel_rfl
/-- tympan/tympanlaw48.plain -/
def m36 : MF := { N := 24, np := 1, res := [.cell 2 10 true], body :=
  (.seq (.region [o 1 .box [T 0],
    o 2 (.alloc [.fz (.int .i64 0), .fz (.int .i64 0), .fz (.int .i64 0), .fz (.int .i64 0), .fz (.int .i64 0), .fz (.int .i64 0), .fz (.int .i64 0), .fz (.int .i64 0), .fz (.int .i64 0), .fz (.int .i64 0)]) []])
  (.seq (.region [o 3 (.fieldAddr 0) [T 1],
    o 4 (.load 1 false) [T 3],
    o 5 (.fieldAddr 1) [T 1],
    o 6 (.load 1 false) [T 5],
    o 7 (.fieldAddr 2) [T 1],
    o 8 (.load 1 false) [T 7],
    o 9 (.fieldAddr 3) [T 1],
    o 10 (.load 1 false) [T 9],
    o 11 (.fieldAddr 4) [T 1],
    o 12 (.load 1 false) [T 11],
    o 13 (.fieldAddr 5) [T 1],
    o 14 (.load 1 false) [T 13],
    o 15 (.fieldAddr 6) [T 1],
    o 16 (.load 1 false) [T 15],
    o 17 (.fieldAddr 7) [T 1],
    o 18 (.load 1 false) [T 17],
    o 19 (.fieldAddr 8) [T 1],
    o 20 (.load 1 false) [T 19],
    o 21 (.fieldAddr 9) [T 1],
    o 22 (.load 1 false) [T 21],
    o 23 (.build [.fz (.int .i64 0), .fz (.int .i64 0), .fz (.int .i64 0), .fz (.int .i64 0), .fz (.int .i64 0), .fz (.int .i64 0), .fz (.int .i64 0), .fz (.int .i64 0), .fz (.int .i64 0), .fz (.int .i64 0)] [(0, 1), (1, 1), (2, 1), (3, 1), (4, 1), (5, 1), (6, 1), (7, 1), (8, 1), (9, 1)]) [T 4, T 6, T 8, T 10, T 12, T 14, T 16, T 18, T 20, T 22],
    on (.store 10) [T 2, T 23]])
  .ret)) }
theorem ok36 : fnOk Tryz.prog 36 m36 = true := by kernel_rfl
/-- tympan/tally.Add -/
def m38 : MF := { N := 33, np := 2, res := [.cell 4 10 true], body :=
  (.seq (.region [o 2 .box [T 0],
    o 3 .box [T 1],
    o 4 (.alloc [.fz (.int .i64 0), .fz (.int .i64 0), .fz (.int .i64 0), .fz (.int .i64 0), .fz (.int .i64 0), .fz (.int .i64 0), .fz (.int .i64 0), .fz (.int .i64 0), .fz (.int .i64 0), .fz (.int .i64 0)]) []])
  (.seq (.region [o 8 (.call 125) [T 3],
    o 5 (.alloc [.fz .nilp, .fz .nilp, .fz .nilp, .fz .nilp, .fz .nilp, .fz .nilp, .fz .nilp, .fz .nilp, .fz .nilp]) [],
    on (.store 9) [T 5, T 8]])
  (.seq (.seq (.region [o 9 (.call 125) [T 2],
    o 10 .move [I 0]])
  (.block 0 (.loop (.seq (.region [o 11 (.cmp .lss) [T 10, I 9]])
    (.seq (.cond (T 11) .skip (.exit 0))
    (.seq (.block 1 (.seq (.region [o 12 .move [T 10],
       o 13 (.index 9 1 1 false) [T 9, T 10],
       o 6 .move [T 12],
       o 7 .move [T 13]])
     (.draw [o 14 .move [T 7],
       o 15 .move [T 7],
       o 16 .nilCheck [T 15],
       o 17 (.load 1 false) [T 16],
       o 18 .move [T 6],
       o 19 (.indexA 9 1) [T 5, T 18],
       o 20 (.load 1 false) [T 19],
       o 21 .nilCheck [T 20],
       o 22 (.load 1 false) [T 21],
       o 23 (.call 126) [T 17, T 22],
       o 24 .nilCheck [T 14],
       on (.store 1) [T 24, T 23]]
       [0, 0, 2, 6, 0, 16, 48, 112, 240, 510, 1023, 2047])))
    (.region [o 25 (.arith .add) [T 10, I 1],
      o 10 .move [T 25]])))))))
  (.seq (.region [o 26 (.fieldAddr 9) [T 2],
    o 27 (.load 1 false) [T 26],
    o 28 (.fieldAddr 9) [T 3],
    o 29 (.load 1 false) [T 28],
    o 30 (.call 127) [T 27, T 29],
    o 31 (.fieldAddr 9) [T 2],
    on (.store 1) [T 31, T 30]])
  (.seq (.region [o 32 (.load 10 true) [T 2],
    on (.store 10) [T 4, T 32]])
  .ret))))) }
theorem ok38 : fnOk Tryz.prog 38 m38 = true := by kernel_rfl
/-- tympan/tympanref48.Add -/
def m39 : MF := { N := 56, np := 2, res := [.cell 4 10 true], body :=
  (.seq (.region [o 2 .box [T 0],
    o 3 .box [T 1],
    o 4 (.alloc [.fz (.int .i64 0), .fz (.int .i64 0), .fz (.int .i64 0), .fz (.int .i64 0), .fz (.int .i64 0), .fz (.int .i64 0), .fz (.int .i64 0), .fz (.int .i64 0), .fz (.int .i64 0), .fz (.int .i64 0)]) []])
  (.seq (.draw [o 5 (.fieldAddr 0) [T 2],
    o 6 (.load 1 false) [T 5],
    o 7 (.fieldAddr 0) [T 3],
    o 8 (.load 1 false) [T 7],
    o 9 (.call 128) [T 6, T 8],
    o 10 (.fieldAddr 1) [T 2],
    o 11 (.load 1 false) [T 10],
    o 12 (.fieldAddr 1) [T 3],
    o 13 (.load 1 false) [T 12],
    o 14 (.call 128) [T 11, T 13],
    o 15 (.fieldAddr 2) [T 2],
    o 16 (.load 1 false) [T 15],
    o 17 (.fieldAddr 2) [T 3],
    o 18 (.load 1 false) [T 17],
    o 19 (.call 128) [T 16, T 18],
    o 20 (.fieldAddr 3) [T 2],
    o 21 (.load 1 false) [T 20],
    o 22 (.fieldAddr 3) [T 3],
    o 23 (.load 1 false) [T 22],
    o 24 (.call 128) [T 21, T 23],
    o 25 (.fieldAddr 4) [T 2],
    o 26 (.load 1 false) [T 25],
    o 27 (.fieldAddr 4) [T 3],
    o 28 (.load 1 false) [T 27],
    o 29 (.call 128) [T 26, T 28],
    o 30 (.fieldAddr 5) [T 2],
    o 31 (.load 1 false) [T 30],
    o 32 (.fieldAddr 5) [T 3],
    o 33 (.load 1 false) [T 32],
    o 34 (.call 128) [T 31, T 33],
    o 35 (.fieldAddr 6) [T 2],
    o 36 (.load 1 false) [T 35],
    o 37 (.fieldAddr 6) [T 3],
    o 38 (.load 1 false) [T 37],
    o 39 (.call 128) [T 36, T 38],
    o 40 (.fieldAddr 7) [T 2],
    o 41 (.load 1 false) [T 40],
    o 42 (.fieldAddr 7) [T 3],
    o 43 (.load 1 false) [T 42],
    o 44 (.call 128) [T 41, T 43],
    o 45 (.fieldAddr 8) [T 2],
    o 46 (.load 1 false) [T 45],
    o 47 (.fieldAddr 8) [T 3],
    o 48 (.load 1 false) [T 47],
    o 49 (.call 128) [T 46, T 48],
    o 50 (.fieldAddr 9) [T 2],
    o 51 (.load 1 false) [T 50],
    o 52 (.fieldAddr 9) [T 3],
    o 53 (.load 1 false) [T 52],
    o 54 (.call 128) [T 51, T 53],
    o 55 (.build [.fz (.int .i64 0), .fz (.int .i64 0), .fz (.int .i64 0), .fz (.int .i64 0), .fz (.int .i64 0), .fz (.int .i64 0), .fz (.int .i64 0), .fz (.int .i64 0), .fz (.int .i64 0), .fz (.int .i64 0)] [(0, 1), (1, 1), (2, 1), (3, 1), (4, 1), (5, 1), (6, 1), (7, 1), (8, 1), (9, 1)]) [T 9, T 14, T 19, T 24, T 29, T 34, T 39, T 44, T 49, T 54],
    on (.store 10) [T 4, T 55]]
    [0, 1, 0, 4, 15, 0, 32, 0, 128, 511, 0, 1024, 0, 4096, 16383, 0, 32768, 0, 131072, 524287, 0, 1048576, 0, 4194304, 16777215, 0, 33554432, 0, 134217728, 536870911, 0, 1073741824, 0, 4294967296, 17179869183, 0, 34359738368, 0, 137438953472, 549755813887, 0, 1099511627776, 0, 4398046511104, 17592186044415, 0, 35184372088832, 0, 140737488355328, 562949953421311, 1125899906842623, 2251799813685247])
  .ret)) }
theorem ok39 : fnOk Tryz.prog 39 m39 = true := by kernel_rfl
/-- tympan/tympanlaw47.awake -/
def m42 : MF := { N := 50, np := 0, res := [.tmp 0], body :=
  (.seq (.region [o 0 .move [B false]])
  (.seq (.region [o 5 (.build [.fz (.int .i64 0), .fz (.int .i64 0), .fz (.int .i64 0), .fz (.int .i64 0), .fz (.int .i64 0), .fz (.int .i64 0), .fz (.int .i64 0), .fz (.int .i64 0), .fz (.int .i64 0), .fz (.int .i64 0), .fz (.int .i64 0), .fz (.int .i64 0), .fz (.int .i64 0), .fz (.int .i64 0), .fz (.int .i64 0), .fz (.int .i64 0), .fz (.int .i64 0), .fz (.int .i64 0), .fz (.bool false)] [(0, 1), (1, 1), (3, 1), (4, 1)]) [I 1, I 1, I 6, I 6],
    o 6 (.build [.fz (.int .i64 0), .fz (.int .i64 0), .fz (.int .i64 0), .fz (.int .i64 0), .fz (.int .i64 0), .fz (.int .i64 0), .fz (.int .i64 0)] [(0, 1), (1, 1)]) [I 1, I 6],
    o 7 (.build [.fz (.int .i64 0), .fz (.int .i64 0), .fz (.int .i64 0), .fz (.int .i64 0), .fz (.int .i64 0), .fz (.int .i64 0), .fz (.int .i64 0)] [(0, 1), (6, 1)]) [I 3, I 5],
    o 8 (.build [.fz (.int .i64 0), .fz (.int .i64 0), .fz (.int .i64 0), .fz (.int .i64 0), .fz (.int .i64 0), .fz (.int .i64 0), .fz (.int .i64 0)] [(0, 1), (1, 1)]) [I 1, I 3],
    o 9 (.buildSlice 7 3) [T 6, T 7, T 8],
    o 10 (.build [.fz (.int .i64 0), .fz (.int .i64 0), .fz (.int .i64 0), .fz (.int .i64 0), .fz (.int .i64 0), .fz (.int .i64 0), .fz (.int .i64 0), .fz (.int .i64 0), .fz (.int .i64 0), .fz (.int .i64 0), .fz (.int .i64 0), .fz (.int .i64 0), .fz (.int .i64 0), .fz (.int .i64 0), .fz (.int .i64 0), .fz (.int .i64 0), .fz (.int .i64 0), .fz (.int .i64 0), .fz (.bool false), .nils, .nils, .nils] [(0, 19), (19, 1)]) [T 5, T 9],
    o 11 (.call 18) [T 10],
    o 4 .move [T 11],
    o 12 (.extract 0) [T 4],
    o 13 (.extract 1) [T 4],
    o 1 .move [T 12],
    o 2 .move [T 13]])
  (.seq (.region [o 14 .move [T 1],
    o 15 (.build [.fz (.int .i64 0), .fz (.int .i64 0), .fz (.int .i64 0), .nils, .nils, .nils] [(0, 1), (2, 1)]) [I 1, I 1],
    o 16 (.build [.fz (.int .i64 0), .fz (.int .i64 0), .fz (.int .i64 0), .nils, .nils, .nils] [(0, 1), (1, 1), (2, 1)]) [I 1, I 2, I 3],
    o 17 (.buildSlice 6 2) [T 15, T 16],
    o 18 (.call 44) [T 14, T 17],
    o 3 .move [T 18]])
  (.seq (.region [o 19 .move [T 2],
    o 20 .move [T 19],
    og 21 .move [T 3] 20 true,
    og 22 .len [T 21] 20 true,
    og 23 (.eq false .int) [T 22, I 2] 20 true,
    o 24 .pick [T 20, T 23, B false],
    o 25 .move [T 24],
    og 26 .move [T 3] 25 true,
    og 27 (.indexS 9) [T 26, I 0] 25 true,
    og 28 (.load 9 true) [T 27] 25 true,
    og 29 (.build [.fz (.bool false), .fz (.int .i64 0), .fz (.int .i64 0), .fz (.int .i64 0), .fz (.int .i64 0), .fz (.int .i64 0), .fz (.int .i64 0), .fz (.int .i64 0), .fz (.int .i64 0)] [(2, 1)]) [I 5] 25 true,
    og 30 (.eq false (.agg 96 [none, some .i64, some .i64, some .i64, some .i64, some .i64, some .i64, some .i64, some .i64])) [T 28, T 29] 25 true,
    o 31 .pick [T 25, T 30, B false],
    o 32 .move [T 31],
    og 33 .move [T 3] 32 true,
    og 34 (.indexS 9) [T 33, I 1] 32 true,
    og 35 (.load 9 true) [T 34] 32 true,
    og 36 (.build [.fz (.bool false), .fz (.int .i64 0), .fz (.int .i64 0), .fz (.int .i64 0), .fz (.int .i64 0), .fz (.int .i64 0), .fz (.int .i64 0), .fz (.int .i64 0), .fz (.int .i64 0)] []) [] 32 true,
    og 37 (.eq false (.agg 96 [none, some .i64, some .i64, some .i64, some .i64, some .i64, some .i64, some .i64, some .i64])) [T 35, T 36] 32 true,
    o 38 .pick [T 32, T 37, B false],
    o 39 .move [T 38],
    og 40 .move [T 3] 39 true,
    og 41 (.call 47) [T 40] 39 true,
    og 42 (.build [.fz (.int .i64 0), .fz (.int .i64 0)] [(1, 1)]) [I 5] 39 true,
    og 43 (.eq false (.agg 90 [some .i64, some .i64])) [T 41, T 42] 39 true,
    o 44 .pick [T 39, T 43, B false],
    o 45 .move [T 44],
    og 46 .move [T 3] 45 true,
    og 47 (.call 49) [T 46] 45 true,
    og 48 (.eq false .int) [T 47, I 0] 45 true,
    o 49 .pick [T 45, T 48, B false],
    o 0 .move [T 49]])
  .ret)))) }
theorem ok42 : fnOk Tryz.prog 42 m42 = true := by kernel_rfl
/-- tympan/bill.Of -/
def m43 : MF := { N := 75, np := 3, res := [.cell 6 9 true], body :=
  (.seq (.region [o 4 .box [T 1],
    o 5 .box [T 2],
    o 6 (.alloc [.fz (.bool false), .fz (.int .i64 0), .fz (.int .i64 0), .fz (.int .i64 0), .fz (.int .i64 0), .fz (.int .i64 0), .fz (.int .i64 0), .fz (.int .i64 0), .fz (.int .i64 0)]) []])
  (.seq (.region [o 7 (.alloc [.fz (.bool false), .fz (.int .i64 0), .fz (.int .i64 0), .fz (.int .i64 0), .fz (.int .i64 0), .fz (.int .i64 0), .fz (.int .i64 0), .fz (.int .i64 0), .fz (.int .i64 0)]) []])
  (.seq (.seq (.region [o 11 .move [T 0],
    o 12 (.load 7 true) [T 4],
    o 13 (.call 95) [T 11, T 12],
    o 14 .not [T 13]])
  (.cond (T 14) (.seq (.region [o 15 (.load 9 true) [T 7],
     on (.store 9) [T 6, T 15]])
   .ret) .skip))
  (.seq (.draw [o 16 .move [T 0],
    o 17 (.load 7 true) [T 4],
    o 18 (.load 6 true) [T 5],
    o 19 (.call 21) [T 16, T 17, T 18],
    o 20 .move [T 0],
    o 21 (.load 7 true) [T 4],
    o 22 (.load 6 true) [T 5],
    o 23 (.call 77) [T 20, T 21, T 22],
    o 24 .move [T 0],
    o 25 (.call 25) [T 24],
    o 8 (.alloc [.fz (.int .i64 0), .fz (.int .i64 0), .fz (.int .i64 0), .fz (.bool false), .fz (.bool false), .fz (.int .i64 0), .fz (.int .i64 0), .fz (.int .i64 0), .fz (.int .i64 0), .fz (.int .i64 0)]) [],
    o 9 (.alloc [.fz (.int .i64 0), .fz (.int .i64 0), .fz (.int .i64 0), .fz (.int .i64 0), .fz (.int .i64 0), .fz (.int .i64 0), .fz (.int .i64 0)]) [],
    o 10 (.alloc [.fz (.int .i64 0), .fz (.int .i64 0), .fz (.int .i64 0), .fz (.int .i64 0), .fz (.int .i64 0), .fz (.int .i64 0), .fz (.int .i64 0), .fz (.int .i64 0), .fz (.int .i64 0), .fz (.int .i64 0), .fz (.int .i64 0), .fz (.int .i64 0), .fz (.int .i64 0), .fz (.int .i64 0), .fz (.int .i64 0), .fz (.int .i64 0), .fz (.int .i64 0), .fz (.int .i64 0), .fz (.bool false), .nils, .nils, .nils]) [],
    on (.store 10) [T 8, T 19],
    on (.store 7) [T 9, T 23],
    on (.store 22) [T 10, T 25]]
    [0, 0, 0, 7, 0, 0, 0, 127, 0, 511, 0, 0, 0, 8191, 16383, 32767])
  (.seq (.region [o 26 (.fieldAddr 4) [T 8],
    o 27 (.load 1 false) [T 26],
    o 28 (.fieldAddr 0) [T 7],
    on (.store 1) [T 28, T 27]])
  (.seq (.seq (.region [o 29 (.fieldAddr 0) [T 5],
    o 30 (.load 1 false) [T 29],
    o 31 (.eq false .int) [T 30, I 1]])
  (.cond (T 31) (.seq (.seq (.region [o 32 (.fieldAddr 4) [T 8],
     o 33 (.load 1 false) [T 32],
     o 34 .not [T 33]])
   (.cond (T 34) (.region [o 35 (.fieldAddr 5) [T 8],
      o 36 (.load 5 true) [T 35],
      o 37 (.fieldAddr 0) [T 10],
      o 38 (.fieldAddr 5) [T 37],
      o 39 (.load 1 false) [T 38],
      o 40 (.fieldAddr 3) [T 8],
      o 41 (.load 1 false) [T 40],
      o 42 (.call 133) [T 36, T 39, T 41],
      o 43 (.fieldAddr 1) [T 7],
      on (.store 1) [T 43, T 42]]) .skip))
   (.region [o 44 .move [T 0],
     o 45 (.fieldAddr 2) [T 5],
     o 46 (.load 1 false) [T 45],
     o 47 (.call 134) [T 7, T 44, T 46]])) (.region [o 48 (.fieldAddr 0) [T 10],
     o 49 (.fieldAddr 17) [T 48],
     o 50 (.load 1 false) [T 49],
     o 51 (.fieldAddr 8) [T 7],
     on (.store 1) [T 51, T 50]])))
  (.seq (.seq (.region [o 52 (.fieldAddr 3) [T 5],
    o 53 (.load 1 false) [T 52],
    o 54 .len [T 53],
    o 55 (.cmp .gtr) [T 54, I 0],
    o 56 .move [T 55],
    og 57 (.fieldAddr 3) [T 9] 56 true,
    og 58 (.load 1 false) [T 57] 56 true,
    og 59 (.cmp .gtr) [T 58, I 0] 56 true,
    o 60 .pick [T 56, T 59, B false]])
  (.cond (T 60) (.region [o 61 (.load 22 true) [T 10],
     o 62 (.fieldAddr 3) [T 5],
     o 63 (.load 1 false) [T 62],
     o 64 (.call 135) [T 7, T 61, T 63]]) .skip))
  (.seq (.draw [o 65 (.fieldAddr 0) [T 10],
    o 66 (.fieldAddr 16) [T 65],
    o 67 (.load 1 false) [T 66],
    o 68 .move [T 0],
    o 69 (.load 7 true) [T 9],
    o 70 (.call 136) [T 68, T 69],
    o 71 (.call 137) [T 70],
    o 72 (.arith .mul) [T 67, T 71],
    o 73 (.fieldAddr 7) [T 7],
    on (.store 1) [T 73, T 72]]
    [0, 1, 3, 0, 0, 24, 56, 127, 255, 511])
  (.seq (.region [o 74 (.load 9 true) [T 7],
    on (.store 9) [T 6, T 74]])
  .ret))))))))) }
theorem ok43 : fnOk Tryz.prog 43 m43 = true := by kernel_rfl
/-- tympan/bill.All -/
def m44 : MF := { N := 36, np := 2, res := [.tmp 4], body :=
  (.seq (.region [o 4 .move [.const .nils]])
  (.seq (.region [o 5 .move [.const .nils]])
  (.seq (.region [o 9 .move [T 0],
    o 10 .move [T 1],
    o 11 (.call 115) [T 9, T 10],
    o 6 .move [T 11]])
  (.seq (.seq (.region [o 12 .move [T 1],
    o 13 .move [T 6],
    o 14 .len [T 13],
    o 15 (.arith .sub) [T 14, I 1],
    o 16 .max [T 15, I 0],
    o 17 (.slice 6 false true false) [T 12, T 16],
    o 18 .len [T 17],
    o 19 .move [I 0]])
  (.block 0 (.loop (.seq (.region [o 20 (.cmp .lss) [T 19, T 18]])
    (.seq (.cond (T 20) .skip (.exit 0))
    (.seq (.block 1 (.seq (.region [o 21 .move [T 19],
       o 22 (.indexS 6) [T 17, T 19],
       o 23 (.load 6 true) [T 22],
       o 8 (.alloc [.fz (.int .i64 0), .fz (.int .i64 0), .fz (.int .i64 0), .nils, .nils, .nils]) [],
       o 7 .move [T 21],
       on (.store 6) [T 8, T 23]])
     (.draw [o 24 .move [T 5],
       o 25 .move [T 0],
       o 26 .move [T 6],
       o 27 .move [T 7],
       o 28 (.indexS 7) [T 26, T 27],
       o 29 (.load 7 true) [T 28],
       o 30 (.load 6 true) [T 8],
       o 31 (.call 43) [T 25, T 29, T 30],
       o 32 (.buildSlice 9 1) [T 31],
       o 33 (.append 9 72) [T 24, T 32],
       o 5 .move [T 33]]
       [0, 0, 0, 0, 12, 28, 0, 126, 254, 511, 1023])))
    (.region [o 34 (.arith .add) [T 19, I 1],
      o 19 .move [T 34]])))))))
  (.seq (.region [o 35 .move [T 5],
    o 4 .move [T 35]])
  .ret))))) }
theorem ok44 : fnOk Tryz.prog 44 m44 = true := by kernel_rfl
/-- tympan/tympanlaw47.line -/
def m45 : MF := { N := 22, np := 1, res := [.cell 2 9 true], body :=
  (.seq (.region [o 1 .box [T 0],
    o 2 (.alloc [.fz (.bool false), .fz (.int .i64 0), .fz (.int .i64 0), .fz (.int .i64 0), .fz (.int .i64 0), .fz (.int .i64 0), .fz (.int .i64 0), .fz (.int .i64 0), .fz (.int .i64 0)]) []])
  (.seq (.region [o 3 (.fieldAddr 0) [T 1],
    o 4 (.load 1 false) [T 3],
    o 5 (.fieldAddr 1) [T 1],
    o 6 (.load 1 false) [T 5],
    o 7 (.fieldAddr 2) [T 1],
    o 8 (.load 1 false) [T 7],
    o 9 (.fieldAddr 3) [T 1],
    o 10 (.load 1 false) [T 9],
    o 11 (.fieldAddr 4) [T 1],
    o 12 (.load 1 false) [T 11],
    o 13 (.fieldAddr 5) [T 1],
    o 14 (.load 1 false) [T 13],
    o 15 (.fieldAddr 6) [T 1],
    o 16 (.load 1 false) [T 15],
    o 17 (.fieldAddr 7) [T 1],
    o 18 (.load 1 false) [T 17],
    o 19 (.fieldAddr 8) [T 1],
    o 20 (.load 1 false) [T 19],
    o 21 (.build [.fz (.bool false), .fz (.int .i64 0), .fz (.int .i64 0), .fz (.int .i64 0), .fz (.int .i64 0), .fz (.int .i64 0), .fz (.int .i64 0), .fz (.int .i64 0), .fz (.int .i64 0)] [(0, 1), (1, 1), (2, 1), (3, 1), (4, 1), (5, 1), (6, 1), (7, 1), (8, 1)]) [T 4, T 6, T 8, T 10, T 12, T 14, T 16, T 18, T 20],
    on (.store 9) [T 2, T 21]])
  .ret)) }
theorem ok45 : fnOk Tryz.prog 45 m45 = true := by kernel_rfl
/-- tympan/bill.Sum -/
def m47 : MF := { N := 20, np := 1, res := [.cell 2 2 true], body :=
  (.seq (.region [o 2 (.alloc [.fz (.int .i64 0), .fz (.int .i64 0)]) []])
  (.seq (.region [o 3 (.alloc [.fz (.int .i64 0), .fz (.int .i64 0)]) []])
  (.seq (.region [o 7 (.makeFunc 145 1) [T 3],
    o 4 .move [T 7]])
  (.seq (.seq (.region [o 8 .move [T 0],
    o 9 .len [T 8],
    o 10 .move [I 0]])
  (.block 0 (.loop (.seq (.region [o 11 (.cmp .lss) [T 10, T 9]])
    (.seq (.cond (T 11) .skip (.exit 0))
    (.seq (.block 1 (.seq (.region [o 12 (.indexS 9) [T 8, T 10],
       o 13 (.load 9 true) [T 12],
       o 6 (.alloc [.fz (.bool false), .fz (.int .i64 0), .fz (.int .i64 0), .fz (.int .i64 0), .fz (.int .i64 0), .fz (.int .i64 0), .fz (.int .i64 0), .fz (.int .i64 0), .fz (.int .i64 0)]) [],
       on (.store 9) [T 6, T 13]])
     (.region [o 14 .move [T 4],
       o 15 (.load 9 true) [T 6],
       o 16 (.call 146) [T 15],
       o 17 .callv [T 14, T 16]])))
    (.region [o 18 (.arith .add) [T 10, I 1],
      o 10 .move [T 18]])))))))
  (.seq (.region [o 19 (.call 132) [T 3],
    on (.store 2) [T 2, T 19]])
  .ret))))) }
theorem ok47 : fnOk Tryz.prog 47 m47 = true := by kernel_rfl
/-- tympan/column.Cost -/
def m48 : MF := { N := 81, np := 3, res := [.cell 6 2 true], body :=
  (.seq (.region [o 3 .box [T 0],
    o 4 .box [T 1],
    o 5 .box [T 2],
    o 6 (.alloc [.fz (.int .i64 0), .fz (.int .i64 0)]) []])
  (.seq (.seq (.region [o 15 (.load 1 false) [T 3],
    o 16 (.load 7 true) [T 4],
    o 17 (.call 95) [T 15, T 16],
    o 18 .not [T 17]])
  (.cond (T 18) (.seq (.region [o 19 (.build [.fz (.int .i64 0), .fz (.int .i64 0)] []) [],
     on (.store 2) [T 6, T 19]])
   .ret) .skip))
  (.seq (.draw [o 20 (.load 1 false) [T 3],
    o 21 (.load 7 true) [T 4],
    o 22 (.load 6 true) [T 5],
    o 23 (.call 21) [T 20, T 21, T 22],
    o 24 (.load 1 false) [T 3],
    o 25 (.call 25) [T 24],
    o 26 (.load 1 false) [T 3],
    o 27 (.load 7 true) [T 4],
    o 28 (.load 6 true) [T 5],
    o 29 (.call 77) [T 26, T 27, T 28],
    o 7 (.alloc [.fz (.int .i64 0), .fz (.int .i64 0), .fz (.int .i64 0), .fz (.bool false), .fz (.bool false), .fz (.int .i64 0), .fz (.int .i64 0), .fz (.int .i64 0), .fz (.int .i64 0), .fz (.int .i64 0)]) [],
    o 8 (.alloc [.fz (.int .i64 0), .fz (.int .i64 0), .fz (.int .i64 0), .fz (.int .i64 0), .fz (.int .i64 0), .fz (.int .i64 0), .fz (.int .i64 0), .fz (.int .i64 0), .fz (.int .i64 0), .fz (.int .i64 0), .fz (.int .i64 0), .fz (.int .i64 0), .fz (.int .i64 0), .fz (.int .i64 0), .fz (.int .i64 0), .fz (.int .i64 0), .fz (.int .i64 0), .fz (.int .i64 0), .fz (.bool false), .nils, .nils, .nils]) [],
    o 9 (.alloc [.fz (.int .i64 0), .fz (.int .i64 0), .fz (.int .i64 0), .fz (.int .i64 0), .fz (.int .i64 0), .fz (.int .i64 0), .fz (.int .i64 0)]) [],
    on (.store 10) [T 7, T 23],
    on (.store 22) [T 8, T 25],
    on (.store 7) [T 9, T 29]]
    [0, 0, 0, 7, 0, 31, 0, 0, 0, 511, 0, 0, 0, 8191, 16383, 32767])
  (.seq (.region [o 30 (.fieldAddr 0) [T 5],
    o 31 (.load 1 false) [T 30],
    o 32 (.eq false .int) [T 31, I 1],
    o 10 .move [T 32]])
  (.seq (.region [o 33 .move [T 10],
    o 34 .move [T 33],
    og 35 (.fieldAddr 4) [T 7] 34 true,
    og 36 (.load 1 false) [T 35] 34 true,
    og 37 .not [T 36] 34 true,
    o 38 .pick [T 34, T 37, B false],
    o 39 (.makeFunc 147 0) [T 7, T 8],
    o 40 (.build [.fz (.bool false), .fz .nilf] [(0, 1), (1, 1)]) [T 38, T 39],
    o 41 .move [T 10],
    o 42 (.makeFunc 148 0) [T 8, T 3, T 5],
    o 43 (.build [.fz (.bool false), .fz .nilf] [(0, 1), (1, 1)]) [T 41, T 42],
    o 44 .move [T 10],
    o 45 .not [T 44],
    o 46 (.makeFunc 151 0) [T 8],
    o 47 (.build [.fz (.bool false), .fz .nilf] [(0, 1), (1, 1)]) [T 45, T 46],
    o 48 (.fieldAddr 3) [T 5],
    o 49 (.load 1 false) [T 48],
    o 50 .len [T 49],
    o 51 (.cmp .gtr) [T 50, I 0],
    o 52 .move [T 51],
    og 53 (.fieldAddr 3) [T 9] 52 true,
    og 54 (.load 1 false) [T 53] 52 true,
    og 55 (.cmp .gtr) [T 54, I 0] 52 true,
    o 56 .pick [T 52, T 55, B false],
    o 57 (.makeFunc 152 0) [T 8, T 5],
    o 58 (.build [.fz (.bool false), .fz .nilf] [(0, 1), (1, 1)]) [T 56, T 57],
    o 59 (.makeFunc 154 0) [T 8, T 3, T 9],
    o 60 (.build [.fz (.bool false), .fz .nilf] [(0, 1), (1, 1)]) [B true, T 59],
    o 61 (.buildSlice 2 5) [T 40, T 43, T 47, T 58, T 60],
    o 11 .move [T 61]])
  (.seq (.region [o 12 .move [.const .nils]])
  (.seq (.seq (.region [o 62 .move [T 11],
    o 63 .len [T 62],
    o 64 .move [I 0]])
  (.block 0 (.loop (.seq (.region [o 65 (.cmp .lss) [T 64, T 63]])
    (.seq (.cond (T 65) .skip (.exit 0))
    (.seq (.block 1 (.seq (.region [o 66 (.indexS 2) [T 62, T 64],
       o 67 (.load 2 true) [T 66],
       o 14 (.alloc [.fz (.bool false), .fz .nilf]) [],
       on (.store 2) [T 14, T 67]])
     (.seq (.region [o 68 (.fieldAddr 0) [T 14],
       o 69 (.load 1 false) [T 68]])
     (.cond (T 69) (.region [o 70 .move [T 12],
        o 71 (.fieldAddr 1) [T 14],
        o 72 (.load 1 false) [T 71],
        o 73 .callv [T 72],
        o 74 (.buildSlice 1 1) [T 73],
        o 75 (.append 1 8) [T 70, T 74],
        o 12 .move [T 75]]) .skip))))
    (.region [o 76 (.arith .add) [T 64, I 1],
      o 64 .move [T 76]])))))))
  (.seq (.region [o 77 (.fieldAddr 4) [T 7],
    o 78 (.load 1 false) [T 77],
    o 79 .move [T 12],
    o 80 (.call 155) [T 78, T 79],
    on (.store 2) [T 6, T 80]])
  .ret)))))))) }
theorem ok48 : fnOk Tryz.prog 48 m48 = true := by kernel_rfl
/-- tympan/bill.Most -/
def m49 : MF := { N := 28, np := 1, res := [.tmp 2], body :=
  (.seq (.region [o 2 .move [I 0]])
  (.seq (.region [o 3 .move [I (-1)]])
  (.seq (.seq (.region [o 6 .move [T 0],
    o 7 .len [T 6],
    o 8 .move [I 0]])
  (.block 0 (.loop (.seq (.region [o 9 (.cmp .lss) [T 8, T 7]])
    (.seq (.cond (T 9) .skip (.exit 0))
    (.seq (.block 1 (.seq (.region [o 10 .move [T 8],
       o 11 (.indexS 9) [T 6, T 8],
       o 12 (.load 9 true) [T 11],
       o 5 (.alloc [.fz (.bool false), .fz (.int .i64 0), .fz (.int .i64 0), .fz (.int .i64 0), .fz (.int .i64 0), .fz (.int .i64 0), .fz (.int .i64 0), .fz (.int .i64 0), .fz (.int .i64 0)]) [],
       o 4 .move [T 10],
       on (.store 9) [T 5, T 12]])
     (.seq (.draw [o 13 .move [T 3],
       o 14 (.cmp .lss) [T 13, I 0],
       o 15 .move [T 14],
       og 16 .move [T 0] 15 false,
       og 17 .move [T 3] 15 false,
       og 18 (.indexS 9) [T 16, T 17] 15 false,
       og 19 (.load 9 true) [T 18] 15 false,
       og 20 (.call 146) [T 19] 15 false,
       og 21 (.load 9 true) [T 5] 15 false,
       og 22 (.call 146) [T 21] 15 false,
       og 23 (.call 156) [T 20, T 22] 15 false,
       o 24 .pick [T 15, B true, T 23]]
       [0, 1, 3, 7, 7, 31, 63, 127, 7, 511, 1023, 2047])
     (.cond (T 24) (.region [o 25 .move [T 4],
        o 3 .move [T 25]]) .skip))))
    (.region [o 26 (.arith .add) [T 8, I 1],
      o 8 .move [T 26]])))))))
  (.seq (.region [o 27 .move [T 3],
    o 2 .move [T 27]])
  .ret)))) }
theorem ok49 : fnOk Tryz.prog 49 m49 = true := by kernel_rfl
/-- tympan/tympanref47.Most -/
def m50 : MF := { N := 29, np := 1, res := [.tmp 2], body :=
  (.seq (.region [o 2 .move [I 0]])
  (.seq (.region [o 3 .move [I (-1)]])
  (.seq (.seq (.region [o 4 .move [I 0]])
  (.block 0 (.loop (.seq (.seq (.region [o 5 .move [T 4],
      o 6 .move [T 0],
      o 7 .len [T 6],
      o 8 (.cmp .lss) [T 5, T 7]])
    (.cond (T 8) .skip (.exit 0)))
    (.seq (.block 1 (.seq (.draw [o 11 .move [T 3],
       o 12 (.cmp .lss) [T 11, I 0],
       o 13 .move [T 12],
       og 14 .move [T 0] 13 false,
       og 15 .move [T 4] 13 false,
       og 16 (.indexS 9) [T 14, T 15] 13 false,
       og 17 (.load 9 true) [T 16] 13 false,
       og 18 (.call 157) [T 17] 13 false,
       og 19 .move [T 0] 13 false,
       og 20 .move [T 3] 13 false,
       og 21 (.indexS 9) [T 19, T 20] 13 false,
       og 22 (.load 9 true) [T 21] 13 false,
       og 23 (.call 157) [T 22] 13 false,
       og 24 (.call 52) [T 18, T 23] 13 false,
       og 25 (.cmp .gtr) [T 24, I 0] 13 false,
       o 26 .pick [T 13, B true, T 25]]
       [0, 1, 3, 7, 7, 31, 63, 127, 7, 7, 775, 1799, 4095, 8191, 16383, 32767])
     (.cond (T 26) (.region [o 27 .move [T 4],
        o 3 .move [T 27]]) .skip)))
    (.region [o 9 .move [T 4],
      o 10 (.arith .add) [T 9, I 1],
      o 4 .move [T 10]]))))))
  (.seq (.region [o 28 .move [T 3],
    o 2 .move [T 28]])
  .ret)))) }
theorem ok50 : fnOk Tryz.prog 50 m50 = true := by kernel_rfl
/-- tympan/tympanref47.Sum -/
def m51 : MF := { N := 19, np := 1, res := [.cell 2 2 true], body :=
  (.seq (.region [o 2 (.alloc [.fz (.int .i64 0), .fz (.int .i64 0)]) []])
  (.seq (.region [o 3 (.alloc [.fz (.int .i64 0), .fz (.int .i64 0)]) []])
  (.seq (.seq (.region [o 4 .move [I 0]])
  (.block 0 (.loop (.seq (.seq (.region [o 5 .move [T 4],
      o 6 .move [T 0],
      o 7 .len [T 6],
      o 8 (.cmp .lss) [T 5, T 7]])
    (.cond (T 8) .skip (.exit 0)))
    (.seq (.block 1 (.draw [o 11 (.load 2 true) [T 3],
       o 12 .move [T 0],
       o 13 .move [T 4],
       o 14 (.indexS 9) [T 12, T 13],
       o 15 (.load 9 true) [T 14],
       o 16 (.call 157) [T 15],
       o 17 (.call 75) [T 11, T 16],
       on (.store 2) [T 3, T 17]]
       [0, 0, 0, 6, 14, 30, 63, 127]))
    (.region [o 9 .move [T 4],
      o 10 (.arith .add) [T 9, I 1],
      o 4 .move [T 10]]))))))
  (.seq (.region [o 18 (.load 2 true) [T 3],
    on (.store 2) [T 2, T 18]])
  .ret)))) }
theorem ok51 : fnOk Tryz.prog 51 m51 = true := by kernel_rfl
/-- tympan/tympanref04.Cmp -/
def m52 : MF := { N := 27, np := 2, res := [.tmp 4], body :=
  (.seq (.region [o 2 .box [T 0],
    o 3 .box [T 1],
    o 4 .move [I 0]])
  (.seq (.seq (.region [o 5 (.fieldAddr 0) [T 2],
    o 6 (.load 1 false) [T 5],
    o 7 (.fieldAddr 0) [T 3],
    o 8 (.load 1 false) [T 7],
    o 9 (.cmp .lss) [T 6, T 8],
    o 10 .move [T 9],
    og 11 (.fieldAddr 0) [T 2] 10 false,
    og 12 (.load 1 false) [T 11] 10 false,
    og 13 (.fieldAddr 0) [T 3] 10 false,
    og 14 (.load 1 false) [T 13] 10 false,
    og 15 (.eq false .int) [T 12, T 14] 10 false,
    og 16 .move [T 15] 10 false,
    og 17 (.fieldAddr 1) [T 2] 16 true,
    og 18 (.load 1 false) [T 17] 16 true,
    og 19 (.fieldAddr 1) [T 3] 16 true,
    og 20 (.load 1 false) [T 19] 16 true,
    og 21 (.cmp .lss) [T 18, T 20] 16 true,
    og 22 .pick [T 16, T 21, B false] 10 false,
    o 23 .pick [T 10, B true, T 22]])
  (.cond (T 23) (.seq (.region [o 4 .move [I (-1)]])
   .ret) .skip))
  (.seq (.seq (.region [o 24 (.load 2 true) [T 2],
    o 25 (.load 2 true) [T 3],
    o 26 (.eq false (.agg 90 [some .i64, some .i64])) [T 24, T 25]])
  (.cond (T 26) (.seq (.region [o 4 .move [I 0]])
   .ret) .skip))
  (.seq (.region [o 4 .move [I 1]])
  .ret)))) }
theorem ok52 : fnOk Tryz.prog 52 m52 = true := by kernel_rfl
/-- (*tympan/state.World).Done -/
def m67 : MF := { N := 46, np := 2, res := [.tmp 4], body :=
  (.seq (.region [o 3 .box [T 1],
    o 4 .move [B false]])
  (.seq (.draw [o 5 .move [T 0],
    o 6 (.load 7 true) [T 3],
    o 7 (.call 95) [T 5, T 6],
    o 8 .move [T 7],
    og 9 (.fieldAddr 0) [T 3] 8 true,
    og 10 (.load 1 false) [T 9] 8 true,
    og 11 .move [T 0] 8 true,
    og 12 .nilCheck [T 11] 8 true,
    og 13 (.fieldAddr 0) [T 12] 8 true,
    og 14 (.load 1 false) [T 13] 8 true,
    og 15 .nilCheck [T 14] 8 true,
    og 16 (.fieldAddr 0) [T 15] 8 true,
    og 17 (.load 1 false) [T 16] 8 true,
    og 18 (.call 178) [T 17] 8 true,
    og 19 (.eq false .int) [T 10, T 18] 8 true,
    o 20 .pick [T 8, T 19, B false],
    o 21 .move [T 20],
    og 22 (.fieldAddr 3) [T 3] 21 true,
    og 23 (.load 1 false) [T 22] 21 true,
    og 24 (.eq false .int) [T 23, I 0] 21 true,
    o 25 .pick [T 21, T 24, B false],
    o 26 .move [T 25],
    og 27 (.fieldAddr 2) [T 3] 26 true,
    og 28 (.load 1 false) [T 27] 26 true,
    og 29 .move [T 0] 26 true,
    og 30 .nilCheck [T 29] 26 true,
    og 31 (.fieldAddr 1) [T 30] 26 true,
    og 32 (.fieldAddr 20) [T 31] 26 true,
    og 33 (.load 1 false) [T 32] 26 true,
    og 34 .len [T 33] 26 true,
    og 35 (.eq false .int) [T 28, T 34] 26 true,
    o 36 .pick [T 26, T 35, B false],
    o 37 .move [T 36],
    og 38 (.fieldAddr 4) [T 3] 37 true,
    og 39 (.load 3 true) [T 38] 37 true,
    og 40 .move [T 0] 37 true,
    og 41 .nilCheck [T 40] 37 true,
    og 42 (.fieldAddr 24) [T 41] 37 true,
    og 43 (.load 3 true) [T 42] 37 true,
    og 44 (.eq false (.agg 161 [some .i64, some .i64, some .i64])) [T 39, T 43] 37 true,
    o 45 .pick [T 37, T 44, B false],
    o 4 .move [T 45]]
    [0, 0, 3, 7, 15, 31, 15, 79, 207, 463, 975, 1999, 4047, 8143, 16383, 32767, 65535, 131071, 262143, 524287, 1048575, 2097151, 4194303, 8388607, 4194303, 20971519, 54525951, 121634815, 255852543, 524287999, 1073741823, 2147483647, 4294967295, 8589934591, 17179869183, 8589934591, 42949672959, 111669149695, 249108103167, 549755813887, 1099511627775, 2199023255551])
  .ret)) }
theorem ok67 : fnOk Tryz.prog 67 m67 = true := by kernel_rfl
/-- (*tympan/state.World).Start -/
def m68 : MF := { N := 7, np := 1, res := [.cell 2 7 true], body :=
  (.seq (.region [o 2 (.alloc [.fz (.int .i64 0), .fz (.int .i64 0), .fz (.int .i64 0), .fz (.int .i64 0), .fz (.int .i64 0), .fz (.int .i64 0), .fz (.int .i64 0)]) []])
  (.seq (.region [o 3 .move [T 0],
    o 4 (.call 150) [T 3],
    o 5 (.call 179) [T 4, I 0],
    o 6 (.build [.fz (.int .i64 0), .fz (.int .i64 0), .fz (.int .i64 0), .fz (.int .i64 0), .fz (.int .i64 0), .fz (.int .i64 0), .fz (.int .i64 0)] [(0, 1)]) [T 5],
    on (.store 7) [T 2, T 6]])
  .ret)) }
theorem ok68 : fnOk Tryz.prog 68 m68 = true := by kernel_rfl
/-- tympan/tympanref04.Add -/
def m75 : MF := { N := 22, np := 2, res := [.cell 4 2 true], body :=
  (.seq (.region [o 2 .box [T 0],
    o 3 .box [T 1],
    o 4 (.alloc [.fz (.int .i64 0), .fz (.int .i64 0)]) []])
  (.seq (.draw [o 5 (.fieldAddr 0) [T 2],
    o 6 (.load 1 false) [T 5],
    o 7 (.call 190) [T 6],
    o 8 (.fieldAddr 0) [T 3],
    o 9 (.load 1 false) [T 8],
    o 10 (.call 190) [T 9],
    o 11 (.arith .add) [T 7, T 10],
    o 12 (.call 190) [T 11],
    o 13 (.fieldAddr 1) [T 2],
    o 14 (.load 1 false) [T 13],
    o 15 (.call 190) [T 14],
    o 16 (.fieldAddr 1) [T 3],
    o 17 (.load 1 false) [T 16],
    o 18 (.call 190) [T 17],
    o 19 (.arith .add) [T 15, T 18],
    o 20 (.call 190) [T 19],
    o 21 (.build [.fz (.int .i64 0), .fz (.int .i64 0)] [(0, 1), (1, 1)]) [T 12, T 20],
    on (.store 2) [T 4, T 21]]
    [0, 1, 3, 0, 8, 31, 63, 127, 0, 256, 1023, 0, 2048, 8191, 16383, 32767, 65535, 131071])
  .ret)) }
theorem ok75 : fnOk Tryz.prog 75 m75 = true := by kernel_rfl
/-- (*tympan/state.World).Next -/
def m77 : MF := { N := 86, np := 3, res := [.cell 6 7 true], body :=
  (.seq (.region [o 4 .box [T 1],
    o 5 .box [T 2],
    o 6 (.alloc [.fz (.int .i64 0), .fz (.int .i64 0), .fz (.int .i64 0), .fz (.int .i64 0), .fz (.int .i64 0), .fz (.int .i64 0), .fz (.int .i64 0)]) []])
  (.seq (.seq (.region [o 11 .move [T 0],
    o 12 (.load 7 true) [T 4],
    o 13 (.call 95) [T 11, T 12],
    o 14 .not [T 13]])
  (.cond (T 14) (.seq (.region [o 15 (.build [.fz (.int .i64 0), .fz (.int .i64 0), .fz (.int .i64 0), .fz (.int .i64 0), .fz (.int .i64 0), .fz (.int .i64 0), .fz (.int .i64 0)] []) [],
     on (.store 7) [T 6, T 15]])
   .ret) .skip))
  (.seq (.draw [o 16 (.fieldAddr 0) [T 4],
    o 17 (.load 1 false) [T 16],
    o 18 (.fieldAddr 1) [T 4],
    o 19 (.load 1 false) [T 18],
    o 20 (.arith .add) [T 19, I 1],
    o 21 .move [T 0],
    o 22 .nilCheck [T 21],
    o 23 (.fieldAddr 1) [T 22],
    o 24 (.fieldAddr 0) [T 23],
    o 25 (.fieldAddr 0) [T 24],
    o 26 (.load 1 false) [T 25],
    o 27 .min [T 20, T 26],
    o 28 (.build [.fz (.int .i64 0), .fz (.int .i64 0), .fz (.int .i64 0), .fz (.int .i64 0), .fz (.int .i64 0), .fz (.int .i64 0), .fz (.int .i64 0)] [(0, 1), (1, 1)]) [T 17, T 27],
    o 7 (.alloc [.fz (.int .i64 0), .fz (.int .i64 0), .fz (.int .i64 0), .fz (.int .i64 0), .fz (.int .i64 0), .fz (.int .i64 0), .fz (.int .i64 0)]) [],
    on (.store 7) [T 7, T 28]]
    [0, 1, 0, 4, 12, 0, 32, 96, 224, 480, 992, 2044, 4095, 0, 16383])
  (.seq (.seq (.region [o 29 (.fieldAddr 0) [T 5],
    o 30 (.load 1 false) [T 29],
    o 31 (.eq false .int) [T 30, I 1]])
  (.cond (T 31) (.draw [o 32 .move [T 0],
     o 33 .nilCheck [T 32],
     o 34 (.fieldAddr 0) [T 33],
     o 35 (.load 1 false) [T 34],
     o 36 .nilCheck [T 35],
     o 37 (.fieldAddr 0) [T 36],
     o 38 (.load 1 false) [T 37],
     o 39 (.fieldAddr 2) [T 5],
     o 40 (.load 1 false) [T 39],
     o 41 (.call 179) [T 38, T 40],
     o 42 (.fieldAddr 0) [T 7],
     on (.store 1) [T 42, T 41]]
     [0, 1, 3, 7, 15, 31, 63, 0, 128, 511, 1023, 2047]) .skip))
  (.seq (.draw [o 44 .move [T 0],
    o 45 .nilCheck [T 44],
    o 46 (.fieldAddr 1) [T 45],
    o 47 (.fieldAddr 20) [T 46],
    o 48 (.load 1 false) [T 47],
    o 49 .move [T 0],
    o 50 (.load 7 true) [T 4],
    o 51 (.fieldAddr 2) [T 5],
    o 52 (.load 1 false) [T 51],
    o 53 (.call 192) [T 49, T 50, T 52],
    o 54 (.fieldAddr 3) [T 5],
    o 55 (.load 1 false) [T 54],
    o 56 (.call 191) [T 48, T 53, T 55],
    o 43 .move [T 56],
    o 57 (.extract 0) [T 43],
    o 58 (.extract 1) [T 43],
    o 59 (.fieldAddr 2) [T 7],
    on (.store 1) [T 59, T 57],
    o 60 (.fieldAddr 3) [T 7],
    on (.store 1) [T 60, T 58]]
    [0, 1, 3, 7, 15, 0, 0, 0, 128, 480, 0, 1024, 4095, 8191, 16383, 16383, 32767, 98303, 262143, 524287])
  (.seq (.region [o 61 (.fieldAddr 4) [T 4],
    o 62 (.load 3 true) [T 61],
    o 8 (.alloc [.fz (.int .i64 0), .fz (.int .i64 0), .fz (.int .i64 0)]) [],
    on (.store 3) [T 8, T 62]])
  (.seq (.seq (.region [o 63 (.fieldAddr 4) [T 5],
    o 64 (.load 1 false) [T 63],
    o 65 (.fieldAddr 5) [T 5],
    o 66 (.load 1 false) [T 65],
    o 67 (.buildSlice 1 2) [T 64, T 66],
    o 68 .len [T 67],
    o 69 .move [I 0]])
  (.block 0 (.loop (.seq (.region [o 70 (.cmp .lss) [T 69, T 68]])
    (.seq (.cond (T 70) .skip (.exit 0))
    (.seq (.block 1 (.seq (.region [o 71 (.indexS 1) [T 67, T 69],
       o 72 (.load 1 false) [T 71],
       o 10 .move [T 72]])
     (.draw [o 73 (.load 3 true) [T 8],
       o 74 .move [T 0],
       o 75 .nilCheck [T 74],
       o 76 (.fieldAddr 1) [T 75],
       o 77 (.fieldAddr 21) [T 76],
       o 78 (.load 1 false) [T 77],
       o 79 .move [T 10],
       o 80 (.call 194) [T 78, T 79],
       o 81 (.call 193) [T 73, T 80],
       on (.store 3) [T 8, T 81]]
       [0, 0, 2, 6, 14, 30, 0, 126, 255, 511])))
    (.region [o 82 (.arith .add) [T 69, I 1],
      o 69 .move [T 82]])))))))
  (.seq (.region [o 83 (.load 3 true) [T 8],
    o 84 (.fieldAddr 4) [T 7],
    on (.store 3) [T 84, T 83]])
  (.seq (.region [o 85 (.load 7 true) [T 7],
    on (.store 7) [T 6, T 85]])
  .ret))))))))) }
theorem ok77 : fnOk Tryz.prog 77 m77 = true := by kernel_rfl
/-- tympan/valid.Right -/
def m86 : MF := { N := 12, np := 1, res := [.tmp 2], body :=
  (.seq (.region [o 1 .box [T 0],
    o 2 .move [B false]])
  (.seq (.region [o 6 (.load 22 true) [T 1],
    o 7 (.call 198) [T 6],
    o 5 .move [T 7],
    o 8 (.extract 0) [T 5],
    o 9 (.extract 1) [T 5],
    o 3 .move [T 8],
    o 4 .move [T 9]])
  (.seq (.region [o 10 .move [T 3],
    o 11 (.eq false .int) [T 10, I 0],
    o 2 .move [T 11]])
  .ret))) }
theorem ok86 : fnOk Tryz.prog 86 m86 = true := by kernel_rfl
/-- tympan/state.copied -/
def m87 : MF := { N := 36, np := 1, res := [.cell 2 22 true], body :=
  (.seq (.region [o 1 .box [T 0],
    o 2 (.alloc [.fz (.int .i64 0), .fz (.int .i64 0), .fz (.int .i64 0), .fz (.int .i64 0), .fz (.int .i64 0), .fz (.int .i64 0), .fz (.int .i64 0), .fz (.int .i64 0), .fz (.int .i64 0), .fz (.int .i64 0), .fz (.int .i64 0), .fz (.int .i64 0), .fz (.int .i64 0), .fz (.int .i64 0), .fz (.int .i64 0), .fz (.int .i64 0), .fz (.int .i64 0), .fz (.int .i64 0), .fz (.bool false), .nils, .nils, .nils]) []])
  (.seq (.draw [o 6 (.fieldAddr 0) [T 1],
    o 7 (.load 19 true) [T 6],
    o 8 (.fieldAddr 19) [T 1],
    o 9 (.load 1 false) [T 8],
    o 10 (.call 199) [T 9],
    o 11 (.fieldAddr 21) [T 1],
    o 12 (.load 1 false) [T 11],
    o 13 (.call 200) [T 12],
    o 14 (.build [.fz (.int .i64 0), .fz (.int .i64 0), .fz (.int .i64 0), .fz (.int .i64 0), .fz (.int .i64 0), .fz (.int .i64 0), .fz (.int .i64 0), .fz (.int .i64 0), .fz (.int .i64 0), .fz (.int .i64 0), .fz (.int .i64 0), .fz (.int .i64 0), .fz (.int .i64 0), .fz (.int .i64 0), .fz (.int .i64 0), .fz (.int .i64 0), .fz (.int .i64 0), .fz (.int .i64 0), .fz (.bool false), .nils, .nils, .nils] [(0, 19), (19, 1), (21, 1)]) [T 7, T 10, T 13],
    o 3 (.alloc [.fz (.int .i64 0), .fz (.int .i64 0), .fz (.int .i64 0), .fz (.int .i64 0), .fz (.int .i64 0), .fz (.int .i64 0), .fz (.int .i64 0), .fz (.int .i64 0), .fz (.int .i64 0), .fz (.int .i64 0), .fz (.int .i64 0), .fz (.int .i64 0), .fz (.int .i64 0), .fz (.int .i64 0), .fz (.int .i64 0), .fz (.int .i64 0), .fz (.int .i64 0), .fz (.int .i64 0), .fz (.bool false), .nils, .nils, .nils]) [],
    on (.store 22) [T 3, T 14]]
    [0, 1, 0, 4, 12, 0, 32, 124, 255, 0, 1023])
  (.seq (.seq (.region [o 15 (.fieldAddr 20) [T 1],
    o 16 (.load 1 false) [T 15],
    o 17 .len [T 16],
    o 18 .move [I 0]])
  (.block 0 (.loop (.seq (.region [o 19 (.cmp .lss) [T 18, T 17]])
    (.seq (.cond (T 19) .skip (.exit 0))
    (.seq (.block 1 (.seq (.region [o 20 (.indexS 2) [T 16, T 18],
       o 21 (.load 2 true) [T 20],
       o 5 (.alloc [.nils, .nils]) [],
       on (.store 2) [T 5, T 21]])
     (.draw [o 22 (.fieldAddr 20) [T 3],
       o 23 (.load 1 false) [T 22],
       o 24 (.fieldAddr 0) [T 5],
       o 25 (.load 1 false) [T 24],
       o 26 (.call 201) [T 25],
       o 27 (.fieldAddr 1) [T 5],
       o 28 (.load 1 false) [T 27],
       o 29 (.call 202) [T 28],
       o 30 (.build [.nils, .nils] [(0, 1), (1, 1)]) [T 26, T 29],
       o 31 (.buildSlice 2 1) [T 30],
       o 32 (.append 2 48) [T 23, T 31],
       o 33 (.fieldAddr 20) [T 3],
       on (.store 1) [T 33, T 32]]
       [0, 1, 0, 4, 12, 0, 32, 124, 252, 508, 1023, 2047, 4095])))
    (.region [o 34 (.arith .add) [T 18, I 1],
      o 18 .move [T 34]])))))))
  (.seq (.region [o 35 (.load 22 true) [T 3],
    on (.store 22) [T 2, T 35]])
  .ret)))) }
theorem ok87 : fnOk Tryz.prog 87 m87 = true := by kernel_rfl
/-- tympan/grid.Snap -/
def m88 : MF := { N := 58, np := 1, res := [.cell 2 22 true], body :=
  (.seq (.region [o 1 .box [T 0],
    o 2 (.alloc [.fz (.int .i64 0), .fz (.int .i64 0), .fz (.int .i64 0), .fz (.int .i64 0), .fz (.int .i64 0), .fz (.int .i64 0), .fz (.int .i64 0), .fz (.int .i64 0), .fz (.int .i64 0), .fz (.int .i64 0), .fz (.int .i64 0), .fz (.int .i64 0), .fz (.int .i64 0), .fz (.int .i64 0), .fz (.int .i64 0), .fz (.int .i64 0), .fz (.int .i64 0), .fz (.int .i64 0), .fz (.bool false), .nils, .nils, .nils]) []])
  (.seq (.region [o 6 (.fieldAddr 0) [T 1],
    o 7 (.fieldAddr 5) [T 6],
    o 8 (.load 1 false) [T 7],
    o 9 (.build [.fz (.int .i64 0)] [(0, 1)]) [T 8],
    o 3 (.alloc [.fz (.int .i64 0)]) [],
    on (.store 1) [T 3, T 9]])
  (.seq (.seq (.region [o 10 (.fieldAddr 0) [T 3],
    o 11 (.load 1 false) [T 10],
    o 12 (.cmp .lss) [T 11, I 1]])
  (.cond (T 12) (.seq (.region [o 13 (.load 22 true) [T 1],
     on (.store 22) [T 2, T 13]])
   .ret) .skip))
  (.seq (.draw [o 14 (.fieldAddr 0) [T 1],
    o 15 (.load 19 true) [T 14],
    o 16 (.load 1 true) [T 3],
    o 17 (.fieldAddr 19) [T 1],
    o 18 (.load 1 false) [T 17],
    o 19 (.call 203) [T 16, T 18],
    o 20 (.load 1 true) [T 3],
    o 21 (.fieldAddr 20) [T 1],
    o 22 (.load 1 false) [T 21],
    o 23 (.call 204) [T 20, T 22],
    o 24 (.fieldAddr 21) [T 1],
    o 25 (.load 1 false) [T 24],
    o 26 (.call 200) [T 25],
    o 27 (.build [.fz (.int .i64 0), .fz (.int .i64 0), .fz (.int .i64 0), .fz (.int .i64 0), .fz (.int .i64 0), .fz (.int .i64 0), .fz (.int .i64 0), .fz (.int .i64 0), .fz (.int .i64 0), .fz (.int .i64 0), .fz (.int .i64 0), .fz (.int .i64 0), .fz (.int .i64 0), .fz (.int .i64 0), .fz (.int .i64 0), .fz (.int .i64 0), .fz (.int .i64 0), .fz (.int .i64 0), .fz (.bool false), .nils, .nils, .nils] [(0, 19), (19, 1), (20, 1), (21, 1)]) [T 15, T 19, T 23, T 26],
    o 4 (.alloc [.fz (.int .i64 0), .fz (.int .i64 0), .fz (.int .i64 0), .fz (.int .i64 0), .fz (.int .i64 0), .fz (.int .i64 0), .fz (.int .i64 0), .fz (.int .i64 0), .fz (.int .i64 0), .fz (.int .i64 0), .fz (.int .i64 0), .fz (.int .i64 0), .fz (.int .i64 0), .fz (.int .i64 0), .fz (.int .i64 0), .fz (.int .i64 0), .fz (.int .i64 0), .fz (.int .i64 0), .fz (.bool false), .nils, .nils, .nils]) [],
    on (.store 22) [T 4, T 27]]
    [0, 1, 0, 0, 8, 28, 0, 0, 128, 508, 0, 1024, 4092, 8191, 0, 32767])
  (.seq (.region [o 28 (.load 1 true) [T 3],
    o 29 (.fieldAddr 0) [T 4],
    o 30 (.fieldAddr 3) [T 29],
    o 31 (.fieldAddr 0) [T 4],
    o 32 (.fieldAddr 4) [T 31],
    o 33 (.buildSlice 1 2) [T 30, T 32],
    o 34 (.call 205) [T 28, Fc 206, T 33]])
  (.seq (.region [o 35 (.load 1 true) [T 3],
    o 36 (.fieldAddr 0) [T 4],
    o 37 (.fieldAddr 6) [T 36],
    o 38 (.fieldAddr 0) [T 4],
    o 39 (.fieldAddr 7) [T 38],
    o 40 (.buildSlice 1 2) [T 37, T 39],
    o 41 (.call 205) [T 35, Fc 207, T 40]])
  (.seq (.seq (.region [o 42 (.fieldAddr 21) [T 4],
    o 43 (.load 1 false) [T 42],
    o 44 .len [T 43],
    o 45 .move [I 0]])
  (.block 0 (.loop (.seq (.region [o 46 (.cmp .lss) [T 45, T 44]])
    (.seq (.cond (T 46) .skip (.exit 0))
    (.seq (.block 1 (.seq (.region [o 47 .move [T 45],
       o 5 .move [T 47]])
     (.draw [o 48 (.load 1 true) [T 3],
       o 49 (.fieldAddr 21) [T 4],
       o 50 (.load 1 false) [T 49],
       o 51 .move [T 5],
       o 52 (.indexS 3) [T 50, T 51],
       o 53 (.fieldAddr 1) [T 52],
       o 54 (.buildSlice 1 1) [T 53],
       o 55 (.call 205) [T 48, Fc 207, T 54]]
       [0, 0, 2, 0, 14, 30, 62, 127])))
    (.region [o 56 (.arith .add) [T 45, I 1],
      o 45 .move [T 56]])))))))
  (.seq (.region [o 57 (.load 22 true) [T 4],
    on (.store 22) [T 2, T 57]])
  .ret)))))))) }
theorem ok88 : fnOk Tryz.prog 88 m88 = true := by kernel_rfl
/-- tympan/sums.New -/
def m89 : MF := { N := 91, np := 1, res := [.tmp 2, .tmp 3], body :=
  (.seq (.region [o 2 .move [CN .nilp],
    o 3 .move [B false]])
  (.seq (.seq (.region [o 7 .move [T 0],
    o 8 .len [T 7],
    o 9 (.cmp .gtr) [T 8, I 4096]])
  (.cond (T 9) (.seq (.region [o 2 .move [CN .nilp],
     o 3 .move [B false]])
   .ret) .skip))
  (.seq (.draw [o 10 .move [T 0],
    o 11 (.call 199) [T 10],
    o 12 .move [T 0],
    o 13 .len [T 12],
    o 14 (.arith .add) [T 13, I 1],
    o 15 (.makeSlice 6 [(.int .i64 0), (.int .i64 0), (.int .i64 0), (.int .i64 0), (.int .i64 0), (.int .i64 0)] 48) [T 14, T 14],
    o 16 .move [T 0],
    o 17 .len [T 16],
    o 18 (.arith .add) [T 17, I 1],
    o 19 (.makeSlice 1 [(.int .i64 0)] 8) [T 18, T 18],
    o 20 (.build [.nils, .nils, .nils] [(0, 1), (1, 1), (2, 1)]) [T 11, T 15, T 19],
    o 21 .box [T 20],
    o 4 .move [T 21]]
    [0, 1, 0, 4, 12, 28, 0, 64, 192, 448, 1023, 2047, 4095])
  (.seq (.seq (.region [o 22 .move [T 0],
    o 23 .len [T 22],
    o 24 .move [I 0]])
  (.block 0 (.loop (.seq (.region [o 25 (.cmp .lss) [T 24, T 23]])
    (.seq (.cond (T 25) .skip (.exit 0))
    (.seq (.block 1 (.seq (.region [o 26 .move [T 24],
       o 5 .move [T 26]])
     (.seq (.region [o 27 .move [T 0],
       o 28 .move [T 5],
       o 29 (.indexS 7) [T 27, T 28],
       o 30 (.load 7 true) [T 29],
       o 31 (.call 114) [T 30],
       o 6 (.alloc [.fz (.int .i64 0), .fz (.int .i64 0), .fz (.int .i64 0), .fz (.int .i64 0), .fz (.int .i64 0), .fz (.int .i64 0)]) [],
       on (.store 6) [T 6, T 31]])
     (.seq (.seq (.region [o 32 (.load 6 true) [T 6],
       o 33 (.call 208) [T 32],
       o 34 .not [T 33]])
     (.cond (T 34) (.seq (.region [o 2 .move [CN .nilp],
        o 3 .move [B false]])
      .ret) .skip))
     (.seq (.draw [o 36 .move [T 4],
       o 37 .nilCheck [T 36],
       o 38 (.fieldAddr 1) [T 37],
       o 39 (.load 1 false) [T 38],
       o 40 .move [T 5],
       o 41 (.arith .add) [T 40, I 1],
       o 42 .move [T 4],
       o 43 .nilCheck [T 42],
       o 44 (.fieldAddr 1) [T 43],
       o 45 (.load 1 false) [T 44],
       o 46 .move [T 5],
       o 47 (.indexS 6) [T 45, T 46],
       o 48 (.load 6 true) [T 47],
       o 49 (.load 6 true) [T 6],
       o 50 (.call 209) [T 48, T 49],
       o 35 .move [T 50],
       o 51 (.extract 0) [T 35],
       o 52 (.extract 1) [T 35],
       o 53 (.indexS 6) [T 39, T 41],
       on (.store 6) [T 53, T 51]]
       [0, 1, 3, 7, 0, 16, 0, 64, 192, 448, 0, 1984, 4032, 0, 16320, 32704, 65472, 65472, 131071, 393215])
     (.seq (.draw [o 54 .move [T 4],
       o 55 .nilCheck [T 54],
       o 56 (.fieldAddr 2) [T 55],
       o 57 (.load 1 false) [T 56],
       o 58 .move [T 5],
       o 59 (.arith .add) [T 58, I 1],
       o 60 .move [T 4],
       o 61 .nilCheck [T 60],
       o 62 (.fieldAddr 2) [T 61],
       o 63 (.load 1 false) [T 62],
       o 64 .move [T 5],
       o 65 (.indexS 1) [T 63, T 64],
       o 66 (.load 1 false) [T 65],
       o 67 (.indexS 1) [T 57, T 59],
       on (.store 1) [T 67, T 66]]
       [0, 1, 3, 7, 0, 16, 0, 64, 192, 448, 0, 1984, 4032, 8191, 16383])
     (.seq (.region [o 68 .move [T 0],
       o 69 .move [T 5],
       o 70 (.indexS 7) [T 68, T 69],
       o 71 (.fieldAddr 0) [T 70],
       o 72 (.load 1 false) [T 71],
       o 73 (.eq false .int) [T 72, I 1]])
     (.cond (T 73) (.draw [o 74 .move [T 4],
        o 75 .nilCheck [T 74],
        o 76 (.fieldAddr 2) [T 75],
        o 77 (.load 1 false) [T 76],
        o 78 .move [T 5],
        o 79 (.arith .add) [T 78, I 1],
        o 80 (.indexS 1) [T 77, T 79],
        o 81 (.load 1 false) [T 80],
        o 82 .move [T 0],
        o 83 .move [T 5],
        o 84 (.indexS 7) [T 82, T 83],
        o 85 (.fieldAddr 1) [T 84],
        o 86 (.load 1 false) [T 85],
        o 87 (.arith .add) [T 81, T 86],
        o 88 (.indexS 1) [T 77, T 79],
        on (.store 1) [T 88, T 87]]
        [0, 1, 3, 7, 0, 16, 63, 127, 0, 0, 768, 1792, 3840, 8191, 16383, 32767]) .skip))))))))
    (.region [o 89 (.arith .add) [T 24, I 1],
      o 24 .move [T 89]])))))))
  (.seq (.region [o 90 .move [T 4],
    o 2 .move [T 90],
    o 3 .move [B true]])
  .ret))))) }
theorem ok89 : fnOk Tryz.prog 89 m89 = true := by kernel_rfl
/-- tympan/vlist.New -/
def m90 : MF := { N := 7, np := 1, res := [.tmp 2], body :=
  (.seq (.region [o 2 .move [CN .nilp]])
  (.seq (.region [o 3 .move [T 0],
    o 4 (.call 199) [T 3],
    o 5 (.build [.nils] [(0, 1)]) [T 4],
    o 6 .box [T 5],
    o 2 .move [T 6]])
  .ret)) }
theorem ok90 : fnOk Tryz.prog 90 m90 = true := by kernel_rfl
/-- tympan/anchor.New -/
def m91 : MF := { N := 120, np := 2, res := [.tmp 4], body :=
  (.seq (.region [o 4 .move [CN .nilp]])
  (.seq (.region [o 13 .move [T 0],
    o 14 (.call 199) [T 13],
    o 15 (.buildSlice 1 1) [I 0],
    o 16 (.build [.fz (.int .i64 0), .fz (.int .i64 0), .fz (.int .i64 0)] []) [],
    o 17 (.buildSlice 3 1) [T 16],
    o 18 (.build [.fz (.int .i64 0), .fz (.int .i64 0), .fz (.int .i64 0)] []) [],
    o 19 (.buildSlice 3 1) [T 18],
    o 20 (.build [.nils, .nils, .nils, .nils] [(0, 1), (1, 1), (2, 1), (3, 1)]) [T 14, T 15, T 17, T 19],
    o 21 .box [T 20],
    o 5 .move [T 21]])
  (.seq (.seq (.region [o 22 .move [T 0],
    o 23 .len [T 22],
    o 24 .move [I 0]])
  (.block 0 (.loop (.seq (.region [o 25 (.cmp .lss) [T 24, T 23]])
    (.seq (.cond (T 25) .skip (.exit 0))
    (.seq (.block 1 (.seq (.region [o 26 .move [T 24],
       o 27 (.indexS 7) [T 22, T 24],
       o 28 (.load 7 true) [T 27],
       o 7 (.alloc [.fz (.int .i64 0), .fz (.int .i64 0), .fz (.int .i64 0), .fz (.int .i64 0), .fz (.int .i64 0), .fz (.int .i64 0), .fz (.int .i64 0)]) [],
       o 6 .move [T 26],
       on (.store 7) [T 7, T 28]])
     (.seq (.draw [o 29 .move [T 5],
       o 30 .nilCheck [T 29],
       o 31 (.fieldAddr 1) [T 30],
       o 32 (.load 1 false) [T 31],
       o 33 .move [T 6],
       o 34 (.indexS 1) [T 32, T 33],
       o 35 (.load 1 false) [T 34],
       o 36 .move [T 5],
       o 37 .nilCheck [T 36],
       o 38 (.fieldAddr 2) [T 37],
       o 39 (.load 1 false) [T 38],
       o 40 .move [T 6],
       o 41 (.indexS 3) [T 39, T 40],
       o 42 (.load 3 true) [T 41],
       o 43 .move [T 5],
       o 44 .nilCheck [T 43],
       o 45 (.fieldAddr 3) [T 44],
       o 46 (.load 1 false) [T 45],
       o 47 .move [T 6],
       o 48 (.indexS 3) [T 46, T 47],
       o 49 (.load 3 true) [T 48],
       o 9 (.alloc [.fz (.int .i64 0), .fz (.int .i64 0), .fz (.int .i64 0)]) [],
       o 10 (.alloc [.fz (.int .i64 0), .fz (.int .i64 0), .fz (.int .i64 0)]) [],
       o 8 .move [T 35],
       on (.store 3) [T 9, T 42],
       on (.store 3) [T 10, T 49]]
       [0, 1, 3, 7, 0, 31, 63, 0, 128, 384, 896, 0, 3968, 8064, 0, 16384, 49152, 114688, 0, 507904, 1032192, 0, 0, 6291583, 14696447, 33554431])
     (.seq (.seq (.region [o 50 (.fieldAddr 0) [T 7],
       o 51 (.load 1 false) [T 50]])
     (.block 2 (.seq (.region [o 53 (.eq false .int) [T 51, I 5],
        o 52 .move [T 53]])
      (.cond (T 52) (.region [o 54 .move [T 8],
         o 55 (.arith .add) [T 54, I 1],
         o 8 .move [T 55]]) (.seq (.region [o 57 (.eq false .int) [T 51, I 6],
         o 56 .move [T 57]])
       (.cond (T 56) (.seq (.region [o 59 .move [T 1],
          o 60 (.fieldAddr 6) [T 7],
          o 61 (.load 1 false) [T 60],
          o 62 (.call 106) [T 59, T 61],
          o 58 .move [T 62],
          o 63 (.extract 0) [T 58],
          o 64 (.extract 1) [T 58],
          o 11 (.alloc [.fz (.int .i64 0), .fz (.int .i64 0), .fz (.int .i64 0)]) [],
          on (.store 3) [T 11, T 63],
          o 12 .move [T 64]])
        (.seq (.region [o 65 .move [T 12],
          o 66 .move [T 65],
          og 67 (.fieldAddr 0) [T 11] 66 true,
          og 68 (.load 1 false) [T 67] 66 true,
          og 69 (.cmp .geq) [T 68, I 0] 66 true,
          o 70 .pick [T 66, T 69, B false],
          o 71 .move [T 70],
          og 72 (.fieldAddr 0) [T 11] 71 true,
          og 73 (.load 1 false) [T 72] 71 true,
          og 74 (.cmp .lss) [T 73, I 3] 71 true,
          o 75 .pick [T 71, T 74, B false]])
        (.cond (T 75) (.region [o 76 (.fieldAddr 0) [T 11],
           o 77 (.load 1 false) [T 76],
           o 78 (.indexA 3 1) [T 9, T 77],
           o 79 (.load 1 false) [T 78],
           o 80 (.arith .add) [T 79, I 1],
           o 81 (.indexA 3 1) [T 9, T 77],
           on (.store 1) [T 81, T 80]]) .skip))) (.seq (.region [o 83 (.eq false .int) [T 51, I 7],
          o 82 .move [T 83]])
        (.cond (T 82) (.seq (.region [o 84 (.load 3 true) [T 10],
           o 85 (.load 3 true) [T 9],
           o 86 (.eq true (.agg 30 [some .i64, some .i64, some .i64])) [T 84, T 85]])
         (.cond (T 86) (.region [o 87 (.load 3 true) [T 9],
            on (.store 3) [T 10, T 87]]) .skip)) .skip))))))))
     (.draw [o 88 .move [T 5],
       o 89 .move [T 5],
       o 90 .move [T 5],
       o 91 .move [T 5],
       o 92 .nilCheck [T 91],
       o 93 (.fieldAddr 1) [T 92],
       o 94 (.load 1 false) [T 93],
       o 95 .move [T 8],
       o 96 (.buildSlice 1 1) [T 95],
       o 97 (.append 1 8) [T 94, T 96],
       o 98 .move [T 5],
       o 99 .nilCheck [T 98],
       o 100 (.fieldAddr 2) [T 99],
       o 101 (.load 1 false) [T 100],
       o 102 (.load 3 true) [T 9],
       o 103 (.buildSlice 3 1) [T 102],
       o 104 (.append 3 24) [T 101, T 103],
       o 105 .move [T 5],
       o 106 .nilCheck [T 105],
       o 107 (.fieldAddr 3) [T 106],
       o 108 (.load 1 false) [T 107],
       o 109 (.load 3 true) [T 10],
       o 110 (.buildSlice 3 1) [T 109],
       o 111 (.append 3 24) [T 108, T 110],
       o 112 .nilCheck [T 88],
       o 113 (.fieldAddr 1) [T 112],
       on (.store 1) [T 113, T 97],
       o 114 .nilCheck [T 89],
       o 115 (.fieldAddr 2) [T 114],
       on (.store 1) [T 115, T 104],
       o 116 .nilCheck [T 90],
       o 117 (.fieldAddr 3) [T 116],
       on (.store 1) [T 117, T 111]]
       [0, 0, 0, 0, 8, 24, 56, 0, 128, 504, 0, 1024, 3072, 7168, 0, 16384, 65528, 0, 131072, 393216, 917504, 0, 2097152, 8388600, 16777209, 33554425, 67108857, 134217723, 268435451, 536870907, 1073741823, 2147483647, 4294967295])))))
    (.region [o 118 (.arith .add) [T 24, I 1],
      o 24 .move [T 118]])))))))
  (.seq (.region [o 119 .move [T 5],
    o 4 .move [T 119]])
  .ret)))) }
theorem ok91 : fnOk Tryz.prog 91 m91 = true := by kernel_rfl
/-- (*tympan/anchor.Map).Ahead -/
def m92 : MF := { N := 22, np := 2, res := [.cell 4 3 true], body :=
  (.seq (.region [o 4 (.alloc [.fz (.int .i64 0), .fz (.int .i64 0), .fz (.int .i64 0)]) []])
  (.seq (.region [o 7 .move [T 0],
    o 8 .move [T 1],
    o 9 (.call 210) [T 7, T 8],
    o 6 .move [T 9],
    o 10 (.extract 0) [T 6],
    o 11 (.extract 1) [T 6],
    o 1 .move [T 10],
    o 5 .move [T 11]])
  (.seq (.seq (.region [o 12 .move [T 5],
    o 13 .not [T 12]])
  (.cond (T 13) (.seq (.region [o 14 (.build [.fz (.int .i64 0), .fz (.int .i64 0), .fz (.int .i64 0)] []) [],
     on (.store 3) [T 4, T 14]])
   .ret) .skip))
  (.seq (.region [o 15 .move [T 0],
    o 16 .nilCheck [T 15],
    o 17 (.fieldAddr 2) [T 16],
    o 18 (.load 1 false) [T 17],
    o 19 .move [T 1],
    o 20 (.indexS 3) [T 18, T 19],
    o 21 (.load 3 true) [T 20],
    on (.store 3) [T 4, T 21]])
  .ret)))) }
theorem ok92 : fnOk Tryz.prog 92 m92 = true := by kernel_rfl
/-- tympan/note.Lines -/
def m93 : MF := { N := 19, np := 1, res := [.tmp 2], body :=
  (.seq (.region [o 2 .move [I 0]])
  (.seq (.region [o 3 .move [I 0]])
  (.seq (.seq (.region [o 6 .move [T 0],
    o 7 .len [T 6],
    o 8 .move [I 0]])
  (.block 0 (.loop (.seq (.region [o 9 (.cmp .lss) [T 8, T 7]])
    (.seq (.cond (T 9) .skip (.exit 0))
    (.seq (.block 1 (.seq (.region [o 10 (.indexS 2) [T 6, T 8],
       o 11 (.load 2 true) [T 10],
       o 5 (.alloc [.nils, .nils]) [],
       on (.store 2) [T 5, T 11]])
     (.region [o 12 .move [T 3],
       o 13 (.fieldAddr 0) [T 5],
       o 14 (.load 1 false) [T 13],
       o 15 .len [T 14],
       o 16 (.arith .add) [T 12, T 15],
       o 3 .move [T 16]])))
    (.region [o 17 (.arith .add) [T 8, I 1],
      o 8 .move [T 17]])))))))
  (.seq (.region [o 18 .move [T 3],
    o 2 .move [T 18]])
  .ret)))) }
theorem ok93 : fnOk Tryz.prog 93 m93 = true := by kernel_rfl
/-- tympan/legal.Check -/
def m94 : MF := { N := 72, np := 3, res := [.tmp 6], body :=
  (.seq (.region [o 4 .box [T 1],
    o 5 .box [T 2],
    o 6 .move [I 0]])
  (.seq (.draw [o 15 (.call 211) [],
    o 16 (.fieldAddr 0) [T 5],
    o 17 (.load 1 false) [T 16],
    o 18 (.lookup none [(.sl 0 [])] false true) [T 15, T 17],
    o 14 .move [T 18],
    o 19 (.extract 0) [T 14],
    o 20 (.extract 1) [T 14],
    o 7 .move [T 19],
    o 8 .move [T 20]]
    [0, 0, 2, 7, 15, 31, 31, 63, 255])
  (.seq (.seq (.region [o 21 .move [T 8],
    o 22 .not [T 21],
    o 23 .move [T 22],
    og 24 .move [T 0] 23 false,
    og 25 (.load 7 true) [T 4] 23 false,
    og 26 (.call 95) [T 24, T 25] 23 false,
    og 27 .not [T 26] 23 false,
    o 28 .pick [T 23, B true, T 27],
    o 29 .move [T 28],
    og 30 .move [T 0] 29 false,
    og 31 (.load 7 true) [T 4] 29 false,
    og 32 (.call 67) [T 30, T 31] 29 false,
    o 33 .pick [T 29, B true, T 32],
    o 34 .move [T 33],
    og 35 (.fieldAddr 1) [T 5] 34 false,
    og 36 (.load 1 false) [T 35] 34 false,
    og 37 (.fieldAddr 0) [T 4] 34 false,
    og 38 (.load 1 false) [T 37] 34 false,
    og 39 (.eq true .int) [T 36, T 38] 34 false,
    o 40 .pick [T 34, B true, T 39]])
  (.cond (T 40) (.seq (.region [o 6 .move [I 19]])
   .ret) .skip))
  (.seq (.draw [o 41 .move [T 0],
    o 42 (.load 7 true) [T 4],
    o 43 (.load 6 true) [T 5],
    o 44 .move [T 0],
    o 45 (.call 25) [T 44],
    o 46 (.build [.fz .nilp, .fz (.int .i64 0), .fz (.int .i64 0), .fz (.int .i64 0), .fz (.int .i64 0), .fz (.int .i64 0), .fz (.int .i64 0), .fz (.int .i64 0), .fz (.int .i64 0), .fz (.int .i64 0), .fz (.int .i64 0), .nils, .nils, .nils, .fz (.int .i64 0), .fz (.int .i64 0), .fz (.int .i64 0), .fz (.int .i64 0), .fz (.int .i64 0), .fz (.int .i64 0), .fz (.int .i64 0), .fz (.int .i64 0), .fz (.int .i64 0), .fz (.int .i64 0), .fz (.int .i64 0), .fz (.int .i64 0), .fz (.int .i64 0), .fz (.int .i64 0), .fz (.int .i64 0), .fz (.int .i64 0), .fz (.int .i64 0), .fz (.int .i64 0), .fz (.bool false), .nils, .nils, .nils] [(0, 1), (1, 7), (8, 6), (14, 22)]) [T 41, T 42, T 43, T 45],
    o 9 (.alloc [.fz .nilp, .fz (.int .i64 0), .fz (.int .i64 0), .fz (.int .i64 0), .fz (.int .i64 0), .fz (.int .i64 0), .fz (.int .i64 0), .fz (.int .i64 0), .fz (.int .i64 0), .fz (.int .i64 0), .fz (.int .i64 0), .nils, .nils, .nils, .fz (.int .i64 0), .fz (.int .i64 0), .fz (.int .i64 0), .fz (.int .i64 0), .fz (.int .i64 0), .fz (.int .i64 0), .fz (.int .i64 0), .fz (.int .i64 0), .fz (.int .i64 0), .fz (.int .i64 0), .fz (.int .i64 0), .fz (.int .i64 0), .fz (.int .i64 0), .fz (.int .i64 0), .fz (.int .i64 0), .fz (.int .i64 0), .fz (.int .i64 0), .fz (.int .i64 0), .fz (.bool false), .nils, .nils, .nils]) [],
    on (.store 36) [T 9, T 46]]
    [0, 0, 0, 0, 8, 31, 0, 127])
  (.seq (.seq (.region [o 47 .move [T 7],
    o 48 .len [T 47],
    o 49 .move [I 0]])
  (.block 0 (.loop (.seq (.region [o 50 (.cmp .lss) [T 49, T 48]])
    (.seq (.cond (T 50) .skip (.exit 0))
    (.seq (.block 1 (.seq (.region [o 51 (.indexS 2) [T 47, T 49],
       o 52 (.load 2 true) [T 51],
       o 11 (.alloc [.fz (.int .i64 0), .fz .nilf]) [],
       on (.store 2) [T 11, T 52]])
     (.seq (.region [o 53 (.fieldAddr 1) [T 11],
       o 54 (.load 1 false) [T 53],
       o 55 (.load 36 true) [T 9],
       o 56 .callv [T 54, T 55]])
     (.cond (T 56) (.seq (.region [o 57 (.fieldAddr 0) [T 11],
        o 58 (.load 1 false) [T 57],
        o 6 .move [T 58]])
      .ret) .skip))))
    (.region [o 59 (.arith .add) [T 49, I 1],
      o 49 .move [T 59]])))))))
  (.seq (.seq (.region [o 60 (.load 36 true) [T 9],
    o 61 (.call 212) [T 60]])
  (.cond (T 61) (.seq (.region [o 63 .move [T 0],
     o 64 (.load 7 true) [T 4],
     o 65 (.call 213) [T 63, T 64],
     o 62 .move [T 65],
     o 66 (.extract 0) [T 62],
     o 67 (.extract 1) [T 62],
     o 12 (.alloc [.fz (.int .i64 0), .fz (.int .i64 0), .fz (.int .i64 0), .nils, .nils, .nils]) [],
     on (.store 6) [T 12, T 66],
     o 13 .move [T 67]])
   (.seq (.region [o 68 (.load 6 true) [T 5],
     o 69 (.load 6 true) [T 12],
     o 70 (.call 214) [T 68, T 69],
     o 71 .not [T 70]])
   (.cond (T 71) (.seq (.region [o 6 .move [I 17]])
    .ret) .skip))) .skip))
  (.seq (.region [o 6 .move [I 0]])
  .ret))))))) }
theorem ok94 : fnOk Tryz.prog 94 m94 = true := by kernel_rfl
/-- (*tympan/state.World).Right -/
def m95 : MF := { N := 81, np := 2, res := [.tmp 4], body :=
  (.seq (.region [o 3 .box [T 1],
    o 4 .move [B false]])
  (.seq (.seq (.draw [o 6 .move [T 0],
    o 7 (.eq false .ptr) [T 6, CN .nilp],
    o 8 .move [T 7],
    og 9 (.fieldAddr 0) [T 3] 8 false,
    og 10 (.load 1 false) [T 9] 8 false,
    og 11 (.cmp .lss) [T 10, I 0] 8 false,
    o 12 .pick [T 8, B true, T 11],
    o 13 .move [T 12],
    og 14 (.fieldAddr 0) [T 3] 13 false,
    og 15 (.load 1 false) [T 14] 13 false,
    og 16 .move [T 0] 13 false,
    og 17 .nilCheck [T 16] 13 false,
    og 18 (.fieldAddr 0) [T 17] 13 false,
    og 19 (.load 1 false) [T 18] 13 false,
    og 20 .nilCheck [T 19] 13 false,
    og 21 (.fieldAddr 0) [T 20] 13 false,
    og 22 (.load 1 false) [T 21] 13 false,
    og 23 (.call 178) [T 22] 13 false,
    og 24 (.cmp .gtr) [T 15, T 23] 13 false,
    o 25 .pick [T 13, B true, T 24],
    o 26 .move [T 25],
    og 27 .move [T 0] 26 false,
    og 28 .nilCheck [T 27] 26 false,
    og 29 (.fieldAddr 0) [T 28] 26 false,
    og 30 (.load 1 false) [T 29] 26 false,
    og 31 .nilCheck [T 30] 26 false,
    og 32 (.fieldAddr 0) [T 31] 26 false,
    og 33 (.load 1 false) [T 32] 26 false,
    og 34 (.fieldAddr 0) [T 3] 26 false,
    og 35 (.load 1 false) [T 34] 26 false,
    og 36 (.call 179) [T 33, T 35] 26 false,
    og 37 (.fieldAddr 0) [T 3] 26 false,
    og 38 (.load 1 false) [T 37] 26 false,
    og 39 (.eq true .int) [T 36, T 38] 26 false,
    o 40 .pick [T 26, B true, T 39],
    o 41 .move [T 40],
    og 42 (.fieldAddr 1) [T 3] 41 false,
    og 43 (.load 1 false) [T 42] 41 false,
    og 44 (.cmp .lss) [T 43, I 0] 41 false,
    o 45 .pick [T 41, B true, T 44],
    o 46 .move [T 45],
    og 47 (.fieldAddr 1) [T 3] 46 false,
    og 48 (.load 1 false) [T 47] 46 false,
    og 49 .move [T 0] 46 false,
    og 50 .nilCheck [T 49] 46 false,
    og 51 (.fieldAddr 1) [T 50] 46 false,
    og 52 (.fieldAddr 0) [T 51] 46 false,
    og 53 (.fieldAddr 0) [T 52] 46 false,
    og 54 (.load 1 false) [T 53] 46 false,
    og 55 (.cmp .gtr) [T 48, T 54] 46 false,
    o 56 .pick [T 46, B true, T 55]]
    [0, 1, 3, 7, 15, 31, 63, 127, 255, 511, 255, 1279, 3327, 7423, 15615, 31999, 64767, 130303, 262143, 524287, 1048575, 2097151, 4194303, 8388607, 16777215, 33554431, 67108863, 134217727, 2097151, 270532607, 1073741823, 2097151, 2149580799, 8589934591, 17179869183, 34359738367, 68719476735, 137438953471, 274877906943, 549755813887, 1099511627775, 2199023255551, 4398046511103, 2199023255551, 10995116277759, 28587302322175, 63771674411007, 134140418588671, 274877906943999, 562949953421311, 1125899906842623])
  (.cond (T 56) (.seq (.region [o 4 .move [B false]])
   .ret) .skip))
  (.seq (.region [o 57 (.fieldAddr 4) [T 3],
    o 58 (.load 3 true) [T 57],
    o 5 (.alloc [.fz (.int .i64 0), .fz (.int .i64 0), .fz (.int .i64 0)]) [],
    on (.store 3) [T 5, T 58]])
  (.seq (.draw [o 59 .move [T 0],
    o 60 (.load 7 true) [T 3],
    o 61 (.call 215) [T 59, T 60],
    o 62 .move [T 61],
    og 63 (.build [.fz (.int .i64 0), .fz (.int .i64 0), .fz (.int .i64 0)] []) [] 62 true,
    og 64 (.load 3 true) [T 5] 62 true,
    og 65 (.call 216) [T 63, T 64] 62 true,
    o 66 .pick [T 62, T 65, B false],
    o 67 .move [T 66],
    og 68 (.load 3 true) [T 5] 67 true,
    og 69 .move [T 0] 67 true,
    og 70 .nilCheck [T 69] 67 true,
    og 71 (.fieldAddr 0) [T 70] 67 true,
    og 72 (.load 1 false) [T 71] 67 true,
    og 73 .nilCheck [T 72] 67 true,
    og 74 (.fieldAddr 2) [T 73] 67 true,
    og 75 (.load 1 false) [T 74] 67 true,
    og 76 (.fieldAddr 0) [T 3] 67 true,
    og 77 (.load 1 false) [T 76] 67 true,
    og 78 (.call 92) [T 75, T 77] 67 true,
    og 79 (.call 216) [T 68, T 78] 67 true,
    o 80 .pick [T 67, T 79, B false],
    o 4 .move [T 80]]
    [0, 0, 3, 7, 15, 15, 63, 127, 255, 511, 511, 1535, 3583, 7679, 15871, 32255, 65023, 511, 131583, 523775, 1048575, 2097151, 4194303])
  .ret)))) }
theorem ok95 : fnOk Tryz.prog 95 m95 = true := by kernel_rfl
/-- tympan/split.High -/
def m99 : MF := { N := 47, np := 3, res := [.tmp 6], body :=
  (.seq (.region [o 6 .move [I 0]])
  (.seq (.seq (.region [o 10 .move [T 1],
    o 11 .len [T 10],
    o 12 (.eq false .int) [T 11, I 0]])
  (.cond (T 12) (.seq (.region [o 6 .move [I 0]])
   .ret) .skip))
  (.seq (.region [o 13 .move [T 2],
    o 14 .max [T 13, I 0],
    o 15 .min [T 14, I 1125899906842624],
    o 7 .move [T 15]])
  (.seq (.seq (.region [o 16 .move [T 1],
    o 17 .len [T 16],
    o 18 .move [I 0]])
  (.block 0 (.loop (.seq (.region [o 19 (.cmp .lss) [T 18, T 17]])
    (.seq (.cond (T 19) .skip (.exit 0))
    (.seq (.block 1 (.seq (.region [o 20 (.indexS 3) [T 16, T 18],
       o 21 (.load 3 true) [T 20],
       o 9 (.alloc [.fz (.int .i64 0), .fz (.int .i64 0), .fz (.int .i64 0)]) [],
       on (.store 3) [T 9, T 21]])
     (.seq (.region [o 22 (.fieldAddr 0) [T 9],
       o 23 (.load 1 false) [T 22],
       o 24 (.cmp .geq) [T 23, I 0],
       o 25 .move [T 24],
       og 26 (.fieldAddr 0) [T 9] 25 true,
       og 27 (.load 1 false) [T 26] 25 true,
       og 28 .move [T 0] 25 true,
       og 29 .len [T 28] 25 true,
       og 30 (.cmp .lss) [T 27, T 29] 25 true,
       o 31 .pick [T 25, T 30, B false]])
     (.cond (T 31) (.draw [o 32 .move [T 7],
        o 33 .move [T 0],
        o 34 (.fieldAddr 0) [T 9],
        o 35 (.load 1 false) [T 34],
        o 36 (.indexS 2) [T 33, T 35],
        o 37 (.load 2 true) [T 36],
        o 38 (.fieldAddr 1) [T 9],
        o 39 (.load 1 false) [T 38],
        o 40 (.fieldAddr 2) [T 9],
        o 41 (.load 1 false) [T 40],
        o 42 (.call 219) [T 37, T 39, T 41],
        o 43 (.arith .add) [T 32, T 42],
        o 44 .min [T 43, I 1125899906842624],
        o 7 .move [T 44]]
        [0, 0, 0, 4, 14, 30, 0, 64, 0, 256, 1022, 2047, 4095, 8191]) .skip))))
    (.region [o 45 (.arith .add) [T 18, I 1],
      o 18 .move [T 45]])))))))
  (.seq (.region [o 46 .move [T 7],
    o 6 .move [T 46]])
  .ret))))) }
theorem ok99 : fnOk Tryz.prog 99 m99 = true := by kernel_rfl
/-- tympan/area.High -/
def m100 : MF := { N := 20, np := 3, res := [.tmp 6], body :=
  (.seq (.region [o 3 .box [T 0],
    o 5 .box [T 2],
    o 6 .move [I 0]])
  (.seq (.draw [o 7 .move [T 1],
    o 8 (.fieldAddr 0) [T 5],
    o 9 (.load 1 false) [T 8],
    o 10 (.fieldAddr 7) [T 3],
    o 11 (.load 1 false) [T 10],
    o 12 (.call 24) [T 7, T 9, T 11],
    o 13 .move [T 1],
    o 14 (.fieldAddr 1) [T 5],
    o 15 (.load 1 false) [T 14],
    o 16 (.fieldAddr 7) [T 3],
    o 17 (.load 1 false) [T 16],
    o 18 (.call 24) [T 13, T 15, T 17],
    o 19 (.arith .add) [T 12, T 18],
    o 6 .move [T 19]]
    [0, 0, 2, 0, 8, 31, 0, 0, 128, 0, 512, 2047, 4095, 8191])
  .ret)) }
theorem ok100 : fnOk Tryz.prog 100 m100 = true := by kernel_rfl
/-- tympan/column.last -/
def m102 : MF := { N := 36, np := 2, res := [.tmp 4], body :=
  (.seq (.region [o 3 .box [T 1],
    o 4 .move [B false]])
  (.seq (.seq (.region [o 7 (.fieldAddr 0) [T 3],
    o 8 (.load 1 false) [T 7],
    o 9 (.eq true .int) [T 8, I 1]])
  (.cond (T 9) (.seq (.region [o 4 .move [B false]])
   .ret) .skip))
  (.seq (.draw [o 11 .move [T 0],
    o 12 (.call 150) [T 11],
    o 13 (.fieldAddr 2) [T 3],
    o 14 (.load 1 false) [T 13],
    o 15 (.call 220) [T 12, T 14],
    o 10 .move [T 15],
    o 16 (.extract 0) [T 10],
    o 17 (.extract 1) [T 10],
    o 5 (.alloc [.fz (.int .i64 0), .fz (.int .i64 0), .fz (.int .i64 0), .fz (.int .i64 0), .fz (.int .i64 0), .fz (.int .i64 0), .fz (.int .i64 0)]) [],
    on (.store 7) [T 5, T 16],
    o 6 .move [T 17]]
    [0, 1, 0, 4, 15, 31, 63, 63, 0, 383, 1023])
  (.seq (.draw [o 18 (.fieldAddr 2) [T 3],
    o 19 (.load 1 false) [T 18],
    o 20 .move [T 0],
    o 21 (.call 150) [T 20],
    o 22 (.call 178) [T 21],
    o 23 (.eq false .int) [T 19, T 22],
    o 24 .move [T 23],
    og 25 .move [T 6] 24 false,
    og 26 .move [T 25] 24 false,
    og 27 (.fieldAddr 2) [T 3] 26 true,
    og 28 (.load 1 false) [T 27] 26 true,
    og 29 (.cmp .gtr) [T 28, I 0] 26 true,
    og 30 .pick [T 26, T 29, B false] 24 false,
    og 31 .move [T 30] 24 false,
    og 32 (.load 7 true) [T 5] 31 true,
    og 33 (.call 221) [T 32] 31 true,
    og 34 .pick [T 31, T 33, B false] 24 false,
    o 35 .pick [T 24, B true, T 34],
    o 4 .move [T 35]]
    [0, 1, 0, 4, 12, 31, 63, 127, 255, 511, 1023, 2047, 4095, 8191, 16383, 32767, 65535, 131071, 262143])
  .ret)))) }
theorem ok102 : fnOk Tryz.prog 102 m102 = true := by kernel_rfl
/-- tympan/gset.Of -/
def m103 : MF := { N := 74, np := 3, res := [.cell 6 5 true], body :=
  (.seq (.region [o 3 .box [T 0],
    o 6 (.alloc [.fz (.int .i64 0), .fz (.int .i64 0), .fz (.int .i64 0), .fz (.int .i64 0), .fz (.int .i64 0)]) []])
  (.seq (.seq (.region [o 9 (.load 6 true) [T 3],
    o 10 .move [T 1],
    o 11 (.call 222) [T 9, T 10],
    o 12 .not [T 11]])
  (.cond (T 12) (.seq (.region [o 13 (.build [.fz (.int .i64 0), .fz (.int .i64 0), .fz (.int .i64 0), .fz (.int .i64 0), .fz (.int .i64 0)] []) [],
     on (.store 5) [T 6, T 13]])
   .ret) .skip))
  (.seq (.draw [o 14 .move [T 1],
    o 15 (.fieldAddr 0) [T 3],
    o 16 (.load 1 false) [T 15],
    o 17 (.arith .sub) [T 14, T 16],
    o 18 (.load 6 true) [T 3],
    o 19 (.call 223) [T 18],
    o 7 .move [T 17],
    o 8 .move [T 19]]
    [0, 0, 2, 7, 0, 16, 63, 127])
  (.seq (.block 0 (.seq (.region [o 21 .move [T 7],
     o 22 (.eq false .int) [T 21, I 0],
     o 20 .move [T 22]])
   (.cond (T 20) (.seq (.region [o 23 (.build [.fz (.int .i64 0), .fz (.int .i64 0), .fz (.int .i64 0), .fz (.int .i64 0), .fz (.int .i64 0)] []) [],
      on (.store 5) [T 6, T 23]])
    .ret) (.seq (.region [o 25 .move [T 7],
      o 26 (.cmp .gtr) [T 25, I 0],
      o 27 .move [T 26],
      og 28 .move [T 8] 27 true,
      og 29 (.fieldAddr 1) [T 3] 27 true,
      og 30 (.indexA 4 1) [T 29, T 28] 27 true,
      og 31 (.load 1 false) [T 30] 27 true,
      og 32 (.cmp .gtr) [T 31, I 0] 27 true,
      o 33 .pick [T 27, T 32, B false],
      o 34 .move [T 33],
      og 35 .move [T 2] 34 true,
      og 36 .move [T 35] 34 true,
      og 37 .move [T 8] 36 true,
      og 38 (.eq false .int) [T 37, I 0] 36 true,
      og 39 .pick [T 36, T 38, B false] 34 true,
      og 40 .not [T 39] 34 true,
      o 41 .pick [T 34, T 40, B false],
      o 24 .move [T 41]])
    (.cond (T 24) (.seq (.region [o 42 .move [T 8],
       o 43 .move [T 7],
       o 44 .move [T 8],
       o 45 (.fieldAddr 1) [T 3],
       o 46 (.indexA 4 1) [T 45, T 44],
       o 47 (.load 1 false) [T 46],
       o 48 (.build [.fz (.int .i64 0), .fz (.int .i64 0), .fz (.int .i64 0), .fz (.int .i64 0), .fz (.int .i64 0)] [(0, 1), (1, 1), (2, 1), (3, 1)]) [I 1, T 42, T 43, T 47],
       on (.store 5) [T 6, T 48]])
     .ret) (.seq (.region [o 50 .move [T 7],
       o 51 (.cmp .gtr) [T 50, I 0],
       o 49 .move [T 51]])
     (.cond (T 49) (.seq (.region [o 52 .move [T 7],
        o 53 (.build [.fz (.int .i64 0), .fz (.int .i64 0), .fz (.int .i64 0), .fz (.int .i64 0), .fz (.int .i64 0)] [(4, 1)]) [T 52],
        on (.store 5) [T 6, T 53]])
      .ret) (.seq (.region [o 55 (.fieldAddr 5) [T 3],
        o 56 (.load 1 false) [T 55],
        o 57 .move [T 7],
        o 58 (.arith .add) [T 56, T 57],
        o 59 (.cmp .geq) [T 58, I 0],
        o 54 .move [T 59]])
      (.cond (T 54) (.seq (.region [o 60 .move [T 7],
         o 61 .neg [T 60],
         o 62 (.fieldAddr 5) [T 3],
         o 63 (.load 1 false) [T 62],
         o 64 (.build [.fz (.int .i64 0), .fz (.int .i64 0), .fz (.int .i64 0), .fz (.int .i64 0), .fz (.int .i64 0)] [(0, 1), (2, 1), (3, 1)]) [I 2, T 61, T 63],
         on (.store 5) [T 6, T 64]])
       .ret) .skip)))))))))
  (.seq (.region [o 65 (.fieldAddr 5) [T 3],
    o 66 (.load 1 false) [T 65],
    o 67 (.fieldAddr 5) [T 3],
    o 68 (.load 1 false) [T 67],
    o 69 (.fieldAddr 5) [T 3],
    o 70 (.load 1 false) [T 69],
    o 71 .move [T 7],
    o 72 (.arith .add) [T 70, T 71],
    o 73 (.build [.fz (.int .i64 0), .fz (.int .i64 0), .fz (.int .i64 0), .fz (.int .i64 0), .fz (.int .i64 0)] [(0, 1), (2, 1), (3, 1), (4, 1)]) [I 3, T 66, T 68, T 72],
    on (.store 5) [T 6, T 73]])
  .ret))))) }
theorem ok103 : fnOk Tryz.prog 103 m103 = true := by kernel_rfl
/-- (*tympan/sums.Sums).Of -/
def m104 : MF := { N := 40, np := 3, res := [.cell 6 6 true], body :=
  (.seq (.region [o 6 (.alloc [.fz (.int .i64 0), .fz (.int .i64 0), .fz (.int .i64 0), .fz (.int .i64 0), .fz (.int .i64 0), .fz (.int .i64 0)]) []])
  (.seq (.region [o 11 .move [T 0],
    o 12 .move [T 1],
    o 13 .move [T 2],
    o 14 (.call 113) [T 11, T 12, T 13],
    o 10 .move [T 14],
    o 15 (.extract 0) [T 10],
    o 16 (.extract 1) [T 10],
    o 17 (.extract 2) [T 10],
    o 1 .move [T 15],
    o 2 .move [T 16],
    o 7 .move [T 17]])
  (.seq (.seq (.region [o 18 .move [T 7],
    o 19 .not [T 18]])
  (.cond (T 19) (.seq (.region [o 20 (.build [.fz (.int .i64 0), .fz (.int .i64 0), .fz (.int .i64 0), .fz (.int .i64 0), .fz (.int .i64 0), .fz (.int .i64 0)] []) [],
     on (.store 6) [T 6, T 20]])
   .ret) .skip))
  (.seq (.draw [o 22 .move [T 0],
    o 23 .nilCheck [T 22],
    o 24 (.fieldAddr 1) [T 23],
    o 25 (.load 1 false) [T 24],
    o 26 .move [T 2],
    o 27 (.indexS 6) [T 25, T 26],
    o 28 (.load 6 true) [T 27],
    o 29 .move [T 0],
    o 30 .nilCheck [T 29],
    o 31 (.fieldAddr 1) [T 30],
    o 32 (.load 1 false) [T 31],
    o 33 .move [T 1],
    o 34 (.indexS 6) [T 32, T 33],
    o 35 (.load 6 true) [T 34],
    o 36 (.call 224) [T 28, T 35],
    o 21 .move [T 36],
    o 37 (.extract 0) [T 21],
    o 38 (.extract 1) [T 21],
    o 8 (.alloc [.fz (.int .i64 0), .fz (.int .i64 0), .fz (.int .i64 0), .fz (.int .i64 0), .fz (.int .i64 0), .fz (.int .i64 0)]) [],
    on (.store 6) [T 8, T 37],
    o 9 .move [T 38]]
    [0, 1, 3, 7, 0, 31, 63, 0, 128, 384, 896, 0, 3968, 8064, 16383, 32767, 65535, 65535, 0, 393215, 1048575])
  (.seq (.region [o 39 (.load 6 true) [T 8],
    on (.store 6) [T 6, T 39]])
  .ret))))) }
theorem ok104 : fnOk Tryz.prog 104 m104 = true := by kernel_rfl
/-- tympan/gset.fair -/
def m107 : MF := { N := 9, np := 1, res := [.tmp 2], body :=
  (.seq (.region [o 2 .move [B false]])
  (.seq (.region [o 3 .move [T 0],
    o 4 (.cmp .geq) [T 3, I 0],
    o 5 .move [T 4],
    og 6 .move [T 0] 5 true,
    og 7 (.cmp .leq) [T 6, I 1125899906842624] 5 true,
    o 8 .pick [T 5, T 7, B false],
    o 2 .move [T 8]])
  .ret)) }
theorem ok107 : fnOk Tryz.prog 107 m107 = true := by kernel_rfl
/-- tympan/gset.fields -/
def m108 : MF := { N := 22, np := 1, res := [.tmp 2], body :=
  (.seq (.region [o 1 .box [T 0],
    o 2 .move [B false]])
  (.seq (.seq (.region [o 5 (.fieldAddr 1) [T 1],
    o 6 (.load 4 true) [T 5],
    o 7 .move [I 0]])
  (.block 0 (.loop (.seq (.region [o 8 (.cmp .lss) [T 7, I 4]])
    (.seq (.cond (T 8) .skip (.exit 0))
    (.seq (.block 1 (.seq (.region [o 9 (.index 4 1 1 false) [T 6, T 7],
       o 4 .move [T 9]])
     (.seq (.region [o 10 .move [T 4],
       o 11 (.call 107) [T 10],
       o 12 .not [T 11]])
     (.cond (T 12) (.seq (.region [o 2 .move [B false]])
      .ret) .skip))))
    (.region [o 13 (.arith .add) [T 7, I 1],
      o 7 .move [T 13]])))))))
  (.seq (.region [o 14 (.fieldAddr 0) [T 1],
    o 15 (.load 1 false) [T 14],
    o 16 (.call 107) [T 15],
    o 17 .move [T 16],
    og 18 (.fieldAddr 5) [T 1] 17 true,
    og 19 (.load 1 false) [T 18] 17 true,
    og 20 (.call 107) [T 19] 17 true,
    o 21 .pick [T 17, T 20, B false],
    o 2 .move [T 21]])
  .ret))) }
theorem ok108 : fnOk Tryz.prog 108 m108 = true := by kernel_rfl
/-- (*tympan/state.World).parts -/
def m111 : MF := { N := 9, np := 1, res := [.tmp 2], body :=
  (.seq (.region [o 2 .move [CN .nilp]])
  (.seq (.seq (.region [o 3 .move [T 0],
    o 4 (.eq false .ptr) [T 3, CN .nilp]])
  (.cond (T 4) (.seq (.region [o 2 .move [CN .nilp]])
   .ret) .skip))
  (.seq (.region [o 5 .move [T 0],
    o 6 .nilCheck [T 5],
    o 7 (.fieldAddr 0) [T 6],
    o 8 (.load 1 false) [T 7],
    o 2 .move [T 8]])
  .ret))) }
theorem ok111 : fnOk Tryz.prog 111 m111 = true := by kernel_rfl
/-- (*tympan/state.text).Sums -/
def m112 : MF := { N := 9, np := 1, res := [.tmp 2], body :=
  (.seq (.region [o 2 .move [CN .nilp]])
  (.seq (.seq (.region [o 3 .move [T 0],
    o 4 (.eq false .ptr) [T 3, CN .nilp]])
  (.cond (T 4) (.seq (.region [o 2 .move [CN .nilp]])
   .ret) .skip))
  (.seq (.region [o 5 .move [T 0],
    o 6 .nilCheck [T 5],
    o 7 (.fieldAddr 1) [T 6],
    o 8 (.load 1 false) [T 7],
    o 2 .move [T 8]])
  .ret))) }
theorem ok112 : fnOk Tryz.prog 112 m112 = true := by kernel_rfl
/-- (*tympan/sums.Sums).within -/
def m113 : MF := { N := 20, np := 3, res := [.tmp 6, .tmp 7, .tmp 8], body :=
  (.seq (.region [o 6 .move [I 0],
    o 7 .move [I 0],
    o 8 .move [B false]])
  (.seq (.region [o 9 .move [T 1],
    o 10 .max [T 9, I 0],
    o 11 .move [T 2],
    o 12 .move [T 0],
    o 13 (.call 228) [T 12],
    o 14 .min [T 11, T 13],
    o 1 .move [T 10],
    o 2 .move [T 14]])
  (.seq (.region [o 15 .move [T 1],
    o 16 .move [T 2],
    o 17 .move [T 1],
    o 18 .move [T 2],
    o 19 (.cmp .lss) [T 17, T 18],
    o 6 .move [T 15],
    o 7 .move [T 16],
    o 8 .move [T 19]])
  .ret))) }
theorem ok113 : fnOk Tryz.prog 113 m113 = true := by kernel_rfl
/-- tympan/item.Total -/
def m114 : MF := { N := 22, np := 1, res := [.cell 2 6 true], body :=
  (.seq (.region [o 1 .box [T 0],
    o 2 (.alloc [.fz (.int .i64 0), .fz (.int .i64 0), .fz (.int .i64 0), .fz (.int .i64 0), .fz (.int .i64 0), .fz (.int .i64 0)]) []])
  (.seq (.seq (.region [o 3 (.fieldAddr 0) [T 1],
    o 4 (.load 1 false) [T 3]])
  (.block 0 (.seq (.region [o 6 (.eq false .int) [T 4, I 1],
     o 5 .move [T 6]])
   (.cond (T 5) (.seq (.region [o 7 (.fieldAddr 1) [T 1],
      o 8 (.load 1 false) [T 7],
      o 9 (.call 229) [T 8],
      on (.store 6) [T 2, T 9]])
    .ret) (.seq (.region [o 11 (.eq false .int) [T 4, I 2],
      o 10 .move [T 11]])
    (.cond (T 10) (.seq (.region [o 12 (.fieldAddr 1) [T 1],
       o 13 (.load 1 false) [T 12],
       o 14 (.fieldAddr 3) [T 1],
       o 15 (.load 1 false) [T 14],
       o 16 (.fieldAddr 4) [T 1],
       o 17 (.load 1 false) [T 16],
       o 18 (.fieldAddr 5) [T 1],
       o 19 (.load 1 false) [T 18],
       o 20 (.call 230) [T 13, T 15, T 17, T 19],
       on (.store 6) [T 2, T 20]])
     .ret) .skip))))))
  (.seq (.region [o 21 (.build [.fz (.int .i64 0), .fz (.int .i64 0), .fz (.int .i64 0), .fz (.int .i64 0), .fz (.int .i64 0), .fz (.int .i64 0)] []) [],
    on (.store 6) [T 2, T 21]])
  .ret))) }
theorem ok114 : fnOk Tryz.prog 114 m114 = true := by kernel_rfl
/-- tympan/route.States -/
def m115 : MF := { N := 18, np := 2, res := [.tmp 4], body :=
  (.seq (.region [o 4 .move [.const .nils]])
  (.seq (.seq (.region [o 6 .move [T 0],
    o 7 (.eq false .ptr) [T 6, CN .nilp]])
  (.cond (T 7) (.seq (.region [o 4 .move [.const .nils]])
   .ret) .skip))
  (.seq (.region [o 8 .move [T 0],
    o 9 (.call 129) [T 8],
    o 5 .move [T 9]])
  (.seq (.region [o 10 .move [T 1],
    o 11 .move [T 5],
    o 12 (.makeFunc 131 1) [T 11],
    o 13 (.call 130) [T 10, T 12]])
  (.seq (.region [o 14 .move [T 5],
    o 15 .nilCheck [T 14],
    o 16 (.fieldAddr 10) [T 15],
    o 17 (.load 1 false) [T 16],
    o 4 .move [T 17]])
  .ret))))) }
theorem ok115 : fnOk Tryz.prog 115 m115 = true := by kernel_rfl
/-- tympan/tally.of -/
def m116 : MF := { N := 66, np := 4, res := [.cell 8 10 true], body :=
  (.seq (.region [o 5 .box [T 1],
    o 6 .box [T 2],
    o 7 .box [T 3],
    o 8 (.alloc [.fz (.int .i64 0), .fz (.int .i64 0), .fz (.int .i64 0), .fz (.int .i64 0), .fz (.int .i64 0), .fz (.int .i64 0), .fz (.int .i64 0), .fz (.int .i64 0), .fz (.int .i64 0), .fz (.int .i64 0)]) []])
  (.seq (.region [o 11 .move [T 0],
    o 12 (.load 7 true) [T 5],
    o 13 (.load 6 true) [T 7],
    o 14 (.call 21) [T 11, T 12, T 13],
    o 9 (.alloc [.fz (.int .i64 0), .fz (.int .i64 0), .fz (.int .i64 0), .fz (.bool false), .fz (.bool false), .fz (.int .i64 0), .fz (.int .i64 0), .fz (.int .i64 0), .fz (.int .i64 0), .fz (.int .i64 0)]) [],
    on (.store 10) [T 9, T 14]])
  (.seq (.draw [o 15 (.fieldAddr 0) [T 7],
    o 16 (.load 1 false) [T 15],
    o 17 (.eq false .int) [T 16, I 1],
    o 18 (.call 231) [T 17],
    o 19 (.fieldAddr 0) [T 7],
    o 20 (.load 1 false) [T 19],
    o 21 (.eq false .int) [T 20, I 2],
    o 22 (.call 231) [T 21],
    o 23 (.fieldAddr 0) [T 7],
    o 24 (.load 1 false) [T 23],
    o 25 (.eq false .int) [T 24, I 3],
    o 26 (.call 231) [T 25],
    o 27 (.fieldAddr 4) [T 9],
    o 28 (.load 1 false) [T 27],
    o 29 (.call 231) [T 28],
    o 30 (.fieldAddr 3) [T 7],
    o 31 (.load 1 false) [T 30],
    o 32 (.call 232) [T 31],
    o 33 (.fieldAddr 3) [T 7],
    o 34 (.load 1 false) [T 33],
    o 35 .len [T 34],
    o 36 (.cmp .gtr) [T 35, I 0],
    o 37 .move [T 36],
    og 38 (.fieldAddr 3) [T 6] 37 true,
    og 39 (.load 1 false) [T 38] 37 true,
    og 40 (.cmp .gtr) [T 39, I 0] 37 true,
    o 41 .pick [T 37, T 40, B false],
    o 42 (.call 231) [T 41],
    o 43 .move [T 0],
    o 44 (.load 7 true) [T 6],
    o 45 (.call 136) [T 43, T 44],
    o 46 (.call 137) [T 45],
    o 47 (.fieldAddr 4) [T 7],
    o 48 (.load 1 false) [T 47],
    o 49 .len [T 48],
    o 50 (.fieldAddr 5) [T 7],
    o 51 (.load 1 false) [T 50],
    o 52 .len [T 51],
    o 53 (.fieldAddr 2) [T 9],
    o 54 (.load 1 false) [T 53],
    o 55 .max [T 54, I 0],
    o 56 (.build [.fz (.int .i64 0), .fz (.int .i64 0), .fz (.int .i64 0), .fz (.int .i64 0), .fz (.int .i64 0), .fz (.int .i64 0), .fz (.int .i64 0), .fz (.int .i64 0), .fz (.int .i64 0), .fz (.int .i64 0)] [(0, 1), (1, 1), (2, 1), (3, 1), (4, 1), (5, 1), (6, 1), (7, 1), (8, 1), (9, 1)]) [T 18, T 22, T 26, T 29, T 32, T 42, T 46, T 49, T 52, T 55],
    o 10 (.alloc [.fz (.int .i64 0), .fz (.int .i64 0), .fz (.int .i64 0), .fz (.int .i64 0), .fz (.int .i64 0), .fz (.int .i64 0), .fz (.int .i64 0), .fz (.int .i64 0), .fz (.int .i64 0), .fz (.int .i64 0)]) [],
    on (.store 10) [T 10, T 56]]
    [0, 1, 3, 7, 0, 16, 48, 127, 0, 256, 768, 2047, 0, 4096, 16383, 0, 32768, 131071, 0, 262144, 786432, 1835008, 4194303, 8388607, 16777215, 33554431, 67108863, 134217727, 0, 0, 1073741823, 2147483647, 0, 4294967296, 12884901888, 0, 34359738368, 103079215104, 0, 274877906944, 824633720832, 2199023255551, 0, 8796093022207])
  (.seq (.seq (.region [o 57 (.fieldAddr 0) [T 7],
    o 58 (.load 1 false) [T 57],
    o 59 (.eq false .int) [T 58, I 1]])
  (.cond (T 59) (.region [o 60 (.fieldAddr 5) [T 9],
     o 61 (.fieldAddr 4) [T 60],
     o 62 (.load 1 false) [T 61],
     o 63 .max [T 62, I 0],
     o 64 (.fieldAddr 9) [T 10],
     on (.store 1) [T 64, T 63]]) .skip))
  (.seq (.region [o 65 (.load 10 true) [T 10],
    on (.store 10) [T 8, T 65]])
  .ret))))) }
theorem ok116 : fnOk Tryz.prog 116 m116 = true := by kernel_rfl
/-- (*tympan/tally.Tally).numbers -/
def m125 : MF := { N := 31, np := 1, res := [.cell 2 9 true], body :=
  (.seq (.region [o 2 (.alloc [.fz .nilp, .fz .nilp, .fz .nilp, .fz .nilp, .fz .nilp, .fz .nilp, .fz .nilp, .fz .nilp, .fz .nilp]) []])
  (.seq (.draw [o 3 .move [T 0],
    o 4 .nilCheck [T 3],
    o 5 (.fieldAddr 0) [T 4],
    o 6 .move [T 0],
    o 7 .nilCheck [T 6],
    o 8 (.fieldAddr 1) [T 7],
    o 9 .move [T 0],
    o 10 .nilCheck [T 9],
    o 11 (.fieldAddr 2) [T 10],
    o 12 .move [T 0],
    o 13 .nilCheck [T 12],
    o 14 (.fieldAddr 3) [T 13],
    o 15 .move [T 0],
    o 16 .nilCheck [T 15],
    o 17 (.fieldAddr 4) [T 16],
    o 18 .move [T 0],
    o 19 .nilCheck [T 18],
    o 20 (.fieldAddr 5) [T 19],
    o 21 .move [T 0],
    o 22 .nilCheck [T 21],
    o 23 (.fieldAddr 6) [T 22],
    o 24 .move [T 0],
    o 25 .nilCheck [T 24],
    o 26 (.fieldAddr 7) [T 25],
    o 27 .move [T 0],
    o 28 .nilCheck [T 27],
    o 29 (.fieldAddr 8) [T 28],
    o 30 (.build [.fz .nilp, .fz .nilp, .fz .nilp, .fz .nilp, .fz .nilp, .fz .nilp, .fz .nilp, .fz .nilp, .fz .nilp] [(0, 1), (1, 1), (2, 1), (3, 1), (4, 1), (5, 1), (6, 1), (7, 1), (8, 1)]) [T 5, T 8, T 11, T 14, T 17, T 20, T 23, T 26, T 29],
    on (.store 9) [T 2, T 30]]
    [0, 1, 3, 0, 8, 24, 0, 64, 192, 0, 512, 1536, 0, 4096, 12288, 0, 32768, 98304, 0, 262144, 786432, 0, 2097152, 6291456, 0, 16777216, 50331648, 134217727, 268435455])
  .ret)) }
theorem ok125 : fnOk Tryz.prog 125 m125 = true := by kernel_rfl
/-- tympan/tally.sum[int] -/
def m126 : MF := { N := 15, np := 2, res := [.tmp 4], body :=
  (.seq (.region [o 4 .move [I 0]])
  (.seq (.region [o 5 .move [Fc 249]])
  (.seq (.region [o 6 .move [T 5],
    o 7 .move [T 5],
    o 8 .move [T 0],
    o 9 .callv [T 7, T 8],
    o 10 .move [T 5],
    o 11 .move [T 1],
    o 12 .callv [T 10, T 11],
    o 13 (.arith .add) [T 9, T 12],
    o 14 .callv [T 6, T 13],
    o 4 .move [T 14]])
  .ret))) }
theorem ok126 : fnOk Tryz.prog 126 m126 = true := by kernel_rfl
/-- tympan/tally.sum[tympan/api.Sp] -/
def m127 : MF := { N := 15, np := 2, res := [.tmp 4], body :=
  (.seq (.region [o 4 .move [I 0]])
  (.seq (.region [o 5 .move [Fc 250]])
  (.seq (.region [o 6 .move [T 5],
    o 7 .move [T 5],
    o 8 .move [T 0],
    o 9 .callv [T 7, T 8],
    o 10 .move [T 5],
    o 11 .move [T 1],
    o 12 .callv [T 10, T 11],
    o 13 (.arith .add) [T 9, T 12],
    o 14 .callv [T 6, T 13],
    o 4 .move [T 14]])
  .ret))) }
theorem ok127 : fnOk Tryz.prog 127 m127 = true := by kernel_rfl
/-- tympan/tympanref48.add -/
def m128 : MF := { N := 11, np := 2, res := [.tmp 4], body :=
  (.seq (.region [o 4 .move [I 0]])
  (.seq (.region [o 5 .move [T 0],
    o 6 (.call 251) [T 5],
    o 7 .move [T 1],
    o 8 (.call 251) [T 7],
    o 9 (.arith .add) [T 6, T 8],
    o 10 (.call 251) [T 9],
    o 4 .move [T 10]])
  .ret)) }
theorem ok128 : fnOk Tryz.prog 128 m128 = true := by kernel_rfl
/-- tympan/route.begin -/
def m129 : MF := { N := 11, np := 1, res := [.tmp 2], body :=
  (.seq (.region [o 2 .move [CN .nilp]])
  (.seq (.region [o 3 .move [T 0],
    o 4 .move [T 0],
    o 5 (.call 68) [T 4],
    o 6 .move [T 0],
    o 7 (.call 68) [T 6],
    o 8 (.buildSlice 7 1) [T 7],
    o 9 (.build [.fz .nilp, .fz (.int .i64 0), .fz (.int .i64 0), .fz (.int .i64 0), .fz (.int .i64 0), .fz (.int .i64 0), .fz (.int .i64 0), .fz (.int .i64 0), .fz (.int .i64 0), .fz (.int .i64 0), .nils] [(0, 1), (3, 7), (10, 1)]) [T 3, T 5, T 8],
    o 10 .box [T 9],
    o 2 .move [T 10]])
  .ret)) }
theorem ok129 : fnOk Tryz.prog 129 m129 = true := by kernel_rfl
/-- tympan/route.each -/
def m130 : MF := { N := 26, np := 2, res := [.tmp 4, .tmp 5], body :=
  (.seq (.region [o 4 .move [I 0],
    o 5 .move [I 0]])
  (.seq (.seq (.region [o 9 .move [T 0],
    o 10 .len [T 9],
    o 11 .move [I 0]])
  (.block 0 (.loop (.seq (.region [o 12 (.cmp .lss) [T 11, T 10]])
    (.seq (.cond (T 12) .skip (.exit 0))
    (.seq (.block 1 (.seq (.region [o 13 .move [T 11],
       o 14 (.indexS 6) [T 9, T 11],
       o 15 (.load 6 true) [T 14],
       o 7 (.alloc [.fz (.int .i64 0), .fz (.int .i64 0), .fz (.int .i64 0), .nils, .nils, .nils]) [],
       o 6 .move [T 13],
       on (.store 6) [T 7, T 15]])
     (.seq (.region [o 16 .move [T 1],
       o 17 (.load 6 true) [T 7],
       o 18 .callv [T 16, T 17],
       o 8 .move [T 18]])
     (.seq (.region [o 19 .move [T 8],
       o 20 (.eq true .int) [T 19, I 0]])
     (.cond (T 20) (.seq (.region [o 21 .move [T 6],
        o 22 .move [T 8],
        o 4 .move [T 21],
        o 5 .move [T 22]])
      .ret) .skip)))))
    (.region [o 23 (.arith .add) [T 11, I 1],
      o 11 .move [T 23]])))))))
  (.seq (.region [o 24 .move [T 0],
    o 25 .len [T 24],
    o 4 .move [T 25],
    o 5 .move [I 0]])
  .ret))) }
theorem ok130 : fnOk Tryz.prog 130 m130 = true := by kernel_rfl
/-- (*tympan/route.run).take -/
def m131 : MF := { N := 59, np := 2, res := [.tmp 4], body :=
  (.seq (.region [o 3 .box [T 1],
    o 4 .move [I 0]])
  (.seq (.seq (.draw [o 6 .move [T 0],
    o 7 .nilCheck [T 6],
    o 8 (.fieldAddr 0) [T 7],
    o 9 (.load 1 false) [T 8],
    o 10 .move [T 0],
    o 11 .nilCheck [T 10],
    o 12 (.fieldAddr 3) [T 11],
    o 13 (.load 7 true) [T 12],
    o 14 (.load 6 true) [T 3],
    o 15 (.call 94) [T 9, T 13, T 14],
    o 5 .move [T 15]]
    [0, 1, 3, 7, 0, 16, 48, 112, 0, 511, 1023])
  (.seq (.region [o 16 .move [T 5],
    o 17 (.eq true .int) [T 16, I 0]])
  (.cond (T 17) (.seq (.region [o 18 .move [T 5],
     o 4 .move [T 18]])
   .ret) .skip)))
  (.seq (.draw [o 19 .move [T 0],
    o 20 .nilCheck [T 19],
    o 21 (.fieldAddr 1) [T 20],
    o 22 .move [T 0],
    o 23 .nilCheck [T 22],
    o 24 (.fieldAddr 0) [T 23],
    o 25 (.load 1 false) [T 24],
    o 26 .move [T 0],
    o 27 .nilCheck [T 26],
    o 28 (.fieldAddr 3) [T 27],
    o 29 (.load 7 true) [T 28],
    o 30 (.load 6 true) [T 3],
    o 31 (.call 48) [T 25, T 29, T 30],
    o 32 (.call 145) [T 21, T 31]]
    [0, 1, 3, 0, 8, 24, 56, 0, 128, 384, 896, 0, 4088, 8191])
  (.seq (.draw [o 33 .move [T 0],
    o 34 .move [T 0],
    o 35 .nilCheck [T 34],
    o 36 (.fieldAddr 0) [T 35],
    o 37 (.load 1 false) [T 36],
    o 38 .move [T 0],
    o 39 .nilCheck [T 38],
    o 40 (.fieldAddr 3) [T 39],
    o 41 (.load 7 true) [T 40],
    o 42 (.load 6 true) [T 3],
    o 43 (.call 77) [T 37, T 41, T 42],
    o 44 .nilCheck [T 33],
    o 45 (.fieldAddr 3) [T 44],
    on (.store 7) [T 45, T 43]]
    [0, 0, 2, 6, 14, 0, 32, 96, 224, 0, 1022, 2047, 4095, 8191])
  (.seq (.draw [o 46 .move [T 0],
    o 47 .move [T 0],
    o 48 .nilCheck [T 47],
    o 49 (.fieldAddr 10) [T 48],
    o 50 (.load 1 false) [T 49],
    o 51 .move [T 0],
    o 52 .nilCheck [T 51],
    o 53 (.fieldAddr 3) [T 52],
    o 54 (.load 7 true) [T 53],
    o 55 (.buildSlice 7 1) [T 54],
    o 56 (.append 7 56) [T 50, T 55],
    o 57 .nilCheck [T 46],
    o 58 (.fieldAddr 10) [T 57],
    on (.store 1) [T 58, T 56]]
    [0, 0, 2, 6, 14, 0, 32, 96, 224, 480, 1022, 2047, 4095, 8191])
  (.seq (.region [o 4 .move [I 0]])
  .ret)))))) }
theorem ok131 : fnOk Tryz.prog 131 m131 = true := by kernel_rfl
/-- (*tympan/cost.Sum).Cost -/
def m132 : MF := { N := 10, np := 1, res := [.cell 2 2 true], body :=
  (.seq (.region [o 2 (.alloc [.fz (.int .i64 0), .fz (.int .i64 0)]) []])
  (.seq (.seq (.region [o 3 .move [T 0],
    o 4 (.eq false .ptr) [T 3, CN .nilp]])
  (.cond (T 4) (.seq (.region [o 5 (.build [.fz (.int .i64 0), .fz (.int .i64 0)] []) [],
     on (.store 2) [T 2, T 5]])
   .ret) .skip))
  (.seq (.region [o 6 .move [T 0],
    o 7 .nilCheck [T 6],
    o 8 (.fieldAddr 0) [T 7],
    o 9 (.load 2 true) [T 8],
    on (.store 2) [T 2, T 9]])
  .ret))) }
theorem ok132 : fnOk Tryz.prog 132 m132 = true := by kernel_rfl
/-- tympan/gset.Bad -/
def m133 : MF := { N := 41, np := 3, res := [.tmp 6], body :=
  (.seq (.region [o 3 .box [T 0],
    o 6 .move [I 0]])
  (.seq (.region [o 7 .move [T 1],
    o 8 .max [T 7, I 0],
    o 9 .min [T 8, I 1125899906842624],
    o 1 .move [T 9]])
  (.seq (.seq (.region [o 10 (.fieldAddr 0) [T 3],
    o 11 (.load 1 false) [T 10]])
  (.block 0 (.seq (.block 3 (.seq (.block 2 (.seq (.block 1 (.seq (.seq (.seq (.region [o 13 (.eq false .int) [T 11, I 0],
        o 12 .move [T 13]])
      (.cond (T 12) (.exit 1) .skip))
      (.seq (.seq (.region [o 15 (.eq false .int) [T 11, I 1],
        o 14 .move [T 15]])
      (.cond (T 14) (.exit 2) .skip))
      (.seq (.region [o 17 (.eq false .int) [T 11, I 2],
        o 16 .move [T 17]])
      (.cond (T 16) (.exit 3) .skip))))
      (.exit 0)))
     (.seq (.seq (.seq (.region [o 18 (.fieldAddr 4) [T 3],
       o 19 (.load 1 false) [T 18],
       o 20 (.eq false .int) [T 19, I 0],
       o 21 .move [T 20],
       og 22 .move [T 2] 21 false,
       o 23 .pick [T 21, B true, T 22]])
     (.cond (T 23) (.seq (.region [o 6 .move [I 0]])
      .ret) .skip))
     (.seq (.region [o 24 (.fieldAddr 4) [T 3],
       o 25 (.load 1 false) [T 24],
       o 26 .move [T 1],
       o 27 (.call 252) [T 25, T 26],
       o 6 .move [T 27]])
     .ret))
     (.exit 0))))
    (.seq (.seq (.region [o 28 (.fieldAddr 1) [T 3],
      o 29 (.load 1 false) [T 28],
      o 30 (.cmp .gtr) [T 29, I 0]])
    (.cond (T 30) (.seq (.region [o 6 .move [I 0]])
     .ret) .skip))
    (.region [o 31 (.fieldAddr 3) [T 3],
      o 32 (.load 1 false) [T 31],
      o 33 .move [T 1],
      o 34 (.arith .add) [T 32, T 33],
      o 35 (.fieldAddr 3) [T 3],
      on (.store 1) [T 35, T 34]]))))
   (.seq (.seq (.region [o 36 (.fieldAddr 2) [T 3],
     o 37 (.load 1 false) [T 36],
     o 38 (.fieldAddr 3) [T 3],
     o 39 (.load 1 false) [T 38],
     o 40 (.call 252) [T 37, T 39],
     o 6 .move [T 40]])
   .ret)
   (.exit 0)))))
  (.seq (.region [o 6 .move [I 10000]])
  .ret)))) }
theorem ok133 : fnOk Tryz.prog 133 m133 = true := by kernel_rfl
/-- (*tympan/bill.Line).breaks -/
def m134 : MF := { N := 59, np := 3, res := [], body :=
  (.seq (.region [o 10 .move [T 1],
    o 11 (.call 150) [T 10],
    o 12 .move [T 2],
    o 13 (.call 220) [T 11, T 12],
    o 9 .move [T 13],
    o 14 (.extract 0) [T 9],
    o 15 (.extract 1) [T 9],
    o 6 (.alloc [.fz (.int .i64 0), .fz (.int .i64 0), .fz (.int .i64 0), .fz (.int .i64 0), .fz (.int .i64 0), .fz (.int .i64 0), .fz (.int .i64 0)]) [],
    on (.store 7) [T 6, T 14],
    o 7 .move [T 15]])
  (.seq (.seq (.region [o 16 .move [T 7],
    o 17 .not [T 16],
    o 18 .move [T 17],
    og 19 .move [T 1] 18 false,
    og 20 (.call 150) [T 19] 18 false,
    og 21 .move [T 2] 18 false,
    og 22 (.call 253) [T 20, T 21] 18 false,
    og 23 .not [T 22] 18 false,
    o 24 .pick [T 18, B true, T 23],
    o 25 .move [T 24],
    og 26 (.load 7 true) [T 6] 25 false,
    og 27 (.call 221) [T 26] 25 false,
    o 28 .pick [T 25, B true, T 27]])
  (.cond (T 28) .ret .skip))
  (.seq (.region [o 29 .move [T 1],
    o 30 (.call 25) [T 29],
    o 31 (.field 0 19 true) [T 30],
    o 8 (.alloc [.fz (.int .i64 0), .fz (.int .i64 0), .fz (.int .i64 0), .fz (.int .i64 0), .fz (.int .i64 0), .fz (.int .i64 0), .fz (.int .i64 0), .fz (.int .i64 0), .fz (.int .i64 0), .fz (.int .i64 0), .fz (.int .i64 0), .fz (.int .i64 0), .fz (.int .i64 0), .fz (.int .i64 0), .fz (.int .i64 0), .fz (.int .i64 0), .fz (.int .i64 0), .fz (.int .i64 0), .fz (.bool false)]) [],
    on (.store 19) [T 8, T 31]])
  (.seq (.seq (.region [o 32 (.fieldAddr 0) [T 6],
    o 33 (.load 1 false) [T 32],
    o 34 (.eq false .int) [T 33, I 3]])
  (.cond (T 34) (.region [o 35 .move [T 0],
     o 36 (.fieldAddr 6) [T 6],
     o 37 (.load 1 false) [T 36],
     o 38 .max [T 37, I 0],
     o 39 .nilCheck [T 35],
     o 40 (.fieldAddr 2) [T 39],
     on (.store 1) [T 40, T 38]]) .skip))
  (.seq (.seq (.region [o 41 .move [T 1],
    o 42 (.call 150) [T 41],
    o 43 .move [T 2],
    o 44 (.call 254) [T 42, T 43]])
  (.cond (T 44) (.region [o 45 .move [T 0],
     o 46 (.fieldAddr 13) [T 8],
     o 47 (.load 1 false) [T 46],
     o 48 .nilCheck [T 45],
     o 49 (.fieldAddr 3) [T 48],
     on (.store 1) [T 49, T 47]]) .skip))
  (.seq (.region [o 50 .move [T 1],
    o 51 (.call 150) [T 50],
    o 52 .move [T 2],
    o 53 (.call 255) [T 51, T 52]])
  (.cond (T 53) (.region [o 54 .move [T 0],
     o 55 (.fieldAddr 14) [T 8],
     o 56 (.load 1 false) [T 55],
     o 57 .nilCheck [T 54],
     o 58 (.fieldAddr 4) [T 57],
     on (.store 1) [T 58, T 56]]) .skip))))))) }
theorem ok134 : fnOk Tryz.prog 134 m134 = true := by kernel_rfl
/-- (*tympan/state.World).Waits -/
def m136 : MF := { N := 23, np := 2, res := [.cell 4 3 true], body :=
  (.seq (.region [o 3 .box [T 1],
    o 4 (.alloc [.fz (.int .i64 0), .fz (.int .i64 0), .fz (.int .i64 0)]) []])
  (.seq (.seq (.region [o 5 .move [T 0],
    o 6 (.load 7 true) [T 3],
    o 7 (.call 95) [T 5, T 6],
    o 8 .not [T 7]])
  (.cond (T 8) (.seq (.region [o 9 (.build [.fz (.int .i64 0), .fz (.int .i64 0), .fz (.int .i64 0)] []) [],
     on (.store 3) [T 4, T 9]])
   .ret) .skip))
  (.seq (.draw [o 10 (.fieldAddr 4) [T 3],
    o 11 (.load 3 true) [T 10],
    o 12 .move [T 0],
    o 13 .nilCheck [T 12],
    o 14 (.fieldAddr 0) [T 13],
    o 15 (.load 1 false) [T 14],
    o 16 .nilCheck [T 15],
    o 17 (.fieldAddr 2) [T 16],
    o 18 (.load 1 false) [T 17],
    o 19 (.fieldAddr 0) [T 3],
    o 20 (.load 1 false) [T 19],
    o 21 (.call 92) [T 18, T 20],
    o 22 (.call 257) [T 11, T 21],
    on (.store 3) [T 4, T 22]]
    [0, 1, 0, 4, 12, 28, 60, 124, 252, 0, 512, 2044, 4095, 8191])
  .ret))) }
theorem ok136 : fnOk Tryz.prog 136 m136 = true := by kernel_rfl
/-- (tympan/queue.Counts).Sum -/
def m137 : MF := { N := 16, np := 1, res := [.tmp 2], body :=
  (.seq (.region [o 1 .box [T 0],
    o 2 .move [I 0]])
  (.seq (.region [o 3 .move [I 0]])
  (.seq (.seq (.region [o 6 (.load 3 true) [T 1],
    o 7 .move [I 0]])
  (.block 0 (.loop (.seq (.region [o 8 (.cmp .lss) [T 7, I 3]])
    (.seq (.cond (T 8) .skip (.exit 0))
    (.seq (.block 1 (.seq (.region [o 9 (.index 3 1 1 false) [T 6, T 7],
       o 5 .move [T 9]])
     (.region [o 10 .move [T 3],
       o 11 .move [T 5],
       o 12 (.call 258) [T 11, I (-1073741824), I 1073741824],
       o 13 (.arith .add) [T 10, T 12],
       o 3 .move [T 13]])))
    (.region [o 14 (.arith .add) [T 7, I 1],
      o 7 .move [T 14]])))))))
  (.seq (.region [o 15 .move [T 3],
    o 2 .move [T 15]])
  .ret)))) }
theorem ok137 : fnOk Tryz.prog 137 m137 = true := by kernel_rfl
/-- (*tympan/cost.Sum).Put -/
def m145 : MF := { N := 15, np := 2, res := [], body :=
  (.seq (.region [o 3 .box [T 1]])
  (.seq (.region [o 4 .move [T 0],
    o 5 (.eq true .ptr) [T 4, CN .nilp]])
  (.cond (T 5) (.draw [o 6 .move [T 0],
     o 7 .move [T 0],
     o 8 .nilCheck [T 7],
     o 9 (.fieldAddr 0) [T 8],
     o 10 (.load 2 true) [T 9],
     o 11 (.load 2 true) [T 3],
     o 12 (.call 186) [T 10, T 11],
     o 13 .nilCheck [T 6],
     o 14 (.fieldAddr 0) [T 13],
     on (.store 2) [T 14, T 12]]
     [0, 0, 2, 6, 14, 0, 62, 127, 255, 511]) .skip))) }
theorem ok145 : fnOk Tryz.prog 145 m145 = true := by kernel_rfl
/-- (tympan/bill.Line).cost -/
def m146 : MF := { N := 27, np := 1, res := [.cell 2 2 true], body :=
  (.seq (.region [o 1 .box [T 0],
    o 2 (.alloc [.fz (.int .i64 0), .fz (.int .i64 0)]) []])
  (.seq (.seq (.region [o 3 (.load 9 true) [T 1],
    o 4 (.build [.fz (.bool false), .fz (.int .i64 0), .fz (.int .i64 0), .fz (.int .i64 0), .fz (.int .i64 0), .fz (.int .i64 0), .fz (.int .i64 0), .fz (.int .i64 0), .fz (.int .i64 0)] []) [],
    o 5 (.eq false (.agg 96 [none, some .i64, some .i64, some .i64, some .i64, some .i64, some .i64, some .i64, some .i64])) [T 3, T 4]])
  (.cond (T 5) (.seq (.region [o 6 (.build [.fz (.int .i64 0), .fz (.int .i64 0)] []) [],
     on (.store 2) [T 2, T 6]])
   .ret) .skip))
  (.seq (.region [o 7 (.fieldAddr 0) [T 1],
    o 8 (.load 1 false) [T 7],
    o 9 (.fieldAddr 1) [T 1],
    o 10 (.load 1 false) [T 9],
    o 11 (.fieldAddr 2) [T 1],
    o 12 (.load 1 false) [T 11],
    o 13 (.fieldAddr 3) [T 1],
    o 14 (.load 1 false) [T 13],
    o 15 (.fieldAddr 4) [T 1],
    o 16 (.load 1 false) [T 15],
    o 17 (.fieldAddr 5) [T 1],
    o 18 (.load 1 false) [T 17],
    o 19 (.fieldAddr 6) [T 1],
    o 20 (.load 1 false) [T 19],
    o 21 (.fieldAddr 7) [T 1],
    o 22 (.load 1 false) [T 21],
    o 23 (.fieldAddr 8) [T 1],
    o 24 (.load 1 false) [T 23],
    o 25 (.buildSlice 1 8) [T 10, T 12, T 14, T 16, T 18, T 20, T 22, T 24],
    o 26 (.call 155) [T 8, T 25],
    on (.store 2) [T 2, T 26]])
  .ret))) }
theorem ok146 : fnOk Tryz.prog 146 m146 = true := by kernel_rfl
/-- tympan/column.Cost$1 -/
def m147 : MF := { N := 11, np := 2, res := [.tmp 2], body :=
  (.seq (.region [o 2 .move [I 0]])
  (.seq (.region [o 3 (.fieldAddr 5) [T 0],
    o 4 (.load 5 true) [T 3],
    o 5 (.fieldAddr 0) [T 1],
    o 6 (.fieldAddr 5) [T 5],
    o 7 (.load 1 false) [T 6],
    o 8 (.fieldAddr 3) [T 0],
    o 9 (.load 1 false) [T 8],
    o 10 (.call 133) [T 4, T 7, T 9],
    o 2 .move [T 10]])
  .ret)) }
theorem ok147 : fnOk Tryz.prog 147 m147 = true := by kernel_rfl
/-- tympan/column.Cost$2 -/
def m148 : MF := { N := 11, np := 3, res := [.tmp 3], body :=
  (.seq (.region [o 3 .move [I 0]])
  (.seq (.draw [o 4 (.fieldAddr 0) [T 0],
    o 5 (.load 19 true) [T 4],
    o 6 (.load 1 false) [T 1],
    o 7 (.call 150) [T 6],
    o 8 (.fieldAddr 2) [T 2],
    o 9 (.load 1 false) [T 8],
    o 10 (.call 149) [T 5, T 7, T 9],
    o 3 .move [T 10]]
    [0, 1, 0, 4, 0, 16, 63, 127])
  .ret)) }
theorem ok148 : fnOk Tryz.prog 148 m148 = true := by kernel_rfl
/-- tympan/para.Of -/
def m149 : MF := { N := 51, np := 3, res := [.tmp 6], body :=
  (.seq (.region [o 3 .box [T 0],
    o 6 .move [I 0]])
  (.seq (.region [o 11 .move [T 1],
    o 12 .move [T 2],
    o 13 (.call 220) [T 11, T 12],
    o 10 .move [T 13],
    o 14 (.extract 0) [T 10],
    o 15 (.extract 1) [T 10],
    o 7 (.alloc [.fz (.int .i64 0), .fz (.int .i64 0), .fz (.int .i64 0), .fz (.int .i64 0), .fz (.int .i64 0), .fz (.int .i64 0), .fz (.int .i64 0)]) [],
    on (.store 7) [T 7, T 14],
    o 8 .move [T 15]])
  (.seq (.seq (.region [o 16 .move [T 8],
    o 17 .not [T 16],
    o 18 .move [T 17],
    og 19 .move [T 1] 18 false,
    og 20 .move [T 2] 18 false,
    og 21 (.call 253) [T 19, T 20] 18 false,
    og 22 .not [T 21] 18 false,
    o 23 .pick [T 18, B true, T 22],
    o 24 .move [T 23],
    og 25 (.load 7 true) [T 7] 24 false,
    og 26 (.call 221) [T 25] 24 false,
    o 27 .pick [T 24, B true, T 26]])
  (.cond (T 27) (.seq (.region [o 6 .move [I 0]])
   .ret) .skip))
  (.seq (.region [o 9 .move [I 0]])
  (.seq (.seq (.region [o 28 (.fieldAddr 0) [T 7],
    o 29 (.load 1 false) [T 28],
    o 30 (.eq false .int) [T 29, I 3]])
  (.cond (T 30) (.region [o 31 (.fieldAddr 6) [T 7],
     o 32 (.load 1 false) [T 31],
     o 33 .max [T 32, I 0],
     o 9 .move [T 33]]) .skip))
  (.seq (.seq (.region [o 34 .move [T 1],
    o 35 .move [T 2],
    o 36 (.call 254) [T 34, T 35]])
  (.cond (T 36) (.region [o 37 .move [T 9],
     o 38 (.fieldAddr 13) [T 3],
     o 39 (.load 1 false) [T 38],
     o 40 .max [T 39, I 0],
     o 41 (.arith .add) [T 37, T 40],
     o 9 .move [T 41]]) .skip))
  (.seq (.seq (.region [o 42 .move [T 1],
    o 43 .move [T 2],
    o 44 (.call 255) [T 42, T 43]])
  (.cond (T 44) (.region [o 45 .move [T 9],
     o 46 (.fieldAddr 14) [T 3],
     o 47 (.load 1 false) [T 46],
     o 48 .max [T 47, I 0],
     o 49 (.arith .add) [T 45, T 48],
     o 9 .move [T 49]]) .skip))
  (.seq (.region [o 50 .move [T 9],
    o 6 .move [T 50]])
  .ret)))))))) }
theorem ok149 : fnOk Tryz.prog 149 m149 = true := by kernel_rfl
/-- (*tympan/state.World).List -/
def m150 : MF := { N := 6, np := 1, res := [.tmp 2], body :=
  (.seq (.region [o 2 .move [CN .nilp]])
  (.seq (.region [o 3 .move [T 0],
    o 4 (.call 111) [T 3],
    o 5 (.call 267) [T 4],
    o 2 .move [T 5]])
  .ret)) }
theorem ok150 : fnOk Tryz.prog 150 m150 = true := by kernel_rfl
/-- tympan/column.Cost$5 -/
def m154 : MF := { N := 12, np := 3, res := [.tmp 3], body :=
  (.seq (.region [o 3 .move [I 0]])
  (.seq (.draw [o 4 (.fieldAddr 0) [T 0],
    o 5 (.fieldAddr 16) [T 4],
    o 6 (.load 1 false) [T 5],
    o 7 (.load 1 false) [T 1],
    o 8 (.load 7 true) [T 2],
    o 9 (.call 136) [T 7, T 8],
    o 10 (.call 137) [T 9],
    o 11 (.arith .mul) [T 6, T 10],
    o 3 .move [T 11]]
    [0, 1, 3, 0, 0, 24, 56, 127, 255])
  .ret)) }
theorem ok154 : fnOk Tryz.prog 154 m154 = true := by kernel_rfl
/-- tympan/cost.Of -/
def m155 : MF := { N := 26, np := 2, res := [.cell 4 2 true], body :=
  (.seq (.region [o 4 (.alloc [.fz (.int .i64 0), .fz (.int .i64 0)]) []])
  (.seq (.region [o 5 (.alloc [.fz (.int .i64 0), .fz (.int .i64 0)]) []])
  (.seq (.region [o 9 (.makeFunc 145 1) [T 5],
    o 6 .move [T 9]])
  (.seq (.seq (.region [o 10 .move [T 0]])
  (.cond (T 10) (.region [o 11 .move [T 6],
     o 12 (.build [.fz (.int .i64 0), .fz (.int .i64 0)] [(0, 1)]) [I 1],
     o 13 .callv [T 11, T 12]]) .skip))
  (.seq (.seq (.region [o 14 .move [T 1],
    o 15 .len [T 14],
    o 16 .move [I 0]])
  (.block 0 (.loop (.seq (.region [o 17 (.cmp .lss) [T 16, T 15]])
    (.seq (.cond (T 17) .skip (.exit 0))
    (.seq (.block 1 (.seq (.region [o 18 (.indexS 1) [T 14, T 16],
       o 19 (.load 1 false) [T 18],
       o 8 .move [T 19]])
     (.region [o 20 .move [T 6],
       o 21 .move [T 8],
       o 22 (.build [.fz (.int .i64 0), .fz (.int .i64 0)] [(1, 1)]) [T 21],
       o 23 .callv [T 20, T 22]])))
    (.region [o 24 (.arith .add) [T 16, I 1],
      o 16 .move [T 24]])))))))
  (.seq (.region [o 25 (.call 132) [T 5],
    on (.store 2) [T 4, T 25]])
  .ret)))))) }
theorem ok155 : fnOk Tryz.prog 155 m155 = true := by kernel_rfl
/-- tympan/cost.Less -/
def m156 : MF := { N := 9, np := 2, res := [.tmp 4], body :=
  (.seq (.region [o 2 .box [T 0],
    o 3 .box [T 1],
    o 4 .move [B false]])
  (.seq (.region [o 5 (.load 2 true) [T 2],
    o 6 (.load 2 true) [T 3],
    o 7 (.call 268) [T 5, T 6],
    o 8 (.cmp .lss) [T 7, I 0],
    o 4 .move [T 8]])
  .ret)) }
theorem ok156 : fnOk Tryz.prog 156 m156 = true := by kernel_rfl
/-- tympan/tympanref47.cost -/
def m157 : MF := { N := 23, np := 1, res := [.cell 2 2 true], body :=
  (.seq (.region [o 1 .box [T 0],
    o 2 (.alloc [.fz (.int .i64 0), .fz (.int .i64 0)]) []])
  (.seq (.region [o 3 (.fieldAddr 0) [T 1],
    o 4 (.load 1 false) [T 3],
    o 5 (.fieldAddr 1) [T 1],
    o 6 (.load 1 false) [T 5],
    o 7 (.fieldAddr 2) [T 1],
    o 8 (.load 1 false) [T 7],
    o 9 (.fieldAddr 3) [T 1],
    o 10 (.load 1 false) [T 9],
    o 11 (.fieldAddr 4) [T 1],
    o 12 (.load 1 false) [T 11],
    o 13 (.fieldAddr 5) [T 1],
    o 14 (.load 1 false) [T 13],
    o 15 (.fieldAddr 6) [T 1],
    o 16 (.load 1 false) [T 15],
    o 17 (.fieldAddr 7) [T 1],
    o 18 (.load 1 false) [T 17],
    o 19 (.fieldAddr 8) [T 1],
    o 20 (.load 1 false) [T 19],
    o 21 (.buildSlice 1 8) [T 6, T 8, T 10, T 12, T 14, T 16, T 18, T 20],
    o 22 (.call 269) [T 4, T 21],
    on (.store 2) [T 2, T 22]])
  .ret)) }
theorem ok157 : fnOk Tryz.prog 157 m157 = true := by kernel_rfl
/-- (*tympan/vlist.List).Len -/
def m178 : MF := { N := 10, np := 1, res := [.tmp 2], body :=
  (.seq (.region [o 2 .move [I 0]])
  (.seq (.seq (.region [o 3 .move [T 0],
    o 4 (.eq false .ptr) [T 3, CN .nilp]])
  (.cond (T 4) (.seq (.region [o 2 .move [I 0]])
   .ret) .skip))
  (.seq (.region [o 5 .move [T 0],
    o 6 .nilCheck [T 5],
    o 7 (.fieldAddr 0) [T 6],
    o 8 (.load 1 false) [T 7],
    o 9 .len [T 8],
    o 2 .move [T 9]])
  .ret))) }
theorem ok178 : fnOk Tryz.prog 178 m178 = true := by kernel_rfl
/-- (*tympan/vlist.List).Trim -/
def m179 : MF := { N := 16, np := 2, res := [.tmp 4], body :=
  (.seq (.region [o 4 .move [I 0]])
  (.seq (.seq (.region [o 5 .move [T 0],
    o 6 (.eq false .ptr) [T 5, CN .nilp]])
  (.cond (T 6) (.seq (.region [o 4 .move [I 0]])
   .ret) .skip))
  (.seq (.region [o 7 .move [T 0],
    o 8 .move [T 1],
    o 9 .max [T 8, I 0],
    o 10 .move [T 0],
    o 11 (.call 178) [T 10],
    o 12 .min [T 9, T 11],
    o 13 .move [T 0],
    o 14 (.makeFunc 291 1) [T 13],
    o 15 (.call 290) [T 7, T 12, T 14],
    o 4 .move [T 15]])
  .ret))) }
theorem ok179 : fnOk Tryz.prog 179 m179 = true := by kernel_rfl
/-- (*tympan/vlist.List).Breaks -/
def m184 : MF := { N := 29, np := 2, res := [.tmp 4], body :=
  (.seq (.region [o 4 .move [.const .nils]])
  (.seq (.region [o 5 .move [.const .nils]])
  (.seq (.region [o 8 .move [T 0],
    o 9 .move [T 1],
    o 10 (.call 293) [T 8, T 9],
    o 6 .move [T 10]])
  (.seq (.seq (.region [o 11 .move [T 0],
    o 12 .move [T 1],
    o 13 (.call 294) [T 11, T 12],
    o 7 .move [T 13]])
  (.block 0 (.loop (.seq (.seq (.region [o 14 .move [T 7],
      o 15 (.cmp .gtr) [T 14, I 0],
      o 16 .move [T 15],
      og 17 .move [T 7] 16 true,
      og 18 .move [T 6] 16 true,
      og 19 (.cmp .leq) [T 17, T 18] 16 true,
      o 20 .pick [T 16, T 19, B false]])
    (.cond (T 20) .skip (.exit 0)))
    (.seq (.block 1 (.region [o 24 .move [T 5],
       o 25 .move [T 7],
       o 26 (.buildSlice 1 1) [T 25],
       o 27 (.append 1 8) [T 24, T 26],
       o 5 .move [T 27]]))
    (.region [o 21 .move [T 0],
      o 22 .move [T 7],
      o 23 (.call 294) [T 21, T 22],
      o 7 .move [T 23]]))))))
  (.seq (.region [o 28 .move [T 5],
    o 4 .move [T 28]])
  .ret))))) }
theorem ok184 : fnOk Tryz.prog 184 m184 = true := by kernel_rfl
/-- tympan/cost.Add -/
def m186 : MF := { N := 16, np := 2, res := [.cell 4 2 true], body :=
  (.seq (.region [o 2 .box [T 0],
    o 3 .box [T 1],
    o 4 (.alloc [.fz (.int .i64 0), .fz (.int .i64 0)]) []])
  (.seq (.draw [o 5 (.fieldAddr 0) [T 2],
    o 6 (.load 1 false) [T 5],
    o 7 (.fieldAddr 0) [T 3],
    o 8 (.load 1 false) [T 7],
    o 9 (.call 295) [T 6, T 8],
    o 10 (.fieldAddr 1) [T 2],
    o 11 (.load 1 false) [T 10],
    o 12 (.fieldAddr 1) [T 3],
    o 13 (.load 1 false) [T 12],
    o 14 (.call 296) [T 11, T 13],
    o 15 (.build [.fz (.int .i64 0), .fz (.int .i64 0)] [(0, 1), (1, 1)]) [T 9, T 14],
    on (.store 2) [T 4, T 15]]
    [0, 1, 0, 4, 15, 0, 32, 0, 128, 511, 1023, 2047])
  .ret)) }
theorem ok186 : fnOk Tryz.prog 186 m186 = true := by kernel_rfl
/-- tympan/tympanref04.held -/
def m190 : MF := { N := 8, np := 1, res := [.tmp 2], body :=
  (.seq (.region [o 2 .move [I 0]])
  (.seq (.seq (.region [o 3 .move [T 0],
    o 4 (.cmp .lss) [T 3, I 0]])
  (.cond (T 4) (.seq (.region [o 2 .move [I 0]])
   .ret) .skip))
  (.seq (.seq (.region [o 5 .move [T 0],
    o 6 (.cmp .gtr) [T 5, I 1125899906842624]])
  (.cond (T 6) (.seq (.region [o 2 .move [I 1125899906842624]])
   .ret) .skip))
  (.seq (.region [o 7 .move [T 0],
    o 2 .move [T 7]])
  .ret)))) }
theorem ok190 : fnOk Tryz.prog 190 m190 = true := by kernel_rfl
/-- tympan/split.Next -/
def m191 : MF := { N := 51, np := 3, res := [.tmp 6, .tmp 7], body :=
  (.seq (.region [o 4 .box [T 1],
    o 6 .move [I 0],
    o 7 .move [I 0]])
  (.seq (.seq (.region [o 9 .move [T 2],
    o 10 .len [T 9],
    o 11 (.eq false .int) [T 10, I 0]])
  (.cond (T 11) (.seq (.draw [o 12 (.fieldAddr 0) [T 4],
     o 13 (.load 1 false) [T 12],
     o 14 (.fieldAddr 1) [T 4],
     o 15 (.load 1 false) [T 14],
     o 6 .move [T 13],
     o 7 .move [T 15]]
     [0, 1, 0, 4, 3, 31])
   .ret) .skip))
  (.seq (.region [o 16 .move [T 2],
    o 17 .move [T 2],
    o 18 .len [T 17],
    o 19 (.arith .sub) [T 18, I 1],
    o 20 (.indexS 3) [T 16, T 19],
    o 21 (.load 3 true) [T 20],
    o 8 (.alloc [.fz (.int .i64 0), .fz (.int .i64 0), .fz (.int .i64 0)]) [],
    on (.store 3) [T 8, T 21]])
  (.seq (.seq (.draw [o 22 (.fieldAddr 0) [T 8],
    o 23 (.load 1 false) [T 22],
    o 24 (.cmp .geq) [T 23, I 0],
    o 25 .move [T 24],
    og 26 (.fieldAddr 0) [T 8] 25 true,
    og 27 (.load 1 false) [T 26] 25 true,
    og 28 .move [T 0] 25 true,
    og 29 .len [T 28] 25 true,
    og 30 (.cmp .lss) [T 27, T 29] 25 true,
    o 31 .pick [T 25, T 30, B false],
    o 32 .move [T 31],
    og 33 (.fieldAddr 2) [T 8] 32 true,
    og 34 (.load 1 false) [T 33] 32 true,
    og 35 .move [T 0] 32 true,
    og 36 (.fieldAddr 0) [T 8] 32 true,
    og 37 (.load 1 false) [T 36] 32 true,
    og 38 (.indexS 2) [T 35, T 37] 32 true,
    og 39 (.fieldAddr 0) [T 38] 32 true,
    og 40 (.load 1 false) [T 39] 32 true,
    og 41 .len [T 40] 32 true,
    og 42 (.eq false .int) [T 34, T 41] 32 true,
    o 43 .pick [T 32, T 42, B false]]
    [0, 1, 3, 7, 15, 31, 15, 79, 255, 511, 1023, 2047, 4095, 2047, 2047, 18431, 59391, 124927, 255999, 518143, 1048575, 2097151])
  (.cond (T 43) (.seq (.region [o 44 (.fieldAddr 0) [T 8],
     o 45 (.load 1 false) [T 44],
     o 46 (.arith .add) [T 45, I 1],
     o 6 .move [T 46],
     o 7 .move [I 0]])
   .ret) .skip))
  (.seq (.draw [o 47 (.fieldAddr 0) [T 8],
    o 48 (.load 1 false) [T 47],
    o 49 (.fieldAddr 2) [T 8],
    o 50 (.load 1 false) [T 49],
    o 6 .move [T 48],
    o 7 .move [T 50]]
    [0, 1, 0, 4, 3, 31])
  .ret))))) }
theorem ok191 : fnOk Tryz.prog 191 m191 = true := by kernel_rfl
/-- (*tympan/state.World).Spot -/
def m192 : MF := { N := 40, np := 3, res := [.cell 6 4 true], body :=
  (.seq (.region [o 4 .box [T 1],
    o 6 (.alloc [.fz (.int .i64 0), .fz (.int .i64 0), .fz (.int .i64 0), .fz (.bool false)]) []])
  (.seq (.seq (.region [o 8 .move [T 0],
    o 9 (.load 7 true) [T 4],
    o 10 (.call 95) [T 8, T 9],
    o 11 .not [T 10]])
  (.cond (T 11) (.seq (.region [o 12 (.build [.fz (.int .i64 0), .fz (.int .i64 0), .fz (.int .i64 0), .fz (.bool false)] []) [],
     on (.store 4) [T 6, T 12]])
   .ret) .skip))
  (.seq (.region [o 13 .move [T 0],
    o 14 .nilCheck [T 13],
    o 15 (.fieldAddr 0) [T 14],
    o 16 (.load 1 false) [T 15],
    o 17 .nilCheck [T 16],
    o 18 (.fieldAddr 2) [T 17],
    o 19 (.load 1 false) [T 18],
    o 20 .move [T 2],
    o 21 (.call 304) [T 19, T 20],
    o 7 .move [T 21]])
  (.seq (.draw [o 22 (.fieldAddr 2) [T 4],
    o 23 (.load 1 false) [T 22],
    o 24 (.fieldAddr 3) [T 4],
    o 25 (.load 1 false) [T 24],
    o 26 .move [T 7],
    o 27 .move [T 7],
    o 28 .move [T 0],
    o 29 .nilCheck [T 28],
    o 30 (.fieldAddr 0) [T 29],
    o 31 (.load 1 false) [T 30],
    o 32 .nilCheck [T 31],
    o 33 (.fieldAddr 2) [T 32],
    o 34 (.load 1 false) [T 33],
    o 35 (.fieldAddr 0) [T 4],
    o 36 (.load 1 false) [T 35],
    o 37 (.call 304) [T 34, T 36],
    o 38 (.cmp .gtr) [T 27, T 37],
    o 39 (.build [.fz (.int .i64 0), .fz (.int .i64 0), .fz (.int .i64 0), .fz (.bool false)] [(0, 1), (1, 1), (2, 1), (3, 1)]) [T 23, T 25, T 26, T 38],
    on (.store 4) [T 6, T 39]]
    [0, 1, 0, 4, 0, 0, 0, 64, 192, 448, 960, 1984, 4032, 0, 8192, 32704, 65504, 131071, 262143])
  .ret)))) }
theorem ok192 : fnOk Tryz.prog 192 m192 = true := by kernel_rfl
/-- (tympan/queue.Counts).Add -/
def m193 : MF := { N := 8, np := 2, res := [.cell 4 3 true], body :=
  (.seq (.region [o 2 .box [T 0],
    o 3 .box [T 1],
    o 4 (.alloc [.fz (.int .i64 0), .fz (.int .i64 0), .fz (.int .i64 0)]) []])
  (.seq (.region [o 5 (.load 3 true) [T 2],
    o 6 (.load 3 true) [T 3],
    o 7 (.call 305) [T 5, T 6, I (-1073741824), Fc 306],
    on (.store 3) [T 4, T 7]])
  .ret)) }
theorem ok193 : fnOk Tryz.prog 193 m193 = true := by kernel_rfl
/-- tympan/queue.Of -/
def m194 : MF := { N := 41, np := 2, res := [.cell 4 3 true], body :=
  (.seq (.region [o 4 (.alloc [.fz (.int .i64 0), .fz (.int .i64 0), .fz (.int .i64 0)]) []])
  (.seq (.region [o 5 (.alloc [.fz (.int .i64 0), .fz (.int .i64 0), .fz (.int .i64 0)]) []])
  (.seq (.seq (.region [o 10 .move [T 1],
    o 11 .len [T 10],
    o 12 .move [I 0]])
  (.block 0 (.loop (.seq (.region [o 13 (.cmp .lss) [T 12, T 11]])
    (.seq (.cond (T 13) .skip (.exit 0))
    (.seq (.block 1 (.seq (.region [o 14 (.indexS 1) [T 10, T 12],
       o 15 (.load 1 false) [T 14],
       o 7 .move [T 15]])
     (.seq (.region [o 17 .move [T 0],
       o 18 .move [T 7],
       o 19 (.call 106) [T 17, T 18],
       o 16 .move [T 19],
       o 20 (.extract 0) [T 16],
       o 21 (.extract 1) [T 16],
       o 8 (.alloc [.fz (.int .i64 0), .fz (.int .i64 0), .fz (.int .i64 0)]) [],
       on (.store 3) [T 8, T 20],
       o 9 .move [T 21]])
     (.seq (.region [o 22 .move [T 9],
       o 23 .move [T 22],
       og 24 (.fieldAddr 0) [T 8] 23 true,
       og 25 (.load 1 false) [T 24] 23 true,
       og 26 (.cmp .geq) [T 25, I 0] 23 true,
       o 27 .pick [T 23, T 26, B false],
       o 28 .move [T 27],
       og 29 (.fieldAddr 0) [T 8] 28 true,
       og 30 (.load 1 false) [T 29] 28 true,
       og 31 (.cmp .lss) [T 30, I 3] 28 true,
       o 32 .pick [T 28, T 31, B false]])
     (.cond (T 32) (.region [o 33 (.fieldAddr 0) [T 8],
        o 34 (.load 1 false) [T 33],
        o 35 (.indexA 3 1) [T 5, T 34],
        o 36 (.load 1 false) [T 35],
        o 37 (.arith .add) [T 36, I 1],
        o 38 (.indexA 3 1) [T 5, T 34],
        on (.store 1) [T 38, T 37]]) .skip)))))
    (.region [o 39 (.arith .add) [T 12, I 1],
      o 12 .move [T 39]])))))))
  (.seq (.region [o 40 (.load 3 true) [T 5],
    on (.store 3) [T 4, T 40]])
  .ret)))) }
theorem ok194 : fnOk Tryz.prog 194 m194 = true := by kernel_rfl
/-- tympan/valid.Check -/
def m198 : MF := { N := 23, np := 1, res := [.tmp 2, .tmp 3], body :=
  (.seq (.region [o 1 .box [T 0],
    o 2 .move [I 0],
    o 3 .move [I 0]])
  (.seq (.seq (.region [o 7 (.call 307) [],
    o 8 .len [T 7],
    o 9 .move [I 0]])
  (.block 0 (.loop (.seq (.region [o 10 (.cmp .lss) [T 9, T 8]])
    (.seq (.cond (T 10) .skip (.exit 0))
    (.seq (.block 1 (.seq (.region [o 11 (.indexS 2) [T 7, T 9],
       o 12 (.load 2 true) [T 11],
       o 5 (.alloc [.fz (.int .i64 0), .fz .nilf]) [],
       on (.store 2) [T 5, T 12]])
     (.seq (.region [o 13 (.fieldAddr 1) [T 5],
       o 14 (.load 1 false) [T 13],
       o 15 (.load 22 true) [T 1],
       o 16 .callv [T 14, T 15],
       o 6 .move [T 16]])
     (.seq (.region [o 17 .move [T 6],
       o 18 (.cmp .geq) [T 17, I 0]])
     (.cond (T 18) (.seq (.region [o 19 (.fieldAddr 0) [T 5],
        o 20 (.load 1 false) [T 19],
        o 21 .move [T 6],
        o 2 .move [T 20],
        o 3 .move [T 21]])
      .ret) .skip)))))
    (.region [o 22 (.arith .add) [T 9, I 1],
      o 9 .move [T 22]])))))))
  (.seq (.region [o 2 .move [I 0],
    o 3 .move [I 0]])
  .ret))) }
theorem ok198 : fnOk Tryz.prog 198 m198 = true := by kernel_rfl
end Go.Ab
