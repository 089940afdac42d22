/- Part of the proof: the layer of pure values, or walks through functions (PvFxN, PvPure). -/
import Derived.Test.YtjomgffpkdcanaaProg
import Derived.Test.YtjomgffpkdcanaaPvFun
import Derived.KernelRfl
set_option linter.all false
namespace Pv.Try
open Go Go.Proofs
@[simp] theorem sz3 : szP Try.prog 3 = some 1 := by kernel_rfl
@[simp] theorem by3 : byP Try.prog 3 = some 8 := by kernel_rfl
@[simp] theorem kk3 : kP Try.prog 3 = some (.int .i64) := by kernel_rfl
@[simp] theorem ze3 : zeroP Try.prog 3 = some (.int .i64 0) := by kernel_rfl
@[simp] theorem ag3 : aggP Try.prog 3 = false := by kernel_rfl
@[simp] theorem ap3 : appTy Try.prog 3 = false := by kernel_rfl
@[simp] theorem iu3 : isU8 Try.prog 3 = false := by kernel_rfl
@[simp] theorem se3 : selfTy Try.prog 3 = false := by kernel_rfl
@[simp] theorem sz4 : szP Try.prog 4 = some 1 := by kernel_rfl
@[simp] theorem by4 : byP Try.prog 4 = some 1 := by kernel_rfl
@[simp] theorem kk4 : kP Try.prog 4 = some (.bool) := by kernel_rfl
@[simp] theorem ag4 : aggP Try.prog 4 = false := by kernel_rfl
@[simp] theorem ap4 : appTy Try.prog 4 = false := by kernel_rfl
@[simp] theorem iu4 : isU8 Try.prog 4 = false := by kernel_rfl
@[simp] theorem se4 : selfTy Try.prog 4 = false := by kernel_rfl
@[simp] theorem sz5 : szP Try.prog 5 = some 1 := by kernel_rfl
@[simp] theorem by5 : byP Try.prog 5 = some 1 := by kernel_rfl
@[simp] theorem kk5 : kP Try.prog 5 = some (.int .u8) := by kernel_rfl
@[simp] theorem ze5 : zeroP Try.prog 5 = some (.int .u8 0) := by kernel_rfl
@[simp] theorem ag5 : aggP Try.prog 5 = false := by kernel_rfl
@[simp] theorem ap5 : appTy Try.prog 5 = false := by kernel_rfl
@[simp] theorem iu5 : isU8 Try.prog 5 = true := by kernel_rfl
@[simp] theorem se5 : selfTy Try.prog 5 = false := by kernel_rfl
@[simp] theorem sz9 : szP Try.prog 9 = some 1 := by kernel_rfl
@[simp] theorem by9 : byP Try.prog 9 = some 16 := by kernel_rfl
@[simp] theorem kk9 : kP Try.prog 9 = some (.str) := by kernel_rfl
@[simp] theorem ze9 : zeroP Try.prog 9 = some (.str []) := by kernel_rfl
@[simp] theorem ag9 : aggP Try.prog 9 = false := by kernel_rfl
@[simp] theorem ap9 : appTy Try.prog 9 = true := by kernel_rfl
@[simp] theorem iu9 : isU8 Try.prog 9 = false := by kernel_rfl
@[simp] theorem se9 : selfTy Try.prog 9 = false := by kernel_rfl
@[simp] theorem sz23 : szP Try.prog 23 = some 1 := by kernel_rfl
@[simp] theorem by23 : byP Try.prog 23 = some 24 := by kernel_rfl
@[simp] theorem kk23 : kP Try.prog 23 = some (.sl 9) := by kernel_rfl
@[simp] theorem sl23 : kSl Try.prog 23 = some 9 := by kernel_rfl
@[simp] theorem ag23 : aggP Try.prog 23 = false := by kernel_rfl
@[simp] theorem ap23 : appTy Try.prog 23 = true := by kernel_rfl
@[simp] theorem iu23 : isU8 Try.prog 23 = false := by kernel_rfl
@[simp] theorem se23 : selfTy Try.prog 23 = false := by kernel_rfl
@[simp] theorem sz24 : szP Try.prog 24 = some 1 := by kernel_rfl
@[simp] theorem by24 : byP Try.prog 24 = some 8 := by kernel_rfl
@[simp] theorem kk24 : kP Try.prog 24 = some (.int .u64) := by kernel_rfl
@[simp] theorem ag24 : aggP Try.prog 24 = false := by kernel_rfl
@[simp] theorem ap24 : appTy Try.prog 24 = false := by kernel_rfl
@[simp] theorem iu24 : isU8 Try.prog 24 = false := by kernel_rfl
@[simp] theorem se24 : selfTy Try.prog 24 = false := by kernel_rfl
@[simp] theorem sz30 : szP Try.prog 30 = some 4 := by kernel_rfl
@[simp] theorem by30 : byP Try.prog 30 = some 64 := by kernel_rfl
@[simp] theorem kk30 : kP Try.prog 30 = some (.st) := by kernel_rfl
@[simp] theorem ag30 : aggP Try.prog 30 = true := by kernel_rfl
@[simp] theorem ap30 : appTy Try.prog 30 = false := by kernel_rfl
@[simp] theorem iu30 : isU8 Try.prog 30 = false := by kernel_rfl
@[simp] theorem se30 : selfTy Try.prog 30 = false := by kernel_rfl
@[simp] theorem fl30_0 : fldP Try.prog 30 0 = some (0, 9) := by kernel_rfl
@[simp] theorem fl30_1 : fldP Try.prog 30 1 = some (1, 9) := by kernel_rfl
@[simp] theorem fl30_2 : fldP Try.prog 30 2 = some (2, 9) := by kernel_rfl
@[simp] theorem fl30_3 : fldP Try.prog 30 3 = some (3, 9) := by kernel_rfl
@[simp] theorem pl30 : placeP Try.prog 30 = some (.inl [(0, 1), (1, 1), (2, 1), (3, 1)]) := by kernel_rfl
@[simp] theorem ft30 : flatL Try.prog 20 30 = some ([.s, .s, .s, .s]) := by kernel_rfl
@[simp] theorem eg30 : Try.prog.eqGuardType Try.prog.depth 30 = false := by kernel_rfl
@[simp] theorem sz33 : szP Try.prog 33 = some 1 := by kernel_rfl
@[simp] theorem by33 : byP Try.prog 33 = some 8 := by kernel_rfl
@[simp] theorem kk33 : kP Try.prog 33 = some (.int .i64) := by kernel_rfl
@[simp] theorem ag33 : aggP Try.prog 33 = false := by kernel_rfl
@[simp] theorem ap33 : appTy Try.prog 33 = false := by kernel_rfl
@[simp] theorem iu33 : isU8 Try.prog 33 = false := by kernel_rfl
@[simp] theorem se33 : selfTy Try.prog 33 = false := by kernel_rfl
@[simp] theorem sz35 : szP Try.prog 35 = some 44 := by kernel_rfl
@[simp] theorem by35 : byP Try.prog 35 = some 536 := by kernel_rfl
@[simp] theorem kk35 : kP Try.prog 35 = some (.st) := by kernel_rfl
@[simp] theorem ze35 : zeroP Try.prog 35 = some (.agg ([.int .i64 0, .str [], .int .i64 0, .nilsl, .nilsl, .int .u64 0, .int .u64 0, .int .u64 0, .int .u64 0, .int .u64 0, .int .u64 0, .int .u64 0, .int .u64 0, .str [], .str [], .str [], .str [], .str [], .str [], .int .i64 0, .int .u64 0, .int .u64 0, .int .u64 0, .int .u64 0, .int .u64 0, .int .u64 0, .int .u64 0, .int .u64 0, .bool false, .str [], .str [], .str [], .str [], .str [], .str [], .str [], .str [], .str [], .str [], .int .u64 0, .str [], .str [], .int .u64 0, .int .i64 0])) := by kernel_rfl
@[simp] theorem ag35 : aggP Try.prog 35 = true := by kernel_rfl
@[simp] theorem ap35 : appTy Try.prog 35 = false := by kernel_rfl
@[simp] theorem iu35 : isU8 Try.prog 35 = false := by kernel_rfl
@[simp] theorem se35 : selfTy Try.prog 35 = false := by kernel_rfl
@[simp] theorem fl35_0 : fldP Try.prog 35 0 = some (0, 3) := by kernel_rfl
@[simp] theorem fl35_1 : fldP Try.prog 35 1 = some (1, 9) := by kernel_rfl
@[simp] theorem fl35_2 : fldP Try.prog 35 2 = some (2, 2) := by kernel_rfl
@[simp] theorem fl35_3 : fldP Try.prog 35 3 = some (3, 22) := by kernel_rfl
@[simp] theorem fl35_4 : fldP Try.prog 35 4 = some (4, 23) := by kernel_rfl
@[simp] theorem fl35_5 : fldP Try.prog 35 5 = some (5, 26) := by kernel_rfl
@[simp] theorem fl35_6 : fldP Try.prog 35 6 = some (9, 26) := by kernel_rfl
@[simp] theorem fl35_7 : fldP Try.prog 35 7 = some (13, 9) := by kernel_rfl
@[simp] theorem fl35_8 : fldP Try.prog 35 8 = some (14, 9) := by kernel_rfl
@[simp] theorem fl35_9 : fldP Try.prog 35 9 = some (15, 9) := by kernel_rfl
@[simp] theorem fl35_10 : fldP Try.prog 35 10 = some (16, 9) := by kernel_rfl
@[simp] theorem fl35_11 : fldP Try.prog 35 11 = some (17, 9) := by kernel_rfl
@[simp] theorem fl35_12 : fldP Try.prog 35 12 = some (18, 9) := by kernel_rfl
@[simp] theorem fl35_13 : fldP Try.prog 35 13 = some (19, 3) := by kernel_rfl
@[simp] theorem fl35_14 : fldP Try.prog 35 14 = some (20, 28) := by kernel_rfl
@[simp] theorem fl35_15 : fldP Try.prog 35 15 = some (29, 30) := by kernel_rfl
@[simp] theorem fl35_16 : fldP Try.prog 35 16 = some (33, 30) := by kernel_rfl
@[simp] theorem fl35_17 : fldP Try.prog 35 17 = some (37, 32) := by kernel_rfl
@[simp] theorem fl35_18 : fldP Try.prog 35 18 = some (40, 32) := by kernel_rfl
@[simp] theorem fl35_19 : fldP Try.prog 35 19 = some (43, 33) := by kernel_rfl
@[simp] theorem pl35 : placeP Try.prog 35 = some (.inl [(0, 1), (1, 1), (2, 1), (3, 1), (4, 1), (5, 4), (9, 4), (13, 1), (14, 1), (15, 1), (16, 1), (17, 1), (18, 1), (19, 1), (20, 9), (29, 4), (33, 4), (37, 3), (40, 3), (43, 1)]) := by kernel_rfl
@[simp] theorem sz43 : szP Try.prog 43 = some 1 := by kernel_rfl
@[simp] theorem by43 : byP Try.prog 43 = some 24 := by kernel_rfl
@[simp] theorem kk43 : kP Try.prog 43 = some (.sl 3) := by kernel_rfl
@[simp] theorem ze43 : zeroP Try.prog 43 = some (.nilsl) := by kernel_rfl
@[simp] theorem sl43 : kSl Try.prog 43 = some 3 := by kernel_rfl
@[simp] theorem ag43 : aggP Try.prog 43 = false := by kernel_rfl
@[simp] theorem ap43 : appTy Try.prog 43 = true := by kernel_rfl
@[simp] theorem iu43 : isU8 Try.prog 43 = false := by kernel_rfl
@[simp] theorem se43 : selfTy Try.prog 43 = false := by kernel_rfl
@[simp] theorem sz45 : szP Try.prog 45 = some 4 := by kernel_rfl
@[simp] theorem by45 : byP Try.prog 45 = some 72 := by kernel_rfl
@[simp] theorem kk45 : kP Try.prog 45 = some (.st) := by kernel_rfl
@[simp] theorem ze45 : zeroP Try.prog 45 = some (.agg ([.nilsl, .str [], .int .i64 0, .nilsl])) := by kernel_rfl
@[simp] theorem ag45 : aggP Try.prog 45 = true := by kernel_rfl
@[simp] theorem ap45 : appTy Try.prog 45 = false := by kernel_rfl
@[simp] theorem iu45 : isU8 Try.prog 45 = false := by kernel_rfl
@[simp] theorem se45 : selfTy Try.prog 45 = false := by kernel_rfl
@[simp] theorem fl45_0 : fldP Try.prog 45 0 = some (0, 43) := by kernel_rfl
@[simp] theorem fl45_1 : fldP Try.prog 45 1 = some (1, 9) := by kernel_rfl
@[simp] theorem fl45_2 : fldP Try.prog 45 2 = some (2, 3) := by kernel_rfl
@[simp] theorem fl45_3 : fldP Try.prog 45 3 = some (3, 23) := by kernel_rfl
@[simp] theorem pl45 : placeP Try.prog 45 = some (.inl [(0, 1), (1, 1), (2, 1), (3, 1)]) := by kernel_rfl
@[simp] theorem sz47 : szP Try.prog 47 = some 1 := by kernel_rfl
@[simp] theorem by47 : byP Try.prog 47 = some 24 := by kernel_rfl
@[simp] theorem kk47 : kP Try.prog 47 = some (.sl 69) := by kernel_rfl
@[simp] theorem sl47 : kSl Try.prog 47 = some 69 := by kernel_rfl
@[simp] theorem ag47 : aggP Try.prog 47 = false := by kernel_rfl
@[simp] theorem ap47 : appTy Try.prog 47 = true := by kernel_rfl
@[simp] theorem iu47 : isU8 Try.prog 47 = false := by kernel_rfl
@[simp] theorem se47 : selfTy Try.prog 47 = false := by kernel_rfl
@[simp] theorem sz53 : szP Try.prog 53 = some 4 := by kernel_rfl
@[simp] theorem by53 : byP Try.prog 53 = some 56 := by kernel_rfl
@[simp] theorem kk53 : kP Try.prog 53 = some (.st) := by kernel_rfl
@[simp] theorem ze53 : zeroP Try.prog 53 = some (.agg ([.int .i64 0, .nilsl, .str [], .int .i64 0])) := by kernel_rfl
@[simp] theorem ag53 : aggP Try.prog 53 = true := by kernel_rfl
@[simp] theorem ap53 : appTy Try.prog 53 = false := by kernel_rfl
@[simp] theorem iu53 : isU8 Try.prog 53 = false := by kernel_rfl
@[simp] theorem se53 : selfTy Try.prog 53 = false := by kernel_rfl
@[simp] theorem fl53_0 : fldP Try.prog 53 0 = some (0, 3) := by kernel_rfl
@[simp] theorem fl53_1 : fldP Try.prog 53 1 = some (1, 23) := by kernel_rfl
@[simp] theorem fl53_2 : fldP Try.prog 53 2 = some (2, 9) := by kernel_rfl
@[simp] theorem fl53_3 : fldP Try.prog 53 3 = some (3, 3) := by kernel_rfl
@[simp] theorem pl53 : placeP Try.prog 53 = some (.inl [(0, 1), (1, 1), (2, 1), (3, 1)]) := by kernel_rfl
@[simp] theorem sz61 : szP Try.prog 61 = some 2 := by kernel_rfl
@[simp] theorem by61 : byP Try.prog 61 = some 32 := by kernel_rfl
@[simp] theorem kk61 : kP Try.prog 61 = some (.arr 2 9) := by kernel_rfl
@[simp] theorem ze61 : zeroP Try.prog 61 = some (.agg ([.str [], .str []])) := by kernel_rfl
@[simp] theorem ar61 : kArr Try.prog 61 = some (2, 9) := by kernel_rfl
@[simp] theorem pl61 : placeP Try.prog 61 = some (.inr 1) := by kernel_rfl
@[simp] theorem ag61 : aggP Try.prog 61 = true := by kernel_rfl
@[simp] theorem ap61 : appTy Try.prog 61 = false := by kernel_rfl
@[simp] theorem iu61 : isU8 Try.prog 61 = false := by kernel_rfl
@[simp] theorem se61 : selfTy Try.prog 61 = false := by kernel_rfl
@[simp] theorem ft61 : flatL Try.prog 20 61 = some ([.s, .s]) := by kernel_rfl
@[simp] theorem eg61 : Try.prog.eqGuardType Try.prog.depth 61 = false := by kernel_rfl
@[simp] theorem sz65 : szP Try.prog 65 = some 1 := by kernel_rfl
@[simp] theorem by65 : byP Try.prog 65 = some 24 := by kernel_rfl
@[simp] theorem kk65 : kP Try.prog 65 = some (.sl 5) := by kernel_rfl
@[simp] theorem sl65 : kSl Try.prog 65 = some 5 := by kernel_rfl
@[simp] theorem ag65 : aggP Try.prog 65 = false := by kernel_rfl
@[simp] theorem ap65 : appTy Try.prog 65 = true := by kernel_rfl
@[simp] theorem iu65 : isU8 Try.prog 65 = false := by kernel_rfl
@[simp] theorem se65 : selfTy Try.prog 65 = false := by kernel_rfl
@[simp] theorem sz69 : szP Try.prog 69 = some 3 := by kernel_rfl
@[simp] theorem by69 : byP Try.prog 69 = some 32 := by kernel_rfl
@[simp] theorem kk69 : kP Try.prog 69 = some (.st) := by kernel_rfl
@[simp] theorem ze69 : zeroP Try.prog 69 = some (.agg ([.bool false, .int .i64 0, .str []])) := by kernel_rfl
@[simp] theorem ag69 : aggP Try.prog 69 = true := by kernel_rfl
@[simp] theorem ap69 : appTy Try.prog 69 = false := by kernel_rfl
@[simp] theorem iu69 : isU8 Try.prog 69 = false := by kernel_rfl
@[simp] theorem se69 : selfTy Try.prog 69 = false := by kernel_rfl
@[simp] theorem fl69_0 : fldP Try.prog 69 0 = some (0, 4) := by kernel_rfl
@[simp] theorem fl69_1 : fldP Try.prog 69 1 = some (1, 3) := by kernel_rfl
@[simp] theorem fl69_2 : fldP Try.prog 69 2 = some (2, 9) := by kernel_rfl
@[simp] theorem pl69 : placeP Try.prog 69 = some (.inl [(0, 1), (1, 1), (2, 1)]) := by kernel_rfl
@[simp] theorem ft69 : flatL Try.prog 20 69 = some ([.b, .i, .s]) := by kernel_rfl
@[simp] theorem eg69 : Try.prog.eqGuardType Try.prog.depth 69 = false := by kernel_rfl
@[simp] theorem sz72 : szP Try.prog 72 = some 1 := by kernel_rfl
@[simp] theorem by72 : byP Try.prog 72 = some 8 := by kernel_rfl
@[simp] theorem kk72 : kP Try.prog 72 = some (.fn) := by kernel_rfl
@[simp] theorem ze72 : zeroP Try.prog 72 = some (.nilfunc) := by kernel_rfl
@[simp] theorem ag72 : aggP Try.prog 72 = false := by kernel_rfl
@[simp] theorem ap72 : appTy Try.prog 72 = false := by kernel_rfl
@[simp] theorem iu72 : isU8 Try.prog 72 = false := by kernel_rfl
@[simp] theorem se72 : selfTy Try.prog 72 = false := by kernel_rfl
@[simp] theorem sz82 : szP Try.prog 82 = some 1 := by kernel_rfl
@[simp] theorem by82 : byP Try.prog 82 = some 8 := by kernel_rfl
@[simp] theorem kk82 : kP Try.prog 82 = some (.ptr 84) := by kernel_rfl
@[simp] theorem ze82 : zeroP Try.prog 82 = some (.nilptr) := by kernel_rfl
@[simp] theorem ag82 : aggP Try.prog 82 = false := by kernel_rfl
@[simp] theorem ap82 : appTy Try.prog 82 = false := by kernel_rfl
@[simp] theorem iu82 : isU8 Try.prog 82 = false := by kernel_rfl
@[simp] theorem se82 : selfTy Try.prog 82 = false := by kernel_rfl
@[simp] theorem sz84 : szP Try.prog 84 = some 4 := by kernel_rfl
@[simp] theorem by84 : byP Try.prog 84 = some 56 := by kernel_rfl
@[simp] theorem kk84 : kP Try.prog 84 = some (.st) := by kernel_rfl
@[simp] theorem ze84 : zeroP Try.prog 84 = some (.agg ([.int .i64 0, .nilsl, .str [], .int .i64 0])) := by kernel_rfl
@[simp] theorem ag84 : aggP Try.prog 84 = true := by kernel_rfl
@[simp] theorem ap84 : appTy Try.prog 84 = false := by kernel_rfl
@[simp] theorem iu84 : isU8 Try.prog 84 = false := by kernel_rfl
@[simp] theorem se84 : selfTy Try.prog 84 = false := by kernel_rfl
@[simp] theorem fl84_0 : fldP Try.prog 84 0 = some (0, 53) := by kernel_rfl
@[simp] theorem pl84 : placeP Try.prog 84 = some (.inl [(0, 4)]) := by kernel_rfl
@[simp] theorem sz88 : szP Try.prog 88 = some 1 := by kernel_rfl
@[simp] theorem by88 : byP Try.prog 88 = some 8 := by kernel_rfl
@[simp] theorem kk88 : kP Try.prog 88 = some (.int .u64) := by kernel_rfl
@[simp] theorem ag88 : aggP Try.prog 88 = false := by kernel_rfl
@[simp] theorem ap88 : appTy Try.prog 88 = false := by kernel_rfl
@[simp] theorem iu88 : isU8 Try.prog 88 = false := by kernel_rfl
@[simp] theorem se88 : selfTy Try.prog 88 = false := by kernel_rfl
@[simp] theorem sz90 : szP Try.prog 90 = some 1 := by kernel_rfl
@[simp] theorem by90 : byP Try.prog 90 = some 8 := by kernel_rfl
@[simp] theorem kk90 : kP Try.prog 90 = some (.ptr 92) := by kernel_rfl
@[simp] theorem ag90 : aggP Try.prog 90 = false := by kernel_rfl
@[simp] theorem ap90 : appTy Try.prog 90 = false := by kernel_rfl
@[simp] theorem iu90 : isU8 Try.prog 90 = false := by kernel_rfl
@[simp] theorem se90 : selfTy Try.prog 90 = false := by kernel_rfl
@[simp] theorem sz92 : szP Try.prog 92 = some 2 := by kernel_rfl
@[simp] theorem by92 : byP Try.prog 92 = some 32 := by kernel_rfl
@[simp] theorem kk92 : kP Try.prog 92 = some (.st) := by kernel_rfl
@[simp] theorem ze92 : zeroP Try.prog 92 = some (.agg ([.nilptr, .nilsl])) := by kernel_rfl
@[simp] theorem ag92 : aggP Try.prog 92 = true := by kernel_rfl
@[simp] theorem ap92 : appTy Try.prog 92 = false := by kernel_rfl
@[simp] theorem iu92 : isU8 Try.prog 92 = false := by kernel_rfl
@[simp] theorem se92 : selfTy Try.prog 92 = true := by kernel_rfl
@[simp] theorem fl92_0 : fldP Try.prog 92 0 = some (0, 90) := by kernel_rfl
@[simp] theorem fl92_1 : fldP Try.prog 92 1 = some (1, 65) := by kernel_rfl
@[simp] theorem pl92 : placeP Try.prog 92 = some (.inl [(0, 1), (1, 1)]) := by kernel_rfl
@[simp] theorem sz98 : szP Try.prog 98 = some 1 := by kernel_rfl
@[simp] theorem by98 : byP Try.prog 98 = some 24 := by kernel_rfl
@[simp] theorem kk98 : kP Try.prog 98 = some (.sl 72) := by kernel_rfl
@[simp] theorem sl98 : kSl Try.prog 98 = some 72 := by kernel_rfl
@[simp] theorem ag98 : aggP Try.prog 98 = false := by kernel_rfl
@[simp] theorem ap98 : appTy Try.prog 98 = true := by kernel_rfl
@[simp] theorem iu98 : isU8 Try.prog 98 = false := by kernel_rfl
@[simp] theorem se98 : selfTy Try.prog 98 = false := by kernel_rfl
@[simp] theorem sz113 : szP Try.prog 113 = some 1 := by kernel_rfl
@[simp] theorem by113 : byP Try.prog 113 = some 8 := by kernel_rfl
@[simp] theorem kk113 : kP Try.prog 113 = some (.ptr 5) := by kernel_rfl
@[simp] theorem ag113 : aggP Try.prog 113 = false := by kernel_rfl
@[simp] theorem ap113 : appTy Try.prog 113 = false := by kernel_rfl
@[simp] theorem iu113 : isU8 Try.prog 113 = false := by kernel_rfl
@[simp] theorem se113 : selfTy Try.prog 113 = false := by kernel_rfl
@[simp] theorem sz120 : szP Try.prog 120 = some 1 := by kernel_rfl
@[simp] theorem by120 : byP Try.prog 120 = some 4 := by kernel_rfl
@[simp] theorem kk120 : kP Try.prog 120 = some (.int .u32) := by kernel_rfl
@[simp] theorem ze120 : zeroP Try.prog 120 = some (.int .u32 0) := by kernel_rfl
@[simp] theorem ag120 : aggP Try.prog 120 = false := by kernel_rfl
@[simp] theorem ap120 : appTy Try.prog 120 = false := by kernel_rfl
@[simp] theorem iu120 : isU8 Try.prog 120 = false := by kernel_rfl
@[simp] theorem se120 : selfTy Try.prog 120 = false := by kernel_rfl
@[simp] theorem sz121 : szP Try.prog 121 = some 8 := by kernel_rfl
@[simp] theorem by121 : byP Try.prog 121 = some 32 := by kernel_rfl
@[simp] theorem kk121 : kP Try.prog 121 = some (.arr 8 120) := by kernel_rfl
@[simp] theorem ze121 : zeroP Try.prog 121 = some (.agg ([.int .u32 0, .int .u32 0, .int .u32 0, .int .u32 0, .int .u32 0, .int .u32 0, .int .u32 0, .int .u32 0])) := by kernel_rfl
@[simp] theorem ar121 : kArr Try.prog 121 = some (8, 120) := by kernel_rfl
@[simp] theorem pl121 : placeP Try.prog 121 = some (.inr 1) := by kernel_rfl
@[simp] theorem ag121 : aggP Try.prog 121 = true := by kernel_rfl
@[simp] theorem ap121 : appTy Try.prog 121 = false := by kernel_rfl
@[simp] theorem iu121 : isU8 Try.prog 121 = false := by kernel_rfl
@[simp] theorem se121 : selfTy Try.prog 121 = false := by kernel_rfl
@[simp] theorem ft121 : flatL Try.prog 20 121 = some ([.i, .i, .i, .i, .i, .i, .i, .i]) := by kernel_rfl
@[simp] theorem eg121 : Try.prog.eqGuardType Try.prog.depth 121 = false := by kernel_rfl
@[simp] theorem sz123 : szP Try.prog 123 = some 10 := by kernel_rfl
@[simp] theorem by123 : byP Try.prog 123 = some 56 := by kernel_rfl
@[simp] theorem kk123 : kP Try.prog 123 = some (.st) := by kernel_rfl
@[simp] theorem ze123 : zeroP Try.prog 123 = some (.agg ([.int .u32 0, .int .u32 0, .int .u32 0, .int .u32 0, .int .u32 0, .int .u32 0, .int .u32 0, .int .u32 0, .str [], .int .u64 0])) := by kernel_rfl
@[simp] theorem ag123 : aggP Try.prog 123 = true := by kernel_rfl
@[simp] theorem ap123 : appTy Try.prog 123 = false := by kernel_rfl
@[simp] theorem iu123 : isU8 Try.prog 123 = false := by kernel_rfl
@[simp] theorem se123 : selfTy Try.prog 123 = false := by kernel_rfl
@[simp] theorem fl123_0 : fldP Try.prog 123 0 = some (0, 121) := by kernel_rfl
@[simp] theorem fl123_1 : fldP Try.prog 123 1 = some (8, 9) := by kernel_rfl
@[simp] theorem fl123_2 : fldP Try.prog 123 2 = some (9, 24) := by kernel_rfl
@[simp] theorem pl123 : placeP Try.prog 123 = some (.inl [(0, 8), (8, 1), (9, 1)]) := by kernel_rfl
@[simp] theorem ft123 : flatL Try.prog 20 123 = some ([.i, .i, .i, .i, .i, .i, .i, .i, .s, .i]) := by kernel_rfl
@[simp] theorem eg123 : Try.prog.eqGuardType Try.prog.depth 123 = false := by kernel_rfl
@[simp] theorem sz149 : szP Try.prog 149 = some 64 := by kernel_rfl
@[simp] theorem by149 : byP Try.prog 149 = some 256 := by kernel_rfl
@[simp] theorem kk149 : kP Try.prog 149 = some (.arr 64 120) := by kernel_rfl
@[simp] theorem ze149 : zeroP Try.prog 149 = some (.agg (List.replicate 64 (.int .u32 0))) := by kernel_rfl
@[simp] theorem ar149 : kArr Try.prog 149 = some (64, 120) := by kernel_rfl
@[simp] theorem pl149 : placeP Try.prog 149 = some (.inr 1) := by kernel_rfl
@[simp] theorem ag149 : aggP Try.prog 149 = true := by kernel_rfl
@[simp] theorem ap149 : appTy Try.prog 149 = false := by kernel_rfl
@[simp] theorem iu149 : isU8 Try.prog 149 = false := by kernel_rfl
@[simp] theorem se149 : selfTy Try.prog 149 = false := by kernel_rfl
@[simp] theorem ft149 : flatL Try.prog 20 149 = some (List.replicate 64 (.i)) := by kernel_rfl
@[simp] theorem eg149 : Try.prog.eqGuardType Try.prog.depth 149 = false := by kernel_rfl
@[simp] theorem sz153 : szP Try.prog 153 = some 1 := by kernel_rfl
@[simp] theorem by153 : byP Try.prog 153 = some 24 := by kernel_rfl
@[simp] theorem kk153 : kP Try.prog 153 = some (.sl 120) := by kernel_rfl
@[simp] theorem sl153 : kSl Try.prog 153 = some 120 := by kernel_rfl
@[simp] theorem ag153 : aggP Try.prog 153 = false := by kernel_rfl
@[simp] theorem ap153 : appTy Try.prog 153 = true := by kernel_rfl
@[simp] theorem iu153 : isU8 Try.prog 153 = false := by kernel_rfl
@[simp] theorem se153 : selfTy Try.prog 153 = false := by kernel_rfl
attribute [simp] Try.underlying1
attribute [simp] Try.underlying2
attribute [simp] Try.underlying3
attribute [simp] Try.underlying4
attribute [simp] Try.underlying5
attribute [simp] Try.underlying6
attribute [simp] Try.underlying7
attribute [simp] Try.underlying8
attribute [simp] Try.underlying9
attribute [simp] Try.underlying10
attribute [simp] Try.underlying11
attribute [simp] Try.underlying12
attribute [simp] Try.underlying13
attribute [simp] Try.underlying14
attribute [simp] Try.underlying15
attribute [simp] Try.underlying16
attribute [simp] Try.underlying17
attribute [simp] Try.underlying18
attribute [simp] Try.underlying19
attribute [simp] Try.underlying21
attribute [simp] Try.underlying22
attribute [simp] Try.underlying23
attribute [simp] Try.underlying24
attribute [simp] Try.underlying25
attribute [simp] Try.underlying26
attribute [simp] Try.underlying27
attribute [simp] Try.underlying28
attribute [simp] Try.underlying29
attribute [simp] Try.underlying30
attribute [simp] Try.underlying31
attribute [simp] Try.underlying32
attribute [simp] Try.underlying33
attribute [simp] Try.underlying34
attribute [simp] Try.underlying35
attribute [simp] Try.underlying37
attribute [simp] Try.underlying39
attribute [simp] Try.underlying40
attribute [simp] Try.underlying41
attribute [simp] Try.underlying42
attribute [simp] Try.underlying43
attribute [simp] Try.underlying44
attribute [simp] Try.underlying45
attribute [simp] Try.underlying46
attribute [simp] Try.underlying47
attribute [simp] Try.underlying49
attribute [simp] Try.underlying51
attribute [simp] Try.underlying52
attribute [simp] Try.underlying53
attribute [simp] Try.underlying55
attribute [simp] Try.underlying56
attribute [simp] Try.underlying57
attribute [simp] Try.underlying58
attribute [simp] Try.underlying59
attribute [simp] Try.underlying60
attribute [simp] Try.underlying61
attribute [simp] Try.underlying63
attribute [simp] Try.underlying64
attribute [simp] Try.underlying65
attribute [simp] Try.underlying67
attribute [simp] Try.underlying68
attribute [simp] Try.underlying69
attribute [simp] Try.underlying70
attribute [simp] Try.underlying71
attribute [simp] Try.underlying72
attribute [simp] Try.underlying73
attribute [simp] Try.underlying74
attribute [simp] Try.underlying75
attribute [simp] Try.underlying77
attribute [simp] Try.underlying78
attribute [simp] Try.underlying79
attribute [simp] Try.underlying81
attribute [simp] Try.underlying82
attribute [simp] Try.underlying83
attribute [simp] Try.underlying84
attribute [simp] Try.underlying85
attribute [simp] Try.underlying86
attribute [simp] Try.underlying87
attribute [simp] Try.underlying88
attribute [simp] Try.underlying89
attribute [simp] Try.underlying90
attribute [simp] Try.underlying91
attribute [simp] Try.underlying92
attribute [simp] Try.underlying96
attribute [simp] Try.underlying97
attribute [simp] Try.underlying98
attribute [simp] Try.underlying99
attribute [simp] Try.underlying100
attribute [simp] Try.underlying102
attribute [simp] Try.underlying103
attribute [simp] Try.underlying104
attribute [simp] Try.underlying105
attribute [simp] Try.underlying106
attribute [simp] Try.underlying107
attribute [simp] Try.underlying108
attribute [simp] Try.underlying109
attribute [simp] Try.underlying110
attribute [simp] Try.underlying111
attribute [simp] Try.underlying112
attribute [simp] Try.underlying113
attribute [simp] Try.underlying114
attribute [simp] Try.underlying115
attribute [simp] Try.underlying116
attribute [simp] Try.underlying117
attribute [simp] Try.underlying118
attribute [simp] Try.underlying119
attribute [simp] Try.underlying120
attribute [simp] Try.underlying121
attribute [simp] Try.underlying122
attribute [simp] Try.underlying123
attribute [simp] Try.underlying124
attribute [simp] Try.underlying125
attribute [simp] Try.underlying126
attribute [simp] Try.underlying127
attribute [simp] Try.underlying129
attribute [simp] Try.underlying130
attribute [simp] Try.underlying131
attribute [simp] Try.underlying132
attribute [simp] Try.underlying133
attribute [simp] Try.underlying134
attribute [simp] Try.underlying136
attribute [simp] Try.underlying137
attribute [simp] Try.underlying138
attribute [simp] Try.underlying139
attribute [simp] Try.underlying140
attribute [simp] Try.underlying142
attribute [simp] Try.underlying143
attribute [simp] Try.underlying144
attribute [simp] Try.underlying146
attribute [simp] Try.underlying147
attribute [simp] Try.underlying148
attribute [simp] Try.underlying149
attribute [simp] Try.underlying150
attribute [simp] Try.underlying151
attribute [simp] Try.underlying152
attribute [simp] Try.underlying153
attribute [simp] Try.underlying154
attribute [simp] Try.underlying155
attribute [simp] Try.underlying156
attribute [simp] Try.underlying157
attribute [simp] Try.underlying159
attribute [simp] Try.underlying161
attribute [simp] Try.underlying162
attribute [simp] Try.underlying163
attribute [simp] Try.underlying164
attribute [simp] Try.underlying165
attribute [simp] Try.underlying166
attribute [simp] Try.underlying167
attribute [simp] Try.underlying168
attribute [simp] Try.underlying169
attribute [simp] Try.underlying170
attribute [simp] Try.underlying171
attribute [simp] Try.underlying172
attribute [simp] Try.underlying173
attribute [simp] Try.underlying174
attribute [simp] Try.underlying175
attribute [simp] Try.underlying176
attribute [simp] Try.underlying177
attribute [simp] Try.underlying178
end Pv.Try

namespace Pv
open Go Go.RowKit
variable {X : Ctx} {G : Ghost} {ph : PH} {w : World} {ρ : Option Nat} {n0 : Nat} {Q : Exit → PSt → PH → Prop}

/-- All that was there before is as it was. -/
structure Keeps (base ph : PH) : Prop where
  n : base.n ≤ ph.n
  bl : ∀ p, p < base.n → ph.get p = base.get p
  ob : ∀ r o, base.ob r = some o → ph.ob r = some o
  ty : ∀ p, p < base.n → ph.ty p = base.ty p
  gr : ∀ p, p < base.n → ph.gro p = base.gro p

theorem Keeps.refl (ph : PH) : Keeps ph ph := ⟨Nat.le_refl _, fun _ _ => rfl, fun _ _ h => h, fun _ _ => rfl, fun _ _ => rfl⟩
theorem Keeps.trans {a b c : PH} (h : Keeps a b) (k : Keeps b c) : Keeps a c :=
  ⟨Nat.le_trans h.n k.n, fun p hp => (k.bl p (Nat.lt_of_lt_of_le hp h.n)).trans (h.bl p hp), fun r o e => k.ob r o (h.ob r o e), fun p hp => (k.ty p (Nat.lt_of_lt_of_le hp h.n)).trans (h.ty p hp), fun p hp => (k.gr p (Nat.lt_of_lt_of_le hp h.n)).trans (h.gr p hp)⟩
theorem Keeps.push {a b : PH} (h : Keeps a b) (c : List PV) : Keeps a (b.push c) :=
  ⟨by have := h.n; simp; omega, fun p hp => by rw [PH.get_push, if_neg (by have := h.n; omega)]; exact h.bl p hp, h.ob, h.ty, fun p hp => by rw [PH.gro_push]; exact h.gr p hp⟩
theorem Keeps.put {a b : PH} (h : Keeps a b) {p : Nat} (hp : a.n ≤ p) (hl : p < b.n) (c : List PV) : Keeps a (b.put p c) :=
  ⟨by have := h.n; simp; omega, fun q hq => by rw [PH.get_put hl, if_neg (by omega)]; exact h.bl q hq, h.ob, h.ty, fun q hq => by rw [PH.gro_put, if_neg (by omega)]; exact h.gr q hq⟩
theorem Keeps.kill {a b : PH} (h : Keeps a b) {p : Nat} (hp : a.n ≤ p) : Keeps a (b.kill p) :=
  ⟨by have := h.n; simp; omega, fun q hq => by rw [PH.get_kill, if_neg (by omega)]; exact h.bl q hq, h.ob, h.ty, fun q hq => by rw [PH.gro_kill, if_neg (by omega)]; exact h.gr q hq⟩
theorem Keeps.tell {a b : PH} (h : Keeps a b) {p : Nat} (hp : a.n ≤ p) (e : TypeId) : Keeps a (b.setTy p e) :=
  ⟨h.n, h.bl, h.ob, fun q hq => by simp only [PH.setTy]; rw [if_neg (by omega)]; exact h.ty q hq, h.gr⟩

theorem Keeps.cut_eq {base ph : PH} (h : Keeps base ph) (hb : ∀ p e, base.ty p = some e → p < base.n) : ph.cut base.n base.ob = base := by
  unfold PH.cut
  have : ph.bl.take base.n = base.bl := by
    have hn : base.bl.length ≤ ph.bl.length := h.n
    apply List.ext_getElem?
    intro i
    rw [List.getElem?_take]
    split
    · rename_i hi
      have hi' : i < base.bl.length := hi
      have h1 := h.bl i hi
      have h2 := h.gr i hi
      simp only [PH.get, PH.gro, List.getElem?_eq_getElem hi', List.getElem?_eq_getElem (show i < ph.bl.length by omega), Option.join_some] at h1 h2
      rw [List.getElem?_eq_getElem hi', List.getElem?_eq_getElem (show i < ph.bl.length by omega)]
      congr 1
      revert h1 h2
      cases ph.bl[i] with
      | none => cases base.bl[i] with
        | none => intros; rfl
        | some b => cases b <;> simp [Blk.cells, Blk.gro]
      | some a => cases base.bl[i] with
        | none => cases a <;> simp [Blk.cells, Blk.gro]
        | some b => cases a <;> cases b <;> simp [Blk.cells, Blk.gro]
    · rename_i hi
      have hi' : base.bl.length ≤ i := Nat.le_of_not_lt hi
      rw [List.getElem?_eq_none hi']
  have ht : (fun p => if p < base.n then ph.ty p else none) = base.ty := by
    funext p
    split
    · rename_i hp; exact h.ty p hp
    · rename_i hp
      cases e : base.ty p with
      | none => rfl
      | some t => exact absurd (hb p t e) hp
  rw [this, ht]

/-- What stands there names nothing that isn't there. -/
def Shut (base : PH) : Prop := (∀ p c, base.get p = some c → Scs base.n c) ∧ (∀ r o, base.ob r = some o → ObSc base.n o)

theorem Rel.shuts (h : Rel X G ph w) : Shut ph := by
  refine ⟨fun p c hp => ?_, fun r o ho => ?_⟩
  · obtain ⟨L, vals, cs, e, fz, hL, o⟩ := h.own p c hp
    have := o.rv.scs; rw [h.lenN] at this; exact this
  · obtain ⟨_, h2⟩ := h.ob r o ho
    cases o with
    | loop l => obtain ⟨rt, q, _⟩ := h2; have := q.scs; rw [h.lenN] at this; exact this
    | defd => trivial

/-- A function of its arguments alone. -/
def Fn (X : Ctx) (f : FuncId) (args : List PV) (v : PV) : Prop := ∀ ph, PCalls X f args ph fun v' ph' => ph' = ph ∧ v' = v

theorem w_pure {f : FuncId} {args : List PV} {v : PV} {K : PV → PH → Prop} (h : Fn X f args v) (k : K v ph) : PCalls X f args ph K :=
  (h ph).mono (by rintro v' ph' ⟨rfl, rfl⟩; exact k)

theorem frz_scalar {ph : PH} {n d : Nat} {p : PV} (h : (match p with | .undef | .bool _ | .int _ _ | .str _ | .nilptr | .nilsl | .zsl | .nilfunc | .nilif | .yield _ => true | _ => false) = true) : frz ph n (d + 1) p = some p := by
  unfold frz
  cases p <;> simp_all

/-- Cells without blocks. -/
def scalarV : PV → Bool
  | .undef | .bool _ | .int _ _ | .str _ | .nilptr | .nilsl | .zsl | .nilfunc | .nilif | .yield _ => true
  | _ => false

theorem frzs_scalars {ph : PH} {n d : Nat} : ∀ {ps : List PV}, ps.all scalarV = true → frzs ph n (d + 1) ps = some ps
  | [], _ => by unfold frzs; rfl
  | p :: ps, h => by
    simp only [List.all_cons, Bool.and_eq_true] at h
    unfold frzs
    rw [frz_scalar (by have := h.1; unfold scalarV at this; exact this), frzs_scalars h.2]

theorem frz_agg {ph : PH} {n d : Nat} {ps qs : List PV} (h : frzs ph n d ps = some qs) : frz ph n (d + 1) (.agg ps) = some (.agg qs) := by unfold frz; simp only [h, Option.map_some]
theorem frz_tuple {ph : PH} {n d : Nat} {ps qs : List PV} (h : frzs ph n d ps = some qs) : frz ph n (d + 1) (.tuple ps) = some (.tuple qs) := by unfold frz; simp only [h, Option.map_some]
theorem frz_fsl {ph : PH} {n d e l : Nat} {ps qs : List PV} (h : frzs ph n d ps = some qs) : frz ph n (d + 1) (.fsl e l ps) = some (.fsl e l qs) := by unfold frz; simp only [h, Option.map_some]
theorem frz_sl {ph : PH} {n d p off e l : Nat} {cap : Option Nat} {cells qs : List PV} (hn : n ≤ p) (hp : ph.get p = some cells) (hl : off + l * e ≤ cells.length) (h : frzs ph n d (seg cells off (l * e)) = some qs) : frz ph n (d + 1) (.sl p off e l cap) = some (.fsl e l qs) := by
  unfold frz
  simp only [if_neg (show ¬ p < n by omega), hp, if_pos hl, h, Option.map_some]
theorem frzs_nil {ph : PH} {n d : Nat} : frzs ph n d [] = some [] := by unfold frzs; rfl
theorem frzs_cons {ph : PH} {n d : Nat} {p q : PV} {ps qs : List PV} (h : frz ph n d p = some q) (hs : frzs ph n d ps = some qs) : frzs ph n d (p :: ps) = some (q :: qs) := by unfold frzs; rw [h, hs]

end Pv
