/- Part of the proof: the layer of pure values, or walks through functions (PvFxM, PvPure). -/
import Derived.Test.YtjomgffpkdcanaaGreatProg
import Derived.Test.YtjomgffpkdcanaaGreatPvFun
import Derived.KernelRfl
set_option linter.all false
namespace Pv.Tryz
open Go Go.Proofs
@[simp] theorem sz3 : szP Tryz.prog 3 = some 1 := by kernel_rfl
@[simp] theorem by3 : byP Tryz.prog 3 = some 8 := by kernel_rfl
@[simp] theorem kk3 : kP Tryz.prog 3 = some (.int .i64) := by kernel_rfl
@[simp] theorem ze3 : zeroP Tryz.prog 3 = some (.int .i64 0) := by kernel_rfl
@[simp] theorem ag3 : aggP Tryz.prog 3 = false := by kernel_rfl
@[simp] theorem ap3 : appTy Tryz.prog 3 = false := by kernel_rfl
@[simp] theorem iu3 : isU8 Tryz.prog 3 = false := by kernel_rfl
@[simp] theorem se3 : selfTy Tryz.prog 3 = false := by kernel_rfl
@[simp] theorem sz4 : szP Tryz.prog 4 = some 1 := by kernel_rfl
@[simp] theorem by4 : byP Tryz.prog 4 = some 1 := by kernel_rfl
@[simp] theorem kk4 : kP Tryz.prog 4 = some (.bool) := by kernel_rfl
@[simp] theorem ag4 : aggP Tryz.prog 4 = false := by kernel_rfl
@[simp] theorem ap4 : appTy Tryz.prog 4 = false := by kernel_rfl
@[simp] theorem iu4 : isU8 Tryz.prog 4 = false := by kernel_rfl
@[simp] theorem se4 : selfTy Tryz.prog 4 = false := by kernel_rfl
@[simp] theorem sz5 : szP Tryz.prog 5 = some 1 := by kernel_rfl
@[simp] theorem by5 : byP Tryz.prog 5 = some 1 := by kernel_rfl
@[simp] theorem kk5 : kP Tryz.prog 5 = some (.int .u8) := by kernel_rfl
@[simp] theorem ze5 : zeroP Tryz.prog 5 = some (.int .u8 0) := by kernel_rfl
@[simp] theorem ag5 : aggP Tryz.prog 5 = false := by kernel_rfl
@[simp] theorem ap5 : appTy Tryz.prog 5 = false := by kernel_rfl
@[simp] theorem iu5 : isU8 Tryz.prog 5 = true := by kernel_rfl
@[simp] theorem se5 : selfTy Tryz.prog 5 = false := by kernel_rfl
@[simp] theorem sz9 : szP Tryz.prog 9 = some 1 := by kernel_rfl
@[simp] theorem by9 : byP Tryz.prog 9 = some 16 := by kernel_rfl
@[simp] theorem kk9 : kP Tryz.prog 9 = some (.str) := by kernel_rfl
@[simp] theorem ze9 : zeroP Tryz.prog 9 = some (.str []) := by kernel_rfl
@[simp] theorem ag9 : aggP Tryz.prog 9 = false := by kernel_rfl
@[simp] theorem ap9 : appTy Tryz.prog 9 = true := by kernel_rfl
@[simp] theorem iu9 : isU8 Tryz.prog 9 = false := by kernel_rfl
@[simp] theorem se9 : selfTy Tryz.prog 9 = false := by kernel_rfl
@[simp] theorem sz22 : szP Tryz.prog 22 = some 1 := by kernel_rfl
@[simp] theorem by22 : byP Tryz.prog 22 = some 24 := by kernel_rfl
@[simp] theorem kk22 : kP Tryz.prog 22 = some (.sl 3) := by kernel_rfl
@[simp] theorem ze22 : zeroP Tryz.prog 22 = some (.nilsl) := by kernel_rfl
@[simp] theorem sl22 : kSl Tryz.prog 22 = some 3 := by kernel_rfl
@[simp] theorem ag22 : aggP Tryz.prog 22 = false := by kernel_rfl
@[simp] theorem ap22 : appTy Tryz.prog 22 = true := by kernel_rfl
@[simp] theorem iu22 : isU8 Tryz.prog 22 = false := by kernel_rfl
@[simp] theorem se22 : selfTy Tryz.prog 22 = false := by kernel_rfl
@[simp] theorem sz23 : szP Tryz.prog 23 = some 1 := by kernel_rfl
@[simp] theorem by23 : byP Tryz.prog 23 = some 24 := by kernel_rfl
@[simp] theorem kk23 : kP Tryz.prog 23 = some (.sl 9) := by kernel_rfl
@[simp] theorem sl23 : kSl Tryz.prog 23 = some 9 := by kernel_rfl
@[simp] theorem ag23 : aggP Tryz.prog 23 = false := by kernel_rfl
@[simp] theorem ap23 : appTy Tryz.prog 23 = true := by kernel_rfl
@[simp] theorem iu23 : isU8 Tryz.prog 23 = false := by kernel_rfl
@[simp] theorem se23 : selfTy Tryz.prog 23 = false := by kernel_rfl
@[simp] theorem sz25 : szP Tryz.prog 25 = some 4 := by kernel_rfl
@[simp] theorem by25 : byP Tryz.prog 25 = some 72 := by kernel_rfl
@[simp] theorem kk25 : kP Tryz.prog 25 = some (.st) := by kernel_rfl
@[simp] theorem ze25 : zeroP Tryz.prog 25 = some (.agg ([.nilsl, .str [], .int .i64 0, .nilsl])) := by kernel_rfl
@[simp] theorem ag25 : aggP Tryz.prog 25 = true := by kernel_rfl
@[simp] theorem ap25 : appTy Tryz.prog 25 = false := by kernel_rfl
@[simp] theorem iu25 : isU8 Tryz.prog 25 = false := by kernel_rfl
@[simp] theorem se25 : selfTy Tryz.prog 25 = false := by kernel_rfl
@[simp] theorem fl25_0 : fldP Tryz.prog 25 0 = some (0, 22) := by kernel_rfl
@[simp] theorem fl25_1 : fldP Tryz.prog 25 1 = some (1, 9) := by kernel_rfl
@[simp] theorem fl25_2 : fldP Tryz.prog 25 2 = some (2, 3) := by kernel_rfl
@[simp] theorem fl25_3 : fldP Tryz.prog 25 3 = some (3, 23) := by kernel_rfl
@[simp] theorem pl25 : placeP Tryz.prog 25 = some (.inl [(0, 1), (1, 1), (2, 1), (3, 1)]) := by kernel_rfl
@[simp] theorem sz26 : szP Tryz.prog 26 = some 1 := by kernel_rfl
@[simp] theorem by26 : byP Tryz.prog 26 = some 24 := by kernel_rfl
@[simp] theorem kk26 : kP Tryz.prog 26 = some (.sl 46) := by kernel_rfl
@[simp] theorem sl26 : kSl Tryz.prog 26 = some 46 := by kernel_rfl
@[simp] theorem ag26 : aggP Tryz.prog 26 = false := by kernel_rfl
@[simp] theorem ap26 : appTy Tryz.prog 26 = true := by kernel_rfl
@[simp] theorem iu26 : isU8 Tryz.prog 26 = false := by kernel_rfl
@[simp] theorem se26 : selfTy Tryz.prog 26 = false := by kernel_rfl
@[simp] theorem sz29 : szP Tryz.prog 29 = some 1 := by kernel_rfl
@[simp] theorem by29 : byP Tryz.prog 29 = some 8 := by kernel_rfl
@[simp] theorem kk29 : kP Tryz.prog 29 = some (.int .i64) := by kernel_rfl
@[simp] theorem ag29 : aggP Tryz.prog 29 = false := by kernel_rfl
@[simp] theorem ap29 : appTy Tryz.prog 29 = false := by kernel_rfl
@[simp] theorem iu29 : isU8 Tryz.prog 29 = false := by kernel_rfl
@[simp] theorem se29 : selfTy Tryz.prog 29 = false := by kernel_rfl
@[simp] theorem sz46 : szP Tryz.prog 46 = some 3 := by kernel_rfl
@[simp] theorem by46 : byP Tryz.prog 46 = some 32 := by kernel_rfl
@[simp] theorem kk46 : kP Tryz.prog 46 = some (.st) := by kernel_rfl
@[simp] theorem ze46 : zeroP Tryz.prog 46 = some (.agg ([.bool false, .int .i64 0, .str []])) := by kernel_rfl
@[simp] theorem ag46 : aggP Tryz.prog 46 = true := by kernel_rfl
@[simp] theorem ap46 : appTy Tryz.prog 46 = false := by kernel_rfl
@[simp] theorem iu46 : isU8 Tryz.prog 46 = false := by kernel_rfl
@[simp] theorem se46 : selfTy Tryz.prog 46 = false := by kernel_rfl
@[simp] theorem fl46_0 : fldP Tryz.prog 46 0 = some (0, 4) := by kernel_rfl
@[simp] theorem fl46_1 : fldP Tryz.prog 46 1 = some (1, 3) := by kernel_rfl
@[simp] theorem fl46_2 : fldP Tryz.prog 46 2 = some (2, 9) := by kernel_rfl
@[simp] theorem pl46 : placeP Tryz.prog 46 = some (.inl [(0, 1), (1, 1), (2, 1)]) := by kernel_rfl
@[simp] theorem ft46 : flatL Tryz.prog 20 46 = some ([.b, .i, .s]) := by kernel_rfl
@[simp] theorem eg46 : Tryz.prog.eqGuardType Tryz.prog.depth 46 = false := by kernel_rfl
@[simp] theorem sz50 : szP Tryz.prog 50 = some 1 := by kernel_rfl
@[simp] theorem by50 : byP Tryz.prog 50 = some 8 := by kernel_rfl
@[simp] theorem kk50 : kP Tryz.prog 50 = some (.int .u64) := by kernel_rfl
@[simp] theorem ag50 : aggP Tryz.prog 50 = false := by kernel_rfl
@[simp] theorem ap50 : appTy Tryz.prog 50 = false := by kernel_rfl
@[simp] theorem iu50 : isU8 Tryz.prog 50 = false := by kernel_rfl
@[simp] theorem se50 : selfTy Tryz.prog 50 = false := by kernel_rfl
@[simp] theorem sz56 : szP Tryz.prog 56 = some 4 := by kernel_rfl
@[simp] theorem by56 : byP Tryz.prog 56 = some 64 := by kernel_rfl
@[simp] theorem kk56 : kP Tryz.prog 56 = some (.st) := by kernel_rfl
@[simp] theorem ag56 : aggP Tryz.prog 56 = true := by kernel_rfl
@[simp] theorem ap56 : appTy Tryz.prog 56 = false := by kernel_rfl
@[simp] theorem iu56 : isU8 Tryz.prog 56 = false := by kernel_rfl
@[simp] theorem se56 : selfTy Tryz.prog 56 = false := by kernel_rfl
@[simp] theorem fl56_0 : fldP Tryz.prog 56 0 = some (0, 9) := by kernel_rfl
@[simp] theorem fl56_1 : fldP Tryz.prog 56 1 = some (1, 9) := by kernel_rfl
@[simp] theorem fl56_2 : fldP Tryz.prog 56 2 = some (2, 9) := by kernel_rfl
@[simp] theorem fl56_3 : fldP Tryz.prog 56 3 = some (3, 9) := by kernel_rfl
@[simp] theorem pl56 : placeP Tryz.prog 56 = some (.inl [(0, 1), (1, 1), (2, 1), (3, 1)]) := by kernel_rfl
@[simp] theorem ft56 : flatL Tryz.prog 20 56 = some ([.s, .s, .s, .s]) := by kernel_rfl
@[simp] theorem eg56 : Tryz.prog.eqGuardType Tryz.prog.depth 56 = false := by kernel_rfl
@[simp] theorem sz60 : szP Tryz.prog 60 = some 44 := by kernel_rfl
@[simp] theorem by60 : byP Tryz.prog 60 = some 536 := by kernel_rfl
@[simp] theorem kk60 : kP Tryz.prog 60 = some (.st) := by kernel_rfl
@[simp] theorem ze60 : zeroP Tryz.prog 60 = some (.agg ([.int .i64 0, .str [], .int .i64 0, .nilsl, .nilsl, .int .u64 0, .int .u64 0, .int .u64 0, .int .u64 0, .int .u64 0, .int .u64 0, .int .u64 0, .int .u64 0, .str [], .str [], .str [], .str [], .str [], .str [], .int .i64 0, .int .u64 0, .int .u64 0, .int .u64 0, .int .u64 0, .int .u64 0, .int .u64 0, .int .u64 0, .int .u64 0, .bool false, .str [], .str [], .str [], .str [], .str [], .str [], .str [], .str [], .str [], .str [], .int .u64 0, .str [], .str [], .int .u64 0, .int .i64 0])) := by kernel_rfl
@[simp] theorem ag60 : aggP Tryz.prog 60 = true := by kernel_rfl
@[simp] theorem ap60 : appTy Tryz.prog 60 = false := by kernel_rfl
@[simp] theorem iu60 : isU8 Tryz.prog 60 = false := by kernel_rfl
@[simp] theorem se60 : selfTy Tryz.prog 60 = false := by kernel_rfl
@[simp] theorem fl60_0 : fldP Tryz.prog 60 0 = some (0, 3) := by kernel_rfl
@[simp] theorem fl60_1 : fldP Tryz.prog 60 1 = some (1, 9) := by kernel_rfl
@[simp] theorem fl60_2 : fldP Tryz.prog 60 2 = some (2, 2) := by kernel_rfl
@[simp] theorem fl60_3 : fldP Tryz.prog 60 3 = some (3, 49) := by kernel_rfl
@[simp] theorem fl60_4 : fldP Tryz.prog 60 4 = some (4, 23) := by kernel_rfl
@[simp] theorem fl60_5 : fldP Tryz.prog 60 5 = some (5, 52) := by kernel_rfl
@[simp] theorem fl60_6 : fldP Tryz.prog 60 6 = some (9, 52) := by kernel_rfl
@[simp] theorem fl60_7 : fldP Tryz.prog 60 7 = some (13, 9) := by kernel_rfl
@[simp] theorem fl60_8 : fldP Tryz.prog 60 8 = some (14, 9) := by kernel_rfl
@[simp] theorem fl60_9 : fldP Tryz.prog 60 9 = some (15, 9) := by kernel_rfl
@[simp] theorem fl60_10 : fldP Tryz.prog 60 10 = some (16, 9) := by kernel_rfl
@[simp] theorem fl60_11 : fldP Tryz.prog 60 11 = some (17, 9) := by kernel_rfl
@[simp] theorem fl60_12 : fldP Tryz.prog 60 12 = some (18, 9) := by kernel_rfl
@[simp] theorem fl60_13 : fldP Tryz.prog 60 13 = some (19, 3) := by kernel_rfl
@[simp] theorem fl60_14 : fldP Tryz.prog 60 14 = some (20, 54) := by kernel_rfl
@[simp] theorem fl60_15 : fldP Tryz.prog 60 15 = some (29, 56) := by kernel_rfl
@[simp] theorem fl60_16 : fldP Tryz.prog 60 16 = some (33, 56) := by kernel_rfl
@[simp] theorem fl60_17 : fldP Tryz.prog 60 17 = some (37, 58) := by kernel_rfl
@[simp] theorem fl60_18 : fldP Tryz.prog 60 18 = some (40, 58) := by kernel_rfl
@[simp] theorem fl60_19 : fldP Tryz.prog 60 19 = some (43, 29) := by kernel_rfl
@[simp] theorem pl60 : placeP Tryz.prog 60 = some (.inl [(0, 1), (1, 1), (2, 1), (3, 1), (4, 1), (5, 4), (9, 4), (13, 1), (14, 1), (15, 1), (16, 1), (17, 1), (18, 1), (19, 1), (20, 9), (29, 4), (33, 4), (37, 3), (40, 3), (43, 1)]) := by kernel_rfl
@[simp] theorem sz66 : szP Tryz.prog 66 = some 1 := by kernel_rfl
@[simp] theorem by66 : byP Tryz.prog 66 = some 8 := by kernel_rfl
@[simp] theorem kk66 : kP Tryz.prog 66 = some (.fn) := by kernel_rfl
@[simp] theorem ze66 : zeroP Tryz.prog 66 = some (.nilfunc) := by kernel_rfl
@[simp] theorem ag66 : aggP Tryz.prog 66 = false := by kernel_rfl
@[simp] theorem ap66 : appTy Tryz.prog 66 = false := by kernel_rfl
@[simp] theorem iu66 : isU8 Tryz.prog 66 = false := by kernel_rfl
@[simp] theorem se66 : selfTy Tryz.prog 66 = false := by kernel_rfl
@[simp] theorem sz90 : szP Tryz.prog 90 = some 2 := by kernel_rfl
@[simp] theorem by90 : byP Tryz.prog 90 = some 32 := by kernel_rfl
@[simp] theorem kk90 : kP Tryz.prog 90 = some (.arr 2 9) := by kernel_rfl
@[simp] theorem ze90 : zeroP Tryz.prog 90 = some (.agg ([.str [], .str []])) := by kernel_rfl
@[simp] theorem ar90 : kArr Tryz.prog 90 = some (2, 9) := by kernel_rfl
@[simp] theorem pl90 : placeP Tryz.prog 90 = some (.inr 1) := by kernel_rfl
@[simp] theorem ag90 : aggP Tryz.prog 90 = true := by kernel_rfl
@[simp] theorem ap90 : appTy Tryz.prog 90 = false := by kernel_rfl
@[simp] theorem iu90 : isU8 Tryz.prog 90 = false := by kernel_rfl
@[simp] theorem se90 : selfTy Tryz.prog 90 = false := by kernel_rfl
@[simp] theorem ft90 : flatL Tryz.prog 20 90 = some ([.s, .s]) := by kernel_rfl
@[simp] theorem eg90 : Tryz.prog.eqGuardType Tryz.prog.depth 90 = false := by kernel_rfl
@[simp] theorem sz92 : szP Tryz.prog 92 = some 1 := by kernel_rfl
@[simp] theorem by92 : byP Tryz.prog 92 = some 24 := by kernel_rfl
@[simp] theorem kk92 : kP Tryz.prog 92 = some (.sl 5) := by kernel_rfl
@[simp] theorem sl92 : kSl Tryz.prog 92 = some 5 := by kernel_rfl
@[simp] theorem ag92 : aggP Tryz.prog 92 = false := by kernel_rfl
@[simp] theorem ap92 : appTy Tryz.prog 92 = true := by kernel_rfl
@[simp] theorem iu92 : isU8 Tryz.prog 92 = false := by kernel_rfl
@[simp] theorem se92 : selfTy Tryz.prog 92 = false := by kernel_rfl
@[simp] theorem sz94 : szP Tryz.prog 94 = some 1 := by kernel_rfl
@[simp] theorem by94 : byP Tryz.prog 94 = some 8 := by kernel_rfl
@[simp] theorem kk94 : kP Tryz.prog 94 = some (.ptr 96) := by kernel_rfl
@[simp] theorem ag94 : aggP Tryz.prog 94 = false := by kernel_rfl
@[simp] theorem ap94 : appTy Tryz.prog 94 = false := by kernel_rfl
@[simp] theorem iu94 : isU8 Tryz.prog 94 = false := by kernel_rfl
@[simp] theorem se94 : selfTy Tryz.prog 94 = false := by kernel_rfl
@[simp] theorem sz96 : szP Tryz.prog 96 = some 2 := by kernel_rfl
@[simp] theorem by96 : byP Tryz.prog 96 = some 32 := by kernel_rfl
@[simp] theorem kk96 : kP Tryz.prog 96 = some (.st) := by kernel_rfl
@[simp] theorem ze96 : zeroP Tryz.prog 96 = some (.agg ([.nilptr, .nilsl])) := by kernel_rfl
@[simp] theorem ag96 : aggP Tryz.prog 96 = true := by kernel_rfl
@[simp] theorem ap96 : appTy Tryz.prog 96 = false := by kernel_rfl
@[simp] theorem iu96 : isU8 Tryz.prog 96 = false := by kernel_rfl
@[simp] theorem se96 : selfTy Tryz.prog 96 = true := by kernel_rfl
@[simp] theorem fl96_0 : fldP Tryz.prog 96 0 = some (0, 94) := by kernel_rfl
@[simp] theorem fl96_1 : fldP Tryz.prog 96 1 = some (1, 92) := by kernel_rfl
@[simp] theorem pl96 : placeP Tryz.prog 96 = some (.inl [(0, 1), (1, 1)]) := by kernel_rfl
@[simp] theorem sz102 : szP Tryz.prog 102 = some 1 := by kernel_rfl
@[simp] theorem by102 : byP Tryz.prog 102 = some 24 := by kernel_rfl
@[simp] theorem kk102 : kP Tryz.prog 102 = some (.sl 66) := by kernel_rfl
@[simp] theorem sl102 : kSl Tryz.prog 102 = some 66 := by kernel_rfl
@[simp] theorem ag102 : aggP Tryz.prog 102 = false := by kernel_rfl
@[simp] theorem ap102 : appTy Tryz.prog 102 = true := by kernel_rfl
@[simp] theorem iu102 : isU8 Tryz.prog 102 = false := by kernel_rfl
@[simp] theorem se102 : selfTy Tryz.prog 102 = false := by kernel_rfl
@[simp] theorem sz105 : szP Tryz.prog 105 = some 1 := by kernel_rfl
@[simp] theorem by105 : byP Tryz.prog 105 = some 8 := by kernel_rfl
@[simp] theorem kk105 : kP Tryz.prog 105 = some (.int .u64) := by kernel_rfl
@[simp] theorem ag105 : aggP Tryz.prog 105 = false := by kernel_rfl
@[simp] theorem ap105 : appTy Tryz.prog 105 = false := by kernel_rfl
@[simp] theorem iu105 : isU8 Tryz.prog 105 = false := by kernel_rfl
@[simp] theorem se105 : selfTy Tryz.prog 105 = false := by kernel_rfl
@[simp] theorem sz118 : szP Tryz.prog 118 = some 1 := by kernel_rfl
@[simp] theorem by118 : byP Tryz.prog 118 = some 8 := by kernel_rfl
@[simp] theorem kk118 : kP Tryz.prog 118 = some (.ptr 5) := by kernel_rfl
@[simp] theorem ag118 : aggP Tryz.prog 118 = false := by kernel_rfl
@[simp] theorem ap118 : appTy Tryz.prog 118 = false := by kernel_rfl
@[simp] theorem iu118 : isU8 Tryz.prog 118 = false := by kernel_rfl
@[simp] theorem se118 : selfTy Tryz.prog 118 = false := by kernel_rfl
@[simp] theorem sz128 : szP Tryz.prog 128 = some 1 := by kernel_rfl
@[simp] theorem by128 : byP Tryz.prog 128 = some 4 := by kernel_rfl
@[simp] theorem kk128 : kP Tryz.prog 128 = some (.int .u32) := by kernel_rfl
@[simp] theorem ze128 : zeroP Tryz.prog 128 = some (.int .u32 0) := by kernel_rfl
@[simp] theorem ag128 : aggP Tryz.prog 128 = false := by kernel_rfl
@[simp] theorem ap128 : appTy Tryz.prog 128 = false := by kernel_rfl
@[simp] theorem iu128 : isU8 Tryz.prog 128 = false := by kernel_rfl
@[simp] theorem se128 : selfTy Tryz.prog 128 = false := by kernel_rfl
@[simp] theorem sz129 : szP Tryz.prog 129 = some 8 := by kernel_rfl
@[simp] theorem by129 : byP Tryz.prog 129 = some 32 := by kernel_rfl
@[simp] theorem kk129 : kP Tryz.prog 129 = some (.arr 8 128) := by kernel_rfl
@[simp] theorem ze129 : zeroP Tryz.prog 129 = some (.agg ([.int .u32 0, .int .u32 0, .int .u32 0, .int .u32 0, .int .u32 0, .int .u32 0, .int .u32 0, .int .u32 0])) := by kernel_rfl
@[simp] theorem ar129 : kArr Tryz.prog 129 = some (8, 128) := by kernel_rfl
@[simp] theorem pl129 : placeP Tryz.prog 129 = some (.inr 1) := by kernel_rfl
@[simp] theorem ag129 : aggP Tryz.prog 129 = true := by kernel_rfl
@[simp] theorem ap129 : appTy Tryz.prog 129 = false := by kernel_rfl
@[simp] theorem iu129 : isU8 Tryz.prog 129 = false := by kernel_rfl
@[simp] theorem se129 : selfTy Tryz.prog 129 = false := by kernel_rfl
@[simp] theorem ft129 : flatL Tryz.prog 20 129 = some ([.i, .i, .i, .i, .i, .i, .i, .i]) := by kernel_rfl
@[simp] theorem eg129 : Tryz.prog.eqGuardType Tryz.prog.depth 129 = false := by kernel_rfl
@[simp] theorem sz131 : szP Tryz.prog 131 = some 10 := by kernel_rfl
@[simp] theorem by131 : byP Tryz.prog 131 = some 56 := by kernel_rfl
@[simp] theorem kk131 : kP Tryz.prog 131 = some (.st) := by kernel_rfl
@[simp] theorem ze131 : zeroP Tryz.prog 131 = some (.agg ([.int .u32 0, .int .u32 0, .int .u32 0, .int .u32 0, .int .u32 0, .int .u32 0, .int .u32 0, .int .u32 0, .str [], .int .u64 0])) := by kernel_rfl
@[simp] theorem ag131 : aggP Tryz.prog 131 = true := by kernel_rfl
@[simp] theorem ap131 : appTy Tryz.prog 131 = false := by kernel_rfl
@[simp] theorem iu131 : isU8 Tryz.prog 131 = false := by kernel_rfl
@[simp] theorem se131 : selfTy Tryz.prog 131 = false := by kernel_rfl
@[simp] theorem fl131_0 : fldP Tryz.prog 131 0 = some (0, 129) := by kernel_rfl
@[simp] theorem fl131_1 : fldP Tryz.prog 131 1 = some (8, 9) := by kernel_rfl
@[simp] theorem fl131_2 : fldP Tryz.prog 131 2 = some (9, 50) := by kernel_rfl
@[simp] theorem pl131 : placeP Tryz.prog 131 = some (.inl [(0, 8), (8, 1), (9, 1)]) := by kernel_rfl
@[simp] theorem ft131 : flatL Tryz.prog 20 131 = some ([.i, .i, .i, .i, .i, .i, .i, .i, .s, .i]) := by kernel_rfl
@[simp] theorem eg131 : Tryz.prog.eqGuardType Tryz.prog.depth 131 = false := by kernel_rfl
@[simp] theorem sz153 : szP Tryz.prog 153 = some 1 := by kernel_rfl
@[simp] theorem by153 : byP Tryz.prog 153 = some 24 := by kernel_rfl
@[simp] theorem kk153 : kP Tryz.prog 153 = some (.sl 128) := by kernel_rfl
@[simp] theorem sl153 : kSl Tryz.prog 153 = some 128 := by kernel_rfl
@[simp] theorem ag153 : aggP Tryz.prog 153 = false := by kernel_rfl
@[simp] theorem ap153 : appTy Tryz.prog 153 = true := by kernel_rfl
@[simp] theorem iu153 : isU8 Tryz.prog 153 = false := by kernel_rfl
@[simp] theorem se153 : selfTy Tryz.prog 153 = false := by kernel_rfl
@[simp] theorem sz161 : szP Tryz.prog 161 = some 64 := by kernel_rfl
@[simp] theorem by161 : byP Tryz.prog 161 = some 256 := by kernel_rfl
@[simp] theorem kk161 : kP Tryz.prog 161 = some (.arr 64 128) := by kernel_rfl
@[simp] theorem ze161 : zeroP Tryz.prog 161 = some (.agg (List.replicate 64 (.int .u32 0))) := by kernel_rfl
@[simp] theorem ar161 : kArr Tryz.prog 161 = some (64, 128) := by kernel_rfl
@[simp] theorem pl161 : placeP Tryz.prog 161 = some (.inr 1) := by kernel_rfl
@[simp] theorem ag161 : aggP Tryz.prog 161 = true := by kernel_rfl
@[simp] theorem ap161 : appTy Tryz.prog 161 = false := by kernel_rfl
@[simp] theorem iu161 : isU8 Tryz.prog 161 = false := by kernel_rfl
@[simp] theorem se161 : selfTy Tryz.prog 161 = false := by kernel_rfl
@[simp] theorem ft161 : flatL Tryz.prog 20 161 = some (List.replicate 64 (.i)) := by kernel_rfl
@[simp] theorem eg161 : Tryz.prog.eqGuardType Tryz.prog.depth 161 = false := by kernel_rfl
attribute [simp] Tryz.underlying1
attribute [simp] Tryz.underlying2
attribute [simp] Tryz.underlying3
attribute [simp] Tryz.underlying4
attribute [simp] Tryz.underlying5
attribute [simp] Tryz.underlying6
attribute [simp] Tryz.underlying7
attribute [simp] Tryz.underlying8
attribute [simp] Tryz.underlying9
attribute [simp] Tryz.underlying10
attribute [simp] Tryz.underlying11
attribute [simp] Tryz.underlying12
attribute [simp] Tryz.underlying13
attribute [simp] Tryz.underlying14
attribute [simp] Tryz.underlying15
attribute [simp] Tryz.underlying16
attribute [simp] Tryz.underlying17
attribute [simp] Tryz.underlying18
attribute [simp] Tryz.underlying19
attribute [simp] Tryz.underlying21
attribute [simp] Tryz.underlying22
attribute [simp] Tryz.underlying23
attribute [simp] Tryz.underlying24
attribute [simp] Tryz.underlying25
attribute [simp] Tryz.underlying26
attribute [simp] Tryz.underlying27
attribute [simp] Tryz.underlying28
attribute [simp] Tryz.underlying29
attribute [simp] Tryz.underlying31
attribute [simp] Tryz.underlying33
attribute [simp] Tryz.underlying34
attribute [simp] Tryz.underlying35
attribute [simp] Tryz.underlying36
attribute [simp] Tryz.underlying37
attribute [simp] Tryz.underlying38
attribute [simp] Tryz.underlying40
attribute [simp] Tryz.underlying42
attribute [simp] Tryz.underlying43
attribute [simp] Tryz.underlying44
attribute [simp] Tryz.underlying45
attribute [simp] Tryz.underlying46
attribute [simp] Tryz.underlying48
attribute [simp] Tryz.underlying49
attribute [simp] Tryz.underlying50
attribute [simp] Tryz.underlying51
attribute [simp] Tryz.underlying52
attribute [simp] Tryz.underlying53
attribute [simp] Tryz.underlying54
attribute [simp] Tryz.underlying55
attribute [simp] Tryz.underlying56
attribute [simp] Tryz.underlying57
attribute [simp] Tryz.underlying58
attribute [simp] Tryz.underlying59
attribute [simp] Tryz.underlying60
attribute [simp] Tryz.underlying62
attribute [simp] Tryz.underlying64
attribute [simp] Tryz.underlying65
attribute [simp] Tryz.underlying66
attribute [simp] Tryz.underlying67
attribute [simp] Tryz.underlying68
attribute [simp] Tryz.underlying69
attribute [simp] Tryz.underlying70
attribute [simp] Tryz.underlying71
attribute [simp] Tryz.underlying72
attribute [simp] Tryz.underlying73
attribute [simp] Tryz.underlying75
attribute [simp] Tryz.underlying76
attribute [simp] Tryz.underlying77
attribute [simp] Tryz.underlying78
attribute [simp] Tryz.underlying79
attribute [simp] Tryz.underlying80
attribute [simp] Tryz.underlying81
attribute [simp] Tryz.underlying83
attribute [simp] Tryz.underlying84
attribute [simp] Tryz.underlying85
attribute [simp] Tryz.underlying86
attribute [simp] Tryz.underlying87
attribute [simp] Tryz.underlying88
attribute [simp] Tryz.underlying89
attribute [simp] Tryz.underlying90
attribute [simp] Tryz.underlying91
attribute [simp] Tryz.underlying92
attribute [simp] Tryz.underlying93
attribute [simp] Tryz.underlying94
attribute [simp] Tryz.underlying95
attribute [simp] Tryz.underlying96
attribute [simp] Tryz.underlying100
attribute [simp] Tryz.underlying101
attribute [simp] Tryz.underlying102
attribute [simp] Tryz.underlying103
attribute [simp] Tryz.underlying104
attribute [simp] Tryz.underlying105
attribute [simp] Tryz.underlying107
attribute [simp] Tryz.underlying108
attribute [simp] Tryz.underlying109
attribute [simp] Tryz.underlying110
attribute [simp] Tryz.underlying112
attribute [simp] Tryz.underlying113
attribute [simp] Tryz.underlying114
attribute [simp] Tryz.underlying115
attribute [simp] Tryz.underlying116
attribute [simp] Tryz.underlying117
attribute [simp] Tryz.underlying118
attribute [simp] Tryz.underlying119
attribute [simp] Tryz.underlying120
attribute [simp] Tryz.underlying121
attribute [simp] Tryz.underlying122
attribute [simp] Tryz.underlying123
attribute [simp] Tryz.underlying124
attribute [simp] Tryz.underlying125
attribute [simp] Tryz.underlying126
attribute [simp] Tryz.underlying127
attribute [simp] Tryz.underlying128
attribute [simp] Tryz.underlying129
attribute [simp] Tryz.underlying130
attribute [simp] Tryz.underlying131
attribute [simp] Tryz.underlying132
attribute [simp] Tryz.underlying133
attribute [simp] Tryz.underlying134
attribute [simp] Tryz.underlying136
attribute [simp] Tryz.underlying137
attribute [simp] Tryz.underlying138
attribute [simp] Tryz.underlying140
attribute [simp] Tryz.underlying141
attribute [simp] Tryz.underlying142
attribute [simp] Tryz.underlying143
attribute [simp] Tryz.underlying144
attribute [simp] Tryz.underlying145
attribute [simp] Tryz.underlying146
attribute [simp] Tryz.underlying148
attribute [simp] Tryz.underlying149
attribute [simp] Tryz.underlying150
attribute [simp] Tryz.underlying151
attribute [simp] Tryz.underlying152
attribute [simp] Tryz.underlying153
attribute [simp] Tryz.underlying154
attribute [simp] Tryz.underlying155
attribute [simp] Tryz.underlying156
attribute [simp] Tryz.underlying158
attribute [simp] Tryz.underlying159
attribute [simp] Tryz.underlying160
attribute [simp] Tryz.underlying161
attribute [simp] Tryz.underlying162
attribute [simp] Tryz.underlying163
attribute [simp] Tryz.underlying164
attribute [simp] Tryz.underlying165
attribute [simp] Tryz.underlying167
attribute [simp] Tryz.underlying169
attribute [simp] Tryz.underlying170
attribute [simp] Tryz.underlying171
attribute [simp] Tryz.underlying172
attribute [simp] Tryz.underlying173
attribute [simp] Tryz.underlying174
attribute [simp] Tryz.underlying175
attribute [simp] Tryz.underlying176
attribute [simp] Tryz.underlying177
attribute [simp] Tryz.underlying178
attribute [simp] Tryz.underlying179
attribute [simp] Tryz.underlying180
attribute [simp] Tryz.underlying181
attribute [simp] Tryz.underlying182
attribute [simp] Tryz.underlying183
attribute [simp] Tryz.underlying184
attribute [simp] Tryz.underlying185
attribute [simp] Tryz.underlying186
end Pv.Tryz

namespace Pv
open Go Go.RowKit
variable {X : Ctx} {G : Ghost} {ph : PH} {w : World} {ρ : Option Nat} {n0 : Nat} {Q : Exit → PSt → PH → Prop}

/-- All that was there before is as it was. -/
structure Keeps (base ph : PH) : Prop where
  n : base.n ≤ ph.n
  bl : ∀ p, p < base.n → ph.get p = base.get p
  ob : ∀ r o, base.ob r = some o → ph.ob r = some o
  ty : ∀ p, p < base.n → ph.ty p = base.ty p
  gr : ∀ p, p < base.n → ph.gro p = base.gro p

theorem Keeps.refl (ph : PH) : Keeps ph ph := ⟨Nat.le_refl _, fun _ _ => rfl, fun _ _ h => h, fun _ _ => rfl, fun _ _ => rfl⟩
theorem Keeps.trans {a b c : PH} (h : Keeps a b) (k : Keeps b c) : Keeps a c :=
  ⟨Nat.le_trans h.n k.n, fun p hp => (k.bl p (Nat.lt_of_lt_of_le hp h.n)).trans (h.bl p hp), fun r o e => k.ob r o (h.ob r o e), fun p hp => (k.ty p (Nat.lt_of_lt_of_le hp h.n)).trans (h.ty p hp), fun p hp => (k.gr p (Nat.lt_of_lt_of_le hp h.n)).trans (h.gr p hp)⟩
theorem Keeps.push {a b : PH} (h : Keeps a b) (c : List PV) : Keeps a (b.push c) :=
  ⟨by have := h.n; simp; omega, fun p hp => by rw [PH.get_push, if_neg (by have := h.n; omega)]; exact h.bl p hp, h.ob, h.ty, fun p hp => by rw [PH.gro_push]; exact h.gr p hp⟩
theorem Keeps.put {a b : PH} (h : Keeps a b) {p : Nat} (hp : a.n ≤ p) (hl : p < b.n) (c : List PV) : Keeps a (b.put p c) :=
  ⟨by have := h.n; simp; omega, fun q hq => by rw [PH.get_put hl, if_neg (by omega)]; exact h.bl q hq, h.ob, h.ty, fun q hq => by rw [PH.gro_put, if_neg (by omega)]; exact h.gr q hq⟩
theorem Keeps.kill {a b : PH} (h : Keeps a b) {p : Nat} (hp : a.n ≤ p) : Keeps a (b.kill p) :=
  ⟨by have := h.n; simp; omega, fun q hq => by rw [PH.get_kill, if_neg (by omega)]; exact h.bl q hq, h.ob, h.ty, fun q hq => by rw [PH.gro_kill, if_neg (by omega)]; exact h.gr q hq⟩
theorem Keeps.tell {a b : PH} (h : Keeps a b) {p : Nat} (hp : a.n ≤ p) (e : TypeId) : Keeps a (b.setTy p e) :=
  ⟨h.n, h.bl, h.ob, fun q hq => by simp only [PH.setTy]; rw [if_neg (by omega)]; exact h.ty q hq, h.gr⟩

theorem Keeps.cut_eq {base ph : PH} (h : Keeps base ph) (hb : ∀ p e, base.ty p = some e → p < base.n) : ph.cut base.n base.ob = base := by
  unfold PH.cut
  have : ph.bl.take base.n = base.bl := by
    have hn : base.bl.length ≤ ph.bl.length := h.n
    apply List.ext_getElem?
    intro i
    rw [List.getElem?_take]
    split
    · rename_i hi
      have hi' : i < base.bl.length := hi
      have h1 := h.bl i hi
      have h2 := h.gr i hi
      simp only [PH.get, PH.gro, List.getElem?_eq_getElem hi', List.getElem?_eq_getElem (show i < ph.bl.length by omega), Option.join_some] at h1 h2
      rw [List.getElem?_eq_getElem hi', List.getElem?_eq_getElem (show i < ph.bl.length by omega)]
      congr 1
      revert h1 h2
      cases ph.bl[i] with
      | none => cases base.bl[i] with
        | none => intros; rfl
        | some b => cases b <;> simp [Blk.cells, Blk.gro]
      | some a => cases base.bl[i] with
        | none => cases a <;> simp [Blk.cells, Blk.gro]
        | some b => cases a <;> cases b <;> simp [Blk.cells, Blk.gro]
    · rename_i hi
      have hi' : base.bl.length ≤ i := Nat.le_of_not_lt hi
      rw [List.getElem?_eq_none hi']
  have ht : (fun p => if p < base.n then ph.ty p else none) = base.ty := by
    funext p
    split
    · rename_i hp; exact h.ty p hp
    · rename_i hp
      cases e : base.ty p with
      | none => rfl
      | some t => exact absurd (hb p t e) hp
  rw [this, ht]

/-- What stands there names nothing that isn't there. -/
def Shut (base : PH) : Prop := (∀ p c, base.get p = some c → Scs base.n c) ∧ (∀ r o, base.ob r = some o → ObSc base.n o)

theorem Rel.shuts (h : Rel X G ph w) : Shut ph := by
  refine ⟨fun p c hp => ?_, fun r o ho => ?_⟩
  · obtain ⟨L, vals, cs, e, fz, hL, o⟩ := h.own p c hp
    have := o.rv.scs; rw [h.lenN] at this; exact this
  · obtain ⟨_, h2⟩ := h.ob r o ho
    cases o with
    | loop l => obtain ⟨rt, q, _⟩ := h2; have := q.scs; rw [h.lenN] at this; exact this
    | defd => trivial

/-- A function of its arguments alone. -/
def Fn (X : Ctx) (f : FuncId) (args : List PV) (v : PV) : Prop := ∀ ph, PCalls X f args ph fun v' ph' => ph' = ph ∧ v' = v

theorem w_pure {f : FuncId} {args : List PV} {v : PV} {K : PV → PH → Prop} (h : Fn X f args v) (k : K v ph) : PCalls X f args ph K :=
  (h ph).mono (by rintro v' ph' ⟨rfl, rfl⟩; exact k)

theorem frz_scalar {ph : PH} {n d : Nat} {p : PV} (h : (match p with | .undef | .bool _ | .int _ _ | .str _ | .nilptr | .nilsl | .zsl | .nilfunc | .nilif | .yield _ => true | _ => false) = true) : frz ph n (d + 1) p = some p := by
  unfold frz
  cases p <;> simp_all

/-- Cells without blocks. -/
def scalarV : PV → Bool
  | .undef | .bool _ | .int _ _ | .str _ | .nilptr | .nilsl | .zsl | .nilfunc | .nilif | .yield _ => true
  | _ => false

theorem frzs_scalars {ph : PH} {n d : Nat} : ∀ {ps : List PV}, ps.all scalarV = true → frzs ph n (d + 1) ps = some ps
  | [], _ => by unfold frzs; rfl
  | p :: ps, h => by
    simp only [List.all_cons, Bool.and_eq_true] at h
    unfold frzs
    rw [frz_scalar (by have := h.1; unfold scalarV at this; exact this), frzs_scalars h.2]

theorem frz_agg {ph : PH} {n d : Nat} {ps qs : List PV} (h : frzs ph n d ps = some qs) : frz ph n (d + 1) (.agg ps) = some (.agg qs) := by unfold frz; simp only [h, Option.map_some]
theorem frz_tuple {ph : PH} {n d : Nat} {ps qs : List PV} (h : frzs ph n d ps = some qs) : frz ph n (d + 1) (.tuple ps) = some (.tuple qs) := by unfold frz; simp only [h, Option.map_some]
theorem frz_fsl {ph : PH} {n d e l : Nat} {ps qs : List PV} (h : frzs ph n d ps = some qs) : frz ph n (d + 1) (.fsl e l ps) = some (.fsl e l qs) := by unfold frz; simp only [h, Option.map_some]
theorem frz_sl {ph : PH} {n d p off e l : Nat} {cap : Option Nat} {cells qs : List PV} (hn : n ≤ p) (hp : ph.get p = some cells) (hl : off + l * e ≤ cells.length) (h : frzs ph n d (seg cells off (l * e)) = some qs) : frz ph n (d + 1) (.sl p off e l cap) = some (.fsl e l qs) := by
  unfold frz
  simp only [if_neg (show ¬ p < n by omega), hp, if_pos hl, h, Option.map_some]
theorem frzs_nil {ph : PH} {n d : Nat} : frzs ph n d [] = some [] := by unfold frzs; rfl
theorem frzs_cons {ph : PH} {n d : Nat} {p q : PV} {ps qs : List PV} (h : frz ph n d p = some q) (hs : frzs ph n d ps = some qs) : frzs ph n d (p :: ps) = some (q :: qs) := by unfold frzs; rw [h, hs]

end Pv
