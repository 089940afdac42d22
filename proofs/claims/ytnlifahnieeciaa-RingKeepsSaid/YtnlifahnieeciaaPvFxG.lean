/- Part of the proof: the layer of pure values, or walks through functions (PvFxG). -/
import Derived.Test.YtnlifahnieeciaaProg
import Derived.Test.YtnlifahnieeciaaPvFun
import Derived.KernelRfl
set_option linter.all false
namespace Pv.Try
open Go Go.Proofs
@[simp] theorem sz1 : szP Try.prog 1 = some 1 := by kernel_rfl
@[simp] theorem by1 : byP Try.prog 1 = some 8 := by kernel_rfl
@[simp] theorem kk1 : kP Try.prog 1 = some (.fn) := by kernel_rfl
@[simp] theorem ze1 : zeroP Try.prog 1 = some (.nilfunc) := by kernel_rfl
@[simp] theorem ag1 : aggP Try.prog 1 = false := by kernel_rfl
@[simp] theorem ap1 : appTy Try.prog 1 = false := by kernel_rfl
@[simp] theorem iu1 : isU8 Try.prog 1 = false := by kernel_rfl
@[simp] theorem se1 : selfTy Try.prog 1 = false := by kernel_rfl
@[simp] theorem sz2 : szP Try.prog 2 = some 1 := by kernel_rfl
@[simp] theorem by2 : byP Try.prog 2 = some 8 := by kernel_rfl
@[simp] theorem kk2 : kP Try.prog 2 = some (.int .i64) := by kernel_rfl
@[simp] theorem ze2 : zeroP Try.prog 2 = some (.int .i64 0) := by kernel_rfl
@[simp] theorem ag2 : aggP Try.prog 2 = false := by kernel_rfl
@[simp] theorem ap2 : appTy Try.prog 2 = false := by kernel_rfl
@[simp] theorem iu2 : isU8 Try.prog 2 = false := by kernel_rfl
@[simp] theorem se2 : selfTy Try.prog 2 = false := by kernel_rfl
@[simp] theorem sz3 : szP Try.prog 3 = some 1 := by kernel_rfl
@[simp] theorem by3 : byP Try.prog 3 = some 8 := by kernel_rfl
@[simp] theorem kk3 : kP Try.prog 3 = some (.int .i64) := by kernel_rfl
@[simp] theorem ze3 : zeroP Try.prog 3 = some (.int .i64 0) := by kernel_rfl
@[simp] theorem ag3 : aggP Try.prog 3 = false := by kernel_rfl
@[simp] theorem ap3 : appTy Try.prog 3 = false := by kernel_rfl
@[simp] theorem iu3 : isU8 Try.prog 3 = false := by kernel_rfl
@[simp] theorem se3 : selfTy Try.prog 3 = false := by kernel_rfl
@[simp] theorem sz4 : szP Try.prog 4 = some 1 := by kernel_rfl
@[simp] theorem by4 : byP Try.prog 4 = some 1 := by kernel_rfl
@[simp] theorem kk4 : kP Try.prog 4 = some (.bool) := by kernel_rfl
@[simp] theorem ze4 : zeroP Try.prog 4 = some (.bool false) := by kernel_rfl
@[simp] theorem ag4 : aggP Try.prog 4 = false := by kernel_rfl
@[simp] theorem ap4 : appTy Try.prog 4 = false := by kernel_rfl
@[simp] theorem iu4 : isU8 Try.prog 4 = false := by kernel_rfl
@[simp] theorem se4 : selfTy Try.prog 4 = false := by kernel_rfl
@[simp] theorem sz5 : szP Try.prog 5 = some 1 := by kernel_rfl
@[simp] theorem by5 : byP Try.prog 5 = some 1 := by kernel_rfl
@[simp] theorem kk5 : kP Try.prog 5 = some (.int .u8) := by kernel_rfl
@[simp] theorem ze5 : zeroP Try.prog 5 = some (.int .u8 0) := by kernel_rfl
@[simp] theorem ag5 : aggP Try.prog 5 = false := by kernel_rfl
@[simp] theorem ap5 : appTy Try.prog 5 = false := by kernel_rfl
@[simp] theorem iu5 : isU8 Try.prog 5 = true := by kernel_rfl
@[simp] theorem se5 : selfTy Try.prog 5 = false := by kernel_rfl
@[simp] theorem sz6 : szP Try.prog 6 = some 1 := by kernel_rfl
@[simp] theorem by6 : byP Try.prog 6 = some 1 := by kernel_rfl
@[simp] theorem kk6 : kP Try.prog 6 = some (.int .u8) := by kernel_rfl
@[simp] theorem ze6 : zeroP Try.prog 6 = some (.int .u8 0) := by kernel_rfl
@[simp] theorem ag6 : aggP Try.prog 6 = false := by kernel_rfl
@[simp] theorem ap6 : appTy Try.prog 6 = false := by kernel_rfl
@[simp] theorem iu6 : isU8 Try.prog 6 = true := by kernel_rfl
@[simp] theorem se6 : selfTy Try.prog 6 = false := by kernel_rfl
@[simp] theorem sz7 : szP Try.prog 7 = some 4 := by kernel_rfl
@[simp] theorem by7 : byP Try.prog 7 = some 24 := by kernel_rfl
@[simp] theorem kk7 : kP Try.prog 7 = some (.st) := by kernel_rfl
@[simp] theorem ze7 : zeroP Try.prog 7 = some (.agg ([.int .i64 0, .int .i64 0, .bool false, .int .u8 0])) := by kernel_rfl
@[simp] theorem ag7 : aggP Try.prog 7 = true := by kernel_rfl
@[simp] theorem ap7 : appTy Try.prog 7 = false := by kernel_rfl
@[simp] theorem iu7 : isU8 Try.prog 7 = false := by kernel_rfl
@[simp] theorem se7 : selfTy Try.prog 7 = false := by kernel_rfl
@[simp] theorem fl7_0 : fldP Try.prog 7 0 = some (0, 2) := by kernel_rfl
@[simp] theorem fl7_1 : fldP Try.prog 7 1 = some (1, 3) := by kernel_rfl
@[simp] theorem fl7_2 : fldP Try.prog 7 2 = some (2, 4) := by kernel_rfl
@[simp] theorem fl7_3 : fldP Try.prog 7 3 = some (3, 6) := by kernel_rfl
@[simp] theorem pl7 : placeP Try.prog 7 = some (.inl [(0, 1), (1, 1), (2, 1), (3, 1)]) := by kernel_rfl
@[simp] theorem sz8 : szP Try.prog 8 = some 4 := by kernel_rfl
@[simp] theorem by8 : byP Try.prog 8 = some 24 := by kernel_rfl
@[simp] theorem kk8 : kP Try.prog 8 = some (.st) := by kernel_rfl
@[simp] theorem ze8 : zeroP Try.prog 8 = some (.agg ([.int .i64 0, .int .i64 0, .bool false, .int .u8 0])) := by kernel_rfl
@[simp] theorem ag8 : aggP Try.prog 8 = true := by kernel_rfl
@[simp] theorem ap8 : appTy Try.prog 8 = false := by kernel_rfl
@[simp] theorem iu8 : isU8 Try.prog 8 = false := by kernel_rfl
@[simp] theorem se8 : selfTy Try.prog 8 = false := by kernel_rfl
@[simp] theorem fl8_0 : fldP Try.prog 8 0 = some (0, 2) := by kernel_rfl
@[simp] theorem fl8_1 : fldP Try.prog 8 1 = some (1, 3) := by kernel_rfl
@[simp] theorem fl8_2 : fldP Try.prog 8 2 = some (2, 4) := by kernel_rfl
@[simp] theorem fl8_3 : fldP Try.prog 8 3 = some (3, 6) := by kernel_rfl
@[simp] theorem pl8 : placeP Try.prog 8 = some (.inl [(0, 1), (1, 1), (2, 1), (3, 1)]) := by kernel_rfl
@[simp] theorem sz9 : szP Try.prog 9 = some 1 := by kernel_rfl
@[simp] theorem by9 : byP Try.prog 9 = some 16 := by kernel_rfl
@[simp] theorem kk9 : kP Try.prog 9 = some (.str) := by kernel_rfl
@[simp] theorem ze9 : zeroP Try.prog 9 = some (.str []) := by kernel_rfl
@[simp] theorem ag9 : aggP Try.prog 9 = false := by kernel_rfl
@[simp] theorem ap9 : appTy Try.prog 9 = true := by kernel_rfl
@[simp] theorem iu9 : isU8 Try.prog 9 = false := by kernel_rfl
@[simp] theorem se9 : selfTy Try.prog 9 = false := by kernel_rfl
@[simp] theorem sz10 : szP Try.prog 10 = some 1 := by kernel_rfl
@[simp] theorem by10 : byP Try.prog 10 = some 16 := by kernel_rfl
@[simp] theorem kk10 : kP Try.prog 10 = some (.str) := by kernel_rfl
@[simp] theorem ze10 : zeroP Try.prog 10 = some (.str []) := by kernel_rfl
@[simp] theorem ag10 : aggP Try.prog 10 = false := by kernel_rfl
@[simp] theorem ap10 : appTy Try.prog 10 = true := by kernel_rfl
@[simp] theorem iu10 : isU8 Try.prog 10 = false := by kernel_rfl
@[simp] theorem se10 : selfTy Try.prog 10 = false := by kernel_rfl
@[simp] theorem sz11 : szP Try.prog 11 = some 1 := by kernel_rfl
@[simp] theorem by11 : byP Try.prog 11 = some 16 := by kernel_rfl
@[simp] theorem kk11 : kP Try.prog 11 = some (.str) := by kernel_rfl
@[simp] theorem ze11 : zeroP Try.prog 11 = some (.str []) := by kernel_rfl
@[simp] theorem ag11 : aggP Try.prog 11 = false := by kernel_rfl
@[simp] theorem ap11 : appTy Try.prog 11 = true := by kernel_rfl
@[simp] theorem iu11 : isU8 Try.prog 11 = false := by kernel_rfl
@[simp] theorem se11 : selfTy Try.prog 11 = false := by kernel_rfl
@[simp] theorem sz12 : szP Try.prog 12 = some 1 := by kernel_rfl
@[simp] theorem by12 : byP Try.prog 12 = some 8 := by kernel_rfl
@[simp] theorem kk12 : kP Try.prog 12 = some (.int .u64) := by kernel_rfl
@[simp] theorem ze12 : zeroP Try.prog 12 = some (.int .u64 0) := by kernel_rfl
@[simp] theorem ag12 : aggP Try.prog 12 = false := by kernel_rfl
@[simp] theorem ap12 : appTy Try.prog 12 = false := by kernel_rfl
@[simp] theorem iu12 : isU8 Try.prog 12 = false := by kernel_rfl
@[simp] theorem se12 : selfTy Try.prog 12 = false := by kernel_rfl
@[simp] theorem sz13 : szP Try.prog 13 = some 2 := by kernel_rfl
@[simp] theorem by13 : byP Try.prog 13 = some 24 := by kernel_rfl
@[simp] theorem kk13 : kP Try.prog 13 = some (.st) := by kernel_rfl
@[simp] theorem ze13 : zeroP Try.prog 13 = some (.agg ([.str [], .int .u64 0])) := by kernel_rfl
@[simp] theorem ag13 : aggP Try.prog 13 = true := by kernel_rfl
@[simp] theorem ap13 : appTy Try.prog 13 = false := by kernel_rfl
@[simp] theorem iu13 : isU8 Try.prog 13 = false := by kernel_rfl
@[simp] theorem se13 : selfTy Try.prog 13 = false := by kernel_rfl
@[simp] theorem fl13_0 : fldP Try.prog 13 0 = some (0, 9) := by kernel_rfl
@[simp] theorem fl13_1 : fldP Try.prog 13 1 = some (1, 12) := by kernel_rfl
@[simp] theorem pl13 : placeP Try.prog 13 = some (.inl [(0, 1), (1, 1)]) := by kernel_rfl
@[simp] theorem sz14 : szP Try.prog 14 = some 2 := by kernel_rfl
@[simp] theorem by14 : byP Try.prog 14 = some 24 := by kernel_rfl
@[simp] theorem kk14 : kP Try.prog 14 = some (.st) := by kernel_rfl
@[simp] theorem ze14 : zeroP Try.prog 14 = some (.agg ([.str [], .int .u64 0])) := by kernel_rfl
@[simp] theorem ag14 : aggP Try.prog 14 = true := by kernel_rfl
@[simp] theorem ap14 : appTy Try.prog 14 = false := by kernel_rfl
@[simp] theorem iu14 : isU8 Try.prog 14 = false := by kernel_rfl
@[simp] theorem se14 : selfTy Try.prog 14 = false := by kernel_rfl
@[simp] theorem fl14_0 : fldP Try.prog 14 0 = some (0, 9) := by kernel_rfl
@[simp] theorem fl14_1 : fldP Try.prog 14 1 = some (1, 12) := by kernel_rfl
@[simp] theorem pl14 : placeP Try.prog 14 = some (.inl [(0, 1), (1, 1)]) := by kernel_rfl
@[simp] theorem sz15 : szP Try.prog 15 = some 1 := by kernel_rfl
@[simp] theorem by15 : byP Try.prog 15 = some 8 := by kernel_rfl
@[simp] theorem kk15 : kP Try.prog 15 = some (.ptr 118) := by kernel_rfl
@[simp] theorem ze15 : zeroP Try.prog 15 = some (.nilptr) := by kernel_rfl
@[simp] theorem ag15 : aggP Try.prog 15 = false := by kernel_rfl
@[simp] theorem ap15 : appTy Try.prog 15 = false := by kernel_rfl
@[simp] theorem iu15 : isU8 Try.prog 15 = false := by kernel_rfl
@[simp] theorem se15 : selfTy Try.prog 15 = false := by kernel_rfl
@[simp] theorem sz16 : szP Try.prog 16 = some 1 := by kernel_rfl
@[simp] theorem by16 : byP Try.prog 16 = some 8 := by kernel_rfl
@[simp] theorem kk16 : kP Try.prog 16 = some (.ptr 121) := by kernel_rfl
@[simp] theorem ze16 : zeroP Try.prog 16 = some (.nilptr) := by kernel_rfl
@[simp] theorem ag16 : aggP Try.prog 16 = false := by kernel_rfl
@[simp] theorem ap16 : appTy Try.prog 16 = false := by kernel_rfl
@[simp] theorem iu16 : isU8 Try.prog 16 = false := by kernel_rfl
@[simp] theorem se16 : selfTy Try.prog 16 = false := by kernel_rfl
@[simp] theorem sz17 : szP Try.prog 17 = some 1 := by kernel_rfl
@[simp] theorem by17 : byP Try.prog 17 = some 8 := by kernel_rfl
@[simp] theorem kk17 : kP Try.prog 17 = some (.ptr 128) := by kernel_rfl
@[simp] theorem ze17 : zeroP Try.prog 17 = some (.nilptr) := by kernel_rfl
@[simp] theorem ag17 : aggP Try.prog 17 = false := by kernel_rfl
@[simp] theorem ap17 : appTy Try.prog 17 = false := by kernel_rfl
@[simp] theorem iu17 : isU8 Try.prog 17 = false := by kernel_rfl
@[simp] theorem se17 : selfTy Try.prog 17 = false := by kernel_rfl
@[simp] theorem sz18 : szP Try.prog 18 = some 1 := by kernel_rfl
@[simp] theorem by18 : byP Try.prog 18 = some 8 := by kernel_rfl
@[simp] theorem kk18 : kP Try.prog 18 = some (.st) := by kernel_rfl
@[simp] theorem ze18 : zeroP Try.prog 18 = some (.agg ([.nilptr])) := by kernel_rfl
@[simp] theorem ag18 : aggP Try.prog 18 = true := by kernel_rfl
@[simp] theorem ap18 : appTy Try.prog 18 = false := by kernel_rfl
@[simp] theorem iu18 : isU8 Try.prog 18 = false := by kernel_rfl
@[simp] theorem se18 : selfTy Try.prog 18 = false := by kernel_rfl
@[simp] theorem fl18_0 : fldP Try.prog 18 0 = some (0, 17) := by kernel_rfl
@[simp] theorem pl18 : placeP Try.prog 18 = some (.inl [(0, 1)]) := by kernel_rfl
@[simp] theorem sz19 : szP Try.prog 19 = some 1 := by kernel_rfl
@[simp] theorem by19 : byP Try.prog 19 = some 8 := by kernel_rfl
@[simp] theorem kk19 : kP Try.prog 19 = some (.st) := by kernel_rfl
@[simp] theorem ze19 : zeroP Try.prog 19 = some (.agg ([.nilptr])) := by kernel_rfl
@[simp] theorem ag19 : aggP Try.prog 19 = true := by kernel_rfl
@[simp] theorem ap19 : appTy Try.prog 19 = false := by kernel_rfl
@[simp] theorem iu19 : isU8 Try.prog 19 = false := by kernel_rfl
@[simp] theorem se19 : selfTy Try.prog 19 = false := by kernel_rfl
@[simp] theorem fl19_0 : fldP Try.prog 19 0 = some (0, 17) := by kernel_rfl
@[simp] theorem pl19 : placeP Try.prog 19 = some (.inl [(0, 1)]) := by kernel_rfl
@[simp] theorem sz21 : szP Try.prog 21 = some 1 := by kernel_rfl
@[simp] theorem by21 : byP Try.prog 21 = some 4 := by kernel_rfl
@[simp] theorem kk21 : kP Try.prog 21 = some (.int .i32) := by kernel_rfl
@[simp] theorem ze21 : zeroP Try.prog 21 = some (.int .i32 0) := by kernel_rfl
@[simp] theorem ag21 : aggP Try.prog 21 = false := by kernel_rfl
@[simp] theorem ap21 : appTy Try.prog 21 = false := by kernel_rfl
@[simp] theorem iu21 : isU8 Try.prog 21 = false := by kernel_rfl
@[simp] theorem se21 : selfTy Try.prog 21 = false := by kernel_rfl
@[simp] theorem sz22 : szP Try.prog 22 = some 1 := by kernel_rfl
@[simp] theorem by22 : byP Try.prog 22 = some 24 := by kernel_rfl
@[simp] theorem kk22 : kP Try.prog 22 = some (.sl 44) := by kernel_rfl
@[simp] theorem ze22 : zeroP Try.prog 22 = some (.nilsl) := by kernel_rfl
@[simp] theorem sl22 : kSl Try.prog 22 = some 44 := by kernel_rfl
@[simp] theorem ag22 : aggP Try.prog 22 = false := by kernel_rfl
@[simp] theorem ap22 : appTy Try.prog 22 = true := by kernel_rfl
@[simp] theorem iu22 : isU8 Try.prog 22 = false := by kernel_rfl
@[simp] theorem se22 : selfTy Try.prog 22 = false := by kernel_rfl
@[simp] theorem sz23 : szP Try.prog 23 = some 1 := by kernel_rfl
@[simp] theorem by23 : byP Try.prog 23 = some 4 := by kernel_rfl
@[simp] theorem kk23 : kP Try.prog 23 = some (.int .u32) := by kernel_rfl
@[simp] theorem ze23 : zeroP Try.prog 23 = some (.int .u32 0) := by kernel_rfl
@[simp] theorem ag23 : aggP Try.prog 23 = false := by kernel_rfl
@[simp] theorem ap23 : appTy Try.prog 23 = false := by kernel_rfl
@[simp] theorem iu23 : isU8 Try.prog 23 = false := by kernel_rfl
@[simp] theorem se23 : selfTy Try.prog 23 = false := by kernel_rfl
@[simp] theorem sz24 : szP Try.prog 24 = some 2 := by kernel_rfl
@[simp] theorem by24 : byP Try.prog 24 = some 32 := by kernel_rfl
@[simp] theorem kk24 : kP Try.prog 24 = some (.st) := by kernel_rfl
@[simp] theorem ze24 : zeroP Try.prog 24 = some (.agg ([.nilsl, .int .u32 0])) := by kernel_rfl
@[simp] theorem ag24 : aggP Try.prog 24 = true := by kernel_rfl
@[simp] theorem ap24 : appTy Try.prog 24 = false := by kernel_rfl
@[simp] theorem iu24 : isU8 Try.prog 24 = false := by kernel_rfl
@[simp] theorem se24 : selfTy Try.prog 24 = false := by kernel_rfl
@[simp] theorem fl24_0 : fldP Try.prog 24 0 = some (0, 22) := by kernel_rfl
@[simp] theorem fl24_1 : fldP Try.prog 24 1 = some (1, 23) := by kernel_rfl
@[simp] theorem pl24 : placeP Try.prog 24 = some (.inl [(0, 1), (1, 1)]) := by kernel_rfl
@[simp] theorem sz25 : szP Try.prog 25 = some 2 := by kernel_rfl
@[simp] theorem by25 : byP Try.prog 25 = some 32 := by kernel_rfl
@[simp] theorem kk25 : kP Try.prog 25 = some (.st) := by kernel_rfl
@[simp] theorem ze25 : zeroP Try.prog 25 = some (.agg ([.nilsl, .int .u32 0])) := by kernel_rfl
@[simp] theorem ag25 : aggP Try.prog 25 = true := by kernel_rfl
@[simp] theorem ap25 : appTy Try.prog 25 = false := by kernel_rfl
@[simp] theorem iu25 : isU8 Try.prog 25 = false := by kernel_rfl
@[simp] theorem se25 : selfTy Try.prog 25 = false := by kernel_rfl
@[simp] theorem fl25_0 : fldP Try.prog 25 0 = some (0, 22) := by kernel_rfl
@[simp] theorem fl25_1 : fldP Try.prog 25 1 = some (1, 23) := by kernel_rfl
@[simp] theorem pl25 : placeP Try.prog 25 = some (.inl [(0, 1), (1, 1)]) := by kernel_rfl
@[simp] theorem sz26 : szP Try.prog 26 = some 1 := by kernel_rfl
@[simp] theorem by26 : byP Try.prog 26 = some 8 := by kernel_rfl
@[simp] theorem kk26 : kP Try.prog 26 = some (.fn) := by kernel_rfl
@[simp] theorem ze26 : zeroP Try.prog 26 = some (.nilfunc) := by kernel_rfl
@[simp] theorem ag26 : aggP Try.prog 26 = false := by kernel_rfl
@[simp] theorem ap26 : appTy Try.prog 26 = false := by kernel_rfl
@[simp] theorem iu26 : isU8 Try.prog 26 = false := by kernel_rfl
@[simp] theorem se26 : selfTy Try.prog 26 = false := by kernel_rfl
@[simp] theorem sz27 : szP Try.prog 27 = some 1 := by kernel_rfl
@[simp] theorem by27 : byP Try.prog 27 = some 8 := by kernel_rfl
@[simp] theorem kk27 : kP Try.prog 27 = some (.int .i64) := by kernel_rfl
@[simp] theorem ze27 : zeroP Try.prog 27 = some (.int .i64 0) := by kernel_rfl
@[simp] theorem ag27 : aggP Try.prog 27 = false := by kernel_rfl
@[simp] theorem ap27 : appTy Try.prog 27 = false := by kernel_rfl
@[simp] theorem iu27 : isU8 Try.prog 27 = false := by kernel_rfl
@[simp] theorem se27 : selfTy Try.prog 27 = false := by kernel_rfl
@[simp] theorem sz29 : szP Try.prog 29 = some 1 := by kernel_rfl
@[simp] theorem by29 : byP Try.prog 29 = some 8 := by kernel_rfl
@[simp] theorem kk29 : kP Try.prog 29 = some (.fn) := by kernel_rfl
@[simp] theorem ze29 : zeroP Try.prog 29 = some (.nilfunc) := by kernel_rfl
@[simp] theorem ag29 : aggP Try.prog 29 = false := by kernel_rfl
@[simp] theorem ap29 : appTy Try.prog 29 = false := by kernel_rfl
@[simp] theorem iu29 : isU8 Try.prog 29 = false := by kernel_rfl
@[simp] theorem se29 : selfTy Try.prog 29 = false := by kernel_rfl
@[simp] theorem sz31 : szP Try.prog 31 = some 1 := by kernel_rfl
@[simp] theorem by31 : byP Try.prog 31 = some 8 := by kernel_rfl
@[simp] theorem kk31 : kP Try.prog 31 = some (.fn) := by kernel_rfl
@[simp] theorem ze31 : zeroP Try.prog 31 = some (.nilfunc) := by kernel_rfl
@[simp] theorem ag31 : aggP Try.prog 31 = false := by kernel_rfl
@[simp] theorem ap31 : appTy Try.prog 31 = false := by kernel_rfl
@[simp] theorem iu31 : isU8 Try.prog 31 = false := by kernel_rfl
@[simp] theorem se31 : selfTy Try.prog 31 = false := by kernel_rfl
@[simp] theorem sz32 : szP Try.prog 32 = some 1 := by kernel_rfl
@[simp] theorem by32 : byP Try.prog 32 = some 8 := by kernel_rfl
@[simp] theorem kk32 : kP Try.prog 32 = some (.fn) := by kernel_rfl
@[simp] theorem ze32 : zeroP Try.prog 32 = some (.nilfunc) := by kernel_rfl
@[simp] theorem ag32 : aggP Try.prog 32 = false := by kernel_rfl
@[simp] theorem ap32 : appTy Try.prog 32 = false := by kernel_rfl
@[simp] theorem iu32 : isU8 Try.prog 32 = false := by kernel_rfl
@[simp] theorem se32 : selfTy Try.prog 32 = false := by kernel_rfl
@[simp] theorem sz33 : szP Try.prog 33 = some 1 := by kernel_rfl
@[simp] theorem by33 : byP Try.prog 33 = some 8 := by kernel_rfl
@[simp] theorem kk33 : kP Try.prog 33 = some (.fn) := by kernel_rfl
@[simp] theorem ze33 : zeroP Try.prog 33 = some (.nilfunc) := by kernel_rfl
@[simp] theorem ag33 : aggP Try.prog 33 = false := by kernel_rfl
@[simp] theorem ap33 : appTy Try.prog 33 = false := by kernel_rfl
@[simp] theorem iu33 : isU8 Try.prog 33 = false := by kernel_rfl
@[simp] theorem se33 : selfTy Try.prog 33 = false := by kernel_rfl
@[simp] theorem sz34 : szP Try.prog 34 = some 1 := by kernel_rfl
@[simp] theorem by34 : byP Try.prog 34 = some 8 := by kernel_rfl
@[simp] theorem kk34 : kP Try.prog 34 = some (.fn) := by kernel_rfl
@[simp] theorem ze34 : zeroP Try.prog 34 = some (.nilfunc) := by kernel_rfl
@[simp] theorem ag34 : aggP Try.prog 34 = false := by kernel_rfl
@[simp] theorem ap34 : appTy Try.prog 34 = false := by kernel_rfl
@[simp] theorem iu34 : isU8 Try.prog 34 = false := by kernel_rfl
@[simp] theorem se34 : selfTy Try.prog 34 = false := by kernel_rfl
@[simp] theorem sz35 : szP Try.prog 35 = some 1 := by kernel_rfl
@[simp] theorem by35 : byP Try.prog 35 = some 8 := by kernel_rfl
@[simp] theorem kk35 : kP Try.prog 35 = some (.fn) := by kernel_rfl
@[simp] theorem ze35 : zeroP Try.prog 35 = some (.nilfunc) := by kernel_rfl
@[simp] theorem ag35 : aggP Try.prog 35 = false := by kernel_rfl
@[simp] theorem ap35 : appTy Try.prog 35 = false := by kernel_rfl
@[simp] theorem iu35 : isU8 Try.prog 35 = false := by kernel_rfl
@[simp] theorem se35 : selfTy Try.prog 35 = false := by kernel_rfl
@[simp] theorem sz37 : szP Try.prog 37 = some 1 := by kernel_rfl
@[simp] theorem by37 : byP Try.prog 37 = some 8 := by kernel_rfl
@[simp] theorem kk37 : kP Try.prog 37 = some (.fn) := by kernel_rfl
@[simp] theorem ze37 : zeroP Try.prog 37 = some (.nilfunc) := by kernel_rfl
@[simp] theorem ag37 : aggP Try.prog 37 = false := by kernel_rfl
@[simp] theorem ap37 : appTy Try.prog 37 = false := by kernel_rfl
@[simp] theorem iu37 : isU8 Try.prog 37 = false := by kernel_rfl
@[simp] theorem se37 : selfTy Try.prog 37 = false := by kernel_rfl
@[simp] theorem sz38 : szP Try.prog 38 = some 1 := by kernel_rfl
@[simp] theorem by38 : byP Try.prog 38 = some 8 := by kernel_rfl
@[simp] theorem kk38 : kP Try.prog 38 = some (.fn) := by kernel_rfl
@[simp] theorem ze38 : zeroP Try.prog 38 = some (.nilfunc) := by kernel_rfl
@[simp] theorem ag38 : aggP Try.prog 38 = false := by kernel_rfl
@[simp] theorem ap38 : appTy Try.prog 38 = false := by kernel_rfl
@[simp] theorem iu38 : isU8 Try.prog 38 = false := by kernel_rfl
@[simp] theorem se38 : selfTy Try.prog 38 = false := by kernel_rfl
@[simp] theorem sz39 : szP Try.prog 39 = some 1 := by kernel_rfl
@[simp] theorem by39 : byP Try.prog 39 = some 8 := by kernel_rfl
@[simp] theorem kk39 : kP Try.prog 39 = some (.fn) := by kernel_rfl
@[simp] theorem ze39 : zeroP Try.prog 39 = some (.nilfunc) := by kernel_rfl
@[simp] theorem ag39 : aggP Try.prog 39 = false := by kernel_rfl
@[simp] theorem ap39 : appTy Try.prog 39 = false := by kernel_rfl
@[simp] theorem iu39 : isU8 Try.prog 39 = false := by kernel_rfl
@[simp] theorem se39 : selfTy Try.prog 39 = false := by kernel_rfl
@[simp] theorem sz40 : szP Try.prog 40 = some 1 := by kernel_rfl
@[simp] theorem by40 : byP Try.prog 40 = some 8 := by kernel_rfl
@[simp] theorem kk40 : kP Try.prog 40 = some (.fn) := by kernel_rfl
@[simp] theorem ze40 : zeroP Try.prog 40 = some (.nilfunc) := by kernel_rfl
@[simp] theorem ag40 : aggP Try.prog 40 = false := by kernel_rfl
@[simp] theorem ap40 : appTy Try.prog 40 = false := by kernel_rfl
@[simp] theorem iu40 : isU8 Try.prog 40 = false := by kernel_rfl
@[simp] theorem se40 : selfTy Try.prog 40 = false := by kernel_rfl
@[simp] theorem sz41 : szP Try.prog 41 = some 1 := by kernel_rfl
@[simp] theorem by41 : byP Try.prog 41 = some 8 := by kernel_rfl
@[simp] theorem kk41 : kP Try.prog 41 = some (.fn) := by kernel_rfl
@[simp] theorem ze41 : zeroP Try.prog 41 = some (.nilfunc) := by kernel_rfl
@[simp] theorem ag41 : aggP Try.prog 41 = false := by kernel_rfl
@[simp] theorem ap41 : appTy Try.prog 41 = false := by kernel_rfl
@[simp] theorem iu41 : isU8 Try.prog 41 = false := by kernel_rfl
@[simp] theorem se41 : selfTy Try.prog 41 = false := by kernel_rfl
@[simp] theorem sz42 : szP Try.prog 42 = some 1 := by kernel_rfl
@[simp] theorem by42 : byP Try.prog 42 = some 8 := by kernel_rfl
@[simp] theorem kk42 : kP Try.prog 42 = some (.fn) := by kernel_rfl
@[simp] theorem ze42 : zeroP Try.prog 42 = some (.nilfunc) := by kernel_rfl
@[simp] theorem ag42 : aggP Try.prog 42 = false := by kernel_rfl
@[simp] theorem ap42 : appTy Try.prog 42 = false := by kernel_rfl
@[simp] theorem iu42 : isU8 Try.prog 42 = false := by kernel_rfl
@[simp] theorem se42 : selfTy Try.prog 42 = false := by kernel_rfl
@[simp] theorem sz43 : szP Try.prog 43 = some 3 := by kernel_rfl
@[simp] theorem by43 : byP Try.prog 43 = some 32 := by kernel_rfl
@[simp] theorem kk43 : kP Try.prog 43 = some (.st) := by kernel_rfl
@[simp] theorem ze43 : zeroP Try.prog 43 = some (.agg ([.int .u32 0, .str [], .int .i64 0])) := by kernel_rfl
@[simp] theorem ag43 : aggP Try.prog 43 = true := by kernel_rfl
@[simp] theorem ap43 : appTy Try.prog 43 = false := by kernel_rfl
@[simp] theorem iu43 : isU8 Try.prog 43 = false := by kernel_rfl
@[simp] theorem se43 : selfTy Try.prog 43 = false := by kernel_rfl
@[simp] theorem fl43_0 : fldP Try.prog 43 0 = some (0, 23) := by kernel_rfl
@[simp] theorem fl43_1 : fldP Try.prog 43 1 = some (1, 9) := by kernel_rfl
@[simp] theorem fl43_2 : fldP Try.prog 43 2 = some (2, 2) := by kernel_rfl
@[simp] theorem pl43 : placeP Try.prog 43 = some (.inl [(0, 1), (1, 1), (2, 1)]) := by kernel_rfl
@[simp] theorem ft43 : flatL Try.prog 20 43 = some ([.i, .s, .i]) := by kernel_rfl
@[simp] theorem eg43 : Try.prog.eqGuardType Try.prog.depth 43 = false := by kernel_rfl
@[simp] theorem sz44 : szP Try.prog 44 = some 3 := by kernel_rfl
@[simp] theorem by44 : byP Try.prog 44 = some 32 := by kernel_rfl
@[simp] theorem kk44 : kP Try.prog 44 = some (.st) := by kernel_rfl
@[simp] theorem ze44 : zeroP Try.prog 44 = some (.agg ([.int .u32 0, .str [], .int .i64 0])) := by kernel_rfl
@[simp] theorem ag44 : aggP Try.prog 44 = true := by kernel_rfl
@[simp] theorem ap44 : appTy Try.prog 44 = false := by kernel_rfl
@[simp] theorem iu44 : isU8 Try.prog 44 = false := by kernel_rfl
@[simp] theorem se44 : selfTy Try.prog 44 = false := by kernel_rfl
@[simp] theorem fl44_0 : fldP Try.prog 44 0 = some (0, 23) := by kernel_rfl
@[simp] theorem fl44_1 : fldP Try.prog 44 1 = some (1, 9) := by kernel_rfl
@[simp] theorem fl44_2 : fldP Try.prog 44 2 = some (2, 2) := by kernel_rfl
@[simp] theorem pl44 : placeP Try.prog 44 = some (.inl [(0, 1), (1, 1), (2, 1)]) := by kernel_rfl
@[simp] theorem ft44 : flatL Try.prog 20 44 = some ([.i, .s, .i]) := by kernel_rfl
@[simp] theorem eg44 : Try.prog.eqGuardType Try.prog.depth 44 = false := by kernel_rfl
@[simp] theorem sz45 : szP Try.prog 45 = some 1 := by kernel_rfl
@[simp] theorem by45 : byP Try.prog 45 = some 8 := by kernel_rfl
@[simp] theorem kk45 : kP Try.prog 45 = some (.fn) := by kernel_rfl
@[simp] theorem ze45 : zeroP Try.prog 45 = some (.nilfunc) := by kernel_rfl
@[simp] theorem ag45 : aggP Try.prog 45 = false := by kernel_rfl
@[simp] theorem ap45 : appTy Try.prog 45 = false := by kernel_rfl
@[simp] theorem iu45 : isU8 Try.prog 45 = false := by kernel_rfl
@[simp] theorem se45 : selfTy Try.prog 45 = false := by kernel_rfl
@[simp] theorem sz47 : szP Try.prog 47 = some 1 := by kernel_rfl
@[simp] theorem by47 : byP Try.prog 47 = some 8 := by kernel_rfl
@[simp] theorem kk47 : kP Try.prog 47 = some (.fn) := by kernel_rfl
@[simp] theorem ze47 : zeroP Try.prog 47 = some (.nilfunc) := by kernel_rfl
@[simp] theorem ag47 : aggP Try.prog 47 = false := by kernel_rfl
@[simp] theorem ap47 : appTy Try.prog 47 = false := by kernel_rfl
@[simp] theorem iu47 : isU8 Try.prog 47 = false := by kernel_rfl
@[simp] theorem se47 : selfTy Try.prog 47 = false := by kernel_rfl
@[simp] theorem sz48 : szP Try.prog 48 = some 1 := by kernel_rfl
@[simp] theorem by48 : byP Try.prog 48 = some 8 := by kernel_rfl
@[simp] theorem kk48 : kP Try.prog 48 = some (.fn) := by kernel_rfl
@[simp] theorem ze48 : zeroP Try.prog 48 = some (.nilfunc) := by kernel_rfl
@[simp] theorem ag48 : aggP Try.prog 48 = false := by kernel_rfl
@[simp] theorem ap48 : appTy Try.prog 48 = false := by kernel_rfl
@[simp] theorem iu48 : isU8 Try.prog 48 = false := by kernel_rfl
@[simp] theorem se48 : selfTy Try.prog 48 = false := by kernel_rfl
@[simp] theorem sz49 : szP Try.prog 49 = some 1 := by kernel_rfl
@[simp] theorem by49 : byP Try.prog 49 = some 8 := by kernel_rfl
@[simp] theorem kk49 : kP Try.prog 49 = some (.fn) := by kernel_rfl
@[simp] theorem ze49 : zeroP Try.prog 49 = some (.nilfunc) := by kernel_rfl
@[simp] theorem ag49 : aggP Try.prog 49 = false := by kernel_rfl
@[simp] theorem ap49 : appTy Try.prog 49 = false := by kernel_rfl
@[simp] theorem iu49 : isU8 Try.prog 49 = false := by kernel_rfl
@[simp] theorem se49 : selfTy Try.prog 49 = false := by kernel_rfl
@[simp] theorem sz50 : szP Try.prog 50 = some 1 := by kernel_rfl
@[simp] theorem by50 : byP Try.prog 50 = some 8 := by kernel_rfl
@[simp] theorem kk50 : kP Try.prog 50 = some (.fn) := by kernel_rfl
@[simp] theorem ze50 : zeroP Try.prog 50 = some (.nilfunc) := by kernel_rfl
@[simp] theorem ag50 : aggP Try.prog 50 = false := by kernel_rfl
@[simp] theorem ap50 : appTy Try.prog 50 = false := by kernel_rfl
@[simp] theorem iu50 : isU8 Try.prog 50 = false := by kernel_rfl
@[simp] theorem se50 : selfTy Try.prog 50 = false := by kernel_rfl
@[simp] theorem sz51 : szP Try.prog 51 = some 1 := by kernel_rfl
@[simp] theorem by51 : byP Try.prog 51 = some 8 := by kernel_rfl
@[simp] theorem kk51 : kP Try.prog 51 = some (.fn) := by kernel_rfl
@[simp] theorem ze51 : zeroP Try.prog 51 = some (.nilfunc) := by kernel_rfl
@[simp] theorem ag51 : aggP Try.prog 51 = false := by kernel_rfl
@[simp] theorem ap51 : appTy Try.prog 51 = false := by kernel_rfl
@[simp] theorem iu51 : isU8 Try.prog 51 = false := by kernel_rfl
@[simp] theorem se51 : selfTy Try.prog 51 = false := by kernel_rfl
@[simp] theorem sz52 : szP Try.prog 52 = some 1 := by kernel_rfl
@[simp] theorem by52 : byP Try.prog 52 = some 8 := by kernel_rfl
@[simp] theorem kk52 : kP Try.prog 52 = some (.int .u64) := by kernel_rfl
@[simp] theorem ze52 : zeroP Try.prog 52 = some (.int .u64 0) := by kernel_rfl
@[simp] theorem ag52 : aggP Try.prog 52 = false := by kernel_rfl
@[simp] theorem ap52 : appTy Try.prog 52 = false := by kernel_rfl
@[simp] theorem iu52 : isU8 Try.prog 52 = false := by kernel_rfl
@[simp] theorem se52 : selfTy Try.prog 52 = false := by kernel_rfl
@[simp] theorem sz53 : szP Try.prog 53 = some 1 := by kernel_rfl
@[simp] theorem by53 : byP Try.prog 53 = some 8 := by kernel_rfl
@[simp] theorem kk53 : kP Try.prog 53 = some (.fn) := by kernel_rfl
@[simp] theorem ze53 : zeroP Try.prog 53 = some (.nilfunc) := by kernel_rfl
@[simp] theorem ag53 : aggP Try.prog 53 = false := by kernel_rfl
@[simp] theorem ap53 : appTy Try.prog 53 = false := by kernel_rfl
@[simp] theorem iu53 : isU8 Try.prog 53 = false := by kernel_rfl
@[simp] theorem se53 : selfTy Try.prog 53 = false := by kernel_rfl
@[simp] theorem sz54 : szP Try.prog 54 = some 1 := by kernel_rfl
@[simp] theorem by54 : byP Try.prog 54 = some 8 := by kernel_rfl
@[simp] theorem kk54 : kP Try.prog 54 = some (.fn) := by kernel_rfl
@[simp] theorem ze54 : zeroP Try.prog 54 = some (.nilfunc) := by kernel_rfl
@[simp] theorem ag54 : aggP Try.prog 54 = false := by kernel_rfl
@[simp] theorem ap54 : appTy Try.prog 54 = false := by kernel_rfl
@[simp] theorem iu54 : isU8 Try.prog 54 = false := by kernel_rfl
@[simp] theorem se54 : selfTy Try.prog 54 = false := by kernel_rfl
@[simp] theorem sz55 : szP Try.prog 55 = some 1 := by kernel_rfl
@[simp] theorem by55 : byP Try.prog 55 = some 8 := by kernel_rfl
@[simp] theorem kk55 : kP Try.prog 55 = some (.fn) := by kernel_rfl
@[simp] theorem ze55 : zeroP Try.prog 55 = some (.nilfunc) := by kernel_rfl
@[simp] theorem ag55 : aggP Try.prog 55 = false := by kernel_rfl
@[simp] theorem ap55 : appTy Try.prog 55 = false := by kernel_rfl
@[simp] theorem iu55 : isU8 Try.prog 55 = false := by kernel_rfl
@[simp] theorem se55 : selfTy Try.prog 55 = false := by kernel_rfl
@[simp] theorem sz56 : szP Try.prog 56 = some 1 := by kernel_rfl
@[simp] theorem by56 : byP Try.prog 56 = some 8 := by kernel_rfl
@[simp] theorem kk56 : kP Try.prog 56 = some (.fn) := by kernel_rfl
@[simp] theorem ze56 : zeroP Try.prog 56 = some (.nilfunc) := by kernel_rfl
@[simp] theorem ag56 : aggP Try.prog 56 = false := by kernel_rfl
@[simp] theorem ap56 : appTy Try.prog 56 = false := by kernel_rfl
@[simp] theorem iu56 : isU8 Try.prog 56 = false := by kernel_rfl
@[simp] theorem se56 : selfTy Try.prog 56 = false := by kernel_rfl
@[simp] theorem sz57 : szP Try.prog 57 = some 1 := by kernel_rfl
@[simp] theorem by57 : byP Try.prog 57 = some 8 := by kernel_rfl
@[simp] theorem kk57 : kP Try.prog 57 = some (.fn) := by kernel_rfl
@[simp] theorem ze57 : zeroP Try.prog 57 = some (.nilfunc) := by kernel_rfl
@[simp] theorem ag57 : aggP Try.prog 57 = false := by kernel_rfl
@[simp] theorem ap57 : appTy Try.prog 57 = false := by kernel_rfl
@[simp] theorem iu57 : isU8 Try.prog 57 = false := by kernel_rfl
@[simp] theorem se57 : selfTy Try.prog 57 = false := by kernel_rfl
@[simp] theorem sz58 : szP Try.prog 58 = some 1 := by kernel_rfl
@[simp] theorem by58 : byP Try.prog 58 = some 8 := by kernel_rfl
@[simp] theorem kk58 : kP Try.prog 58 = some (.fn) := by kernel_rfl
@[simp] theorem ze58 : zeroP Try.prog 58 = some (.nilfunc) := by kernel_rfl
@[simp] theorem ag58 : aggP Try.prog 58 = false := by kernel_rfl
@[simp] theorem ap58 : appTy Try.prog 58 = false := by kernel_rfl
@[simp] theorem iu58 : isU8 Try.prog 58 = false := by kernel_rfl
@[simp] theorem se58 : selfTy Try.prog 58 = false := by kernel_rfl
@[simp] theorem sz59 : szP Try.prog 59 = some 1 := by kernel_rfl
@[simp] theorem by59 : byP Try.prog 59 = some 24 := by kernel_rfl
@[simp] theorem kk59 : kP Try.prog 59 = some (.sl 5) := by kernel_rfl
@[simp] theorem ze59 : zeroP Try.prog 59 = some (.nilsl) := by kernel_rfl
@[simp] theorem sl59 : kSl Try.prog 59 = some 5 := by kernel_rfl
@[simp] theorem ag59 : aggP Try.prog 59 = false := by kernel_rfl
@[simp] theorem ap59 : appTy Try.prog 59 = true := by kernel_rfl
@[simp] theorem iu59 : isU8 Try.prog 59 = false := by kernel_rfl
@[simp] theorem se59 : selfTy Try.prog 59 = false := by kernel_rfl
@[simp] theorem sz60 : szP Try.prog 60 = some 1 := by kernel_rfl
@[simp] theorem by60 : byP Try.prog 60 = some 8 := by kernel_rfl
@[simp] theorem kk60 : kP Try.prog 60 = some (.ptr 62) := by kernel_rfl
@[simp] theorem ze60 : zeroP Try.prog 60 = some (.nilptr) := by kernel_rfl
@[simp] theorem ag60 : aggP Try.prog 60 = false := by kernel_rfl
@[simp] theorem ap60 : appTy Try.prog 60 = false := by kernel_rfl
@[simp] theorem iu60 : isU8 Try.prog 60 = false := by kernel_rfl
@[simp] theorem se60 : selfTy Try.prog 60 = false := by kernel_rfl
@[simp] theorem sz61 : szP Try.prog 61 = some 2 := by kernel_rfl
@[simp] theorem by61 : byP Try.prog 61 = some 32 := by kernel_rfl
@[simp] theorem kk61 : kP Try.prog 61 = some (.st) := by kernel_rfl
@[simp] theorem ze61 : zeroP Try.prog 61 = some (.agg ([.nilptr, .nilsl])) := by kernel_rfl
@[simp] theorem ag61 : aggP Try.prog 61 = true := by kernel_rfl
@[simp] theorem ap61 : appTy Try.prog 61 = false := by kernel_rfl
@[simp] theorem iu61 : isU8 Try.prog 61 = false := by kernel_rfl
@[simp] theorem se61 : selfTy Try.prog 61 = false := by kernel_rfl
@[simp] theorem fl61_0 : fldP Try.prog 61 0 = some (0, 60) := by kernel_rfl
@[simp] theorem fl61_1 : fldP Try.prog 61 1 = some (1, 59) := by kernel_rfl
@[simp] theorem pl61 : placeP Try.prog 61 = some (.inl [(0, 1), (1, 1)]) := by kernel_rfl
@[simp] theorem sz62 : szP Try.prog 62 = some 2 := by kernel_rfl
@[simp] theorem by62 : byP Try.prog 62 = some 32 := by kernel_rfl
@[simp] theorem kk62 : kP Try.prog 62 = some (.st) := by kernel_rfl
@[simp] theorem ze62 : zeroP Try.prog 62 = some (.agg ([.nilptr, .nilsl])) := by kernel_rfl
@[simp] theorem ag62 : aggP Try.prog 62 = true := by kernel_rfl
@[simp] theorem ap62 : appTy Try.prog 62 = false := by kernel_rfl
@[simp] theorem iu62 : isU8 Try.prog 62 = false := by kernel_rfl
@[simp] theorem se62 : selfTy Try.prog 62 = true := by kernel_rfl
@[simp] theorem fl62_0 : fldP Try.prog 62 0 = some (0, 60) := by kernel_rfl
@[simp] theorem fl62_1 : fldP Try.prog 62 1 = some (1, 59) := by kernel_rfl
@[simp] theorem pl62 : placeP Try.prog 62 = some (.inl [(0, 1), (1, 1)]) := by kernel_rfl
@[simp] theorem sz66 : szP Try.prog 66 = some 1 := by kernel_rfl
@[simp] theorem by66 : byP Try.prog 66 = some 8 := by kernel_rfl
@[simp] theorem kk66 : kP Try.prog 66 = some (.fn) := by kernel_rfl
@[simp] theorem ze66 : zeroP Try.prog 66 = some (.nilfunc) := by kernel_rfl
@[simp] theorem ag66 : aggP Try.prog 66 = false := by kernel_rfl
@[simp] theorem ap66 : appTy Try.prog 66 = false := by kernel_rfl
@[simp] theorem iu66 : isU8 Try.prog 66 = false := by kernel_rfl
@[simp] theorem se66 : selfTy Try.prog 66 = false := by kernel_rfl
@[simp] theorem sz67 : szP Try.prog 67 = some 1 := by kernel_rfl
@[simp] theorem by67 : byP Try.prog 67 = some 8 := by kernel_rfl
@[simp] theorem kk67 : kP Try.prog 67 = some (.fn) := by kernel_rfl
@[simp] theorem ze67 : zeroP Try.prog 67 = some (.nilfunc) := by kernel_rfl
@[simp] theorem ag67 : aggP Try.prog 67 = false := by kernel_rfl
@[simp] theorem ap67 : appTy Try.prog 67 = false := by kernel_rfl
@[simp] theorem iu67 : isU8 Try.prog 67 = false := by kernel_rfl
@[simp] theorem se67 : selfTy Try.prog 67 = false := by kernel_rfl
@[simp] theorem sz68 : szP Try.prog 68 = some 1 := by kernel_rfl
@[simp] theorem by68 : byP Try.prog 68 = some 8 := by kernel_rfl
@[simp] theorem kk68 : kP Try.prog 68 = some (.fn) := by kernel_rfl
@[simp] theorem ze68 : zeroP Try.prog 68 = some (.nilfunc) := by kernel_rfl
@[simp] theorem ag68 : aggP Try.prog 68 = false := by kernel_rfl
@[simp] theorem ap68 : appTy Try.prog 68 = false := by kernel_rfl
@[simp] theorem iu68 : isU8 Try.prog 68 = false := by kernel_rfl
@[simp] theorem se68 : selfTy Try.prog 68 = false := by kernel_rfl
@[simp] theorem sz69 : szP Try.prog 69 = some 1 := by kernel_rfl
@[simp] theorem by69 : byP Try.prog 69 = some 8 := by kernel_rfl
@[simp] theorem kk69 : kP Try.prog 69 = some (.fn) := by kernel_rfl
@[simp] theorem ze69 : zeroP Try.prog 69 = some (.nilfunc) := by kernel_rfl
@[simp] theorem ag69 : aggP Try.prog 69 = false := by kernel_rfl
@[simp] theorem ap69 : appTy Try.prog 69 = false := by kernel_rfl
@[simp] theorem iu69 : isU8 Try.prog 69 = false := by kernel_rfl
@[simp] theorem se69 : selfTy Try.prog 69 = false := by kernel_rfl
@[simp] theorem sz70 : szP Try.prog 70 = some 1 := by kernel_rfl
@[simp] theorem by70 : byP Try.prog 70 = some 8 := by kernel_rfl
@[simp] theorem kk70 : kP Try.prog 70 = some (.fn) := by kernel_rfl
@[simp] theorem ze70 : zeroP Try.prog 70 = some (.nilfunc) := by kernel_rfl
@[simp] theorem ag70 : aggP Try.prog 70 = false := by kernel_rfl
@[simp] theorem ap70 : appTy Try.prog 70 = false := by kernel_rfl
@[simp] theorem iu70 : isU8 Try.prog 70 = false := by kernel_rfl
@[simp] theorem se70 : selfTy Try.prog 70 = false := by kernel_rfl
@[simp] theorem sz71 : szP Try.prog 71 = some 1 := by kernel_rfl
@[simp] theorem by71 : byP Try.prog 71 = some 8 := by kernel_rfl
@[simp] theorem kk71 : kP Try.prog 71 = some (.fn) := by kernel_rfl
@[simp] theorem ze71 : zeroP Try.prog 71 = some (.nilfunc) := by kernel_rfl
@[simp] theorem ag71 : aggP Try.prog 71 = false := by kernel_rfl
@[simp] theorem ap71 : appTy Try.prog 71 = false := by kernel_rfl
@[simp] theorem iu71 : isU8 Try.prog 71 = false := by kernel_rfl
@[simp] theorem se71 : selfTy Try.prog 71 = false := by kernel_rfl
@[simp] theorem sz72 : szP Try.prog 72 = some 1 := by kernel_rfl
@[simp] theorem by72 : byP Try.prog 72 = some 8 := by kernel_rfl
@[simp] theorem kk72 : kP Try.prog 72 = some (.fn) := by kernel_rfl
@[simp] theorem ze72 : zeroP Try.prog 72 = some (.nilfunc) := by kernel_rfl
@[simp] theorem ag72 : aggP Try.prog 72 = false := by kernel_rfl
@[simp] theorem ap72 : appTy Try.prog 72 = false := by kernel_rfl
@[simp] theorem iu72 : isU8 Try.prog 72 = false := by kernel_rfl
@[simp] theorem se72 : selfTy Try.prog 72 = false := by kernel_rfl
@[simp] theorem sz73 : szP Try.prog 73 = some 1 := by kernel_rfl
@[simp] theorem by73 : byP Try.prog 73 = some 16 := by kernel_rfl
@[simp] theorem kk73 : kP Try.prog 73 = some (.arr 1 9) := by kernel_rfl
@[simp] theorem ze73 : zeroP Try.prog 73 = some (.agg ([.str []])) := by kernel_rfl
@[simp] theorem ar73 : kArr Try.prog 73 = some (1, 9) := by kernel_rfl
@[simp] theorem pl73 : placeP Try.prog 73 = some (.inr 1) := by kernel_rfl
@[simp] theorem ag73 : aggP Try.prog 73 = true := by kernel_rfl
@[simp] theorem ap73 : appTy Try.prog 73 = false := by kernel_rfl
@[simp] theorem iu73 : isU8 Try.prog 73 = false := by kernel_rfl
@[simp] theorem se73 : selfTy Try.prog 73 = false := by kernel_rfl
@[simp] theorem ft73 : flatL Try.prog 20 73 = some ([.s]) := by kernel_rfl
@[simp] theorem eg73 : Try.prog.eqGuardType Try.prog.depth 73 = false := by kernel_rfl
@[simp] theorem sz74 : szP Try.prog 74 = some 1 := by kernel_rfl
@[simp] theorem by74 : byP Try.prog 74 = some 8 := by kernel_rfl
@[simp] theorem kk74 : kP Try.prog 74 = some (.fn) := by kernel_rfl
@[simp] theorem ze74 : zeroP Try.prog 74 = some (.nilfunc) := by kernel_rfl
@[simp] theorem ag74 : aggP Try.prog 74 = false := by kernel_rfl
@[simp] theorem ap74 : appTy Try.prog 74 = false := by kernel_rfl
@[simp] theorem iu74 : isU8 Try.prog 74 = false := by kernel_rfl
@[simp] theorem se74 : selfTy Try.prog 74 = false := by kernel_rfl
@[simp] theorem sz75 : szP Try.prog 75 = some 1 := by kernel_rfl
@[simp] theorem by75 : byP Try.prog 75 = some 8 := by kernel_rfl
@[simp] theorem kk75 : kP Try.prog 75 = some (.fn) := by kernel_rfl
@[simp] theorem ze75 : zeroP Try.prog 75 = some (.nilfunc) := by kernel_rfl
@[simp] theorem ag75 : aggP Try.prog 75 = false := by kernel_rfl
@[simp] theorem ap75 : appTy Try.prog 75 = false := by kernel_rfl
@[simp] theorem iu75 : isU8 Try.prog 75 = false := by kernel_rfl
@[simp] theorem se75 : selfTy Try.prog 75 = false := by kernel_rfl
@[simp] theorem sz76 : szP Try.prog 76 = some 1 := by kernel_rfl
@[simp] theorem by76 : byP Try.prog 76 = some 8 := by kernel_rfl
@[simp] theorem kk76 : kP Try.prog 76 = some (.fn) := by kernel_rfl
@[simp] theorem ze76 : zeroP Try.prog 76 = some (.nilfunc) := by kernel_rfl
@[simp] theorem ag76 : aggP Try.prog 76 = false := by kernel_rfl
@[simp] theorem ap76 : appTy Try.prog 76 = false := by kernel_rfl
@[simp] theorem iu76 : isU8 Try.prog 76 = false := by kernel_rfl
@[simp] theorem se76 : selfTy Try.prog 76 = false := by kernel_rfl
@[simp] theorem sz77 : szP Try.prog 77 = some 1 := by kernel_rfl
@[simp] theorem by77 : byP Try.prog 77 = some 8 := by kernel_rfl
@[simp] theorem kk77 : kP Try.prog 77 = some (.fn) := by kernel_rfl
@[simp] theorem ze77 : zeroP Try.prog 77 = some (.nilfunc) := by kernel_rfl
@[simp] theorem ag77 : aggP Try.prog 77 = false := by kernel_rfl
@[simp] theorem ap77 : appTy Try.prog 77 = false := by kernel_rfl
@[simp] theorem iu77 : isU8 Try.prog 77 = false := by kernel_rfl
@[simp] theorem se77 : selfTy Try.prog 77 = false := by kernel_rfl
@[simp] theorem sz78 : szP Try.prog 78 = some 1 := by kernel_rfl
@[simp] theorem by78 : byP Try.prog 78 = some 8 := by kernel_rfl
@[simp] theorem kk78 : kP Try.prog 78 = some (.fn) := by kernel_rfl
@[simp] theorem ze78 : zeroP Try.prog 78 = some (.nilfunc) := by kernel_rfl
@[simp] theorem ag78 : aggP Try.prog 78 = false := by kernel_rfl
@[simp] theorem ap78 : appTy Try.prog 78 = false := by kernel_rfl
@[simp] theorem iu78 : isU8 Try.prog 78 = false := by kernel_rfl
@[simp] theorem se78 : selfTy Try.prog 78 = false := by kernel_rfl
@[simp] theorem sz79 : szP Try.prog 79 = some 8 := by kernel_rfl
@[simp] theorem by79 : byP Try.prog 79 = some 32 := by kernel_rfl
@[simp] theorem kk79 : kP Try.prog 79 = some (.arr 8 23) := by kernel_rfl
@[simp] theorem ze79 : zeroP Try.prog 79 = some (.agg ([.int .u32 0, .int .u32 0, .int .u32 0, .int .u32 0, .int .u32 0, .int .u32 0, .int .u32 0, .int .u32 0])) := by kernel_rfl
@[simp] theorem ar79 : kArr Try.prog 79 = some (8, 23) := by kernel_rfl
@[simp] theorem pl79 : placeP Try.prog 79 = some (.inr 1) := by kernel_rfl
@[simp] theorem ag79 : aggP Try.prog 79 = true := by kernel_rfl
@[simp] theorem ap79 : appTy Try.prog 79 = false := by kernel_rfl
@[simp] theorem iu79 : isU8 Try.prog 79 = false := by kernel_rfl
@[simp] theorem se79 : selfTy Try.prog 79 = false := by kernel_rfl
@[simp] theorem ft79 : flatL Try.prog 20 79 = some ([.i, .i, .i, .i, .i, .i, .i, .i]) := by kernel_rfl
@[simp] theorem eg79 : Try.prog.eqGuardType Try.prog.depth 79 = false := by kernel_rfl
@[simp] theorem sz80 : szP Try.prog 80 = some 10 := by kernel_rfl
@[simp] theorem by80 : byP Try.prog 80 = some 56 := by kernel_rfl
@[simp] theorem kk80 : kP Try.prog 80 = some (.st) := by kernel_rfl
@[simp] theorem ze80 : zeroP Try.prog 80 = some (.agg ([.int .u32 0, .int .u32 0, .int .u32 0, .int .u32 0, .int .u32 0, .int .u32 0, .int .u32 0, .int .u32 0, .str [], .int .u64 0])) := by kernel_rfl
@[simp] theorem ag80 : aggP Try.prog 80 = true := by kernel_rfl
@[simp] theorem ap80 : appTy Try.prog 80 = false := by kernel_rfl
@[simp] theorem iu80 : isU8 Try.prog 80 = false := by kernel_rfl
@[simp] theorem se80 : selfTy Try.prog 80 = false := by kernel_rfl
@[simp] theorem fl80_0 : fldP Try.prog 80 0 = some (0, 79) := by kernel_rfl
@[simp] theorem fl80_1 : fldP Try.prog 80 1 = some (8, 9) := by kernel_rfl
@[simp] theorem fl80_2 : fldP Try.prog 80 2 = some (9, 52) := by kernel_rfl
@[simp] theorem pl80 : placeP Try.prog 80 = some (.inl [(0, 8), (8, 1), (9, 1)]) := by kernel_rfl
@[simp] theorem ft80 : flatL Try.prog 20 80 = some ([.i, .i, .i, .i, .i, .i, .i, .i, .s, .i]) := by kernel_rfl
@[simp] theorem eg80 : Try.prog.eqGuardType Try.prog.depth 80 = false := by kernel_rfl
@[simp] theorem sz81 : szP Try.prog 81 = some 10 := by kernel_rfl
@[simp] theorem by81 : byP Try.prog 81 = some 56 := by kernel_rfl
@[simp] theorem kk81 : kP Try.prog 81 = some (.st) := by kernel_rfl
@[simp] theorem ze81 : zeroP Try.prog 81 = some (.agg ([.int .u32 0, .int .u32 0, .int .u32 0, .int .u32 0, .int .u32 0, .int .u32 0, .int .u32 0, .int .u32 0, .str [], .int .u64 0])) := by kernel_rfl
@[simp] theorem ag81 : aggP Try.prog 81 = true := by kernel_rfl
@[simp] theorem ap81 : appTy Try.prog 81 = false := by kernel_rfl
@[simp] theorem iu81 : isU8 Try.prog 81 = false := by kernel_rfl
@[simp] theorem se81 : selfTy Try.prog 81 = false := by kernel_rfl
@[simp] theorem fl81_0 : fldP Try.prog 81 0 = some (0, 79) := by kernel_rfl
@[simp] theorem fl81_1 : fldP Try.prog 81 1 = some (8, 9) := by kernel_rfl
@[simp] theorem fl81_2 : fldP Try.prog 81 2 = some (9, 52) := by kernel_rfl
@[simp] theorem pl81 : placeP Try.prog 81 = some (.inl [(0, 8), (8, 1), (9, 1)]) := by kernel_rfl
@[simp] theorem ft81 : flatL Try.prog 20 81 = some ([.i, .i, .i, .i, .i, .i, .i, .i, .s, .i]) := by kernel_rfl
@[simp] theorem eg81 : Try.prog.eqGuardType Try.prog.depth 81 = false := by kernel_rfl
@[simp] theorem sz82 : szP Try.prog 82 = some 1 := by kernel_rfl
@[simp] theorem by82 : byP Try.prog 82 = some 8 := by kernel_rfl
@[simp] theorem kk82 : kP Try.prog 82 = some (.fn) := by kernel_rfl
@[simp] theorem ze82 : zeroP Try.prog 82 = some (.nilfunc) := by kernel_rfl
@[simp] theorem ag82 : aggP Try.prog 82 = false := by kernel_rfl
@[simp] theorem ap82 : appTy Try.prog 82 = false := by kernel_rfl
@[simp] theorem iu82 : isU8 Try.prog 82 = false := by kernel_rfl
@[simp] theorem se82 : selfTy Try.prog 82 = false := by kernel_rfl
@[simp] theorem sz83 : szP Try.prog 83 = some 1 := by kernel_rfl
@[simp] theorem by83 : byP Try.prog 83 = some 8 := by kernel_rfl
@[simp] theorem kk83 : kP Try.prog 83 = some (.fn) := by kernel_rfl
@[simp] theorem ze83 : zeroP Try.prog 83 = some (.nilfunc) := by kernel_rfl
@[simp] theorem ag83 : aggP Try.prog 83 = false := by kernel_rfl
@[simp] theorem ap83 : appTy Try.prog 83 = false := by kernel_rfl
@[simp] theorem iu83 : isU8 Try.prog 83 = false := by kernel_rfl
@[simp] theorem se83 : selfTy Try.prog 83 = false := by kernel_rfl
@[simp] theorem sz84 : szP Try.prog 84 = some 1 := by kernel_rfl
@[simp] theorem by84 : byP Try.prog 84 = some 8 := by kernel_rfl
@[simp] theorem kk84 : kP Try.prog 84 = some (.int .u64) := by kernel_rfl
@[simp] theorem ze84 : zeroP Try.prog 84 = some (.int .u64 0) := by kernel_rfl
@[simp] theorem ag84 : aggP Try.prog 84 = false := by kernel_rfl
@[simp] theorem ap84 : appTy Try.prog 84 = false := by kernel_rfl
@[simp] theorem iu84 : isU8 Try.prog 84 = false := by kernel_rfl
@[simp] theorem se84 : selfTy Try.prog 84 = false := by kernel_rfl
@[simp] theorem sz85 : szP Try.prog 85 = some 1 := by kernel_rfl
@[simp] theorem by85 : byP Try.prog 85 = some 8 := by kernel_rfl
@[simp] theorem kk85 : kP Try.prog 85 = some (.fn) := by kernel_rfl
@[simp] theorem ze85 : zeroP Try.prog 85 = some (.nilfunc) := by kernel_rfl
@[simp] theorem ag85 : aggP Try.prog 85 = false := by kernel_rfl
@[simp] theorem ap85 : appTy Try.prog 85 = false := by kernel_rfl
@[simp] theorem iu85 : isU8 Try.prog 85 = false := by kernel_rfl
@[simp] theorem se85 : selfTy Try.prog 85 = false := by kernel_rfl
@[simp] theorem sz86 : szP Try.prog 86 = some 1 := by kernel_rfl
@[simp] theorem by86 : byP Try.prog 86 = some 8 := by kernel_rfl
@[simp] theorem kk86 : kP Try.prog 86 = some (.ptr 5) := by kernel_rfl
@[simp] theorem ze86 : zeroP Try.prog 86 = some (.nilptr) := by kernel_rfl
@[simp] theorem ag86 : aggP Try.prog 86 = false := by kernel_rfl
@[simp] theorem ap86 : appTy Try.prog 86 = false := by kernel_rfl
@[simp] theorem iu86 : isU8 Try.prog 86 = false := by kernel_rfl
@[simp] theorem se86 : selfTy Try.prog 86 = false := by kernel_rfl
@[simp] theorem sz87 : szP Try.prog 87 = some 1 := by kernel_rfl
@[simp] theorem by87 : byP Try.prog 87 = some 8 := by kernel_rfl
@[simp] theorem kk87 : kP Try.prog 87 = some (.fn) := by kernel_rfl
@[simp] theorem ze87 : zeroP Try.prog 87 = some (.nilfunc) := by kernel_rfl
@[simp] theorem ag87 : aggP Try.prog 87 = false := by kernel_rfl
@[simp] theorem ap87 : appTy Try.prog 87 = false := by kernel_rfl
@[simp] theorem iu87 : isU8 Try.prog 87 = false := by kernel_rfl
@[simp] theorem se87 : selfTy Try.prog 87 = false := by kernel_rfl
@[simp] theorem sz89 : szP Try.prog 89 = some 1 := by kernel_rfl
@[simp] theorem by89 : byP Try.prog 89 = some 8 := by kernel_rfl
@[simp] theorem kk89 : kP Try.prog 89 = some (.fn) := by kernel_rfl
@[simp] theorem ze89 : zeroP Try.prog 89 = some (.nilfunc) := by kernel_rfl
@[simp] theorem ag89 : aggP Try.prog 89 = false := by kernel_rfl
@[simp] theorem ap89 : appTy Try.prog 89 = false := by kernel_rfl
@[simp] theorem iu89 : isU8 Try.prog 89 = false := by kernel_rfl
@[simp] theorem se89 : selfTy Try.prog 89 = false := by kernel_rfl
@[simp] theorem sz90 : szP Try.prog 90 = some 1 := by kernel_rfl
@[simp] theorem by90 : byP Try.prog 90 = some 8 := by kernel_rfl
@[simp] theorem kk90 : kP Try.prog 90 = some (.fn) := by kernel_rfl
@[simp] theorem ze90 : zeroP Try.prog 90 = some (.nilfunc) := by kernel_rfl
@[simp] theorem ag90 : aggP Try.prog 90 = false := by kernel_rfl
@[simp] theorem ap90 : appTy Try.prog 90 = false := by kernel_rfl
@[simp] theorem iu90 : isU8 Try.prog 90 = false := by kernel_rfl
@[simp] theorem se90 : selfTy Try.prog 90 = false := by kernel_rfl
@[simp] theorem sz91 : szP Try.prog 91 = some 1 := by kernel_rfl
@[simp] theorem by91 : byP Try.prog 91 = some 8 := by kernel_rfl
@[simp] theorem kk91 : kP Try.prog 91 = some (.fn) := by kernel_rfl
@[simp] theorem ze91 : zeroP Try.prog 91 = some (.nilfunc) := by kernel_rfl
@[simp] theorem ag91 : aggP Try.prog 91 = false := by kernel_rfl
@[simp] theorem ap91 : appTy Try.prog 91 = false := by kernel_rfl
@[simp] theorem iu91 : isU8 Try.prog 91 = false := by kernel_rfl
@[simp] theorem se91 : selfTy Try.prog 91 = false := by kernel_rfl
@[simp] theorem sz92 : szP Try.prog 92 = some 1 := by kernel_rfl
@[simp] theorem by92 : byP Try.prog 92 = some 8 := by kernel_rfl
@[simp] theorem kk92 : kP Try.prog 92 = some (.fn) := by kernel_rfl
@[simp] theorem ze92 : zeroP Try.prog 92 = some (.nilfunc) := by kernel_rfl
@[simp] theorem ag92 : aggP Try.prog 92 = false := by kernel_rfl
@[simp] theorem ap92 : appTy Try.prog 92 = false := by kernel_rfl
@[simp] theorem iu92 : isU8 Try.prog 92 = false := by kernel_rfl
@[simp] theorem se92 : selfTy Try.prog 92 = false := by kernel_rfl
@[simp] theorem sz93 : szP Try.prog 93 = some 1 := by kernel_rfl
@[simp] theorem by93 : byP Try.prog 93 = some 8 := by kernel_rfl
@[simp] theorem kk93 : kP Try.prog 93 = some (.fn) := by kernel_rfl
@[simp] theorem ze93 : zeroP Try.prog 93 = some (.nilfunc) := by kernel_rfl
@[simp] theorem ag93 : aggP Try.prog 93 = false := by kernel_rfl
@[simp] theorem ap93 : appTy Try.prog 93 = false := by kernel_rfl
@[simp] theorem iu93 : isU8 Try.prog 93 = false := by kernel_rfl
@[simp] theorem se93 : selfTy Try.prog 93 = false := by kernel_rfl
@[simp] theorem sz94 : szP Try.prog 94 = some 1 := by kernel_rfl
@[simp] theorem by94 : byP Try.prog 94 = some 8 := by kernel_rfl
@[simp] theorem kk94 : kP Try.prog 94 = some (.fn) := by kernel_rfl
@[simp] theorem ze94 : zeroP Try.prog 94 = some (.nilfunc) := by kernel_rfl
@[simp] theorem ag94 : aggP Try.prog 94 = false := by kernel_rfl
@[simp] theorem ap94 : appTy Try.prog 94 = false := by kernel_rfl
@[simp] theorem iu94 : isU8 Try.prog 94 = false := by kernel_rfl
@[simp] theorem se94 : selfTy Try.prog 94 = false := by kernel_rfl
@[simp] theorem sz96 : szP Try.prog 96 = some 1 := by kernel_rfl
@[simp] theorem by96 : byP Try.prog 96 = some 8 := by kernel_rfl
@[simp] theorem kk96 : kP Try.prog 96 = some (.fn) := by kernel_rfl
@[simp] theorem ze96 : zeroP Try.prog 96 = some (.nilfunc) := by kernel_rfl
@[simp] theorem ag96 : aggP Try.prog 96 = false := by kernel_rfl
@[simp] theorem ap96 : appTy Try.prog 96 = false := by kernel_rfl
@[simp] theorem iu96 : isU8 Try.prog 96 = false := by kernel_rfl
@[simp] theorem se96 : selfTy Try.prog 96 = false := by kernel_rfl
@[simp] theorem sz98 : szP Try.prog 98 = some 1 := by kernel_rfl
@[simp] theorem by98 : byP Try.prog 98 = some 8 := by kernel_rfl
@[simp] theorem kk98 : kP Try.prog 98 = some (.fn) := by kernel_rfl
@[simp] theorem ze98 : zeroP Try.prog 98 = some (.nilfunc) := by kernel_rfl
@[simp] theorem ag98 : aggP Try.prog 98 = false := by kernel_rfl
@[simp] theorem ap98 : appTy Try.prog 98 = false := by kernel_rfl
@[simp] theorem iu98 : isU8 Try.prog 98 = false := by kernel_rfl
@[simp] theorem se98 : selfTy Try.prog 98 = false := by kernel_rfl
@[simp] theorem sz99 : szP Try.prog 99 = some 1 := by kernel_rfl
@[simp] theorem by99 : byP Try.prog 99 = some 24 := by kernel_rfl
@[simp] theorem kk99 : kP Try.prog 99 = some (.sl 23) := by kernel_rfl
@[simp] theorem ze99 : zeroP Try.prog 99 = some (.nilsl) := by kernel_rfl
@[simp] theorem sl99 : kSl Try.prog 99 = some 23 := by kernel_rfl
@[simp] theorem ag99 : aggP Try.prog 99 = false := by kernel_rfl
@[simp] theorem ap99 : appTy Try.prog 99 = true := by kernel_rfl
@[simp] theorem iu99 : isU8 Try.prog 99 = false := by kernel_rfl
@[simp] theorem se99 : selfTy Try.prog 99 = false := by kernel_rfl
@[simp] theorem sz100 : szP Try.prog 100 = some 1 := by kernel_rfl
@[simp] theorem by100 : byP Try.prog 100 = some 8 := by kernel_rfl
@[simp] theorem kk100 : kP Try.prog 100 = some (.fn) := by kernel_rfl
@[simp] theorem ze100 : zeroP Try.prog 100 = some (.nilfunc) := by kernel_rfl
@[simp] theorem ag100 : aggP Try.prog 100 = false := by kernel_rfl
@[simp] theorem ap100 : appTy Try.prog 100 = false := by kernel_rfl
@[simp] theorem iu100 : isU8 Try.prog 100 = false := by kernel_rfl
@[simp] theorem se100 : selfTy Try.prog 100 = false := by kernel_rfl
@[simp] theorem sz101 : szP Try.prog 101 = some 1 := by kernel_rfl
@[simp] theorem by101 : byP Try.prog 101 = some 8 := by kernel_rfl
@[simp] theorem kk101 : kP Try.prog 101 = some (.fn) := by kernel_rfl
@[simp] theorem ze101 : zeroP Try.prog 101 = some (.nilfunc) := by kernel_rfl
@[simp] theorem ag101 : aggP Try.prog 101 = false := by kernel_rfl
@[simp] theorem ap101 : appTy Try.prog 101 = false := by kernel_rfl
@[simp] theorem iu101 : isU8 Try.prog 101 = false := by kernel_rfl
@[simp] theorem se101 : selfTy Try.prog 101 = false := by kernel_rfl
@[simp] theorem sz103 : szP Try.prog 103 = some 1 := by kernel_rfl
@[simp] theorem by103 : byP Try.prog 103 = some 8 := by kernel_rfl
@[simp] theorem kk103 : kP Try.prog 103 = some (.fn) := by kernel_rfl
@[simp] theorem ze103 : zeroP Try.prog 103 = some (.nilfunc) := by kernel_rfl
@[simp] theorem ag103 : aggP Try.prog 103 = false := by kernel_rfl
@[simp] theorem ap103 : appTy Try.prog 103 = false := by kernel_rfl
@[simp] theorem iu103 : isU8 Try.prog 103 = false := by kernel_rfl
@[simp] theorem se103 : selfTy Try.prog 103 = false := by kernel_rfl
@[simp] theorem sz104 : szP Try.prog 104 = some 1 := by kernel_rfl
@[simp] theorem by104 : byP Try.prog 104 = some 8 := by kernel_rfl
@[simp] theorem kk104 : kP Try.prog 104 = some (.fn) := by kernel_rfl
@[simp] theorem ze104 : zeroP Try.prog 104 = some (.nilfunc) := by kernel_rfl
@[simp] theorem ag104 : aggP Try.prog 104 = false := by kernel_rfl
@[simp] theorem ap104 : appTy Try.prog 104 = false := by kernel_rfl
@[simp] theorem iu104 : isU8 Try.prog 104 = false := by kernel_rfl
@[simp] theorem se104 : selfTy Try.prog 104 = false := by kernel_rfl
@[simp] theorem sz105 : szP Try.prog 105 = some 1 := by kernel_rfl
@[simp] theorem by105 : byP Try.prog 105 = some 8 := by kernel_rfl
@[simp] theorem kk105 : kP Try.prog 105 = some (.fn) := by kernel_rfl
@[simp] theorem ze105 : zeroP Try.prog 105 = some (.nilfunc) := by kernel_rfl
@[simp] theorem ag105 : aggP Try.prog 105 = false := by kernel_rfl
@[simp] theorem ap105 : appTy Try.prog 105 = false := by kernel_rfl
@[simp] theorem iu105 : isU8 Try.prog 105 = false := by kernel_rfl
@[simp] theorem se105 : selfTy Try.prog 105 = false := by kernel_rfl
@[simp] theorem sz106 : szP Try.prog 106 = some 1 := by kernel_rfl
@[simp] theorem by106 : byP Try.prog 106 = some 8 := by kernel_rfl
@[simp] theorem kk106 : kP Try.prog 106 = some (.fn) := by kernel_rfl
@[simp] theorem ze106 : zeroP Try.prog 106 = some (.nilfunc) := by kernel_rfl
@[simp] theorem ag106 : aggP Try.prog 106 = false := by kernel_rfl
@[simp] theorem ap106 : appTy Try.prog 106 = false := by kernel_rfl
@[simp] theorem iu106 : isU8 Try.prog 106 = false := by kernel_rfl
@[simp] theorem se106 : selfTy Try.prog 106 = false := by kernel_rfl
@[simp] theorem sz107 : szP Try.prog 107 = some 64 := by kernel_rfl
@[simp] theorem by107 : byP Try.prog 107 = some 256 := by kernel_rfl
@[simp] theorem kk107 : kP Try.prog 107 = some (.arr 64 23) := by kernel_rfl
@[simp] theorem ze107 : zeroP Try.prog 107 = some (.agg (List.replicate 64 (.int .u32 0))) := by kernel_rfl
@[simp] theorem ar107 : kArr Try.prog 107 = some (64, 23) := by kernel_rfl
@[simp] theorem pl107 : placeP Try.prog 107 = some (.inr 1) := by kernel_rfl
@[simp] theorem ag107 : aggP Try.prog 107 = true := by kernel_rfl
@[simp] theorem ap107 : appTy Try.prog 107 = false := by kernel_rfl
@[simp] theorem iu107 : isU8 Try.prog 107 = false := by kernel_rfl
@[simp] theorem se107 : selfTy Try.prog 107 = false := by kernel_rfl
@[simp] theorem ft107 : flatL Try.prog 20 107 = some (List.replicate 64 (.i)) := by kernel_rfl
@[simp] theorem eg107 : Try.prog.eqGuardType Try.prog.depth 107 = false := by kernel_rfl
@[simp] theorem sz108 : szP Try.prog 108 = some 1 := by kernel_rfl
@[simp] theorem by108 : byP Try.prog 108 = some 8 := by kernel_rfl
@[simp] theorem kk108 : kP Try.prog 108 = some (.fn) := by kernel_rfl
@[simp] theorem ze108 : zeroP Try.prog 108 = some (.nilfunc) := by kernel_rfl
@[simp] theorem ag108 : aggP Try.prog 108 = false := by kernel_rfl
@[simp] theorem ap108 : appTy Try.prog 108 = false := by kernel_rfl
@[simp] theorem iu108 : isU8 Try.prog 108 = false := by kernel_rfl
@[simp] theorem se108 : selfTy Try.prog 108 = false := by kernel_rfl
@[simp] theorem sz109 : szP Try.prog 109 = some 1 := by kernel_rfl
@[simp] theorem by109 : byP Try.prog 109 = some 8 := by kernel_rfl
@[simp] theorem kk109 : kP Try.prog 109 = some (.fn) := by kernel_rfl
@[simp] theorem ze109 : zeroP Try.prog 109 = some (.nilfunc) := by kernel_rfl
@[simp] theorem ag109 : aggP Try.prog 109 = false := by kernel_rfl
@[simp] theorem ap109 : appTy Try.prog 109 = false := by kernel_rfl
@[simp] theorem iu109 : isU8 Try.prog 109 = false := by kernel_rfl
@[simp] theorem se109 : selfTy Try.prog 109 = false := by kernel_rfl
@[simp] theorem sz110 : szP Try.prog 110 = some 1 := by kernel_rfl
@[simp] theorem by110 : byP Try.prog 110 = some 8 := by kernel_rfl
@[simp] theorem kk110 : kP Try.prog 110 = some (.fn) := by kernel_rfl
@[simp] theorem ze110 : zeroP Try.prog 110 = some (.nilfunc) := by kernel_rfl
@[simp] theorem ag110 : aggP Try.prog 110 = false := by kernel_rfl
@[simp] theorem ap110 : appTy Try.prog 110 = false := by kernel_rfl
@[simp] theorem iu110 : isU8 Try.prog 110 = false := by kernel_rfl
@[simp] theorem se110 : selfTy Try.prog 110 = false := by kernel_rfl
@[simp] theorem sz111 : szP Try.prog 111 = some 1 := by kernel_rfl
@[simp] theorem by111 : byP Try.prog 111 = some 8 := by kernel_rfl
@[simp] theorem kk111 : kP Try.prog 111 = some (.fn) := by kernel_rfl
@[simp] theorem ze111 : zeroP Try.prog 111 = some (.nilfunc) := by kernel_rfl
@[simp] theorem ag111 : aggP Try.prog 111 = false := by kernel_rfl
@[simp] theorem ap111 : appTy Try.prog 111 = false := by kernel_rfl
@[simp] theorem iu111 : isU8 Try.prog 111 = false := by kernel_rfl
@[simp] theorem se111 : selfTy Try.prog 111 = false := by kernel_rfl
@[simp] theorem sz113 : szP Try.prog 113 = some 1 := by kernel_rfl
@[simp] theorem by113 : byP Try.prog 113 = some 8 := by kernel_rfl
@[simp] theorem kk113 : kP Try.prog 113 = some (.fn) := by kernel_rfl
@[simp] theorem ze113 : zeroP Try.prog 113 = some (.nilfunc) := by kernel_rfl
@[simp] theorem ag113 : aggP Try.prog 113 = false := by kernel_rfl
@[simp] theorem ap113 : appTy Try.prog 113 = false := by kernel_rfl
@[simp] theorem iu113 : isU8 Try.prog 113 = false := by kernel_rfl
@[simp] theorem se113 : selfTy Try.prog 113 = false := by kernel_rfl
@[simp] theorem sz115 : szP Try.prog 115 = some 1 := by kernel_rfl
@[simp] theorem by115 : byP Try.prog 115 = some 8 := by kernel_rfl
@[simp] theorem kk115 : kP Try.prog 115 = some (.fn) := by kernel_rfl
@[simp] theorem ze115 : zeroP Try.prog 115 = some (.nilfunc) := by kernel_rfl
@[simp] theorem ag115 : aggP Try.prog 115 = false := by kernel_rfl
@[simp] theorem ap115 : appTy Try.prog 115 = false := by kernel_rfl
@[simp] theorem iu115 : isU8 Try.prog 115 = false := by kernel_rfl
@[simp] theorem se115 : selfTy Try.prog 115 = false := by kernel_rfl
@[simp] theorem sz116 : szP Try.prog 116 = some 1 := by kernel_rfl
@[simp] theorem by116 : byP Try.prog 116 = some 8 := by kernel_rfl
@[simp] theorem kk116 : kP Try.prog 116 = some (.fn) := by kernel_rfl
@[simp] theorem ze116 : zeroP Try.prog 116 = some (.nilfunc) := by kernel_rfl
@[simp] theorem ag116 : aggP Try.prog 116 = false := by kernel_rfl
@[simp] theorem ap116 : appTy Try.prog 116 = false := by kernel_rfl
@[simp] theorem iu116 : isU8 Try.prog 116 = false := by kernel_rfl
@[simp] theorem se116 : selfTy Try.prog 116 = false := by kernel_rfl
@[simp] theorem sz117 : szP Try.prog 117 = some 4 := by kernel_rfl
@[simp] theorem by117 : byP Try.prog 117 = some 40 := by kernel_rfl
@[simp] theorem kk117 : kP Try.prog 117 = some (.st) := by kernel_rfl
@[simp] theorem ze117 : zeroP Try.prog 117 = some (.agg ([.nilptr, .nilptr, .nilptr, .str []])) := by kernel_rfl
@[simp] theorem ag117 : aggP Try.prog 117 = true := by kernel_rfl
@[simp] theorem ap117 : appTy Try.prog 117 = false := by kernel_rfl
@[simp] theorem iu117 : isU8 Try.prog 117 = false := by kernel_rfl
@[simp] theorem se117 : selfTy Try.prog 117 = false := by kernel_rfl
@[simp] theorem fl117_0 : fldP Try.prog 117 0 = some (0, 17) := by kernel_rfl
@[simp] theorem fl117_1 : fldP Try.prog 117 1 = some (1, 17) := by kernel_rfl
@[simp] theorem fl117_2 : fldP Try.prog 117 2 = some (2, 17) := by kernel_rfl
@[simp] theorem fl117_3 : fldP Try.prog 117 3 = some (3, 9) := by kernel_rfl
@[simp] theorem pl117 : placeP Try.prog 117 = some (.inl [(0, 1), (1, 1), (2, 1), (3, 1)]) := by kernel_rfl
@[simp] theorem sz118 : szP Try.prog 118 = some 4 := by kernel_rfl
@[simp] theorem by118 : byP Try.prog 118 = some 40 := by kernel_rfl
@[simp] theorem kk118 : kP Try.prog 118 = some (.st) := by kernel_rfl
@[simp] theorem ze118 : zeroP Try.prog 118 = some (.agg ([.nilptr, .nilptr, .nilptr, .str []])) := by kernel_rfl
@[simp] theorem ag118 : aggP Try.prog 118 = true := by kernel_rfl
@[simp] theorem ap118 : appTy Try.prog 118 = false := by kernel_rfl
@[simp] theorem iu118 : isU8 Try.prog 118 = false := by kernel_rfl
@[simp] theorem se118 : selfTy Try.prog 118 = false := by kernel_rfl
@[simp] theorem fl118_0 : fldP Try.prog 118 0 = some (0, 17) := by kernel_rfl
@[simp] theorem fl118_1 : fldP Try.prog 118 1 = some (1, 17) := by kernel_rfl
@[simp] theorem fl118_2 : fldP Try.prog 118 2 = some (2, 17) := by kernel_rfl
@[simp] theorem fl118_3 : fldP Try.prog 118 3 = some (3, 9) := by kernel_rfl
@[simp] theorem pl118 : placeP Try.prog 118 = some (.inl [(0, 1), (1, 1), (2, 1), (3, 1)]) := by kernel_rfl
@[simp] theorem sz119 : szP Try.prog 119 = some 0 := by kernel_rfl
@[simp] theorem by119 : byP Try.prog 119 = some 0 := by kernel_rfl
@[simp] theorem kk119 : kP Try.prog 119 = some (.arr 0 16) := by kernel_rfl
@[simp] theorem ze119 : zeroP Try.prog 119 = some (.agg ([])) := by kernel_rfl
@[simp] theorem ar119 : kArr Try.prog 119 = some (0, 16) := by kernel_rfl
@[simp] theorem pl119 : placeP Try.prog 119 = some (.inr 1) := by kernel_rfl
@[simp] theorem ag119 : aggP Try.prog 119 = true := by kernel_rfl
@[simp] theorem ap119 : appTy Try.prog 119 = false := by kernel_rfl
@[simp] theorem iu119 : isU8 Try.prog 119 = false := by kernel_rfl
@[simp] theorem se119 : selfTy Try.prog 119 = false := by kernel_rfl
@[simp] theorem sz120 : szP Try.prog 120 = some 0 := by kernel_rfl
@[simp] theorem by120 : byP Try.prog 120 = some 0 := by kernel_rfl
@[simp] theorem kk120 : kP Try.prog 120 = some (.st) := by kernel_rfl
@[simp] theorem ze120 : zeroP Try.prog 120 = some (.agg ([])) := by kernel_rfl
@[simp] theorem ag120 : aggP Try.prog 120 = true := by kernel_rfl
@[simp] theorem ap120 : appTy Try.prog 120 = false := by kernel_rfl
@[simp] theorem iu120 : isU8 Try.prog 120 = false := by kernel_rfl
@[simp] theorem se120 : selfTy Try.prog 120 = false := by kernel_rfl
@[simp] theorem pl120 : placeP Try.prog 120 = some (.inl [(0, 0)]) := by kernel_rfl
@[simp] theorem sz121 : szP Try.prog 121 = some 0 := by kernel_rfl
@[simp] theorem by121 : byP Try.prog 121 = some 0 := by kernel_rfl
@[simp] theorem kk121 : kP Try.prog 121 = some (.st) := by kernel_rfl
@[simp] theorem ze121 : zeroP Try.prog 121 = some (.agg ([])) := by kernel_rfl
@[simp] theorem ag121 : aggP Try.prog 121 = true := by kernel_rfl
@[simp] theorem ap121 : appTy Try.prog 121 = false := by kernel_rfl
@[simp] theorem iu121 : isU8 Try.prog 121 = false := by kernel_rfl
@[simp] theorem se121 : selfTy Try.prog 121 = false := by kernel_rfl
@[simp] theorem pl121 : placeP Try.prog 121 = some (.inl [(0, 0)]) := by kernel_rfl
@[simp] theorem sz122 : szP Try.prog 122 = some 1 := by kernel_rfl
@[simp] theorem by122 : byP Try.prog 122 = some 1 := by kernel_rfl
@[simp] theorem kk122 : kP Try.prog 122 = some (.int .u8) := by kernel_rfl
@[simp] theorem ze122 : zeroP Try.prog 122 = some (.int .u8 0) := by kernel_rfl
@[simp] theorem ag122 : aggP Try.prog 122 = false := by kernel_rfl
@[simp] theorem ap122 : appTy Try.prog 122 = false := by kernel_rfl
@[simp] theorem iu122 : isU8 Try.prog 122 = true := by kernel_rfl
@[simp] theorem se122 : selfTy Try.prog 122 = false := by kernel_rfl
@[simp] theorem sz123 : szP Try.prog 123 = some 1 := by kernel_rfl
@[simp] theorem by123 : byP Try.prog 123 = some 1 := by kernel_rfl
@[simp] theorem kk123 : kP Try.prog 123 = some (.int .u8) := by kernel_rfl
@[simp] theorem ze123 : zeroP Try.prog 123 = some (.int .u8 0) := by kernel_rfl
@[simp] theorem ag123 : aggP Try.prog 123 = false := by kernel_rfl
@[simp] theorem ap123 : appTy Try.prog 123 = false := by kernel_rfl
@[simp] theorem iu123 : isU8 Try.prog 123 = true := by kernel_rfl
@[simp] theorem se123 : selfTy Try.prog 123 = false := by kernel_rfl
@[simp] theorem sz124 : szP Try.prog 124 = some 1 := by kernel_rfl
@[simp] theorem by124 : byP Try.prog 124 = some 8 := by kernel_rfl
@[simp] theorem kk124 : kP Try.prog 124 = some (.fn) := by kernel_rfl
@[simp] theorem ze124 : zeroP Try.prog 124 = some (.nilfunc) := by kernel_rfl
@[simp] theorem ag124 : aggP Try.prog 124 = false := by kernel_rfl
@[simp] theorem ap124 : appTy Try.prog 124 = false := by kernel_rfl
@[simp] theorem iu124 : isU8 Try.prog 124 = false := by kernel_rfl
@[simp] theorem se124 : selfTy Try.prog 124 = false := by kernel_rfl
@[simp] theorem sz125 : szP Try.prog 125 = some 1 := by kernel_rfl
@[simp] theorem by125 : byP Try.prog 125 = some 4 := by kernel_rfl
@[simp] theorem kk125 : kP Try.prog 125 = some (.int .i32) := by kernel_rfl
@[simp] theorem ze125 : zeroP Try.prog 125 = some (.int .i32 0) := by kernel_rfl
@[simp] theorem ag125 : aggP Try.prog 125 = false := by kernel_rfl
@[simp] theorem ap125 : appTy Try.prog 125 = false := by kernel_rfl
@[simp] theorem iu125 : isU8 Try.prog 125 = false := by kernel_rfl
@[simp] theorem se125 : selfTy Try.prog 125 = false := by kernel_rfl
@[simp] theorem sz126 : szP Try.prog 126 = some 1 := by kernel_rfl
@[simp] theorem by126 : byP Try.prog 126 = some 4 := by kernel_rfl
@[simp] theorem kk126 : kP Try.prog 126 = some (.int .i32) := by kernel_rfl
@[simp] theorem ze126 : zeroP Try.prog 126 = some (.int .i32 0) := by kernel_rfl
@[simp] theorem ag126 : aggP Try.prog 126 = false := by kernel_rfl
@[simp] theorem ap126 : appTy Try.prog 126 = false := by kernel_rfl
@[simp] theorem iu126 : isU8 Try.prog 126 = false := by kernel_rfl
@[simp] theorem se126 : selfTy Try.prog 126 = false := by kernel_rfl
@[simp] theorem sz127 : szP Try.prog 127 = some 11 := by kernel_rfl
@[simp] theorem by127 : byP Try.prog 127 = some 48 := by kernel_rfl
@[simp] theorem kk127 : kP Try.prog 127 = some (.st) := by kernel_rfl
@[simp] theorem ze127 : zeroP Try.prog 127 = some (.agg ([.int .u64 0, .int .u64 0, .int .u32 0, .int .u8 0, .int .u8 0, .int .u8 0, .int .u8 0, .nilfunc, .nilptr, .int .i32 0, .int .i32 0])) := by kernel_rfl
@[simp] theorem ag127 : aggP Try.prog 127 = true := by kernel_rfl
@[simp] theorem ap127 : appTy Try.prog 127 = false := by kernel_rfl
@[simp] theorem iu127 : isU8 Try.prog 127 = false := by kernel_rfl
@[simp] theorem se127 : selfTy Try.prog 127 = false := by kernel_rfl
@[simp] theorem fl127_0 : fldP Try.prog 127 0 = some (0, 12) := by kernel_rfl
@[simp] theorem fl127_1 : fldP Try.prog 127 1 = some (1, 12) := by kernel_rfl
@[simp] theorem fl127_2 : fldP Try.prog 127 2 = some (2, 23) := by kernel_rfl
@[simp] theorem fl127_3 : fldP Try.prog 127 3 = some (3, 122) := by kernel_rfl
@[simp] theorem fl127_4 : fldP Try.prog 127 4 = some (4, 5) := by kernel_rfl
@[simp] theorem fl127_5 : fldP Try.prog 127 5 = some (5, 5) := by kernel_rfl
@[simp] theorem fl127_6 : fldP Try.prog 127 6 = some (6, 123) := by kernel_rfl
@[simp] theorem fl127_7 : fldP Try.prog 127 7 = some (7, 124) := by kernel_rfl
@[simp] theorem fl127_8 : fldP Try.prog 127 8 = some (8, 86) := by kernel_rfl
@[simp] theorem fl127_9 : fldP Try.prog 127 9 = some (9, 125) := by kernel_rfl
@[simp] theorem fl127_10 : fldP Try.prog 127 10 = some (10, 126) := by kernel_rfl
@[simp] theorem pl127 : placeP Try.prog 127 = some (.inl [(0, 1), (1, 1), (2, 1), (3, 1), (4, 1), (5, 1), (6, 1), (7, 1), (8, 1), (9, 1), (10, 1)]) := by kernel_rfl
@[simp] theorem sz128 : szP Try.prog 128 = some 11 := by kernel_rfl
@[simp] theorem by128 : byP Try.prog 128 = some 48 := by kernel_rfl
@[simp] theorem kk128 : kP Try.prog 128 = some (.st) := by kernel_rfl
@[simp] theorem ze128 : zeroP Try.prog 128 = some (.agg ([.int .u64 0, .int .u64 0, .int .u32 0, .int .u8 0, .int .u8 0, .int .u8 0, .int .u8 0, .nilfunc, .nilptr, .int .i32 0, .int .i32 0])) := by kernel_rfl
@[simp] theorem ag128 : aggP Try.prog 128 = true := by kernel_rfl
@[simp] theorem ap128 : appTy Try.prog 128 = false := by kernel_rfl
@[simp] theorem iu128 : isU8 Try.prog 128 = false := by kernel_rfl
@[simp] theorem se128 : selfTy Try.prog 128 = false := by kernel_rfl
@[simp] theorem fl128_0 : fldP Try.prog 128 0 = some (0, 12) := by kernel_rfl
@[simp] theorem fl128_1 : fldP Try.prog 128 1 = some (1, 12) := by kernel_rfl
@[simp] theorem fl128_2 : fldP Try.prog 128 2 = some (2, 23) := by kernel_rfl
@[simp] theorem fl128_3 : fldP Try.prog 128 3 = some (3, 122) := by kernel_rfl
@[simp] theorem fl128_4 : fldP Try.prog 128 4 = some (4, 5) := by kernel_rfl
@[simp] theorem fl128_5 : fldP Try.prog 128 5 = some (5, 5) := by kernel_rfl
@[simp] theorem fl128_6 : fldP Try.prog 128 6 = some (6, 123) := by kernel_rfl
@[simp] theorem fl128_7 : fldP Try.prog 128 7 = some (7, 124) := by kernel_rfl
@[simp] theorem fl128_8 : fldP Try.prog 128 8 = some (8, 86) := by kernel_rfl
@[simp] theorem fl128_9 : fldP Try.prog 128 9 = some (9, 125) := by kernel_rfl
@[simp] theorem fl128_10 : fldP Try.prog 128 10 = some (10, 126) := by kernel_rfl
@[simp] theorem pl128 : placeP Try.prog 128 = some (.inl [(0, 1), (1, 1), (2, 1), (3, 1), (4, 1), (5, 1), (6, 1), (7, 1), (8, 1), (9, 1), (10, 1)]) := by kernel_rfl
attribute [simp] Try.underlying1
attribute [simp] Try.underlying2
attribute [simp] Try.underlying3
attribute [simp] Try.underlying4
attribute [simp] Try.underlying5
attribute [simp] Try.underlying6
attribute [simp] Try.underlying7
attribute [simp] Try.underlying8
attribute [simp] Try.underlying9
attribute [simp] Try.underlying10
attribute [simp] Try.underlying11
attribute [simp] Try.underlying12
attribute [simp] Try.underlying13
attribute [simp] Try.underlying14
attribute [simp] Try.underlying15
attribute [simp] Try.underlying16
attribute [simp] Try.underlying17
attribute [simp] Try.underlying18
attribute [simp] Try.underlying19
attribute [simp] Try.underlying21
attribute [simp] Try.underlying22
attribute [simp] Try.underlying23
attribute [simp] Try.underlying24
attribute [simp] Try.underlying25
attribute [simp] Try.underlying26
attribute [simp] Try.underlying27
attribute [simp] Try.underlying29
attribute [simp] Try.underlying31
attribute [simp] Try.underlying32
attribute [simp] Try.underlying33
attribute [simp] Try.underlying34
attribute [simp] Try.underlying35
attribute [simp] Try.underlying37
attribute [simp] Try.underlying38
attribute [simp] Try.underlying39
attribute [simp] Try.underlying40
attribute [simp] Try.underlying41
attribute [simp] Try.underlying42
attribute [simp] Try.underlying43
attribute [simp] Try.underlying44
attribute [simp] Try.underlying45
attribute [simp] Try.underlying47
attribute [simp] Try.underlying48
attribute [simp] Try.underlying49
attribute [simp] Try.underlying50
attribute [simp] Try.underlying51
attribute [simp] Try.underlying52
attribute [simp] Try.underlying53
attribute [simp] Try.underlying54
attribute [simp] Try.underlying55
attribute [simp] Try.underlying56
attribute [simp] Try.underlying57
attribute [simp] Try.underlying58
attribute [simp] Try.underlying59
attribute [simp] Try.underlying60
attribute [simp] Try.underlying61
attribute [simp] Try.underlying62
attribute [simp] Try.underlying66
attribute [simp] Try.underlying67
attribute [simp] Try.underlying68
attribute [simp] Try.underlying69
attribute [simp] Try.underlying70
attribute [simp] Try.underlying71
attribute [simp] Try.underlying72
attribute [simp] Try.underlying73
attribute [simp] Try.underlying74
attribute [simp] Try.underlying75
attribute [simp] Try.underlying76
attribute [simp] Try.underlying77
attribute [simp] Try.underlying78
attribute [simp] Try.underlying79
attribute [simp] Try.underlying80
attribute [simp] Try.underlying81
attribute [simp] Try.underlying82
attribute [simp] Try.underlying83
attribute [simp] Try.underlying84
attribute [simp] Try.underlying85
attribute [simp] Try.underlying86
attribute [simp] Try.underlying87
attribute [simp] Try.underlying89
attribute [simp] Try.underlying90
attribute [simp] Try.underlying91
attribute [simp] Try.underlying92
attribute [simp] Try.underlying93
attribute [simp] Try.underlying94
attribute [simp] Try.underlying96
attribute [simp] Try.underlying98
attribute [simp] Try.underlying99
attribute [simp] Try.underlying100
attribute [simp] Try.underlying101
attribute [simp] Try.underlying103
attribute [simp] Try.underlying104
attribute [simp] Try.underlying105
attribute [simp] Try.underlying106
attribute [simp] Try.underlying107
attribute [simp] Try.underlying108
attribute [simp] Try.underlying109
attribute [simp] Try.underlying110
attribute [simp] Try.underlying111
attribute [simp] Try.underlying113
attribute [simp] Try.underlying115
attribute [simp] Try.underlying116
attribute [simp] Try.underlying117
attribute [simp] Try.underlying118
attribute [simp] Try.underlying119
attribute [simp] Try.underlying120
attribute [simp] Try.underlying121
attribute [simp] Try.underlying122
attribute [simp] Try.underlying123
attribute [simp] Try.underlying124
attribute [simp] Try.underlying125
attribute [simp] Try.underlying126
attribute [simp] Try.underlying127
attribute [simp] Try.underlying128
end Pv.Try
