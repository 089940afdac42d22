/- Part of the proof: the layer of pure values, or a walk through a function (PvFxE). -/
import Derived.Test.YthegpibaoikoeaaProg
import Derived.Test.YthegpibaoikoeaaPvFun
import Derived.KernelRfl
set_option linter.all false
namespace Pv.Try
open Go Go.Proofs
@[simp] theorem sz1 : szP Try.prog 1 = some 1 := by kernel_rfl
@[simp] theorem by1 : byP Try.prog 1 = some 8 := by kernel_rfl
@[simp] theorem kk1 : kP Try.prog 1 = some (.fn) := by kernel_rfl
@[simp] theorem ze1 : zeroP Try.prog 1 = some (.nilfunc) := by kernel_rfl
@[simp] theorem ag1 : aggP Try.prog 1 = false := by kernel_rfl
@[simp] theorem ap1 : appTy Try.prog 1 = false := by kernel_rfl
@[simp] theorem iu1 : isU8 Try.prog 1 = false := by kernel_rfl
@[simp] theorem se1 : selfTy Try.prog 1 = false := by kernel_rfl
@[simp] theorem sz2 : szP Try.prog 2 = some 1 := by kernel_rfl
@[simp] theorem by2 : byP Try.prog 2 = some 8 := by kernel_rfl
@[simp] theorem kk2 : kP Try.prog 2 = some (.int .i64) := by kernel_rfl
@[simp] theorem ze2 : zeroP Try.prog 2 = some (.int .i64 0) := by kernel_rfl
@[simp] theorem ag2 : aggP Try.prog 2 = false := by kernel_rfl
@[simp] theorem ap2 : appTy Try.prog 2 = false := by kernel_rfl
@[simp] theorem iu2 : isU8 Try.prog 2 = false := by kernel_rfl
@[simp] theorem se2 : selfTy Try.prog 2 = false := by kernel_rfl
@[simp] theorem sz3 : szP Try.prog 3 = some 1 := by kernel_rfl
@[simp] theorem by3 : byP Try.prog 3 = some 8 := by kernel_rfl
@[simp] theorem kk3 : kP Try.prog 3 = some (.int .i64) := by kernel_rfl
@[simp] theorem ze3 : zeroP Try.prog 3 = some (.int .i64 0) := by kernel_rfl
@[simp] theorem ag3 : aggP Try.prog 3 = false := by kernel_rfl
@[simp] theorem ap3 : appTy Try.prog 3 = false := by kernel_rfl
@[simp] theorem iu3 : isU8 Try.prog 3 = false := by kernel_rfl
@[simp] theorem se3 : selfTy Try.prog 3 = false := by kernel_rfl
@[simp] theorem sz4 : szP Try.prog 4 = some 1 := by kernel_rfl
@[simp] theorem by4 : byP Try.prog 4 = some 1 := by kernel_rfl
@[simp] theorem kk4 : kP Try.prog 4 = some (.bool) := by kernel_rfl
@[simp] theorem ze4 : zeroP Try.prog 4 = some (.bool false) := by kernel_rfl
@[simp] theorem ag4 : aggP Try.prog 4 = false := by kernel_rfl
@[simp] theorem ap4 : appTy Try.prog 4 = false := by kernel_rfl
@[simp] theorem iu4 : isU8 Try.prog 4 = false := by kernel_rfl
@[simp] theorem se4 : selfTy Try.prog 4 = false := by kernel_rfl
@[simp] theorem sz5 : szP Try.prog 5 = some 1 := by kernel_rfl
@[simp] theorem by5 : byP Try.prog 5 = some 1 := by kernel_rfl
@[simp] theorem kk5 : kP Try.prog 5 = some (.int .u8) := by kernel_rfl
@[simp] theorem ze5 : zeroP Try.prog 5 = some (.int .u8 0) := by kernel_rfl
@[simp] theorem ag5 : aggP Try.prog 5 = false := by kernel_rfl
@[simp] theorem ap5 : appTy Try.prog 5 = false := by kernel_rfl
@[simp] theorem iu5 : isU8 Try.prog 5 = true := by kernel_rfl
@[simp] theorem se5 : selfTy Try.prog 5 = false := by kernel_rfl
@[simp] theorem sz6 : szP Try.prog 6 = some 1 := by kernel_rfl
@[simp] theorem by6 : byP Try.prog 6 = some 1 := by kernel_rfl
@[simp] theorem kk6 : kP Try.prog 6 = some (.int .u8) := by kernel_rfl
@[simp] theorem ze6 : zeroP Try.prog 6 = some (.int .u8 0) := by kernel_rfl
@[simp] theorem ag6 : aggP Try.prog 6 = false := by kernel_rfl
@[simp] theorem ap6 : appTy Try.prog 6 = false := by kernel_rfl
@[simp] theorem iu6 : isU8 Try.prog 6 = true := by kernel_rfl
@[simp] theorem se6 : selfTy Try.prog 6 = false := by kernel_rfl
@[simp] theorem sz7 : szP Try.prog 7 = some 4 := by kernel_rfl
@[simp] theorem by7 : byP Try.prog 7 = some 24 := by kernel_rfl
@[simp] theorem kk7 : kP Try.prog 7 = some (.st) := by kernel_rfl
@[simp] theorem ze7 : zeroP Try.prog 7 = some (.agg ([.int .i64 0, .int .i64 0, .bool false, .int .u8 0])) := by kernel_rfl
@[simp] theorem ag7 : aggP Try.prog 7 = true := by kernel_rfl
@[simp] theorem ap7 : appTy Try.prog 7 = false := by kernel_rfl
@[simp] theorem iu7 : isU8 Try.prog 7 = false := by kernel_rfl
@[simp] theorem se7 : selfTy Try.prog 7 = false := by kernel_rfl
@[simp] theorem fl7_0 : fldP Try.prog 7 0 = some (0, 2) := by kernel_rfl
@[simp] theorem fl7_1 : fldP Try.prog 7 1 = some (1, 3) := by kernel_rfl
@[simp] theorem fl7_2 : fldP Try.prog 7 2 = some (2, 4) := by kernel_rfl
@[simp] theorem fl7_3 : fldP Try.prog 7 3 = some (3, 6) := by kernel_rfl
@[simp] theorem pl7 : placeP Try.prog 7 = some (.inl [(0, 1), (1, 1), (2, 1), (3, 1)]) := by kernel_rfl
@[simp] theorem sz8 : szP Try.prog 8 = some 4 := by kernel_rfl
@[simp] theorem by8 : byP Try.prog 8 = some 24 := by kernel_rfl
@[simp] theorem kk8 : kP Try.prog 8 = some (.st) := by kernel_rfl
@[simp] theorem ze8 : zeroP Try.prog 8 = some (.agg ([.int .i64 0, .int .i64 0, .bool false, .int .u8 0])) := by kernel_rfl
@[simp] theorem ag8 : aggP Try.prog 8 = true := by kernel_rfl
@[simp] theorem ap8 : appTy Try.prog 8 = false := by kernel_rfl
@[simp] theorem iu8 : isU8 Try.prog 8 = false := by kernel_rfl
@[simp] theorem se8 : selfTy Try.prog 8 = false := by kernel_rfl
@[simp] theorem fl8_0 : fldP Try.prog 8 0 = some (0, 2) := by kernel_rfl
@[simp] theorem fl8_1 : fldP Try.prog 8 1 = some (1, 3) := by kernel_rfl
@[simp] theorem fl8_2 : fldP Try.prog 8 2 = some (2, 4) := by kernel_rfl
@[simp] theorem fl8_3 : fldP Try.prog 8 3 = some (3, 6) := by kernel_rfl
@[simp] theorem pl8 : placeP Try.prog 8 = some (.inl [(0, 1), (1, 1), (2, 1), (3, 1)]) := by kernel_rfl
@[simp] theorem sz9 : szP Try.prog 9 = some 1 := by kernel_rfl
@[simp] theorem by9 : byP Try.prog 9 = some 16 := by kernel_rfl
@[simp] theorem kk9 : kP Try.prog 9 = some (.str) := by kernel_rfl
@[simp] theorem ze9 : zeroP Try.prog 9 = some (.str []) := by kernel_rfl
@[simp] theorem ag9 : aggP Try.prog 9 = false := by kernel_rfl
@[simp] theorem ap9 : appTy Try.prog 9 = true := by kernel_rfl
@[simp] theorem iu9 : isU8 Try.prog 9 = false := by kernel_rfl
@[simp] theorem se9 : selfTy Try.prog 9 = false := by kernel_rfl
@[simp] theorem sz10 : szP Try.prog 10 = some 1 := by kernel_rfl
@[simp] theorem by10 : byP Try.prog 10 = some 16 := by kernel_rfl
@[simp] theorem kk10 : kP Try.prog 10 = some (.str) := by kernel_rfl
@[simp] theorem ze10 : zeroP Try.prog 10 = some (.str []) := by kernel_rfl
@[simp] theorem ag10 : aggP Try.prog 10 = false := by kernel_rfl
@[simp] theorem ap10 : appTy Try.prog 10 = true := by kernel_rfl
@[simp] theorem iu10 : isU8 Try.prog 10 = false := by kernel_rfl
@[simp] theorem se10 : selfTy Try.prog 10 = false := by kernel_rfl
@[simp] theorem sz11 : szP Try.prog 11 = some 1 := by kernel_rfl
@[simp] theorem by11 : byP Try.prog 11 = some 16 := by kernel_rfl
@[simp] theorem kk11 : kP Try.prog 11 = some (.str) := by kernel_rfl
@[simp] theorem ze11 : zeroP Try.prog 11 = some (.str []) := by kernel_rfl
@[simp] theorem ag11 : aggP Try.prog 11 = false := by kernel_rfl
@[simp] theorem ap11 : appTy Try.prog 11 = true := by kernel_rfl
@[simp] theorem iu11 : isU8 Try.prog 11 = false := by kernel_rfl
@[simp] theorem se11 : selfTy Try.prog 11 = false := by kernel_rfl
@[simp] theorem sz12 : szP Try.prog 12 = some 1 := by kernel_rfl
@[simp] theorem by12 : byP Try.prog 12 = some 8 := by kernel_rfl
@[simp] theorem kk12 : kP Try.prog 12 = some (.int .u64) := by kernel_rfl
@[simp] theorem ze12 : zeroP Try.prog 12 = some (.int .u64 0) := by kernel_rfl
@[simp] theorem ag12 : aggP Try.prog 12 = false := by kernel_rfl
@[simp] theorem ap12 : appTy Try.prog 12 = false := by kernel_rfl
@[simp] theorem iu12 : isU8 Try.prog 12 = false := by kernel_rfl
@[simp] theorem se12 : selfTy Try.prog 12 = false := by kernel_rfl
@[simp] theorem sz13 : szP Try.prog 13 = some 2 := by kernel_rfl
@[simp] theorem by13 : byP Try.prog 13 = some 24 := by kernel_rfl
@[simp] theorem kk13 : kP Try.prog 13 = some (.st) := by kernel_rfl
@[simp] theorem ze13 : zeroP Try.prog 13 = some (.agg ([.str [], .int .u64 0])) := by kernel_rfl
@[simp] theorem ag13 : aggP Try.prog 13 = true := by kernel_rfl
@[simp] theorem ap13 : appTy Try.prog 13 = false := by kernel_rfl
@[simp] theorem iu13 : isU8 Try.prog 13 = false := by kernel_rfl
@[simp] theorem se13 : selfTy Try.prog 13 = false := by kernel_rfl
@[simp] theorem fl13_0 : fldP Try.prog 13 0 = some (0, 9) := by kernel_rfl
@[simp] theorem fl13_1 : fldP Try.prog 13 1 = some (1, 12) := by kernel_rfl
@[simp] theorem pl13 : placeP Try.prog 13 = some (.inl [(0, 1), (1, 1)]) := by kernel_rfl
@[simp] theorem sz14 : szP Try.prog 14 = some 2 := by kernel_rfl
@[simp] theorem by14 : byP Try.prog 14 = some 24 := by kernel_rfl
@[simp] theorem kk14 : kP Try.prog 14 = some (.st) := by kernel_rfl
@[simp] theorem ze14 : zeroP Try.prog 14 = some (.agg ([.str [], .int .u64 0])) := by kernel_rfl
@[simp] theorem ag14 : aggP Try.prog 14 = true := by kernel_rfl
@[simp] theorem ap14 : appTy Try.prog 14 = false := by kernel_rfl
@[simp] theorem iu14 : isU8 Try.prog 14 = false := by kernel_rfl
@[simp] theorem se14 : selfTy Try.prog 14 = false := by kernel_rfl
@[simp] theorem fl14_0 : fldP Try.prog 14 0 = some (0, 9) := by kernel_rfl
@[simp] theorem fl14_1 : fldP Try.prog 14 1 = some (1, 12) := by kernel_rfl
@[simp] theorem pl14 : placeP Try.prog 14 = some (.inl [(0, 1), (1, 1)]) := by kernel_rfl
@[simp] theorem sz15 : szP Try.prog 15 = some 1 := by kernel_rfl
@[simp] theorem by15 : byP Try.prog 15 = some 8 := by kernel_rfl
@[simp] theorem kk15 : kP Try.prog 15 = some (.ptr 95) := by kernel_rfl
@[simp] theorem ze15 : zeroP Try.prog 15 = some (.nilptr) := by kernel_rfl
@[simp] theorem ag15 : aggP Try.prog 15 = false := by kernel_rfl
@[simp] theorem ap15 : appTy Try.prog 15 = false := by kernel_rfl
@[simp] theorem iu15 : isU8 Try.prog 15 = false := by kernel_rfl
@[simp] theorem se15 : selfTy Try.prog 15 = false := by kernel_rfl
@[simp] theorem sz16 : szP Try.prog 16 = some 1 := by kernel_rfl
@[simp] theorem by16 : byP Try.prog 16 = some 8 := by kernel_rfl
@[simp] theorem kk16 : kP Try.prog 16 = some (.ptr 98) := by kernel_rfl
@[simp] theorem ze16 : zeroP Try.prog 16 = some (.nilptr) := by kernel_rfl
@[simp] theorem ag16 : aggP Try.prog 16 = false := by kernel_rfl
@[simp] theorem ap16 : appTy Try.prog 16 = false := by kernel_rfl
@[simp] theorem iu16 : isU8 Try.prog 16 = false := by kernel_rfl
@[simp] theorem se16 : selfTy Try.prog 16 = false := by kernel_rfl
@[simp] theorem sz17 : szP Try.prog 17 = some 1 := by kernel_rfl
@[simp] theorem by17 : byP Try.prog 17 = some 8 := by kernel_rfl
@[simp] theorem kk17 : kP Try.prog 17 = some (.ptr 105) := by kernel_rfl
@[simp] theorem ze17 : zeroP Try.prog 17 = some (.nilptr) := by kernel_rfl
@[simp] theorem ag17 : aggP Try.prog 17 = false := by kernel_rfl
@[simp] theorem ap17 : appTy Try.prog 17 = false := by kernel_rfl
@[simp] theorem iu17 : isU8 Try.prog 17 = false := by kernel_rfl
@[simp] theorem se17 : selfTy Try.prog 17 = false := by kernel_rfl
@[simp] theorem sz18 : szP Try.prog 18 = some 1 := by kernel_rfl
@[simp] theorem by18 : byP Try.prog 18 = some 8 := by kernel_rfl
@[simp] theorem kk18 : kP Try.prog 18 = some (.st) := by kernel_rfl
@[simp] theorem ze18 : zeroP Try.prog 18 = some (.agg ([.nilptr])) := by kernel_rfl
@[simp] theorem ag18 : aggP Try.prog 18 = true := by kernel_rfl
@[simp] theorem ap18 : appTy Try.prog 18 = false := by kernel_rfl
@[simp] theorem iu18 : isU8 Try.prog 18 = false := by kernel_rfl
@[simp] theorem se18 : selfTy Try.prog 18 = false := by kernel_rfl
@[simp] theorem fl18_0 : fldP Try.prog 18 0 = some (0, 17) := by kernel_rfl
@[simp] theorem pl18 : placeP Try.prog 18 = some (.inl [(0, 1)]) := by kernel_rfl
@[simp] theorem sz19 : szP Try.prog 19 = some 1 := by kernel_rfl
@[simp] theorem by19 : byP Try.prog 19 = some 8 := by kernel_rfl
@[simp] theorem kk19 : kP Try.prog 19 = some (.st) := by kernel_rfl
@[simp] theorem ze19 : zeroP Try.prog 19 = some (.agg ([.nilptr])) := by kernel_rfl
@[simp] theorem ag19 : aggP Try.prog 19 = true := by kernel_rfl
@[simp] theorem ap19 : appTy Try.prog 19 = false := by kernel_rfl
@[simp] theorem iu19 : isU8 Try.prog 19 = false := by kernel_rfl
@[simp] theorem se19 : selfTy Try.prog 19 = false := by kernel_rfl
@[simp] theorem fl19_0 : fldP Try.prog 19 0 = some (0, 17) := by kernel_rfl
@[simp] theorem pl19 : placeP Try.prog 19 = some (.inl [(0, 1)]) := by kernel_rfl
@[simp] theorem sz21 : szP Try.prog 21 = some 1 := by kernel_rfl
@[simp] theorem by21 : byP Try.prog 21 = some 4 := by kernel_rfl
@[simp] theorem kk21 : kP Try.prog 21 = some (.int .i32) := by kernel_rfl
@[simp] theorem ze21 : zeroP Try.prog 21 = some (.int .i32 0) := by kernel_rfl
@[simp] theorem ag21 : aggP Try.prog 21 = false := by kernel_rfl
@[simp] theorem ap21 : appTy Try.prog 21 = false := by kernel_rfl
@[simp] theorem iu21 : isU8 Try.prog 21 = false := by kernel_rfl
@[simp] theorem se21 : selfTy Try.prog 21 = false := by kernel_rfl
@[simp] theorem sz22 : szP Try.prog 22 = some 1 := by kernel_rfl
@[simp] theorem by22 : byP Try.prog 22 = some 8 := by kernel_rfl
@[simp] theorem kk22 : kP Try.prog 22 = some (.fn) := by kernel_rfl
@[simp] theorem ze22 : zeroP Try.prog 22 = some (.nilfunc) := by kernel_rfl
@[simp] theorem ag22 : aggP Try.prog 22 = false := by kernel_rfl
@[simp] theorem ap22 : appTy Try.prog 22 = false := by kernel_rfl
@[simp] theorem iu22 : isU8 Try.prog 22 = false := by kernel_rfl
@[simp] theorem se22 : selfTy Try.prog 22 = false := by kernel_rfl
@[simp] theorem sz23 : szP Try.prog 23 = some 1 := by kernel_rfl
@[simp] theorem by23 : byP Try.prog 23 = some 8 := by kernel_rfl
@[simp] theorem kk23 : kP Try.prog 23 = some (.fn) := by kernel_rfl
@[simp] theorem ze23 : zeroP Try.prog 23 = some (.nilfunc) := by kernel_rfl
@[simp] theorem ag23 : aggP Try.prog 23 = false := by kernel_rfl
@[simp] theorem ap23 : appTy Try.prog 23 = false := by kernel_rfl
@[simp] theorem iu23 : isU8 Try.prog 23 = false := by kernel_rfl
@[simp] theorem se23 : selfTy Try.prog 23 = false := by kernel_rfl
@[simp] theorem sz24 : szP Try.prog 24 = some 1 := by kernel_rfl
@[simp] theorem by24 : byP Try.prog 24 = some 8 := by kernel_rfl
@[simp] theorem kk24 : kP Try.prog 24 = some (.int .i64) := by kernel_rfl
@[simp] theorem ze24 : zeroP Try.prog 24 = some (.int .i64 0) := by kernel_rfl
@[simp] theorem ag24 : aggP Try.prog 24 = false := by kernel_rfl
@[simp] theorem ap24 : appTy Try.prog 24 = false := by kernel_rfl
@[simp] theorem iu24 : isU8 Try.prog 24 = false := by kernel_rfl
@[simp] theorem se24 : selfTy Try.prog 24 = false := by kernel_rfl
@[simp] theorem sz26 : szP Try.prog 26 = some 1 := by kernel_rfl
@[simp] theorem by26 : byP Try.prog 26 = some 8 := by kernel_rfl
@[simp] theorem kk26 : kP Try.prog 26 = some (.fn) := by kernel_rfl
@[simp] theorem ze26 : zeroP Try.prog 26 = some (.nilfunc) := by kernel_rfl
@[simp] theorem ag26 : aggP Try.prog 26 = false := by kernel_rfl
@[simp] theorem ap26 : appTy Try.prog 26 = false := by kernel_rfl
@[simp] theorem iu26 : isU8 Try.prog 26 = false := by kernel_rfl
@[simp] theorem se26 : selfTy Try.prog 26 = false := by kernel_rfl
@[simp] theorem sz28 : szP Try.prog 28 = some 1 := by kernel_rfl
@[simp] theorem by28 : byP Try.prog 28 = some 8 := by kernel_rfl
@[simp] theorem kk28 : kP Try.prog 28 = some (.fn) := by kernel_rfl
@[simp] theorem ze28 : zeroP Try.prog 28 = some (.nilfunc) := by kernel_rfl
@[simp] theorem ag28 : aggP Try.prog 28 = false := by kernel_rfl
@[simp] theorem ap28 : appTy Try.prog 28 = false := by kernel_rfl
@[simp] theorem iu28 : isU8 Try.prog 28 = false := by kernel_rfl
@[simp] theorem se28 : selfTy Try.prog 28 = false := by kernel_rfl
@[simp] theorem sz29 : szP Try.prog 29 = some 1 := by kernel_rfl
@[simp] theorem by29 : byP Try.prog 29 = some 8 := by kernel_rfl
@[simp] theorem kk29 : kP Try.prog 29 = some (.fn) := by kernel_rfl
@[simp] theorem ze29 : zeroP Try.prog 29 = some (.nilfunc) := by kernel_rfl
@[simp] theorem ag29 : aggP Try.prog 29 = false := by kernel_rfl
@[simp] theorem ap29 : appTy Try.prog 29 = false := by kernel_rfl
@[simp] theorem iu29 : isU8 Try.prog 29 = false := by kernel_rfl
@[simp] theorem se29 : selfTy Try.prog 29 = false := by kernel_rfl
@[simp] theorem sz30 : szP Try.prog 30 = some 1 := by kernel_rfl
@[simp] theorem by30 : byP Try.prog 30 = some 8 := by kernel_rfl
@[simp] theorem kk30 : kP Try.prog 30 = some (.fn) := by kernel_rfl
@[simp] theorem ze30 : zeroP Try.prog 30 = some (.nilfunc) := by kernel_rfl
@[simp] theorem ag30 : aggP Try.prog 30 = false := by kernel_rfl
@[simp] theorem ap30 : appTy Try.prog 30 = false := by kernel_rfl
@[simp] theorem iu30 : isU8 Try.prog 30 = false := by kernel_rfl
@[simp] theorem se30 : selfTy Try.prog 30 = false := by kernel_rfl
@[simp] theorem sz31 : szP Try.prog 31 = some 1 := by kernel_rfl
@[simp] theorem by31 : byP Try.prog 31 = some 2 := by kernel_rfl
@[simp] theorem kk31 : kP Try.prog 31 = some (.int .u16) := by kernel_rfl
@[simp] theorem ze31 : zeroP Try.prog 31 = some (.int .u16 0) := by kernel_rfl
@[simp] theorem ag31 : aggP Try.prog 31 = false := by kernel_rfl
@[simp] theorem ap31 : appTy Try.prog 31 = false := by kernel_rfl
@[simp] theorem iu31 : isU8 Try.prog 31 = false := by kernel_rfl
@[simp] theorem se31 : selfTy Try.prog 31 = false := by kernel_rfl
@[simp] theorem sz32 : szP Try.prog 32 = some 1 := by kernel_rfl
@[simp] theorem by32 : byP Try.prog 32 = some 8 := by kernel_rfl
@[simp] theorem kk32 : kP Try.prog 32 = some (.fn) := by kernel_rfl
@[simp] theorem ze32 : zeroP Try.prog 32 = some (.nilfunc) := by kernel_rfl
@[simp] theorem ag32 : aggP Try.prog 32 = false := by kernel_rfl
@[simp] theorem ap32 : appTy Try.prog 32 = false := by kernel_rfl
@[simp] theorem iu32 : isU8 Try.prog 32 = false := by kernel_rfl
@[simp] theorem se32 : selfTy Try.prog 32 = false := by kernel_rfl
@[simp] theorem sz33 : szP Try.prog 33 = some 1 := by kernel_rfl
@[simp] theorem by33 : byP Try.prog 33 = some 8 := by kernel_rfl
@[simp] theorem kk33 : kP Try.prog 33 = some (.fn) := by kernel_rfl
@[simp] theorem ze33 : zeroP Try.prog 33 = some (.nilfunc) := by kernel_rfl
@[simp] theorem ag33 : aggP Try.prog 33 = false := by kernel_rfl
@[simp] theorem ap33 : appTy Try.prog 33 = false := by kernel_rfl
@[simp] theorem iu33 : isU8 Try.prog 33 = false := by kernel_rfl
@[simp] theorem se33 : selfTy Try.prog 33 = false := by kernel_rfl
@[simp] theorem sz34 : szP Try.prog 34 = some 1 := by kernel_rfl
@[simp] theorem by34 : byP Try.prog 34 = some 8 := by kernel_rfl
@[simp] theorem kk34 : kP Try.prog 34 = some (.fn) := by kernel_rfl
@[simp] theorem ze34 : zeroP Try.prog 34 = some (.nilfunc) := by kernel_rfl
@[simp] theorem ag34 : aggP Try.prog 34 = false := by kernel_rfl
@[simp] theorem ap34 : appTy Try.prog 34 = false := by kernel_rfl
@[simp] theorem iu34 : isU8 Try.prog 34 = false := by kernel_rfl
@[simp] theorem se34 : selfTy Try.prog 34 = false := by kernel_rfl
@[simp] theorem sz35 : szP Try.prog 35 = some 1 := by kernel_rfl
@[simp] theorem by35 : byP Try.prog 35 = some 8 := by kernel_rfl
@[simp] theorem kk35 : kP Try.prog 35 = some (.fn) := by kernel_rfl
@[simp] theorem ze35 : zeroP Try.prog 35 = some (.nilfunc) := by kernel_rfl
@[simp] theorem ag35 : aggP Try.prog 35 = false := by kernel_rfl
@[simp] theorem ap35 : appTy Try.prog 35 = false := by kernel_rfl
@[simp] theorem iu35 : isU8 Try.prog 35 = false := by kernel_rfl
@[simp] theorem se35 : selfTy Try.prog 35 = false := by kernel_rfl
@[simp] theorem sz36 : szP Try.prog 36 = some 1 := by kernel_rfl
@[simp] theorem by36 : byP Try.prog 36 = some 8 := by kernel_rfl
@[simp] theorem kk36 : kP Try.prog 36 = some (.fn) := by kernel_rfl
@[simp] theorem ze36 : zeroP Try.prog 36 = some (.nilfunc) := by kernel_rfl
@[simp] theorem ag36 : aggP Try.prog 36 = false := by kernel_rfl
@[simp] theorem ap36 : appTy Try.prog 36 = false := by kernel_rfl
@[simp] theorem iu36 : isU8 Try.prog 36 = false := by kernel_rfl
@[simp] theorem se36 : selfTy Try.prog 36 = false := by kernel_rfl
@[simp] theorem sz37 : szP Try.prog 37 = some 1 := by kernel_rfl
@[simp] theorem by37 : byP Try.prog 37 = some 8 := by kernel_rfl
@[simp] theorem kk37 : kP Try.prog 37 = some (.fn) := by kernel_rfl
@[simp] theorem ze37 : zeroP Try.prog 37 = some (.nilfunc) := by kernel_rfl
@[simp] theorem ag37 : aggP Try.prog 37 = false := by kernel_rfl
@[simp] theorem ap37 : appTy Try.prog 37 = false := by kernel_rfl
@[simp] theorem iu37 : isU8 Try.prog 37 = false := by kernel_rfl
@[simp] theorem se37 : selfTy Try.prog 37 = false := by kernel_rfl
@[simp] theorem sz38 : szP Try.prog 38 = some 1 := by kernel_rfl
@[simp] theorem by38 : byP Try.prog 38 = some 24 := by kernel_rfl
@[simp] theorem kk38 : kP Try.prog 38 = some (.sl 9) := by kernel_rfl
@[simp] theorem ze38 : zeroP Try.prog 38 = some (.nilsl) := by kernel_rfl
@[simp] theorem sl38 : kSl Try.prog 38 = some 9 := by kernel_rfl
@[simp] theorem ag38 : aggP Try.prog 38 = false := by kernel_rfl
@[simp] theorem ap38 : appTy Try.prog 38 = true := by kernel_rfl
@[simp] theorem iu38 : isU8 Try.prog 38 = false := by kernel_rfl
@[simp] theorem se38 : selfTy Try.prog 38 = false := by kernel_rfl
@[simp] theorem sz39 : szP Try.prog 39 = some 1 := by kernel_rfl
@[simp] theorem by39 : byP Try.prog 39 = some 8 := by kernel_rfl
@[simp] theorem kk39 : kP Try.prog 39 = some (.fn) := by kernel_rfl
@[simp] theorem ze39 : zeroP Try.prog 39 = some (.nilfunc) := by kernel_rfl
@[simp] theorem ag39 : aggP Try.prog 39 = false := by kernel_rfl
@[simp] theorem ap39 : appTy Try.prog 39 = false := by kernel_rfl
@[simp] theorem iu39 : isU8 Try.prog 39 = false := by kernel_rfl
@[simp] theorem se39 : selfTy Try.prog 39 = false := by kernel_rfl
@[simp] theorem sz40 : szP Try.prog 40 = some 1 := by kernel_rfl
@[simp] theorem by40 : byP Try.prog 40 = some 8 := by kernel_rfl
@[simp] theorem kk40 : kP Try.prog 40 = some (.ptr 43) := by kernel_rfl
@[simp] theorem ze40 : zeroP Try.prog 40 = some (.nilptr) := by kernel_rfl
@[simp] theorem ag40 : aggP Try.prog 40 = false := by kernel_rfl
@[simp] theorem ap40 : appTy Try.prog 40 = false := by kernel_rfl
@[simp] theorem iu40 : isU8 Try.prog 40 = false := by kernel_rfl
@[simp] theorem se40 : selfTy Try.prog 40 = false := by kernel_rfl
@[simp] theorem sz41 : szP Try.prog 41 = some 1 := by kernel_rfl
@[simp] theorem by41 : byP Try.prog 41 = some 24 := by kernel_rfl
@[simp] theorem kk41 : kP Try.prog 41 = some (.sl 5) := by kernel_rfl
@[simp] theorem ze41 : zeroP Try.prog 41 = some (.nilsl) := by kernel_rfl
@[simp] theorem sl41 : kSl Try.prog 41 = some 5 := by kernel_rfl
@[simp] theorem ag41 : aggP Try.prog 41 = false := by kernel_rfl
@[simp] theorem ap41 : appTy Try.prog 41 = true := by kernel_rfl
@[simp] theorem iu41 : isU8 Try.prog 41 = false := by kernel_rfl
@[simp] theorem se41 : selfTy Try.prog 41 = false := by kernel_rfl
@[simp] theorem sz42 : szP Try.prog 42 = some 2 := by kernel_rfl
@[simp] theorem by42 : byP Try.prog 42 = some 32 := by kernel_rfl
@[simp] theorem kk42 : kP Try.prog 42 = some (.st) := by kernel_rfl
@[simp] theorem ze42 : zeroP Try.prog 42 = some (.agg ([.nilptr, .nilsl])) := by kernel_rfl
@[simp] theorem ag42 : aggP Try.prog 42 = true := by kernel_rfl
@[simp] theorem ap42 : appTy Try.prog 42 = false := by kernel_rfl
@[simp] theorem iu42 : isU8 Try.prog 42 = false := by kernel_rfl
@[simp] theorem se42 : selfTy Try.prog 42 = false := by kernel_rfl
@[simp] theorem fl42_0 : fldP Try.prog 42 0 = some (0, 40) := by kernel_rfl
@[simp] theorem fl42_1 : fldP Try.prog 42 1 = some (1, 41) := by kernel_rfl
@[simp] theorem pl42 : placeP Try.prog 42 = some (.inl [(0, 1), (1, 1)]) := by kernel_rfl
@[simp] theorem sz43 : szP Try.prog 43 = some 2 := by kernel_rfl
@[simp] theorem by43 : byP Try.prog 43 = some 32 := by kernel_rfl
@[simp] theorem kk43 : kP Try.prog 43 = some (.st) := by kernel_rfl
@[simp] theorem ze43 : zeroP Try.prog 43 = some (.agg ([.nilptr, .nilsl])) := by kernel_rfl
@[simp] theorem ag43 : aggP Try.prog 43 = true := by kernel_rfl
@[simp] theorem ap43 : appTy Try.prog 43 = false := by kernel_rfl
@[simp] theorem iu43 : isU8 Try.prog 43 = false := by kernel_rfl
@[simp] theorem se43 : selfTy Try.prog 43 = true := by kernel_rfl
@[simp] theorem fl43_0 : fldP Try.prog 43 0 = some (0, 40) := by kernel_rfl
@[simp] theorem fl43_1 : fldP Try.prog 43 1 = some (1, 41) := by kernel_rfl
@[simp] theorem pl43 : placeP Try.prog 43 = some (.inl [(0, 1), (1, 1)]) := by kernel_rfl
@[simp] theorem sz44 : szP Try.prog 44 = some 1 := by kernel_rfl
@[simp] theorem by44 : byP Try.prog 44 = some 8 := by kernel_rfl
@[simp] theorem kk44 : kP Try.prog 44 = some (.fn) := by kernel_rfl
@[simp] theorem ze44 : zeroP Try.prog 44 = some (.nilfunc) := by kernel_rfl
@[simp] theorem ag44 : aggP Try.prog 44 = false := by kernel_rfl
@[simp] theorem ap44 : appTy Try.prog 44 = false := by kernel_rfl
@[simp] theorem iu44 : isU8 Try.prog 44 = false := by kernel_rfl
@[simp] theorem se44 : selfTy Try.prog 44 = false := by kernel_rfl
@[simp] theorem sz45 : szP Try.prog 45 = some 1 := by kernel_rfl
@[simp] theorem by45 : byP Try.prog 45 = some 8 := by kernel_rfl
@[simp] theorem kk45 : kP Try.prog 45 = some (.fn) := by kernel_rfl
@[simp] theorem ze45 : zeroP Try.prog 45 = some (.nilfunc) := by kernel_rfl
@[simp] theorem ag45 : aggP Try.prog 45 = false := by kernel_rfl
@[simp] theorem ap45 : appTy Try.prog 45 = false := by kernel_rfl
@[simp] theorem iu45 : isU8 Try.prog 45 = false := by kernel_rfl
@[simp] theorem se45 : selfTy Try.prog 45 = false := by kernel_rfl
@[simp] theorem sz46 : szP Try.prog 46 = some 1 := by kernel_rfl
@[simp] theorem by46 : byP Try.prog 46 = some 8 := by kernel_rfl
@[simp] theorem kk46 : kP Try.prog 46 = some (.fn) := by kernel_rfl
@[simp] theorem ze46 : zeroP Try.prog 46 = some (.nilfunc) := by kernel_rfl
@[simp] theorem ag46 : aggP Try.prog 46 = false := by kernel_rfl
@[simp] theorem ap46 : appTy Try.prog 46 = false := by kernel_rfl
@[simp] theorem iu46 : isU8 Try.prog 46 = false := by kernel_rfl
@[simp] theorem se46 : selfTy Try.prog 46 = false := by kernel_rfl
@[simp] theorem sz47 : szP Try.prog 47 = some 1 := by kernel_rfl
@[simp] theorem by47 : byP Try.prog 47 = some 8 := by kernel_rfl
@[simp] theorem kk47 : kP Try.prog 47 = some (.fn) := by kernel_rfl
@[simp] theorem ze47 : zeroP Try.prog 47 = some (.nilfunc) := by kernel_rfl
@[simp] theorem ag47 : aggP Try.prog 47 = false := by kernel_rfl
@[simp] theorem ap47 : appTy Try.prog 47 = false := by kernel_rfl
@[simp] theorem iu47 : isU8 Try.prog 47 = false := by kernel_rfl
@[simp] theorem se47 : selfTy Try.prog 47 = false := by kernel_rfl
@[simp] theorem sz51 : szP Try.prog 51 = some 1 := by kernel_rfl
@[simp] theorem by51 : byP Try.prog 51 = some 8 := by kernel_rfl
@[simp] theorem kk51 : kP Try.prog 51 = some (.fn) := by kernel_rfl
@[simp] theorem ze51 : zeroP Try.prog 51 = some (.nilfunc) := by kernel_rfl
@[simp] theorem ag51 : aggP Try.prog 51 = false := by kernel_rfl
@[simp] theorem ap51 : appTy Try.prog 51 = false := by kernel_rfl
@[simp] theorem iu51 : isU8 Try.prog 51 = false := by kernel_rfl
@[simp] theorem se51 : selfTy Try.prog 51 = false := by kernel_rfl
@[simp] theorem sz52 : szP Try.prog 52 = some 1 := by kernel_rfl
@[simp] theorem by52 : byP Try.prog 52 = some 8 := by kernel_rfl
@[simp] theorem kk52 : kP Try.prog 52 = some (.fn) := by kernel_rfl
@[simp] theorem ze52 : zeroP Try.prog 52 = some (.nilfunc) := by kernel_rfl
@[simp] theorem ag52 : aggP Try.prog 52 = false := by kernel_rfl
@[simp] theorem ap52 : appTy Try.prog 52 = false := by kernel_rfl
@[simp] theorem iu52 : isU8 Try.prog 52 = false := by kernel_rfl
@[simp] theorem se52 : selfTy Try.prog 52 = false := by kernel_rfl
@[simp] theorem sz53 : szP Try.prog 53 = some 1 := by kernel_rfl
@[simp] theorem by53 : byP Try.prog 53 = some 8 := by kernel_rfl
@[simp] theorem kk53 : kP Try.prog 53 = some (.int .u64) := by kernel_rfl
@[simp] theorem ze53 : zeroP Try.prog 53 = some (.int .u64 0) := by kernel_rfl
@[simp] theorem ag53 : aggP Try.prog 53 = false := by kernel_rfl
@[simp] theorem ap53 : appTy Try.prog 53 = false := by kernel_rfl
@[simp] theorem iu53 : isU8 Try.prog 53 = false := by kernel_rfl
@[simp] theorem se53 : selfTy Try.prog 53 = false := by kernel_rfl
@[simp] theorem sz54 : szP Try.prog 54 = some 1 := by kernel_rfl
@[simp] theorem by54 : byP Try.prog 54 = some 8 := by kernel_rfl
@[simp] theorem kk54 : kP Try.prog 54 = some (.fn) := by kernel_rfl
@[simp] theorem ze54 : zeroP Try.prog 54 = some (.nilfunc) := by kernel_rfl
@[simp] theorem ag54 : aggP Try.prog 54 = false := by kernel_rfl
@[simp] theorem ap54 : appTy Try.prog 54 = false := by kernel_rfl
@[simp] theorem iu54 : isU8 Try.prog 54 = false := by kernel_rfl
@[simp] theorem se54 : selfTy Try.prog 54 = false := by kernel_rfl
@[simp] theorem sz55 : szP Try.prog 55 = some 1 := by kernel_rfl
@[simp] theorem by55 : byP Try.prog 55 = some 8 := by kernel_rfl
@[simp] theorem kk55 : kP Try.prog 55 = some (.ptr 5) := by kernel_rfl
@[simp] theorem ze55 : zeroP Try.prog 55 = some (.nilptr) := by kernel_rfl
@[simp] theorem ag55 : aggP Try.prog 55 = false := by kernel_rfl
@[simp] theorem ap55 : appTy Try.prog 55 = false := by kernel_rfl
@[simp] theorem iu55 : isU8 Try.prog 55 = false := by kernel_rfl
@[simp] theorem se55 : selfTy Try.prog 55 = false := by kernel_rfl
@[simp] theorem sz56 : szP Try.prog 56 = some 1 := by kernel_rfl
@[simp] theorem by56 : byP Try.prog 56 = some 8 := by kernel_rfl
@[simp] theorem kk56 : kP Try.prog 56 = some (.fn) := by kernel_rfl
@[simp] theorem ze56 : zeroP Try.prog 56 = some (.nilfunc) := by kernel_rfl
@[simp] theorem ag56 : aggP Try.prog 56 = false := by kernel_rfl
@[simp] theorem ap56 : appTy Try.prog 56 = false := by kernel_rfl
@[simp] theorem iu56 : isU8 Try.prog 56 = false := by kernel_rfl
@[simp] theorem se56 : selfTy Try.prog 56 = false := by kernel_rfl
@[simp] theorem sz57 : szP Try.prog 57 = some 1 := by kernel_rfl
@[simp] theorem by57 : byP Try.prog 57 = some 8 := by kernel_rfl
@[simp] theorem kk57 : kP Try.prog 57 = some (.fn) := by kernel_rfl
@[simp] theorem ze57 : zeroP Try.prog 57 = some (.nilfunc) := by kernel_rfl
@[simp] theorem ag57 : aggP Try.prog 57 = false := by kernel_rfl
@[simp] theorem ap57 : appTy Try.prog 57 = false := by kernel_rfl
@[simp] theorem iu57 : isU8 Try.prog 57 = false := by kernel_rfl
@[simp] theorem se57 : selfTy Try.prog 57 = false := by kernel_rfl
@[simp] theorem sz59 : szP Try.prog 59 = some 1 := by kernel_rfl
@[simp] theorem by59 : byP Try.prog 59 = some 8 := by kernel_rfl
@[simp] theorem kk59 : kP Try.prog 59 = some (.fn) := by kernel_rfl
@[simp] theorem ze59 : zeroP Try.prog 59 = some (.nilfunc) := by kernel_rfl
@[simp] theorem ag59 : aggP Try.prog 59 = false := by kernel_rfl
@[simp] theorem ap59 : appTy Try.prog 59 = false := by kernel_rfl
@[simp] theorem iu59 : isU8 Try.prog 59 = false := by kernel_rfl
@[simp] theorem se59 : selfTy Try.prog 59 = false := by kernel_rfl
@[simp] theorem sz60 : szP Try.prog 60 = some 1 := by kernel_rfl
@[simp] theorem by60 : byP Try.prog 60 = some 8 := by kernel_rfl
@[simp] theorem kk60 : kP Try.prog 60 = some (.fn) := by kernel_rfl
@[simp] theorem ze60 : zeroP Try.prog 60 = some (.nilfunc) := by kernel_rfl
@[simp] theorem ag60 : aggP Try.prog 60 = false := by kernel_rfl
@[simp] theorem ap60 : appTy Try.prog 60 = false := by kernel_rfl
@[simp] theorem iu60 : isU8 Try.prog 60 = false := by kernel_rfl
@[simp] theorem se60 : selfTy Try.prog 60 = false := by kernel_rfl
@[simp] theorem sz61 : szP Try.prog 61 = some 1 := by kernel_rfl
@[simp] theorem by61 : byP Try.prog 61 = some 4 := by kernel_rfl
@[simp] theorem kk61 : kP Try.prog 61 = some (.int .u32) := by kernel_rfl
@[simp] theorem ze61 : zeroP Try.prog 61 = some (.int .u32 0) := by kernel_rfl
@[simp] theorem ag61 : aggP Try.prog 61 = false := by kernel_rfl
@[simp] theorem ap61 : appTy Try.prog 61 = false := by kernel_rfl
@[simp] theorem iu61 : isU8 Try.prog 61 = false := by kernel_rfl
@[simp] theorem se61 : selfTy Try.prog 61 = false := by kernel_rfl
@[simp] theorem sz62 : szP Try.prog 62 = some 8 := by kernel_rfl
@[simp] theorem by62 : byP Try.prog 62 = some 32 := by kernel_rfl
@[simp] theorem kk62 : kP Try.prog 62 = some (.arr 8 61) := by kernel_rfl
@[simp] theorem ze62 : zeroP Try.prog 62 = some (.agg ([.int .u32 0, .int .u32 0, .int .u32 0, .int .u32 0, .int .u32 0, .int .u32 0, .int .u32 0, .int .u32 0])) := by kernel_rfl
@[simp] theorem ar62 : kArr Try.prog 62 = some (8, 61) := by kernel_rfl
@[simp] theorem pl62 : placeP Try.prog 62 = some (.inr 1) := by kernel_rfl
@[simp] theorem ag62 : aggP Try.prog 62 = true := by kernel_rfl
@[simp] theorem ap62 : appTy Try.prog 62 = false := by kernel_rfl
@[simp] theorem iu62 : isU8 Try.prog 62 = false := by kernel_rfl
@[simp] theorem se62 : selfTy Try.prog 62 = false := by kernel_rfl
@[simp] theorem ft62 : flatL Try.prog 20 62 = some ([.i, .i, .i, .i, .i, .i, .i, .i]) := by kernel_rfl
@[simp] theorem eg62 : Try.prog.eqGuardType Try.prog.depth 62 = false := by kernel_rfl
@[simp] theorem sz63 : szP Try.prog 63 = some 1 := by kernel_rfl
@[simp] theorem by63 : byP Try.prog 63 = some 8 := by kernel_rfl
@[simp] theorem kk63 : kP Try.prog 63 = some (.int .u64) := by kernel_rfl
@[simp] theorem ze63 : zeroP Try.prog 63 = some (.int .u64 0) := by kernel_rfl
@[simp] theorem ag63 : aggP Try.prog 63 = false := by kernel_rfl
@[simp] theorem ap63 : appTy Try.prog 63 = false := by kernel_rfl
@[simp] theorem iu63 : isU8 Try.prog 63 = false := by kernel_rfl
@[simp] theorem se63 : selfTy Try.prog 63 = false := by kernel_rfl
@[simp] theorem sz64 : szP Try.prog 64 = some 10 := by kernel_rfl
@[simp] theorem by64 : byP Try.prog 64 = some 56 := by kernel_rfl
@[simp] theorem kk64 : kP Try.prog 64 = some (.st) := by kernel_rfl
@[simp] theorem ze64 : zeroP Try.prog 64 = some (.agg ([.int .u32 0, .int .u32 0, .int .u32 0, .int .u32 0, .int .u32 0, .int .u32 0, .int .u32 0, .int .u32 0, .str [], .int .u64 0])) := by kernel_rfl
@[simp] theorem ag64 : aggP Try.prog 64 = true := by kernel_rfl
@[simp] theorem ap64 : appTy Try.prog 64 = false := by kernel_rfl
@[simp] theorem iu64 : isU8 Try.prog 64 = false := by kernel_rfl
@[simp] theorem se64 : selfTy Try.prog 64 = false := by kernel_rfl
@[simp] theorem fl64_0 : fldP Try.prog 64 0 = some (0, 62) := by kernel_rfl
@[simp] theorem fl64_1 : fldP Try.prog 64 1 = some (8, 9) := by kernel_rfl
@[simp] theorem fl64_2 : fldP Try.prog 64 2 = some (9, 63) := by kernel_rfl
@[simp] theorem pl64 : placeP Try.prog 64 = some (.inl [(0, 8), (8, 1), (9, 1)]) := by kernel_rfl
@[simp] theorem ft64 : flatL Try.prog 20 64 = some ([.i, .i, .i, .i, .i, .i, .i, .i, .s, .i]) := by kernel_rfl
@[simp] theorem eg64 : Try.prog.eqGuardType Try.prog.depth 64 = false := by kernel_rfl
@[simp] theorem sz65 : szP Try.prog 65 = some 10 := by kernel_rfl
@[simp] theorem by65 : byP Try.prog 65 = some 56 := by kernel_rfl
@[simp] theorem kk65 : kP Try.prog 65 = some (.st) := by kernel_rfl
@[simp] theorem ze65 : zeroP Try.prog 65 = some (.agg ([.int .u32 0, .int .u32 0, .int .u32 0, .int .u32 0, .int .u32 0, .int .u32 0, .int .u32 0, .int .u32 0, .str [], .int .u64 0])) := by kernel_rfl
@[simp] theorem ag65 : aggP Try.prog 65 = true := by kernel_rfl
@[simp] theorem ap65 : appTy Try.prog 65 = false := by kernel_rfl
@[simp] theorem iu65 : isU8 Try.prog 65 = false := by kernel_rfl
@[simp] theorem se65 : selfTy Try.prog 65 = false := by kernel_rfl
@[simp] theorem fl65_0 : fldP Try.prog 65 0 = some (0, 62) := by kernel_rfl
@[simp] theorem fl65_1 : fldP Try.prog 65 1 = some (8, 9) := by kernel_rfl
@[simp] theorem fl65_2 : fldP Try.prog 65 2 = some (9, 63) := by kernel_rfl
@[simp] theorem pl65 : placeP Try.prog 65 = some (.inl [(0, 8), (8, 1), (9, 1)]) := by kernel_rfl
@[simp] theorem ft65 : flatL Try.prog 20 65 = some ([.i, .i, .i, .i, .i, .i, .i, .i, .s, .i]) := by kernel_rfl
@[simp] theorem eg65 : Try.prog.eqGuardType Try.prog.depth 65 = false := by kernel_rfl
@[simp] theorem sz66 : szP Try.prog 66 = some 1 := by kernel_rfl
@[simp] theorem by66 : byP Try.prog 66 = some 8 := by kernel_rfl
@[simp] theorem kk66 : kP Try.prog 66 = some (.fn) := by kernel_rfl
@[simp] theorem ze66 : zeroP Try.prog 66 = some (.nilfunc) := by kernel_rfl
@[simp] theorem ag66 : aggP Try.prog 66 = false := by kernel_rfl
@[simp] theorem ap66 : appTy Try.prog 66 = false := by kernel_rfl
@[simp] theorem iu66 : isU8 Try.prog 66 = false := by kernel_rfl
@[simp] theorem se66 : selfTy Try.prog 66 = false := by kernel_rfl
@[simp] theorem sz67 : szP Try.prog 67 = some 1 := by kernel_rfl
@[simp] theorem by67 : byP Try.prog 67 = some 8 := by kernel_rfl
@[simp] theorem kk67 : kP Try.prog 67 = some (.fn) := by kernel_rfl
@[simp] theorem ze67 : zeroP Try.prog 67 = some (.nilfunc) := by kernel_rfl
@[simp] theorem ag67 : aggP Try.prog 67 = false := by kernel_rfl
@[simp] theorem ap67 : appTy Try.prog 67 = false := by kernel_rfl
@[simp] theorem iu67 : isU8 Try.prog 67 = false := by kernel_rfl
@[simp] theorem se67 : selfTy Try.prog 67 = false := by kernel_rfl
@[simp] theorem sz68 : szP Try.prog 68 = some 1 := by kernel_rfl
@[simp] theorem by68 : byP Try.prog 68 = some 8 := by kernel_rfl
@[simp] theorem kk68 : kP Try.prog 68 = some (.fn) := by kernel_rfl
@[simp] theorem ze68 : zeroP Try.prog 68 = some (.nilfunc) := by kernel_rfl
@[simp] theorem ag68 : aggP Try.prog 68 = false := by kernel_rfl
@[simp] theorem ap68 : appTy Try.prog 68 = false := by kernel_rfl
@[simp] theorem iu68 : isU8 Try.prog 68 = false := by kernel_rfl
@[simp] theorem se68 : selfTy Try.prog 68 = false := by kernel_rfl
@[simp] theorem sz70 : szP Try.prog 70 = some 1 := by kernel_rfl
@[simp] theorem by70 : byP Try.prog 70 = some 8 := by kernel_rfl
@[simp] theorem kk70 : kP Try.prog 70 = some (.fn) := by kernel_rfl
@[simp] theorem ze70 : zeroP Try.prog 70 = some (.nilfunc) := by kernel_rfl
@[simp] theorem ag70 : aggP Try.prog 70 = false := by kernel_rfl
@[simp] theorem ap70 : appTy Try.prog 70 = false := by kernel_rfl
@[simp] theorem iu70 : isU8 Try.prog 70 = false := by kernel_rfl
@[simp] theorem se70 : selfTy Try.prog 70 = false := by kernel_rfl
@[simp] theorem sz71 : szP Try.prog 71 = some 1 := by kernel_rfl
@[simp] theorem by71 : byP Try.prog 71 = some 8 := by kernel_rfl
@[simp] theorem kk71 : kP Try.prog 71 = some (.fn) := by kernel_rfl
@[simp] theorem ze71 : zeroP Try.prog 71 = some (.nilfunc) := by kernel_rfl
@[simp] theorem ag71 : aggP Try.prog 71 = false := by kernel_rfl
@[simp] theorem ap71 : appTy Try.prog 71 = false := by kernel_rfl
@[simp] theorem iu71 : isU8 Try.prog 71 = false := by kernel_rfl
@[simp] theorem se71 : selfTy Try.prog 71 = false := by kernel_rfl
@[simp] theorem sz72 : szP Try.prog 72 = some 1 := by kernel_rfl
@[simp] theorem by72 : byP Try.prog 72 = some 8 := by kernel_rfl
@[simp] theorem kk72 : kP Try.prog 72 = some (.fn) := by kernel_rfl
@[simp] theorem ze72 : zeroP Try.prog 72 = some (.nilfunc) := by kernel_rfl
@[simp] theorem ag72 : aggP Try.prog 72 = false := by kernel_rfl
@[simp] theorem ap72 : appTy Try.prog 72 = false := by kernel_rfl
@[simp] theorem iu72 : isU8 Try.prog 72 = false := by kernel_rfl
@[simp] theorem se72 : selfTy Try.prog 72 = false := by kernel_rfl
@[simp] theorem sz73 : szP Try.prog 73 = some 1 := by kernel_rfl
@[simp] theorem by73 : byP Try.prog 73 = some 8 := by kernel_rfl
@[simp] theorem kk73 : kP Try.prog 73 = some (.fn) := by kernel_rfl
@[simp] theorem ze73 : zeroP Try.prog 73 = some (.nilfunc) := by kernel_rfl
@[simp] theorem ag73 : aggP Try.prog 73 = false := by kernel_rfl
@[simp] theorem ap73 : appTy Try.prog 73 = false := by kernel_rfl
@[simp] theorem iu73 : isU8 Try.prog 73 = false := by kernel_rfl
@[simp] theorem se73 : selfTy Try.prog 73 = false := by kernel_rfl
@[simp] theorem sz74 : szP Try.prog 74 = some 1 := by kernel_rfl
@[simp] theorem by74 : byP Try.prog 74 = some 8 := by kernel_rfl
@[simp] theorem kk74 : kP Try.prog 74 = some (.fn) := by kernel_rfl
@[simp] theorem ze74 : zeroP Try.prog 74 = some (.nilfunc) := by kernel_rfl
@[simp] theorem ag74 : aggP Try.prog 74 = false := by kernel_rfl
@[simp] theorem ap74 : appTy Try.prog 74 = false := by kernel_rfl
@[simp] theorem iu74 : isU8 Try.prog 74 = false := by kernel_rfl
@[simp] theorem se74 : selfTy Try.prog 74 = false := by kernel_rfl
@[simp] theorem sz76 : szP Try.prog 76 = some 1 := by kernel_rfl
@[simp] theorem by76 : byP Try.prog 76 = some 8 := by kernel_rfl
@[simp] theorem kk76 : kP Try.prog 76 = some (.fn) := by kernel_rfl
@[simp] theorem ze76 : zeroP Try.prog 76 = some (.nilfunc) := by kernel_rfl
@[simp] theorem ag76 : aggP Try.prog 76 = false := by kernel_rfl
@[simp] theorem ap76 : appTy Try.prog 76 = false := by kernel_rfl
@[simp] theorem iu76 : isU8 Try.prog 76 = false := by kernel_rfl
@[simp] theorem se76 : selfTy Try.prog 76 = false := by kernel_rfl
@[simp] theorem sz78 : szP Try.prog 78 = some 1 := by kernel_rfl
@[simp] theorem by78 : byP Try.prog 78 = some 8 := by kernel_rfl
@[simp] theorem kk78 : kP Try.prog 78 = some (.fn) := by kernel_rfl
@[simp] theorem ze78 : zeroP Try.prog 78 = some (.nilfunc) := by kernel_rfl
@[simp] theorem ag78 : aggP Try.prog 78 = false := by kernel_rfl
@[simp] theorem ap78 : appTy Try.prog 78 = false := by kernel_rfl
@[simp] theorem iu78 : isU8 Try.prog 78 = false := by kernel_rfl
@[simp] theorem se78 : selfTy Try.prog 78 = false := by kernel_rfl
@[simp] theorem sz79 : szP Try.prog 79 = some 1 := by kernel_rfl
@[simp] theorem by79 : byP Try.prog 79 = some 8 := by kernel_rfl
@[simp] theorem kk79 : kP Try.prog 79 = some (.fn) := by kernel_rfl
@[simp] theorem ze79 : zeroP Try.prog 79 = some (.nilfunc) := by kernel_rfl
@[simp] theorem ag79 : aggP Try.prog 79 = false := by kernel_rfl
@[simp] theorem ap79 : appTy Try.prog 79 = false := by kernel_rfl
@[simp] theorem iu79 : isU8 Try.prog 79 = false := by kernel_rfl
@[simp] theorem se79 : selfTy Try.prog 79 = false := by kernel_rfl
@[simp] theorem sz80 : szP Try.prog 80 = some 1 := by kernel_rfl
@[simp] theorem by80 : byP Try.prog 80 = some 8 := by kernel_rfl
@[simp] theorem kk80 : kP Try.prog 80 = some (.fn) := by kernel_rfl
@[simp] theorem ze80 : zeroP Try.prog 80 = some (.nilfunc) := by kernel_rfl
@[simp] theorem ag80 : aggP Try.prog 80 = false := by kernel_rfl
@[simp] theorem ap80 : appTy Try.prog 80 = false := by kernel_rfl
@[simp] theorem iu80 : isU8 Try.prog 80 = false := by kernel_rfl
@[simp] theorem se80 : selfTy Try.prog 80 = false := by kernel_rfl
@[simp] theorem sz81 : szP Try.prog 81 = some 1 := by kernel_rfl
@[simp] theorem by81 : byP Try.prog 81 = some 24 := by kernel_rfl
@[simp] theorem kk81 : kP Try.prog 81 = some (.sl 61) := by kernel_rfl
@[simp] theorem ze81 : zeroP Try.prog 81 = some (.nilsl) := by kernel_rfl
@[simp] theorem sl81 : kSl Try.prog 81 = some 61 := by kernel_rfl
@[simp] theorem ag81 : aggP Try.prog 81 = false := by kernel_rfl
@[simp] theorem ap81 : appTy Try.prog 81 = true := by kernel_rfl
@[simp] theorem iu81 : isU8 Try.prog 81 = false := by kernel_rfl
@[simp] theorem se81 : selfTy Try.prog 81 = false := by kernel_rfl
@[simp] theorem sz82 : szP Try.prog 82 = some 1 := by kernel_rfl
@[simp] theorem by82 : byP Try.prog 82 = some 8 := by kernel_rfl
@[simp] theorem kk82 : kP Try.prog 82 = some (.fn) := by kernel_rfl
@[simp] theorem ze82 : zeroP Try.prog 82 = some (.nilfunc) := by kernel_rfl
@[simp] theorem ag82 : aggP Try.prog 82 = false := by kernel_rfl
@[simp] theorem ap82 : appTy Try.prog 82 = false := by kernel_rfl
@[simp] theorem iu82 : isU8 Try.prog 82 = false := by kernel_rfl
@[simp] theorem se82 : selfTy Try.prog 82 = false := by kernel_rfl
@[simp] theorem sz83 : szP Try.prog 83 = some 1 := by kernel_rfl
@[simp] theorem by83 : byP Try.prog 83 = some 8 := by kernel_rfl
@[simp] theorem kk83 : kP Try.prog 83 = some (.fn) := by kernel_rfl
@[simp] theorem ze83 : zeroP Try.prog 83 = some (.nilfunc) := by kernel_rfl
@[simp] theorem ag83 : aggP Try.prog 83 = false := by kernel_rfl
@[simp] theorem ap83 : appTy Try.prog 83 = false := by kernel_rfl
@[simp] theorem iu83 : isU8 Try.prog 83 = false := by kernel_rfl
@[simp] theorem se83 : selfTy Try.prog 83 = false := by kernel_rfl
@[simp] theorem sz84 : szP Try.prog 84 = some 64 := by kernel_rfl
@[simp] theorem by84 : byP Try.prog 84 = some 256 := by kernel_rfl
@[simp] theorem kk84 : kP Try.prog 84 = some (.arr 64 61) := by kernel_rfl
@[simp] theorem ze84 : zeroP Try.prog 84 = some (.agg (List.replicate 64 (.int .u32 0))) := by kernel_rfl
@[simp] theorem ar84 : kArr Try.prog 84 = some (64, 61) := by kernel_rfl
@[simp] theorem pl84 : placeP Try.prog 84 = some (.inr 1) := by kernel_rfl
@[simp] theorem ag84 : aggP Try.prog 84 = true := by kernel_rfl
@[simp] theorem ap84 : appTy Try.prog 84 = false := by kernel_rfl
@[simp] theorem iu84 : isU8 Try.prog 84 = false := by kernel_rfl
@[simp] theorem se84 : selfTy Try.prog 84 = false := by kernel_rfl
@[simp] theorem ft84 : flatL Try.prog 20 84 = some (List.replicate 64 (.i)) := by kernel_rfl
@[simp] theorem eg84 : Try.prog.eqGuardType Try.prog.depth 84 = false := by kernel_rfl
@[simp] theorem sz85 : szP Try.prog 85 = some 1 := by kernel_rfl
@[simp] theorem by85 : byP Try.prog 85 = some 8 := by kernel_rfl
@[simp] theorem kk85 : kP Try.prog 85 = some (.fn) := by kernel_rfl
@[simp] theorem ze85 : zeroP Try.prog 85 = some (.nilfunc) := by kernel_rfl
@[simp] theorem ag85 : aggP Try.prog 85 = false := by kernel_rfl
@[simp] theorem ap85 : appTy Try.prog 85 = false := by kernel_rfl
@[simp] theorem iu85 : isU8 Try.prog 85 = false := by kernel_rfl
@[simp] theorem se85 : selfTy Try.prog 85 = false := by kernel_rfl
@[simp] theorem sz86 : szP Try.prog 86 = some 1 := by kernel_rfl
@[simp] theorem by86 : byP Try.prog 86 = some 8 := by kernel_rfl
@[simp] theorem kk86 : kP Try.prog 86 = some (.fn) := by kernel_rfl
@[simp] theorem ze86 : zeroP Try.prog 86 = some (.nilfunc) := by kernel_rfl
@[simp] theorem ag86 : aggP Try.prog 86 = false := by kernel_rfl
@[simp] theorem ap86 : appTy Try.prog 86 = false := by kernel_rfl
@[simp] theorem iu86 : isU8 Try.prog 86 = false := by kernel_rfl
@[simp] theorem se86 : selfTy Try.prog 86 = false := by kernel_rfl
@[simp] theorem sz87 : szP Try.prog 87 = some 1 := by kernel_rfl
@[simp] theorem by87 : byP Try.prog 87 = some 8 := by kernel_rfl
@[simp] theorem kk87 : kP Try.prog 87 = some (.fn) := by kernel_rfl
@[simp] theorem ze87 : zeroP Try.prog 87 = some (.nilfunc) := by kernel_rfl
@[simp] theorem ag87 : aggP Try.prog 87 = false := by kernel_rfl
@[simp] theorem ap87 : appTy Try.prog 87 = false := by kernel_rfl
@[simp] theorem iu87 : isU8 Try.prog 87 = false := by kernel_rfl
@[simp] theorem se87 : selfTy Try.prog 87 = false := by kernel_rfl
@[simp] theorem sz88 : szP Try.prog 88 = some 1 := by kernel_rfl
@[simp] theorem by88 : byP Try.prog 88 = some 8 := by kernel_rfl
@[simp] theorem kk88 : kP Try.prog 88 = some (.fn) := by kernel_rfl
@[simp] theorem ze88 : zeroP Try.prog 88 = some (.nilfunc) := by kernel_rfl
@[simp] theorem ag88 : aggP Try.prog 88 = false := by kernel_rfl
@[simp] theorem ap88 : appTy Try.prog 88 = false := by kernel_rfl
@[simp] theorem iu88 : isU8 Try.prog 88 = false := by kernel_rfl
@[simp] theorem se88 : selfTy Try.prog 88 = false := by kernel_rfl
@[simp] theorem sz90 : szP Try.prog 90 = some 1 := by kernel_rfl
@[simp] theorem by90 : byP Try.prog 90 = some 8 := by kernel_rfl
@[simp] theorem kk90 : kP Try.prog 90 = some (.fn) := by kernel_rfl
@[simp] theorem ze90 : zeroP Try.prog 90 = some (.nilfunc) := by kernel_rfl
@[simp] theorem ag90 : aggP Try.prog 90 = false := by kernel_rfl
@[simp] theorem ap90 : appTy Try.prog 90 = false := by kernel_rfl
@[simp] theorem iu90 : isU8 Try.prog 90 = false := by kernel_rfl
@[simp] theorem se90 : selfTy Try.prog 90 = false := by kernel_rfl
@[simp] theorem sz92 : szP Try.prog 92 = some 1 := by kernel_rfl
@[simp] theorem by92 : byP Try.prog 92 = some 8 := by kernel_rfl
@[simp] theorem kk92 : kP Try.prog 92 = some (.fn) := by kernel_rfl
@[simp] theorem ze92 : zeroP Try.prog 92 = some (.nilfunc) := by kernel_rfl
@[simp] theorem ag92 : aggP Try.prog 92 = false := by kernel_rfl
@[simp] theorem ap92 : appTy Try.prog 92 = false := by kernel_rfl
@[simp] theorem iu92 : isU8 Try.prog 92 = false := by kernel_rfl
@[simp] theorem se92 : selfTy Try.prog 92 = false := by kernel_rfl
@[simp] theorem sz93 : szP Try.prog 93 = some 1 := by kernel_rfl
@[simp] theorem by93 : byP Try.prog 93 = some 8 := by kernel_rfl
@[simp] theorem kk93 : kP Try.prog 93 = some (.fn) := by kernel_rfl
@[simp] theorem ze93 : zeroP Try.prog 93 = some (.nilfunc) := by kernel_rfl
@[simp] theorem ag93 : aggP Try.prog 93 = false := by kernel_rfl
@[simp] theorem ap93 : appTy Try.prog 93 = false := by kernel_rfl
@[simp] theorem iu93 : isU8 Try.prog 93 = false := by kernel_rfl
@[simp] theorem se93 : selfTy Try.prog 93 = false := by kernel_rfl
@[simp] theorem sz94 : szP Try.prog 94 = some 4 := by kernel_rfl
@[simp] theorem by94 : byP Try.prog 94 = some 40 := by kernel_rfl
@[simp] theorem kk94 : kP Try.prog 94 = some (.st) := by kernel_rfl
@[simp] theorem ze94 : zeroP Try.prog 94 = some (.agg ([.nilptr, .nilptr, .nilptr, .str []])) := by kernel_rfl
@[simp] theorem ag94 : aggP Try.prog 94 = true := by kernel_rfl
@[simp] theorem ap94 : appTy Try.prog 94 = false := by kernel_rfl
@[simp] theorem iu94 : isU8 Try.prog 94 = false := by kernel_rfl
@[simp] theorem se94 : selfTy Try.prog 94 = false := by kernel_rfl
@[simp] theorem fl94_0 : fldP Try.prog 94 0 = some (0, 17) := by kernel_rfl
@[simp] theorem fl94_1 : fldP Try.prog 94 1 = some (1, 17) := by kernel_rfl
@[simp] theorem fl94_2 : fldP Try.prog 94 2 = some (2, 17) := by kernel_rfl
@[simp] theorem fl94_3 : fldP Try.prog 94 3 = some (3, 9) := by kernel_rfl
@[simp] theorem pl94 : placeP Try.prog 94 = some (.inl [(0, 1), (1, 1), (2, 1), (3, 1)]) := by kernel_rfl
@[simp] theorem sz95 : szP Try.prog 95 = some 4 := by kernel_rfl
@[simp] theorem by95 : byP Try.prog 95 = some 40 := by kernel_rfl
@[simp] theorem kk95 : kP Try.prog 95 = some (.st) := by kernel_rfl
@[simp] theorem ze95 : zeroP Try.prog 95 = some (.agg ([.nilptr, .nilptr, .nilptr, .str []])) := by kernel_rfl
@[simp] theorem ag95 : aggP Try.prog 95 = true := by kernel_rfl
@[simp] theorem ap95 : appTy Try.prog 95 = false := by kernel_rfl
@[simp] theorem iu95 : isU8 Try.prog 95 = false := by kernel_rfl
@[simp] theorem se95 : selfTy Try.prog 95 = false := by kernel_rfl
@[simp] theorem fl95_0 : fldP Try.prog 95 0 = some (0, 17) := by kernel_rfl
@[simp] theorem fl95_1 : fldP Try.prog 95 1 = some (1, 17) := by kernel_rfl
@[simp] theorem fl95_2 : fldP Try.prog 95 2 = some (2, 17) := by kernel_rfl
@[simp] theorem fl95_3 : fldP Try.prog 95 3 = some (3, 9) := by kernel_rfl
@[simp] theorem pl95 : placeP Try.prog 95 = some (.inl [(0, 1), (1, 1), (2, 1), (3, 1)]) := by kernel_rfl
@[simp] theorem sz96 : szP Try.prog 96 = some 0 := by kernel_rfl
@[simp] theorem by96 : byP Try.prog 96 = some 0 := by kernel_rfl
@[simp] theorem kk96 : kP Try.prog 96 = some (.arr 0 16) := by kernel_rfl
@[simp] theorem ze96 : zeroP Try.prog 96 = some (.agg ([])) := by kernel_rfl
@[simp] theorem ar96 : kArr Try.prog 96 = some (0, 16) := by kernel_rfl
@[simp] theorem pl96 : placeP Try.prog 96 = some (.inr 1) := by kernel_rfl
@[simp] theorem ag96 : aggP Try.prog 96 = true := by kernel_rfl
@[simp] theorem ap96 : appTy Try.prog 96 = false := by kernel_rfl
@[simp] theorem iu96 : isU8 Try.prog 96 = false := by kernel_rfl
@[simp] theorem se96 : selfTy Try.prog 96 = false := by kernel_rfl
@[simp] theorem sz97 : szP Try.prog 97 = some 0 := by kernel_rfl
@[simp] theorem by97 : byP Try.prog 97 = some 0 := by kernel_rfl
@[simp] theorem kk97 : kP Try.prog 97 = some (.st) := by kernel_rfl
@[simp] theorem ze97 : zeroP Try.prog 97 = some (.agg ([])) := by kernel_rfl
@[simp] theorem ag97 : aggP Try.prog 97 = true := by kernel_rfl
@[simp] theorem ap97 : appTy Try.prog 97 = false := by kernel_rfl
@[simp] theorem iu97 : isU8 Try.prog 97 = false := by kernel_rfl
@[simp] theorem se97 : selfTy Try.prog 97 = false := by kernel_rfl
@[simp] theorem pl97 : placeP Try.prog 97 = some (.inl [(0, 0)]) := by kernel_rfl
@[simp] theorem sz98 : szP Try.prog 98 = some 0 := by kernel_rfl
@[simp] theorem by98 : byP Try.prog 98 = some 0 := by kernel_rfl
@[simp] theorem kk98 : kP Try.prog 98 = some (.st) := by kernel_rfl
@[simp] theorem ze98 : zeroP Try.prog 98 = some (.agg ([])) := by kernel_rfl
@[simp] theorem ag98 : aggP Try.prog 98 = true := by kernel_rfl
@[simp] theorem ap98 : appTy Try.prog 98 = false := by kernel_rfl
@[simp] theorem iu98 : isU8 Try.prog 98 = false := by kernel_rfl
@[simp] theorem se98 : selfTy Try.prog 98 = false := by kernel_rfl
@[simp] theorem pl98 : placeP Try.prog 98 = some (.inl [(0, 0)]) := by kernel_rfl
@[simp] theorem sz99 : szP Try.prog 99 = some 1 := by kernel_rfl
@[simp] theorem by99 : byP Try.prog 99 = some 1 := by kernel_rfl
@[simp] theorem kk99 : kP Try.prog 99 = some (.int .u8) := by kernel_rfl
@[simp] theorem ze99 : zeroP Try.prog 99 = some (.int .u8 0) := by kernel_rfl
@[simp] theorem ag99 : aggP Try.prog 99 = false := by kernel_rfl
@[simp] theorem ap99 : appTy Try.prog 99 = false := by kernel_rfl
@[simp] theorem iu99 : isU8 Try.prog 99 = true := by kernel_rfl
@[simp] theorem se99 : selfTy Try.prog 99 = false := by kernel_rfl
@[simp] theorem sz100 : szP Try.prog 100 = some 1 := by kernel_rfl
@[simp] theorem by100 : byP Try.prog 100 = some 1 := by kernel_rfl
@[simp] theorem kk100 : kP Try.prog 100 = some (.int .u8) := by kernel_rfl
@[simp] theorem ze100 : zeroP Try.prog 100 = some (.int .u8 0) := by kernel_rfl
@[simp] theorem ag100 : aggP Try.prog 100 = false := by kernel_rfl
@[simp] theorem ap100 : appTy Try.prog 100 = false := by kernel_rfl
@[simp] theorem iu100 : isU8 Try.prog 100 = true := by kernel_rfl
@[simp] theorem se100 : selfTy Try.prog 100 = false := by kernel_rfl
@[simp] theorem sz101 : szP Try.prog 101 = some 1 := by kernel_rfl
@[simp] theorem by101 : byP Try.prog 101 = some 8 := by kernel_rfl
@[simp] theorem kk101 : kP Try.prog 101 = some (.fn) := by kernel_rfl
@[simp] theorem ze101 : zeroP Try.prog 101 = some (.nilfunc) := by kernel_rfl
@[simp] theorem ag101 : aggP Try.prog 101 = false := by kernel_rfl
@[simp] theorem ap101 : appTy Try.prog 101 = false := by kernel_rfl
@[simp] theorem iu101 : isU8 Try.prog 101 = false := by kernel_rfl
@[simp] theorem se101 : selfTy Try.prog 101 = false := by kernel_rfl
@[simp] theorem sz102 : szP Try.prog 102 = some 1 := by kernel_rfl
@[simp] theorem by102 : byP Try.prog 102 = some 4 := by kernel_rfl
@[simp] theorem kk102 : kP Try.prog 102 = some (.int .i32) := by kernel_rfl
@[simp] theorem ze102 : zeroP Try.prog 102 = some (.int .i32 0) := by kernel_rfl
@[simp] theorem ag102 : aggP Try.prog 102 = false := by kernel_rfl
@[simp] theorem ap102 : appTy Try.prog 102 = false := by kernel_rfl
@[simp] theorem iu102 : isU8 Try.prog 102 = false := by kernel_rfl
@[simp] theorem se102 : selfTy Try.prog 102 = false := by kernel_rfl
@[simp] theorem sz103 : szP Try.prog 103 = some 1 := by kernel_rfl
@[simp] theorem by103 : byP Try.prog 103 = some 4 := by kernel_rfl
@[simp] theorem kk103 : kP Try.prog 103 = some (.int .i32) := by kernel_rfl
@[simp] theorem ze103 : zeroP Try.prog 103 = some (.int .i32 0) := by kernel_rfl
@[simp] theorem ag103 : aggP Try.prog 103 = false := by kernel_rfl
@[simp] theorem ap103 : appTy Try.prog 103 = false := by kernel_rfl
@[simp] theorem iu103 : isU8 Try.prog 103 = false := by kernel_rfl
@[simp] theorem se103 : selfTy Try.prog 103 = false := by kernel_rfl
@[simp] theorem sz104 : szP Try.prog 104 = some 11 := by kernel_rfl
@[simp] theorem by104 : byP Try.prog 104 = some 48 := by kernel_rfl
@[simp] theorem kk104 : kP Try.prog 104 = some (.st) := by kernel_rfl
@[simp] theorem ze104 : zeroP Try.prog 104 = some (.agg ([.int .u64 0, .int .u64 0, .int .u32 0, .int .u8 0, .int .u8 0, .int .u8 0, .int .u8 0, .nilfunc, .nilptr, .int .i32 0, .int .i32 0])) := by kernel_rfl
@[simp] theorem ag104 : aggP Try.prog 104 = true := by kernel_rfl
@[simp] theorem ap104 : appTy Try.prog 104 = false := by kernel_rfl
@[simp] theorem iu104 : isU8 Try.prog 104 = false := by kernel_rfl
@[simp] theorem se104 : selfTy Try.prog 104 = false := by kernel_rfl
@[simp] theorem fl104_0 : fldP Try.prog 104 0 = some (0, 12) := by kernel_rfl
@[simp] theorem fl104_1 : fldP Try.prog 104 1 = some (1, 12) := by kernel_rfl
@[simp] theorem fl104_2 : fldP Try.prog 104 2 = some (2, 61) := by kernel_rfl
@[simp] theorem fl104_3 : fldP Try.prog 104 3 = some (3, 99) := by kernel_rfl
@[simp] theorem fl104_4 : fldP Try.prog 104 4 = some (4, 5) := by kernel_rfl
@[simp] theorem fl104_5 : fldP Try.prog 104 5 = some (5, 5) := by kernel_rfl
@[simp] theorem fl104_6 : fldP Try.prog 104 6 = some (6, 100) := by kernel_rfl
@[simp] theorem fl104_7 : fldP Try.prog 104 7 = some (7, 101) := by kernel_rfl
@[simp] theorem fl104_8 : fldP Try.prog 104 8 = some (8, 55) := by kernel_rfl
@[simp] theorem fl104_9 : fldP Try.prog 104 9 = some (9, 102) := by kernel_rfl
@[simp] theorem fl104_10 : fldP Try.prog 104 10 = some (10, 103) := by kernel_rfl
@[simp] theorem pl104 : placeP Try.prog 104 = some (.inl [(0, 1), (1, 1), (2, 1), (3, 1), (4, 1), (5, 1), (6, 1), (7, 1), (8, 1), (9, 1), (10, 1)]) := by kernel_rfl
@[simp] theorem sz105 : szP Try.prog 105 = some 11 := by kernel_rfl
@[simp] theorem by105 : byP Try.prog 105 = some 48 := by kernel_rfl
@[simp] theorem kk105 : kP Try.prog 105 = some (.st) := by kernel_rfl
@[simp] theorem ze105 : zeroP Try.prog 105 = some (.agg ([.int .u64 0, .int .u64 0, .int .u32 0, .int .u8 0, .int .u8 0, .int .u8 0, .int .u8 0, .nilfunc, .nilptr, .int .i32 0, .int .i32 0])) := by kernel_rfl
@[simp] theorem ag105 : aggP Try.prog 105 = true := by kernel_rfl
@[simp] theorem ap105 : appTy Try.prog 105 = false := by kernel_rfl
@[simp] theorem iu105 : isU8 Try.prog 105 = false := by kernel_rfl
@[simp] theorem se105 : selfTy Try.prog 105 = false := by kernel_rfl
@[simp] theorem fl105_0 : fldP Try.prog 105 0 = some (0, 12) := by kernel_rfl
@[simp] theorem fl105_1 : fldP Try.prog 105 1 = some (1, 12) := by kernel_rfl
@[simp] theorem fl105_2 : fldP Try.prog 105 2 = some (2, 61) := by kernel_rfl
@[simp] theorem fl105_3 : fldP Try.prog 105 3 = some (3, 99) := by kernel_rfl
@[simp] theorem fl105_4 : fldP Try.prog 105 4 = some (4, 5) := by kernel_rfl
@[simp] theorem fl105_5 : fldP Try.prog 105 5 = some (5, 5) := by kernel_rfl
@[simp] theorem fl105_6 : fldP Try.prog 105 6 = some (6, 100) := by kernel_rfl
@[simp] theorem fl105_7 : fldP Try.prog 105 7 = some (7, 101) := by kernel_rfl
@[simp] theorem fl105_8 : fldP Try.prog 105 8 = some (8, 55) := by kernel_rfl
@[simp] theorem fl105_9 : fldP Try.prog 105 9 = some (9, 102) := by kernel_rfl
@[simp] theorem fl105_10 : fldP Try.prog 105 10 = some (10, 103) := by kernel_rfl
@[simp] theorem pl105 : placeP Try.prog 105 = some (.inl [(0, 1), (1, 1), (2, 1), (3, 1), (4, 1), (5, 1), (6, 1), (7, 1), (8, 1), (9, 1), (10, 1)]) := by kernel_rfl
attribute [simp] Try.underlying1
attribute [simp] Try.underlying2
attribute [simp] Try.underlying3
attribute [simp] Try.underlying4
attribute [simp] Try.underlying5
attribute [simp] Try.underlying6
attribute [simp] Try.underlying7
attribute [simp] Try.underlying8
attribute [simp] Try.underlying9
attribute [simp] Try.underlying10
attribute [simp] Try.underlying11
attribute [simp] Try.underlying12
attribute [simp] Try.underlying13
attribute [simp] Try.underlying14
attribute [simp] Try.underlying15
attribute [simp] Try.underlying16
attribute [simp] Try.underlying17
attribute [simp] Try.underlying18
attribute [simp] Try.underlying19
attribute [simp] Try.underlying21
attribute [simp] Try.underlying22
attribute [simp] Try.underlying23
attribute [simp] Try.underlying24
attribute [simp] Try.underlying26
attribute [simp] Try.underlying28
attribute [simp] Try.underlying29
attribute [simp] Try.underlying30
attribute [simp] Try.underlying31
attribute [simp] Try.underlying32
attribute [simp] Try.underlying33
attribute [simp] Try.underlying34
attribute [simp] Try.underlying35
attribute [simp] Try.underlying36
attribute [simp] Try.underlying37
attribute [simp] Try.underlying38
attribute [simp] Try.underlying39
attribute [simp] Try.underlying40
attribute [simp] Try.underlying41
attribute [simp] Try.underlying42
attribute [simp] Try.underlying43
attribute [simp] Try.underlying44
attribute [simp] Try.underlying45
attribute [simp] Try.underlying46
attribute [simp] Try.underlying47
attribute [simp] Try.underlying51
attribute [simp] Try.underlying52
attribute [simp] Try.underlying53
attribute [simp] Try.underlying54
attribute [simp] Try.underlying55
attribute [simp] Try.underlying56
attribute [simp] Try.underlying57
attribute [simp] Try.underlying59
attribute [simp] Try.underlying60
attribute [simp] Try.underlying61
attribute [simp] Try.underlying62
attribute [simp] Try.underlying63
attribute [simp] Try.underlying64
attribute [simp] Try.underlying65
attribute [simp] Try.underlying66
attribute [simp] Try.underlying67
attribute [simp] Try.underlying68
attribute [simp] Try.underlying70
attribute [simp] Try.underlying71
attribute [simp] Try.underlying72
attribute [simp] Try.underlying73
attribute [simp] Try.underlying74
attribute [simp] Try.underlying76
attribute [simp] Try.underlying78
attribute [simp] Try.underlying79
attribute [simp] Try.underlying80
attribute [simp] Try.underlying81
attribute [simp] Try.underlying82
attribute [simp] Try.underlying83
attribute [simp] Try.underlying84
attribute [simp] Try.underlying85
attribute [simp] Try.underlying86
attribute [simp] Try.underlying87
attribute [simp] Try.underlying88
attribute [simp] Try.underlying90
attribute [simp] Try.underlying92
attribute [simp] Try.underlying93
attribute [simp] Try.underlying94
attribute [simp] Try.underlying95
attribute [simp] Try.underlying96
attribute [simp] Try.underlying97
attribute [simp] Try.underlying98
attribute [simp] Try.underlying99
attribute [simp] Try.underlying100
attribute [simp] Try.underlying101
attribute [simp] Try.underlying102
attribute [simp] Try.underlying103
attribute [simp] Try.underlying104
attribute [simp] Try.underlying105
end Pv.Try
