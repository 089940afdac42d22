/- Part of the proof: the layer of pure values, or walks through functions (PvFxI, PvPure). -/
import Derived.Test.YtbocckencbkdeaaProg
import Derived.Test.YtbocckencbkdeaaPvFun
import Derived.KernelRfl
set_option linter.all false
namespace Pv.Try
open Go Go.Proofs
@[simp] theorem sz1 : szP Try.prog 1 = some 1 := by kernel_rfl
@[simp] theorem by1 : byP Try.prog 1 = some 8 := by kernel_rfl
@[simp] theorem kk1 : kP Try.prog 1 = some (.fn) := by kernel_rfl
@[simp] theorem ze1 : zeroP Try.prog 1 = some (.nilfunc) := by kernel_rfl
@[simp] theorem ag1 : aggP Try.prog 1 = false := by kernel_rfl
@[simp] theorem ap1 : appTy Try.prog 1 = false := by kernel_rfl
@[simp] theorem iu1 : isU8 Try.prog 1 = false := by kernel_rfl
@[simp] theorem se1 : selfTy Try.prog 1 = false := by kernel_rfl
@[simp] theorem sz3 : szP Try.prog 3 = some 1 := by kernel_rfl
@[simp] theorem by3 : byP Try.prog 3 = some 8 := by kernel_rfl
@[simp] theorem kk3 : kP Try.prog 3 = some (.int .i64) := by kernel_rfl
@[simp] theorem ze3 : zeroP Try.prog 3 = some (.int .i64 0) := by kernel_rfl
@[simp] theorem ag3 : aggP Try.prog 3 = false := by kernel_rfl
@[simp] theorem ap3 : appTy Try.prog 3 = false := by kernel_rfl
@[simp] theorem iu3 : isU8 Try.prog 3 = false := by kernel_rfl
@[simp] theorem se3 : selfTy Try.prog 3 = false := by kernel_rfl
@[simp] theorem sz4 : szP Try.prog 4 = some 1 := by kernel_rfl
@[simp] theorem by4 : byP Try.prog 4 = some 1 := by kernel_rfl
@[simp] theorem kk4 : kP Try.prog 4 = some (.bool) := by kernel_rfl
@[simp] theorem ze4 : zeroP Try.prog 4 = some (.bool false) := by kernel_rfl
@[simp] theorem ag4 : aggP Try.prog 4 = false := by kernel_rfl
@[simp] theorem ap4 : appTy Try.prog 4 = false := by kernel_rfl
@[simp] theorem iu4 : isU8 Try.prog 4 = false := by kernel_rfl
@[simp] theorem se4 : selfTy Try.prog 4 = false := by kernel_rfl
@[simp] theorem sz5 : szP Try.prog 5 = some 1 := by kernel_rfl
@[simp] theorem by5 : byP Try.prog 5 = some 1 := by kernel_rfl
@[simp] theorem kk5 : kP Try.prog 5 = some (.int .u8) := by kernel_rfl
@[simp] theorem ze5 : zeroP Try.prog 5 = some (.int .u8 0) := by kernel_rfl
@[simp] theorem ag5 : aggP Try.prog 5 = false := by kernel_rfl
@[simp] theorem ap5 : appTy Try.prog 5 = false := by kernel_rfl
@[simp] theorem iu5 : isU8 Try.prog 5 = true := by kernel_rfl
@[simp] theorem se5 : selfTy Try.prog 5 = false := by kernel_rfl
@[simp] theorem sz9 : szP Try.prog 9 = some 1 := by kernel_rfl
@[simp] theorem by9 : byP Try.prog 9 = some 16 := by kernel_rfl
@[simp] theorem kk9 : kP Try.prog 9 = some (.str) := by kernel_rfl
@[simp] theorem ze9 : zeroP Try.prog 9 = some (.str []) := by kernel_rfl
@[simp] theorem ag9 : aggP Try.prog 9 = false := by kernel_rfl
@[simp] theorem ap9 : appTy Try.prog 9 = true := by kernel_rfl
@[simp] theorem iu9 : isU8 Try.prog 9 = false := by kernel_rfl
@[simp] theorem se9 : selfTy Try.prog 9 = false := by kernel_rfl
@[simp] theorem sz21 : szP Try.prog 21 = some 1 := by kernel_rfl
@[simp] theorem by21 : byP Try.prog 21 = some 4 := by kernel_rfl
@[simp] theorem kk21 : kP Try.prog 21 = some (.int .i32) := by kernel_rfl
@[simp] theorem ze21 : zeroP Try.prog 21 = some (.int .i32 0) := by kernel_rfl
@[simp] theorem ag21 : aggP Try.prog 21 = false := by kernel_rfl
@[simp] theorem ap21 : appTy Try.prog 21 = false := by kernel_rfl
@[simp] theorem iu21 : isU8 Try.prog 21 = false := by kernel_rfl
@[simp] theorem se21 : selfTy Try.prog 21 = false := by kernel_rfl
@[simp] theorem sz24 : szP Try.prog 24 = some 1 := by kernel_rfl
@[simp] theorem by24 : byP Try.prog 24 = some 8 := by kernel_rfl
@[simp] theorem kk24 : kP Try.prog 24 = some (.int .i64) := by kernel_rfl
@[simp] theorem ze24 : zeroP Try.prog 24 = some (.int .i64 0) := by kernel_rfl
@[simp] theorem ag24 : aggP Try.prog 24 = false := by kernel_rfl
@[simp] theorem ap24 : appTy Try.prog 24 = false := by kernel_rfl
@[simp] theorem iu24 : isU8 Try.prog 24 = false := by kernel_rfl
@[simp] theorem se24 : selfTy Try.prog 24 = false := by kernel_rfl
@[simp] theorem sz36 : szP Try.prog 36 = some 1 := by kernel_rfl
@[simp] theorem by36 : byP Try.prog 36 = some 24 := by kernel_rfl
@[simp] theorem kk36 : kP Try.prog 36 = some (.sl 5) := by kernel_rfl
@[simp] theorem ze36 : zeroP Try.prog 36 = some (.nilsl) := by kernel_rfl
@[simp] theorem sl36 : kSl Try.prog 36 = some 5 := by kernel_rfl
@[simp] theorem ag36 : aggP Try.prog 36 = false := by kernel_rfl
@[simp] theorem ap36 : appTy Try.prog 36 = true := by kernel_rfl
@[simp] theorem iu36 : isU8 Try.prog 36 = false := by kernel_rfl
@[simp] theorem se36 : selfTy Try.prog 36 = false := by kernel_rfl
@[simp] theorem sz38 : szP Try.prog 38 = some 1 := by kernel_rfl
@[simp] theorem by38 : byP Try.prog 38 = some 24 := by kernel_rfl
@[simp] theorem kk38 : kP Try.prog 38 = some (.sl 9) := by kernel_rfl
@[simp] theorem ze38 : zeroP Try.prog 38 = some (.nilsl) := by kernel_rfl
@[simp] theorem sl38 : kSl Try.prog 38 = some 9 := by kernel_rfl
@[simp] theorem ag38 : aggP Try.prog 38 = false := by kernel_rfl
@[simp] theorem ap38 : appTy Try.prog 38 = true := by kernel_rfl
@[simp] theorem iu38 : isU8 Try.prog 38 = false := by kernel_rfl
@[simp] theorem se38 : selfTy Try.prog 38 = false := by kernel_rfl
@[simp] theorem sz63 : szP Try.prog 63 = some 3 := by kernel_rfl
@[simp] theorem by63 : byP Try.prog 63 = some 48 := by kernel_rfl
@[simp] theorem kk63 : kP Try.prog 63 = some (.st) := by kernel_rfl
@[simp] theorem ze63 : zeroP Try.prog 63 = some (.agg ([.str [], .str [], .str []])) := by kernel_rfl
@[simp] theorem ag63 : aggP Try.prog 63 = true := by kernel_rfl
@[simp] theorem ap63 : appTy Try.prog 63 = false := by kernel_rfl
@[simp] theorem iu63 : isU8 Try.prog 63 = false := by kernel_rfl
@[simp] theorem se63 : selfTy Try.prog 63 = false := by kernel_rfl
@[simp] theorem fl63_0 : fldP Try.prog 63 0 = some (0, 9) := by kernel_rfl
@[simp] theorem fl63_1 : fldP Try.prog 63 1 = some (1, 9) := by kernel_rfl
@[simp] theorem fl63_2 : fldP Try.prog 63 2 = some (2, 9) := by kernel_rfl
@[simp] theorem pl63 : placeP Try.prog 63 = some (.inl [(0, 1), (1, 1), (2, 1)]) := by kernel_rfl
@[simp] theorem ft63 : flatL Try.prog 20 63 = some ([.s, .s, .s]) := by kernel_rfl
@[simp] theorem eg63 : Try.prog.eqGuardType Try.prog.depth 63 = false := by kernel_rfl
@[simp] theorem sz87 : szP Try.prog 87 = some 1 := by kernel_rfl
@[simp] theorem by87 : byP Try.prog 87 = some 8 := by kernel_rfl
@[simp] theorem kk87 : kP Try.prog 87 = some (.ptr 116) := by kernel_rfl
@[simp] theorem ze87 : zeroP Try.prog 87 = some (.nilptr) := by kernel_rfl
@[simp] theorem ag87 : aggP Try.prog 87 = false := by kernel_rfl
@[simp] theorem ap87 : appTy Try.prog 87 = false := by kernel_rfl
@[simp] theorem iu87 : isU8 Try.prog 87 = false := by kernel_rfl
@[simp] theorem se87 : selfTy Try.prog 87 = false := by kernel_rfl
@[simp] theorem sz90 : szP Try.prog 90 = some 16 := by kernel_rfl
@[simp] theorem by90 : byP Try.prog 90 = some 16 := by kernel_rfl
@[simp] theorem kk90 : kP Try.prog 90 = some (.arr 16 5) := by kernel_rfl
@[simp] theorem ze90 : zeroP Try.prog 90 = some (.agg ([.int .u8 0, .int .u8 0, .int .u8 0, .int .u8 0, .int .u8 0, .int .u8 0, .int .u8 0, .int .u8 0, .int .u8 0, .int .u8 0, .int .u8 0, .int .u8 0, .int .u8 0, .int .u8 0, .int .u8 0, .int .u8 0])) := by kernel_rfl
@[simp] theorem ar90 : kArr Try.prog 90 = some (16, 5) := by kernel_rfl
@[simp] theorem pl90 : placeP Try.prog 90 = some (.inr 1) := by kernel_rfl
@[simp] theorem ag90 : aggP Try.prog 90 = true := by kernel_rfl
@[simp] theorem ap90 : appTy Try.prog 90 = false := by kernel_rfl
@[simp] theorem iu90 : isU8 Try.prog 90 = false := by kernel_rfl
@[simp] theorem se90 : selfTy Try.prog 90 = false := by kernel_rfl
@[simp] theorem ft90 : flatL Try.prog 20 90 = some ([.i, .i, .i, .i, .i, .i, .i, .i, .i, .i, .i, .i, .i, .i, .i, .i]) := by kernel_rfl
@[simp] theorem eg90 : Try.prog.eqGuardType Try.prog.depth 90 = false := by kernel_rfl
@[simp] theorem sz95 : szP Try.prog 95 = some 1 := by kernel_rfl
@[simp] theorem by95 : byP Try.prog 95 = some 4 := by kernel_rfl
@[simp] theorem kk95 : kP Try.prog 95 = some (.int .u32) := by kernel_rfl
@[simp] theorem ze95 : zeroP Try.prog 95 = some (.int .u32 0) := by kernel_rfl
@[simp] theorem ag95 : aggP Try.prog 95 = false := by kernel_rfl
@[simp] theorem ap95 : appTy Try.prog 95 = false := by kernel_rfl
@[simp] theorem iu95 : isU8 Try.prog 95 = false := by kernel_rfl
@[simp] theorem se95 : selfTy Try.prog 95 = false := by kernel_rfl
@[simp] theorem sz105 : szP Try.prog 105 = some 1 := by kernel_rfl
@[simp] theorem by105 : byP Try.prog 105 = some 4 := by kernel_rfl
@[simp] theorem kk105 : kP Try.prog 105 = some (.st) := by kernel_rfl
@[simp] theorem ze105 : zeroP Try.prog 105 = some (.agg ([.int .u32 0])) := by kernel_rfl
@[simp] theorem ag105 : aggP Try.prog 105 = true := by kernel_rfl
@[simp] theorem ap105 : appTy Try.prog 105 = false := by kernel_rfl
@[simp] theorem iu105 : isU8 Try.prog 105 = false := by kernel_rfl
@[simp] theorem se105 : selfTy Try.prog 105 = false := by kernel_rfl
@[simp] theorem fl105_1 : fldP Try.prog 105 1 = some (0, 95) := by kernel_rfl
@[simp] theorem pl105 : placeP Try.prog 105 = some (.inl [(0, 0), (0, 1)]) := by kernel_rfl
@[simp] theorem sz107 : szP Try.prog 107 = some 2 := by kernel_rfl
@[simp] theorem by107 : byP Try.prog 107 = some 8 := by kernel_rfl
@[simp] theorem kk107 : kP Try.prog 107 = some (.st) := by kernel_rfl
@[simp] theorem ze107 : zeroP Try.prog 107 = some (.agg ([.int .i32 0, .int .u32 0])) := by kernel_rfl
@[simp] theorem ag107 : aggP Try.prog 107 = true := by kernel_rfl
@[simp] theorem ap107 : appTy Try.prog 107 = false := by kernel_rfl
@[simp] theorem iu107 : isU8 Try.prog 107 = false := by kernel_rfl
@[simp] theorem se107 : selfTy Try.prog 107 = false := by kernel_rfl
@[simp] theorem fl107_0 : fldP Try.prog 107 0 = some (0, 21) := by kernel_rfl
@[simp] theorem fl107_1 : fldP Try.prog 107 1 = some (1, 95) := by kernel_rfl
@[simp] theorem pl107 : placeP Try.prog 107 = some (.inl [(0, 1), (1, 1)]) := by kernel_rfl
@[simp] theorem sz109 : szP Try.prog 109 = some 2 := by kernel_rfl
@[simp] theorem by109 : byP Try.prog 109 = some 8 := by kernel_rfl
@[simp] theorem kk109 : kP Try.prog 109 = some (.st) := by kernel_rfl
@[simp] theorem ze109 : zeroP Try.prog 109 = some (.agg ([.int .i32 0, .int .u32 0])) := by kernel_rfl
@[simp] theorem ag109 : aggP Try.prog 109 = true := by kernel_rfl
@[simp] theorem ap109 : appTy Try.prog 109 = false := by kernel_rfl
@[simp] theorem iu109 : isU8 Try.prog 109 = false := by kernel_rfl
@[simp] theorem se109 : selfTy Try.prog 109 = false := by kernel_rfl
@[simp] theorem fl109_1 : fldP Try.prog 109 1 = some (0, 107) := by kernel_rfl
@[simp] theorem pl109 : placeP Try.prog 109 = some (.inl [(0, 0), (0, 2)]) := by kernel_rfl
@[simp] theorem sz111 : szP Try.prog 111 = some 3 := by kernel_rfl
@[simp] theorem by111 : byP Try.prog 111 = some 12 := by kernel_rfl
@[simp] theorem kk111 : kP Try.prog 111 = some (.st) := by kernel_rfl
@[simp] theorem ze111 : zeroP Try.prog 111 = some (.agg ([.int .u32 0, .int .i32 0, .int .u32 0])) := by kernel_rfl
@[simp] theorem ag111 : aggP Try.prog 111 = true := by kernel_rfl
@[simp] theorem ap111 : appTy Try.prog 111 = false := by kernel_rfl
@[simp] theorem iu111 : isU8 Try.prog 111 = false := by kernel_rfl
@[simp] theorem se111 : selfTy Try.prog 111 = false := by kernel_rfl
@[simp] theorem fl111_1 : fldP Try.prog 111 1 = some (0, 105) := by kernel_rfl
@[simp] theorem fl111_2 : fldP Try.prog 111 2 = some (1, 109) := by kernel_rfl
@[simp] theorem pl111 : placeP Try.prog 111 = some (.inl [(0, 0), (0, 1), (1, 2)]) := by kernel_rfl
@[simp] theorem sz112 : szP Try.prog 112 = some 256 := by kernel_rfl
@[simp] theorem by112 : byP Try.prog 112 = some 256 := by kernel_rfl
@[simp] theorem kk112 : kP Try.prog 112 = some (.arr 256 5) := by kernel_rfl
@[simp] theorem ze112 : zeroP Try.prog 112 = some (.agg (List.replicate 256 (.int .u8 0))) := by kernel_rfl
@[simp] theorem ar112 : kArr Try.prog 112 = some (256, 5) := by kernel_rfl
@[simp] theorem pl112 : placeP Try.prog 112 = some (.inr 1) := by kernel_rfl
@[simp] theorem ag112 : aggP Try.prog 112 = true := by kernel_rfl
@[simp] theorem ap112 : appTy Try.prog 112 = false := by kernel_rfl
@[simp] theorem iu112 : isU8 Try.prog 112 = false := by kernel_rfl
@[simp] theorem se112 : selfTy Try.prog 112 = false := by kernel_rfl
@[simp] theorem ft112 : flatL Try.prog 20 112 = some (List.replicate 256 (.i)) := by kernel_rfl
@[simp] theorem eg112 : Try.prog.eqGuardType Try.prog.depth 112 = false := by kernel_rfl
@[simp] theorem sz113 : szP Try.prog 113 = some 4096 := by kernel_rfl
@[simp] theorem by113 : byP Try.prog 113 = some 4096 := by kernel_rfl
@[simp] theorem kk113 : kP Try.prog 113 = some (.arr 16 112) := by kernel_rfl
@[simp] theorem ze113 : zeroP Try.prog 113 = some (.agg (List.replicate 4096 (.int .u8 0))) := by
  apply zeroP_of (i := Try.t113) (by kernel_rfl) (Eq.refl Try.t113.zero)
  case hl =>
    repeat' with_reducible apply ofCells_app
    all_goals first | (show ofCells _ = some (List.replicate 64 (.int .u8 0)); rfl)
  case hok =>
    repeat' with_reducible apply all_app
    all_goals first | exact all_rep _ _ rfl | rfl
  case heq => simp only [List.append_assoc, rep_rep, List.replicate_append_replicate, Nat.reduceAdd]
@[simp] theorem ar113 : kArr Try.prog 113 = some (16, 112) := by kernel_rfl
@[simp] theorem pl113 : placeP Try.prog 113 = some (.inr 256) := by kernel_rfl
@[simp] theorem ag113 : aggP Try.prog 113 = true := by kernel_rfl
@[simp] theorem ap113 : appTy Try.prog 113 = false := by kernel_rfl
@[simp] theorem iu113 : isU8 Try.prog 113 = false := by kernel_rfl
@[simp] theorem se113 : selfTy Try.prog 113 = false := by kernel_rfl
@[simp] theorem sz114 : szP Try.prog 114 = some 1 := by kernel_rfl
@[simp] theorem by114 : byP Try.prog 114 = some 24 := by kernel_rfl
@[simp] theorem kk114 : kP Try.prog 114 = some (.sl 90) := by kernel_rfl
@[simp] theorem ze114 : zeroP Try.prog 114 = some (.nilsl) := by kernel_rfl
@[simp] theorem sl114 : kSl Try.prog 114 = some 90 := by kernel_rfl
@[simp] theorem ag114 : aggP Try.prog 114 = false := by kernel_rfl
@[simp] theorem ap114 : appTy Try.prog 114 = true := by kernel_rfl
@[simp] theorem iu114 : isU8 Try.prog 114 = false := by kernel_rfl
@[simp] theorem se114 : selfTy Try.prog 114 = false := by kernel_rfl
@[simp] theorem sz116 : szP Try.prog 116 = some 4613 := by kernel_rfl
@[simp] theorem by116 : byP Try.prog 116 = some 4664 := by kernel_rfl
@[simp] theorem kk116 : kP Try.prog 116 = some (.st) := by kernel_rfl
@[simp] theorem ze116 : zeroP Try.prog 116 = some (.agg ([.str [], .int .u32 0, .int .i32 0, .int .u32 0] ++ List.replicate 4608 (.int .u8 0) ++ [.nilsl])) := by
  apply zeroP_of (i := Try.t116) (by kernel_rfl) (Eq.refl Try.t116.zero)
  case hl =>
    repeat' with_reducible apply ofCells_app
    all_goals first | (show ofCells _ = some (List.replicate 36 (.int .u8 0)); rfl) | (show ofCells _ = some ([.str [], .int .u32 0, .int .i32 0, .int .u32 0] ++ List.replicate 32 (.int .u8 0)); rfl) | (show ofCells _ = some (List.replicate 35 (.int .u8 0) ++ [.nilsl]); rfl) | (show ofCells _ = some (List.replicate 37 (.int .u8 0)); rfl) | (show ofCells _ = some ([.str [], .int .u32 0, .int .i32 0, .int .u32 0] ++ List.replicate 33 (.int .u8 0)); rfl) | (show ofCells _ = some (List.replicate 36 (.int .u8 0) ++ [.nilsl]); rfl)
  case hok =>
    repeat' with_reducible apply all_app
    all_goals first | exact all_rep _ _ rfl | rfl
  case heq => simp only [List.append_assoc, rep_rep, List.replicate_append_replicate, Nat.reduceAdd]
@[simp] theorem ag116 : aggP Try.prog 116 = true := by kernel_rfl
@[simp] theorem ap116 : appTy Try.prog 116 = false := by kernel_rfl
@[simp] theorem iu116 : isU8 Try.prog 116 = false := by kernel_rfl
@[simp] theorem se116 : selfTy Try.prog 116 = false := by kernel_rfl
@[simp] theorem fl116_0 : fldP Try.prog 116 0 = some (0, 9) := by kernel_rfl
@[simp] theorem fl116_1 : fldP Try.prog 116 1 = some (1, 111) := by kernel_rfl
@[simp] theorem fl116_2 : fldP Try.prog 116 2 = some (4, 112) := by kernel_rfl
@[simp] theorem fl116_3 : fldP Try.prog 116 3 = some (260, 112) := by kernel_rfl
@[simp] theorem fl116_4 : fldP Try.prog 116 4 = some (516, 113) := by kernel_rfl
@[simp] theorem fl116_5 : fldP Try.prog 116 5 = some (4612, 114) := by kernel_rfl
@[simp] theorem pl116 : placeP Try.prog 116 = some (.inl [(0, 1), (1, 3), (4, 256), (260, 256), (516, 4096), (4612, 1)]) := by kernel_rfl
@[simp] theorem sz122 : szP Try.prog 122 = some 1 := by kernel_rfl
@[simp] theorem by122 : byP Try.prog 122 = some 8 := by kernel_rfl
@[simp] theorem kk122 : kP Try.prog 122 = some (.ptr 112) := by kernel_rfl
@[simp] theorem ze122 : zeroP Try.prog 122 = some (.nilptr) := by kernel_rfl
@[simp] theorem ag122 : aggP Try.prog 122 = false := by kernel_rfl
@[simp] theorem ap122 : appTy Try.prog 122 = false := by kernel_rfl
@[simp] theorem iu122 : isU8 Try.prog 122 = false := by kernel_rfl
@[simp] theorem se122 : selfTy Try.prog 122 = false := by kernel_rfl
@[simp] theorem sz124 : szP Try.prog 124 = some 1 := by kernel_rfl
@[simp] theorem by124 : byP Try.prog 124 = some 8 := by kernel_rfl
@[simp] theorem kk124 : kP Try.prog 124 = some (.ptr 90) := by kernel_rfl
@[simp] theorem ze124 : zeroP Try.prog 124 = some (.nilptr) := by kernel_rfl
@[simp] theorem ag124 : aggP Try.prog 124 = false := by kernel_rfl
@[simp] theorem ap124 : appTy Try.prog 124 = false := by kernel_rfl
@[simp] theorem iu124 : isU8 Try.prog 124 = false := by kernel_rfl
@[simp] theorem se124 : selfTy Try.prog 124 = false := by kernel_rfl
@[simp] theorem sz125 : szP Try.prog 125 = some 4 := by kernel_rfl
@[simp] theorem by125 : byP Try.prog 125 = some 4 := by kernel_rfl
@[simp] theorem kk125 : kP Try.prog 125 = some (.arr 4 5) := by kernel_rfl
@[simp] theorem ze125 : zeroP Try.prog 125 = some (.agg ([.int .u8 0, .int .u8 0, .int .u8 0, .int .u8 0])) := by kernel_rfl
@[simp] theorem ar125 : kArr Try.prog 125 = some (4, 5) := by kernel_rfl
@[simp] theorem pl125 : placeP Try.prog 125 = some (.inr 1) := by kernel_rfl
@[simp] theorem ag125 : aggP Try.prog 125 = true := by kernel_rfl
@[simp] theorem ap125 : appTy Try.prog 125 = false := by kernel_rfl
@[simp] theorem iu125 : isU8 Try.prog 125 = false := by kernel_rfl
@[simp] theorem se125 : selfTy Try.prog 125 = false := by kernel_rfl
@[simp] theorem ft125 : flatL Try.prog 20 125 = some ([.i, .i, .i, .i]) := by kernel_rfl
@[simp] theorem eg125 : Try.prog.eqGuardType Try.prog.depth 125 = false := by kernel_rfl
@[simp] theorem sz135 : szP Try.prog 135 = some 1 := by kernel_rfl
@[simp] theorem by135 : byP Try.prog 135 = some 24 := by kernel_rfl
@[simp] theorem kk135 : kP Try.prog 135 = some (.sl 125) := by kernel_rfl
@[simp] theorem ze135 : zeroP Try.prog 135 = some (.nilsl) := by kernel_rfl
@[simp] theorem sl135 : kSl Try.prog 135 = some 125 := by kernel_rfl
@[simp] theorem ag135 : aggP Try.prog 135 = false := by kernel_rfl
@[simp] theorem ap135 : appTy Try.prog 135 = true := by kernel_rfl
@[simp] theorem iu135 : isU8 Try.prog 135 = false := by kernel_rfl
@[simp] theorem se135 : selfTy Try.prog 135 = false := by kernel_rfl
@[simp] theorem sz150 : szP Try.prog 150 = some 1 := by kernel_rfl
@[simp] theorem by150 : byP Try.prog 150 = some 24 := by kernel_rfl
@[simp] theorem kk150 : kP Try.prog 150 = some (.sl 36) := by kernel_rfl
@[simp] theorem ze150 : zeroP Try.prog 150 = some (.nilsl) := by kernel_rfl
@[simp] theorem sl150 : kSl Try.prog 150 = some 36 := by kernel_rfl
@[simp] theorem ag150 : aggP Try.prog 150 = false := by kernel_rfl
@[simp] theorem ap150 : appTy Try.prog 150 = true := by kernel_rfl
@[simp] theorem iu150 : isU8 Try.prog 150 = false := by kernel_rfl
@[simp] theorem se150 : selfTy Try.prog 150 = false := by kernel_rfl
attribute [simp] Try.underlying1
attribute [simp] Try.underlying2
attribute [simp] Try.underlying3
attribute [simp] Try.underlying4
attribute [simp] Try.underlying5
attribute [simp] Try.underlying6
attribute [simp] Try.underlying7
attribute [simp] Try.underlying8
attribute [simp] Try.underlying9
attribute [simp] Try.underlying10
attribute [simp] Try.underlying11
attribute [simp] Try.underlying12
attribute [simp] Try.underlying13
attribute [simp] Try.underlying14
attribute [simp] Try.underlying15
attribute [simp] Try.underlying16
attribute [simp] Try.underlying17
attribute [simp] Try.underlying18
attribute [simp] Try.underlying19
attribute [simp] Try.underlying21
attribute [simp] Try.underlying22
attribute [simp] Try.underlying23
attribute [simp] Try.underlying24
attribute [simp] Try.underlying26
attribute [simp] Try.underlying28
attribute [simp] Try.underlying29
attribute [simp] Try.underlying30
attribute [simp] Try.underlying31
attribute [simp] Try.underlying32
attribute [simp] Try.underlying33
attribute [simp] Try.underlying34
attribute [simp] Try.underlying35
attribute [simp] Try.underlying36
attribute [simp] Try.underlying37
attribute [simp] Try.underlying38
attribute [simp] Try.underlying39
attribute [simp] Try.underlying40
attribute [simp] Try.underlying41
attribute [simp] Try.underlying42
attribute [simp] Try.underlying43
attribute [simp] Try.underlying44
attribute [simp] Try.underlying45
attribute [simp] Try.underlying46
attribute [simp] Try.underlying47
attribute [simp] Try.underlying48
attribute [simp] Try.underlying49
attribute [simp] Try.underlying50
attribute [simp] Try.underlying51
attribute [simp] Try.underlying52
attribute [simp] Try.underlying53
attribute [simp] Try.underlying54
attribute [simp] Try.underlying55
attribute [simp] Try.underlying57
attribute [simp] Try.underlying58
attribute [simp] Try.underlying59
attribute [simp] Try.underlying60
attribute [simp] Try.underlying61
attribute [simp] Try.underlying62
attribute [simp] Try.underlying63
attribute [simp] Try.underlying65
attribute [simp] Try.underlying66
attribute [simp] Try.underlying67
attribute [simp] Try.underlying68
attribute [simp] Try.underlying69
attribute [simp] Try.underlying70
attribute [simp] Try.underlying71
attribute [simp] Try.underlying72
attribute [simp] Try.underlying73
attribute [simp] Try.underlying75
attribute [simp] Try.underlying77
attribute [simp] Try.underlying78
attribute [simp] Try.underlying79
attribute [simp] Try.underlying80
attribute [simp] Try.underlying81
attribute [simp] Try.underlying85
attribute [simp] Try.underlying86
attribute [simp] Try.underlying87
attribute [simp] Try.underlying89
attribute [simp] Try.underlying90
attribute [simp] Try.underlying91
attribute [simp] Try.underlying92
attribute [simp] Try.underlying93
attribute [simp] Try.underlying94
attribute [simp] Try.underlying95
attribute [simp] Try.underlying97
attribute [simp] Try.underlying99
attribute [simp] Try.underlying100
attribute [simp] Try.underlying101
attribute [simp] Try.underlying102
attribute [simp] Try.underlying103
attribute [simp] Try.underlying104
attribute [simp] Try.underlying105
attribute [simp] Try.underlying106
attribute [simp] Try.underlying107
attribute [simp] Try.underlying108
attribute [simp] Try.underlying109
attribute [simp] Try.underlying110
attribute [simp] Try.underlying111
attribute [simp] Try.underlying112
attribute [simp] Try.underlying113
attribute [simp] Try.underlying114
attribute [simp] Try.underlying115
attribute [simp] Try.underlying116
attribute [simp] Try.underlying117
attribute [simp] Try.underlying118
attribute [simp] Try.underlying119
attribute [simp] Try.underlying120
attribute [simp] Try.underlying121
attribute [simp] Try.underlying122
attribute [simp] Try.underlying123
attribute [simp] Try.underlying124
attribute [simp] Try.underlying125
attribute [simp] Try.underlying126
attribute [simp] Try.underlying128
attribute [simp] Try.underlying129
attribute [simp] Try.underlying130
attribute [simp] Try.underlying131
attribute [simp] Try.underlying132
attribute [simp] Try.underlying133
attribute [simp] Try.underlying134
attribute [simp] Try.underlying135
attribute [simp] Try.underlying136
attribute [simp] Try.underlying137
attribute [simp] Try.underlying138
attribute [simp] Try.underlying139
attribute [simp] Try.underlying140
attribute [simp] Try.underlying141
attribute [simp] Try.underlying142
attribute [simp] Try.underlying143
attribute [simp] Try.underlying144
attribute [simp] Try.underlying145
attribute [simp] Try.underlying146
attribute [simp] Try.underlying147
attribute [simp] Try.underlying148
attribute [simp] Try.underlying149
attribute [simp] Try.underlying150
attribute [simp] Try.underlying151
attribute [simp] Try.underlying152
attribute [simp] Try.underlying153
attribute [simp] Try.underlying154
attribute [simp] Try.underlying155
attribute [simp] Try.underlying156
attribute [simp] Try.underlying157
attribute [simp] Try.underlying158
attribute [simp] Try.underlying159
attribute [simp] Try.underlying160
attribute [simp] Try.underlying161
attribute [simp] Try.underlying162
attribute [simp] Try.underlying163
attribute [simp] Try.underlying164
attribute [simp] Try.underlying165
attribute [simp] Try.underlying166
attribute [simp] Try.underlying167
attribute [simp] Try.underlying168
attribute [simp] Try.underlying169
attribute [simp] Try.underlying170
attribute [simp] Try.underlying171
attribute [simp] Try.underlying172
attribute [simp] Try.underlying173
attribute [simp] Try.underlying174
attribute [simp] Try.underlying175
attribute [simp] Try.underlying176
end Pv.Try

namespace Pv
open Go Go.RowKit
variable {X : Ctx} {G : Ghost} {ph : PH} {w : World} {ρ : Option Nat} {n0 : Nat} {Q : Exit → PSt → PH → Prop}

/-- All that was there before is as it was. -/
structure Keeps (base ph : PH) : Prop where
  n : base.n ≤ ph.n
  bl : ∀ p, p < base.n → ph.get p = base.get p
  ob : ∀ r o, base.ob r = some o → ph.ob r = some o
  ty : ∀ p, p < base.n → ph.ty p = base.ty p
  gr : ∀ p, p < base.n → ph.gro p = base.gro p

theorem Keeps.refl (ph : PH) : Keeps ph ph := ⟨Nat.le_refl _, fun _ _ => rfl, fun _ _ h => h, fun _ _ => rfl, fun _ _ => rfl⟩
theorem Keeps.trans {a b c : PH} (h : Keeps a b) (k : Keeps b c) : Keeps a c :=
  ⟨Nat.le_trans h.n k.n, fun p hp => (k.bl p (Nat.lt_of_lt_of_le hp h.n)).trans (h.bl p hp), fun r o e => k.ob r o (h.ob r o e), fun p hp => (k.ty p (Nat.lt_of_lt_of_le hp h.n)).trans (h.ty p hp), fun p hp => (k.gr p (Nat.lt_of_lt_of_le hp h.n)).trans (h.gr p hp)⟩
theorem Keeps.push {a b : PH} (h : Keeps a b) (c : List PV) : Keeps a (b.push c) :=
  ⟨by have := h.n; simp; omega, fun p hp => by rw [PH.get_push, if_neg (by have := h.n; omega)]; exact h.bl p hp, h.ob, h.ty, fun p hp => by rw [PH.gro_push]; exact h.gr p hp⟩
theorem Keeps.put {a b : PH} (h : Keeps a b) {p : Nat} (hp : a.n ≤ p) (hl : p < b.n) (c : List PV) : Keeps a (b.put p c) :=
  ⟨by have := h.n; simp; omega, fun q hq => by rw [PH.get_put hl, if_neg (by omega)]; exact h.bl q hq, h.ob, h.ty, fun q hq => by rw [PH.gro_put, if_neg (by omega)]; exact h.gr q hq⟩
theorem Keeps.kill {a b : PH} (h : Keeps a b) {p : Nat} (hp : a.n ≤ p) : Keeps a (b.kill p) :=
  ⟨by have := h.n; simp; omega, fun q hq => by rw [PH.get_kill, if_neg (by omega)]; exact h.bl q hq, h.ob, h.ty, fun q hq => by rw [PH.gro_kill, if_neg (by omega)]; exact h.gr q hq⟩
theorem Keeps.tell {a b : PH} (h : Keeps a b) {p : Nat} (hp : a.n ≤ p) (e : TypeId) : Keeps a (b.setTy p e) :=
  ⟨h.n, h.bl, h.ob, fun q hq => by simp only [PH.setTy]; rw [if_neg (by omega)]; exact h.ty q hq, h.gr⟩

theorem Keeps.cut_eq {base ph : PH} (h : Keeps base ph) (hb : ∀ p e, base.ty p = some e → p < base.n) : ph.cut base.n base.ob = base := by
  unfold PH.cut
  have : ph.bl.take base.n = base.bl := by
    have hn : base.bl.length ≤ ph.bl.length := h.n
    apply List.ext_getElem?
    intro i
    rw [List.getElem?_take]
    split
    · rename_i hi
      have hi' : i < base.bl.length := hi
      have h1 := h.bl i hi
      have h2 := h.gr i hi
      simp only [PH.get, PH.gro, List.getElem?_eq_getElem hi', List.getElem?_eq_getElem (show i < ph.bl.length by omega), Option.join_some] at h1 h2
      rw [List.getElem?_eq_getElem hi', List.getElem?_eq_getElem (show i < ph.bl.length by omega)]
      congr 1
      revert h1 h2
      cases ph.bl[i] with
      | none => cases base.bl[i] with
        | none => intros; rfl
        | some b => cases b <;> simp [Blk.cells, Blk.gro]
      | some a => cases base.bl[i] with
        | none => cases a <;> simp [Blk.cells, Blk.gro]
        | some b => cases a <;> cases b <;> simp [Blk.cells, Blk.gro]
    · rename_i hi
      have hi' : base.bl.length ≤ i := Nat.le_of_not_lt hi
      rw [List.getElem?_eq_none hi']
  have ht : (fun p => if p < base.n then ph.ty p else none) = base.ty := by
    funext p
    split
    · rename_i hp; exact h.ty p hp
    · rename_i hp
      cases e : base.ty p with
      | none => rfl
      | some t => exact absurd (hb p t e) hp
  rw [this, ht]

/-- What stands there names nothing that isn't there. -/
def Shut (base : PH) : Prop := (∀ p c, base.get p = some c → Scs base.n c) ∧ (∀ r o, base.ob r = some o → ObSc base.n o)

theorem Rel.shuts (h : Rel X G ph w) : Shut ph := by
  refine ⟨fun p c hp => ?_, fun r o ho => ?_⟩
  · obtain ⟨L, vals, cs, e, fz, hL, o⟩ := h.own p c hp
    have := o.rv.scs; rw [h.lenN] at this; exact this
  · obtain ⟨_, h2⟩ := h.ob r o ho
    cases o with
    | loop l => obtain ⟨rt, q, _⟩ := h2; have := q.scs; rw [h.lenN] at this; exact this
    | defd => trivial

/-- A function of its arguments alone. -/
def Fn (X : Ctx) (f : FuncId) (args : List PV) (v : PV) : Prop := ∀ ph, PCalls X f args ph fun v' ph' => ph' = ph ∧ v' = v

theorem w_pure {f : FuncId} {args : List PV} {v : PV} {K : PV → PH → Prop} (h : Fn X f args v) (k : K v ph) : PCalls X f args ph K :=
  (h ph).mono (by rintro v' ph' ⟨rfl, rfl⟩; exact k)

theorem frz_scalar {ph : PH} {n d : Nat} {p : PV} (h : (match p with | .undef | .bool _ | .int _ _ | .str _ | .nilptr | .nilsl | .zsl | .nilfunc | .nilif | .yield _ => true | _ => false) = true) : frz ph n (d + 1) p = some p := by
  unfold frz
  cases p <;> simp_all

/-- Cells without blocks. -/
def scalarV : PV → Bool
  | .undef | .bool _ | .int _ _ | .str _ | .nilptr | .nilsl | .zsl | .nilfunc | .nilif | .yield _ => true
  | _ => false

theorem frzs_scalars {ph : PH} {n d : Nat} : ∀ {ps : List PV}, ps.all scalarV = true → frzs ph n (d + 1) ps = some ps
  | [], _ => by unfold frzs; rfl
  | p :: ps, h => by
    simp only [List.all_cons, Bool.and_eq_true] at h
    unfold frzs
    rw [frz_scalar (by have := h.1; unfold scalarV at this; exact this), frzs_scalars h.2]

theorem frz_agg {ph : PH} {n d : Nat} {ps qs : List PV} (h : frzs ph n d ps = some qs) : frz ph n (d + 1) (.agg ps) = some (.agg qs) := by unfold frz; simp only [h, Option.map_some]
theorem frz_tuple {ph : PH} {n d : Nat} {ps qs : List PV} (h : frzs ph n d ps = some qs) : frz ph n (d + 1) (.tuple ps) = some (.tuple qs) := by unfold frz; simp only [h, Option.map_some]
theorem frz_fsl {ph : PH} {n d e l : Nat} {ps qs : List PV} (h : frzs ph n d ps = some qs) : frz ph n (d + 1) (.fsl e l ps) = some (.fsl e l qs) := by unfold frz; simp only [h, Option.map_some]
theorem frz_sl {ph : PH} {n d p off e l : Nat} {cap : Option Nat} {cells qs : List PV} (hn : n ≤ p) (hp : ph.get p = some cells) (hl : off + l * e ≤ cells.length) (h : frzs ph n d (seg cells off (l * e)) = some qs) : frz ph n (d + 1) (.sl p off e l cap) = some (.fsl e l qs) := by
  unfold frz
  simp only [if_neg (show ¬ p < n by omega), hp, if_pos hl, h, Option.map_some]
theorem frzs_nil {ph : PH} {n d : Nat} : frzs ph n d [] = some [] := by unfold frzs; rfl
theorem frzs_cons {ph : PH} {n d : Nat} {p q : PV} {ps qs : List PV} (h : frz ph n d p = some q) (hs : frzs ph n d ps = some qs) : frzs ph n d (p :: ps) = some (q :: qs) := by unfold frzs; rw [h, hs]

end Pv
