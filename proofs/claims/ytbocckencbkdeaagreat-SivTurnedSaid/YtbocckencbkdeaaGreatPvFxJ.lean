/- Part of the proof: the layer of pure values, or walks through functions (PvFxJ, PvPure). -/
import Derived.Test.YtbocckencbkdeaaGreatProg
import Derived.Test.YtbocckencbkdeaaGreatPvFun
import Derived.KernelRfl
set_option linter.all false
namespace Pv.Tryz
open Go Go.Proofs
@[simp] theorem sz1 : szP Tryz.prog 1 = some 1 := by kernel_rfl
@[simp] theorem by1 : byP Tryz.prog 1 = some 8 := by kernel_rfl
@[simp] theorem kk1 : kP Tryz.prog 1 = some (.fn) := by kernel_rfl
@[simp] theorem ze1 : zeroP Tryz.prog 1 = some (.nilfunc) := by kernel_rfl
@[simp] theorem ag1 : aggP Tryz.prog 1 = false := by kernel_rfl
@[simp] theorem ap1 : appTy Tryz.prog 1 = false := by kernel_rfl
@[simp] theorem iu1 : isU8 Tryz.prog 1 = false := by kernel_rfl
@[simp] theorem se1 : selfTy Tryz.prog 1 = false := by kernel_rfl
@[simp] theorem sz3 : szP Tryz.prog 3 = some 1 := by kernel_rfl
@[simp] theorem by3 : byP Tryz.prog 3 = some 8 := by kernel_rfl
@[simp] theorem kk3 : kP Tryz.prog 3 = some (.int .i64) := by kernel_rfl
@[simp] theorem ze3 : zeroP Tryz.prog 3 = some (.int .i64 0) := by kernel_rfl
@[simp] theorem ag3 : aggP Tryz.prog 3 = false := by kernel_rfl
@[simp] theorem ap3 : appTy Tryz.prog 3 = false := by kernel_rfl
@[simp] theorem iu3 : isU8 Tryz.prog 3 = false := by kernel_rfl
@[simp] theorem se3 : selfTy Tryz.prog 3 = false := by kernel_rfl
@[simp] theorem sz4 : szP Tryz.prog 4 = some 1 := by kernel_rfl
@[simp] theorem by4 : byP Tryz.prog 4 = some 1 := by kernel_rfl
@[simp] theorem kk4 : kP Tryz.prog 4 = some (.bool) := by kernel_rfl
@[simp] theorem ze4 : zeroP Tryz.prog 4 = some (.bool false) := by kernel_rfl
@[simp] theorem ag4 : aggP Tryz.prog 4 = false := by kernel_rfl
@[simp] theorem ap4 : appTy Tryz.prog 4 = false := by kernel_rfl
@[simp] theorem iu4 : isU8 Tryz.prog 4 = false := by kernel_rfl
@[simp] theorem se4 : selfTy Tryz.prog 4 = false := by kernel_rfl
@[simp] theorem sz5 : szP Tryz.prog 5 = some 1 := by kernel_rfl
@[simp] theorem by5 : byP Tryz.prog 5 = some 1 := by kernel_rfl
@[simp] theorem kk5 : kP Tryz.prog 5 = some (.int .u8) := by kernel_rfl
@[simp] theorem ze5 : zeroP Tryz.prog 5 = some (.int .u8 0) := by kernel_rfl
@[simp] theorem ag5 : aggP Tryz.prog 5 = false := by kernel_rfl
@[simp] theorem ap5 : appTy Tryz.prog 5 = false := by kernel_rfl
@[simp] theorem iu5 : isU8 Tryz.prog 5 = true := by kernel_rfl
@[simp] theorem se5 : selfTy Tryz.prog 5 = false := by kernel_rfl
@[simp] theorem sz9 : szP Tryz.prog 9 = some 1 := by kernel_rfl
@[simp] theorem by9 : byP Tryz.prog 9 = some 16 := by kernel_rfl
@[simp] theorem kk9 : kP Tryz.prog 9 = some (.str) := by kernel_rfl
@[simp] theorem ze9 : zeroP Tryz.prog 9 = some (.str []) := by kernel_rfl
@[simp] theorem ag9 : aggP Tryz.prog 9 = false := by kernel_rfl
@[simp] theorem ap9 : appTy Tryz.prog 9 = true := by kernel_rfl
@[simp] theorem iu9 : isU8 Tryz.prog 9 = false := by kernel_rfl
@[simp] theorem se9 : selfTy Tryz.prog 9 = false := by kernel_rfl
@[simp] theorem sz21 : szP Tryz.prog 21 = some 1 := by kernel_rfl
@[simp] theorem by21 : byP Tryz.prog 21 = some 4 := by kernel_rfl
@[simp] theorem kk21 : kP Tryz.prog 21 = some (.int .i32) := by kernel_rfl
@[simp] theorem ze21 : zeroP Tryz.prog 21 = some (.int .i32 0) := by kernel_rfl
@[simp] theorem ag21 : aggP Tryz.prog 21 = false := by kernel_rfl
@[simp] theorem ap21 : appTy Tryz.prog 21 = false := by kernel_rfl
@[simp] theorem iu21 : isU8 Tryz.prog 21 = false := by kernel_rfl
@[simp] theorem se21 : selfTy Tryz.prog 21 = false := by kernel_rfl
@[simp] theorem sz24 : szP Tryz.prog 24 = some 1 := by kernel_rfl
@[simp] theorem by24 : byP Tryz.prog 24 = some 8 := by kernel_rfl
@[simp] theorem kk24 : kP Tryz.prog 24 = some (.int .i64) := by kernel_rfl
@[simp] theorem ze24 : zeroP Tryz.prog 24 = some (.int .i64 0) := by kernel_rfl
@[simp] theorem ag24 : aggP Tryz.prog 24 = false := by kernel_rfl
@[simp] theorem ap24 : appTy Tryz.prog 24 = false := by kernel_rfl
@[simp] theorem iu24 : isU8 Tryz.prog 24 = false := by kernel_rfl
@[simp] theorem se24 : selfTy Tryz.prog 24 = false := by kernel_rfl
@[simp] theorem sz30 : szP Tryz.prog 30 = some 1 := by kernel_rfl
@[simp] theorem by30 : byP Tryz.prog 30 = some 24 := by kernel_rfl
@[simp] theorem kk30 : kP Tryz.prog 30 = some (.sl 5) := by kernel_rfl
@[simp] theorem ze30 : zeroP Tryz.prog 30 = some (.nilsl) := by kernel_rfl
@[simp] theorem sl30 : kSl Tryz.prog 30 = some 5 := by kernel_rfl
@[simp] theorem ag30 : aggP Tryz.prog 30 = false := by kernel_rfl
@[simp] theorem ap30 : appTy Tryz.prog 30 = true := by kernel_rfl
@[simp] theorem iu30 : isU8 Tryz.prog 30 = false := by kernel_rfl
@[simp] theorem se30 : selfTy Tryz.prog 30 = false := by kernel_rfl
@[simp] theorem sz31 : szP Tryz.prog 31 = some 1 := by kernel_rfl
@[simp] theorem by31 : byP Tryz.prog 31 = some 8 := by kernel_rfl
@[simp] theorem kk31 : kP Tryz.prog 31 = some (.int .u64) := by kernel_rfl
@[simp] theorem ze31 : zeroP Tryz.prog 31 = some (.int .u64 0) := by kernel_rfl
@[simp] theorem ag31 : aggP Tryz.prog 31 = false := by kernel_rfl
@[simp] theorem ap31 : appTy Tryz.prog 31 = false := by kernel_rfl
@[simp] theorem iu31 : isU8 Tryz.prog 31 = false := by kernel_rfl
@[simp] theorem se31 : selfTy Tryz.prog 31 = false := by kernel_rfl
@[simp] theorem sz33 : szP Tryz.prog 33 = some 1 := by kernel_rfl
@[simp] theorem by33 : byP Tryz.prog 33 = some 24 := by kernel_rfl
@[simp] theorem kk33 : kP Tryz.prog 33 = some (.sl 9) := by kernel_rfl
@[simp] theorem ze33 : zeroP Tryz.prog 33 = some (.nilsl) := by kernel_rfl
@[simp] theorem sl33 : kSl Tryz.prog 33 = some 9 := by kernel_rfl
@[simp] theorem ag33 : aggP Tryz.prog 33 = false := by kernel_rfl
@[simp] theorem ap33 : appTy Tryz.prog 33 = true := by kernel_rfl
@[simp] theorem iu33 : isU8 Tryz.prog 33 = false := by kernel_rfl
@[simp] theorem se33 : selfTy Tryz.prog 33 = false := by kernel_rfl
@[simp] theorem sz56 : szP Tryz.prog 56 = some 3 := by kernel_rfl
@[simp] theorem by56 : byP Tryz.prog 56 = some 48 := by kernel_rfl
@[simp] theorem kk56 : kP Tryz.prog 56 = some (.st) := by kernel_rfl
@[simp] theorem ze56 : zeroP Tryz.prog 56 = some (.agg ([.str [], .str [], .str []])) := by kernel_rfl
@[simp] theorem ag56 : aggP Tryz.prog 56 = true := by kernel_rfl
@[simp] theorem ap56 : appTy Tryz.prog 56 = false := by kernel_rfl
@[simp] theorem iu56 : isU8 Tryz.prog 56 = false := by kernel_rfl
@[simp] theorem se56 : selfTy Tryz.prog 56 = false := by kernel_rfl
@[simp] theorem fl56_0 : fldP Tryz.prog 56 0 = some (0, 9) := by kernel_rfl
@[simp] theorem fl56_1 : fldP Tryz.prog 56 1 = some (1, 9) := by kernel_rfl
@[simp] theorem fl56_2 : fldP Tryz.prog 56 2 = some (2, 9) := by kernel_rfl
@[simp] theorem pl56 : placeP Tryz.prog 56 = some (.inl [(0, 1), (1, 1), (2, 1)]) := by kernel_rfl
@[simp] theorem ft56 : flatL Tryz.prog 20 56 = some ([.s, .s, .s]) := by kernel_rfl
@[simp] theorem eg56 : Tryz.prog.eqGuardType Tryz.prog.depth 56 = false := by kernel_rfl
@[simp] theorem sz82 : szP Tryz.prog 82 = some 1 := by kernel_rfl
@[simp] theorem by82 : byP Tryz.prog 82 = some 8 := by kernel_rfl
@[simp] theorem kk82 : kP Tryz.prog 82 = some (.ptr 129) := by kernel_rfl
@[simp] theorem ze82 : zeroP Tryz.prog 82 = some (.nilptr) := by kernel_rfl
@[simp] theorem ag82 : aggP Tryz.prog 82 = false := by kernel_rfl
@[simp] theorem ap82 : appTy Tryz.prog 82 = false := by kernel_rfl
@[simp] theorem iu82 : isU8 Tryz.prog 82 = false := by kernel_rfl
@[simp] theorem se82 : selfTy Tryz.prog 82 = false := by kernel_rfl
@[simp] theorem sz86 : szP Tryz.prog 86 = some 16 := by kernel_rfl
@[simp] theorem by86 : byP Tryz.prog 86 = some 16 := by kernel_rfl
@[simp] theorem kk86 : kP Tryz.prog 86 = some (.arr 16 5) := by kernel_rfl
@[simp] theorem ze86 : zeroP Tryz.prog 86 = some (.agg ([.int .u8 0, .int .u8 0, .int .u8 0, .int .u8 0, .int .u8 0, .int .u8 0, .int .u8 0, .int .u8 0, .int .u8 0, .int .u8 0, .int .u8 0, .int .u8 0, .int .u8 0, .int .u8 0, .int .u8 0, .int .u8 0])) := by kernel_rfl
@[simp] theorem ar86 : kArr Tryz.prog 86 = some (16, 5) := by kernel_rfl
@[simp] theorem pl86 : placeP Tryz.prog 86 = some (.inr 1) := by kernel_rfl
@[simp] theorem ag86 : aggP Tryz.prog 86 = true := by kernel_rfl
@[simp] theorem ap86 : appTy Tryz.prog 86 = false := by kernel_rfl
@[simp] theorem iu86 : isU8 Tryz.prog 86 = false := by kernel_rfl
@[simp] theorem se86 : selfTy Tryz.prog 86 = false := by kernel_rfl
@[simp] theorem ft86 : flatL Tryz.prog 20 86 = some ([.i, .i, .i, .i, .i, .i, .i, .i, .i, .i, .i, .i, .i, .i, .i, .i]) := by kernel_rfl
@[simp] theorem eg86 : Tryz.prog.eqGuardType Tryz.prog.depth 86 = false := by kernel_rfl
@[simp] theorem sz116 : szP Tryz.prog 116 = some 1 := by kernel_rfl
@[simp] theorem by116 : byP Tryz.prog 116 = some 4 := by kernel_rfl
@[simp] theorem kk116 : kP Tryz.prog 116 = some (.int .u32) := by kernel_rfl
@[simp] theorem ze116 : zeroP Tryz.prog 116 = some (.int .u32 0) := by kernel_rfl
@[simp] theorem ag116 : aggP Tryz.prog 116 = false := by kernel_rfl
@[simp] theorem ap116 : appTy Tryz.prog 116 = false := by kernel_rfl
@[simp] theorem iu116 : isU8 Tryz.prog 116 = false := by kernel_rfl
@[simp] theorem se116 : selfTy Tryz.prog 116 = false := by kernel_rfl
@[simp] theorem sz118 : szP Tryz.prog 118 = some 1 := by kernel_rfl
@[simp] theorem by118 : byP Tryz.prog 118 = some 4 := by kernel_rfl
@[simp] theorem kk118 : kP Tryz.prog 118 = some (.st) := by kernel_rfl
@[simp] theorem ze118 : zeroP Tryz.prog 118 = some (.agg ([.int .u32 0])) := by kernel_rfl
@[simp] theorem ag118 : aggP Tryz.prog 118 = true := by kernel_rfl
@[simp] theorem ap118 : appTy Tryz.prog 118 = false := by kernel_rfl
@[simp] theorem iu118 : isU8 Tryz.prog 118 = false := by kernel_rfl
@[simp] theorem se118 : selfTy Tryz.prog 118 = false := by kernel_rfl
@[simp] theorem fl118_1 : fldP Tryz.prog 118 1 = some (0, 116) := by kernel_rfl
@[simp] theorem pl118 : placeP Tryz.prog 118 = some (.inl [(0, 0), (0, 1)]) := by kernel_rfl
@[simp] theorem sz120 : szP Tryz.prog 120 = some 2 := by kernel_rfl
@[simp] theorem by120 : byP Tryz.prog 120 = some 8 := by kernel_rfl
@[simp] theorem kk120 : kP Tryz.prog 120 = some (.st) := by kernel_rfl
@[simp] theorem ze120 : zeroP Tryz.prog 120 = some (.agg ([.int .i32 0, .int .u32 0])) := by kernel_rfl
@[simp] theorem ag120 : aggP Tryz.prog 120 = true := by kernel_rfl
@[simp] theorem ap120 : appTy Tryz.prog 120 = false := by kernel_rfl
@[simp] theorem iu120 : isU8 Tryz.prog 120 = false := by kernel_rfl
@[simp] theorem se120 : selfTy Tryz.prog 120 = false := by kernel_rfl
@[simp] theorem fl120_0 : fldP Tryz.prog 120 0 = some (0, 21) := by kernel_rfl
@[simp] theorem fl120_1 : fldP Tryz.prog 120 1 = some (1, 116) := by kernel_rfl
@[simp] theorem pl120 : placeP Tryz.prog 120 = some (.inl [(0, 1), (1, 1)]) := by kernel_rfl
@[simp] theorem sz122 : szP Tryz.prog 122 = some 2 := by kernel_rfl
@[simp] theorem by122 : byP Tryz.prog 122 = some 8 := by kernel_rfl
@[simp] theorem kk122 : kP Tryz.prog 122 = some (.st) := by kernel_rfl
@[simp] theorem ze122 : zeroP Tryz.prog 122 = some (.agg ([.int .i32 0, .int .u32 0])) := by kernel_rfl
@[simp] theorem ag122 : aggP Tryz.prog 122 = true := by kernel_rfl
@[simp] theorem ap122 : appTy Tryz.prog 122 = false := by kernel_rfl
@[simp] theorem iu122 : isU8 Tryz.prog 122 = false := by kernel_rfl
@[simp] theorem se122 : selfTy Tryz.prog 122 = false := by kernel_rfl
@[simp] theorem fl122_1 : fldP Tryz.prog 122 1 = some (0, 120) := by kernel_rfl
@[simp] theorem pl122 : placeP Tryz.prog 122 = some (.inl [(0, 0), (0, 2)]) := by kernel_rfl
@[simp] theorem sz124 : szP Tryz.prog 124 = some 3 := by kernel_rfl
@[simp] theorem by124 : byP Tryz.prog 124 = some 12 := by kernel_rfl
@[simp] theorem kk124 : kP Tryz.prog 124 = some (.st) := by kernel_rfl
@[simp] theorem ze124 : zeroP Tryz.prog 124 = some (.agg ([.int .u32 0, .int .i32 0, .int .u32 0])) := by kernel_rfl
@[simp] theorem ag124 : aggP Tryz.prog 124 = true := by kernel_rfl
@[simp] theorem ap124 : appTy Tryz.prog 124 = false := by kernel_rfl
@[simp] theorem iu124 : isU8 Tryz.prog 124 = false := by kernel_rfl
@[simp] theorem se124 : selfTy Tryz.prog 124 = false := by kernel_rfl
@[simp] theorem fl124_1 : fldP Tryz.prog 124 1 = some (0, 118) := by kernel_rfl
@[simp] theorem fl124_2 : fldP Tryz.prog 124 2 = some (1, 122) := by kernel_rfl
@[simp] theorem pl124 : placeP Tryz.prog 124 = some (.inl [(0, 0), (0, 1), (1, 2)]) := by kernel_rfl
@[simp] theorem sz125 : szP Tryz.prog 125 = some 256 := by kernel_rfl
@[simp] theorem by125 : byP Tryz.prog 125 = some 256 := by kernel_rfl
@[simp] theorem kk125 : kP Tryz.prog 125 = some (.arr 256 5) := by kernel_rfl
@[simp] theorem ze125 : zeroP Tryz.prog 125 = some (.agg (List.replicate 256 (.int .u8 0))) := by kernel_rfl
@[simp] theorem ar125 : kArr Tryz.prog 125 = some (256, 5) := by kernel_rfl
@[simp] theorem pl125 : placeP Tryz.prog 125 = some (.inr 1) := by kernel_rfl
@[simp] theorem ag125 : aggP Tryz.prog 125 = true := by kernel_rfl
@[simp] theorem ap125 : appTy Tryz.prog 125 = false := by kernel_rfl
@[simp] theorem iu125 : isU8 Tryz.prog 125 = false := by kernel_rfl
@[simp] theorem se125 : selfTy Tryz.prog 125 = false := by kernel_rfl
@[simp] theorem ft125 : flatL Tryz.prog 20 125 = some (List.replicate 256 (.i)) := by kernel_rfl
@[simp] theorem eg125 : Tryz.prog.eqGuardType Tryz.prog.depth 125 = false := by kernel_rfl
@[simp] theorem sz126 : szP Tryz.prog 126 = some 4096 := by kernel_rfl
@[simp] theorem by126 : byP Tryz.prog 126 = some 4096 := by kernel_rfl
@[simp] theorem kk126 : kP Tryz.prog 126 = some (.arr 16 125) := by kernel_rfl
@[simp] theorem ze126 : zeroP Tryz.prog 126 = some (.agg (List.replicate 4096 (.int .u8 0))) := by
  apply zeroP_of (i := Tryz.t126) (by kernel_rfl) (Eq.refl Tryz.t126.zero)
  case hl =>
    repeat' with_reducible apply ofCells_app
    all_goals first | (show ofCells _ = some (List.replicate 64 (.int .u8 0)); rfl)
  case hok =>
    repeat' with_reducible apply all_app
    all_goals first | exact all_rep _ _ rfl | rfl
  case heq => simp only [List.append_assoc, rep_rep, List.replicate_append_replicate, Nat.reduceAdd]
@[simp] theorem ar126 : kArr Tryz.prog 126 = some (16, 125) := by kernel_rfl
@[simp] theorem pl126 : placeP Tryz.prog 126 = some (.inr 256) := by kernel_rfl
@[simp] theorem ag126 : aggP Tryz.prog 126 = true := by kernel_rfl
@[simp] theorem ap126 : appTy Tryz.prog 126 = false := by kernel_rfl
@[simp] theorem iu126 : isU8 Tryz.prog 126 = false := by kernel_rfl
@[simp] theorem se126 : selfTy Tryz.prog 126 = false := by kernel_rfl
@[simp] theorem sz127 : szP Tryz.prog 127 = some 1 := by kernel_rfl
@[simp] theorem by127 : byP Tryz.prog 127 = some 24 := by kernel_rfl
@[simp] theorem kk127 : kP Tryz.prog 127 = some (.sl 86) := by kernel_rfl
@[simp] theorem ze127 : zeroP Tryz.prog 127 = some (.nilsl) := by kernel_rfl
@[simp] theorem sl127 : kSl Tryz.prog 127 = some 86 := by kernel_rfl
@[simp] theorem ag127 : aggP Tryz.prog 127 = false := by kernel_rfl
@[simp] theorem ap127 : appTy Tryz.prog 127 = true := by kernel_rfl
@[simp] theorem iu127 : isU8 Tryz.prog 127 = false := by kernel_rfl
@[simp] theorem se127 : selfTy Tryz.prog 127 = false := by kernel_rfl
@[simp] theorem sz129 : szP Tryz.prog 129 = some 4613 := by kernel_rfl
@[simp] theorem by129 : byP Tryz.prog 129 = some 4664 := by kernel_rfl
@[simp] theorem kk129 : kP Tryz.prog 129 = some (.st) := by kernel_rfl
@[simp] theorem ze129 : zeroP Tryz.prog 129 = some (.agg ([.str [], .int .u32 0, .int .i32 0, .int .u32 0] ++ List.replicate 4608 (.int .u8 0) ++ [.nilsl])) := by
  apply zeroP_of (i := Tryz.t129) (by kernel_rfl) (Eq.refl Tryz.t129.zero)
  case hl =>
    repeat' with_reducible apply ofCells_app
    all_goals first | (show ofCells _ = some (List.replicate 36 (.int .u8 0)); rfl) | (show ofCells _ = some ([.str [], .int .u32 0, .int .i32 0, .int .u32 0] ++ List.replicate 32 (.int .u8 0)); rfl) | (show ofCells _ = some (List.replicate 35 (.int .u8 0) ++ [.nilsl]); rfl) | (show ofCells _ = some (List.replicate 37 (.int .u8 0)); rfl) | (show ofCells _ = some ([.str [], .int .u32 0, .int .i32 0, .int .u32 0] ++ List.replicate 33 (.int .u8 0)); rfl) | (show ofCells _ = some (List.replicate 36 (.int .u8 0) ++ [.nilsl]); rfl)
  case hok =>
    repeat' with_reducible apply all_app
    all_goals first | exact all_rep _ _ rfl | rfl
  case heq => simp only [List.append_assoc, rep_rep, List.replicate_append_replicate, Nat.reduceAdd]
@[simp] theorem ag129 : aggP Tryz.prog 129 = true := by kernel_rfl
@[simp] theorem ap129 : appTy Tryz.prog 129 = false := by kernel_rfl
@[simp] theorem iu129 : isU8 Tryz.prog 129 = false := by kernel_rfl
@[simp] theorem se129 : selfTy Tryz.prog 129 = false := by kernel_rfl
@[simp] theorem fl129_0 : fldP Tryz.prog 129 0 = some (0, 9) := by kernel_rfl
@[simp] theorem fl129_1 : fldP Tryz.prog 129 1 = some (1, 124) := by kernel_rfl
@[simp] theorem fl129_2 : fldP Tryz.prog 129 2 = some (4, 125) := by kernel_rfl
@[simp] theorem fl129_3 : fldP Tryz.prog 129 3 = some (260, 125) := by kernel_rfl
@[simp] theorem fl129_4 : fldP Tryz.prog 129 4 = some (516, 126) := by kernel_rfl
@[simp] theorem fl129_5 : fldP Tryz.prog 129 5 = some (4612, 127) := by kernel_rfl
@[simp] theorem pl129 : placeP Tryz.prog 129 = some (.inl [(0, 1), (1, 3), (4, 256), (260, 256), (516, 4096), (4612, 1)]) := by kernel_rfl
@[simp] theorem sz135 : szP Tryz.prog 135 = some 1 := by kernel_rfl
@[simp] theorem by135 : byP Tryz.prog 135 = some 8 := by kernel_rfl
@[simp] theorem kk135 : kP Tryz.prog 135 = some (.ptr 125) := by kernel_rfl
@[simp] theorem ze135 : zeroP Tryz.prog 135 = some (.nilptr) := by kernel_rfl
@[simp] theorem ag135 : aggP Tryz.prog 135 = false := by kernel_rfl
@[simp] theorem ap135 : appTy Tryz.prog 135 = false := by kernel_rfl
@[simp] theorem iu135 : isU8 Tryz.prog 135 = false := by kernel_rfl
@[simp] theorem se135 : selfTy Tryz.prog 135 = false := by kernel_rfl
@[simp] theorem sz137 : szP Tryz.prog 137 = some 1 := by kernel_rfl
@[simp] theorem by137 : byP Tryz.prog 137 = some 8 := by kernel_rfl
@[simp] theorem kk137 : kP Tryz.prog 137 = some (.ptr 86) := by kernel_rfl
@[simp] theorem ze137 : zeroP Tryz.prog 137 = some (.nilptr) := by kernel_rfl
@[simp] theorem ag137 : aggP Tryz.prog 137 = false := by kernel_rfl
@[simp] theorem ap137 : appTy Tryz.prog 137 = false := by kernel_rfl
@[simp] theorem iu137 : isU8 Tryz.prog 137 = false := by kernel_rfl
@[simp] theorem se137 : selfTy Tryz.prog 137 = false := by kernel_rfl
@[simp] theorem sz138 : szP Tryz.prog 138 = some 4 := by kernel_rfl
@[simp] theorem by138 : byP Tryz.prog 138 = some 4 := by kernel_rfl
@[simp] theorem kk138 : kP Tryz.prog 138 = some (.arr 4 5) := by kernel_rfl
@[simp] theorem ze138 : zeroP Tryz.prog 138 = some (.agg ([.int .u8 0, .int .u8 0, .int .u8 0, .int .u8 0])) := by kernel_rfl
@[simp] theorem ar138 : kArr Tryz.prog 138 = some (4, 5) := by kernel_rfl
@[simp] theorem pl138 : placeP Tryz.prog 138 = some (.inr 1) := by kernel_rfl
@[simp] theorem ag138 : aggP Tryz.prog 138 = true := by kernel_rfl
@[simp] theorem ap138 : appTy Tryz.prog 138 = false := by kernel_rfl
@[simp] theorem iu138 : isU8 Tryz.prog 138 = false := by kernel_rfl
@[simp] theorem se138 : selfTy Tryz.prog 138 = false := by kernel_rfl
@[simp] theorem ft138 : flatL Tryz.prog 20 138 = some ([.i, .i, .i, .i]) := by kernel_rfl
@[simp] theorem eg138 : Tryz.prog.eqGuardType Tryz.prog.depth 138 = false := by kernel_rfl
@[simp] theorem sz151 : szP Tryz.prog 151 = some 1 := by kernel_rfl
@[simp] theorem by151 : byP Tryz.prog 151 = some 24 := by kernel_rfl
@[simp] theorem kk151 : kP Tryz.prog 151 = some (.sl 138) := by kernel_rfl
@[simp] theorem ze151 : zeroP Tryz.prog 151 = some (.nilsl) := by kernel_rfl
@[simp] theorem sl151 : kSl Tryz.prog 151 = some 138 := by kernel_rfl
@[simp] theorem ag151 : aggP Tryz.prog 151 = false := by kernel_rfl
@[simp] theorem ap151 : appTy Tryz.prog 151 = true := by kernel_rfl
@[simp] theorem iu151 : isU8 Tryz.prog 151 = false := by kernel_rfl
@[simp] theorem se151 : selfTy Tryz.prog 151 = false := by kernel_rfl
@[simp] theorem sz166 : szP Tryz.prog 166 = some 1 := by kernel_rfl
@[simp] theorem by166 : byP Tryz.prog 166 = some 24 := by kernel_rfl
@[simp] theorem kk166 : kP Tryz.prog 166 = some (.sl 30) := by kernel_rfl
@[simp] theorem ze166 : zeroP Tryz.prog 166 = some (.nilsl) := by kernel_rfl
@[simp] theorem sl166 : kSl Tryz.prog 166 = some 30 := by kernel_rfl
@[simp] theorem ag166 : aggP Tryz.prog 166 = false := by kernel_rfl
@[simp] theorem ap166 : appTy Tryz.prog 166 = true := by kernel_rfl
@[simp] theorem iu166 : isU8 Tryz.prog 166 = false := by kernel_rfl
@[simp] theorem se166 : selfTy Tryz.prog 166 = false := by kernel_rfl
attribute [simp] Tryz.underlying1
attribute [simp] Tryz.underlying2
attribute [simp] Tryz.underlying3
attribute [simp] Tryz.underlying4
attribute [simp] Tryz.underlying5
attribute [simp] Tryz.underlying6
attribute [simp] Tryz.underlying7
attribute [simp] Tryz.underlying8
attribute [simp] Tryz.underlying9
attribute [simp] Tryz.underlying10
attribute [simp] Tryz.underlying11
attribute [simp] Tryz.underlying12
attribute [simp] Tryz.underlying13
attribute [simp] Tryz.underlying14
attribute [simp] Tryz.underlying15
attribute [simp] Tryz.underlying16
attribute [simp] Tryz.underlying17
attribute [simp] Tryz.underlying18
attribute [simp] Tryz.underlying19
attribute [simp] Tryz.underlying21
attribute [simp] Tryz.underlying22
attribute [simp] Tryz.underlying23
attribute [simp] Tryz.underlying24
attribute [simp] Tryz.underlying26
attribute [simp] Tryz.underlying28
attribute [simp] Tryz.underlying29
attribute [simp] Tryz.underlying30
attribute [simp] Tryz.underlying31
attribute [simp] Tryz.underlying32
attribute [simp] Tryz.underlying33
attribute [simp] Tryz.underlying34
attribute [simp] Tryz.underlying35
attribute [simp] Tryz.underlying36
attribute [simp] Tryz.underlying37
attribute [simp] Tryz.underlying38
attribute [simp] Tryz.underlying39
attribute [simp] Tryz.underlying40
attribute [simp] Tryz.underlying41
attribute [simp] Tryz.underlying42
attribute [simp] Tryz.underlying43
attribute [simp] Tryz.underlying44
attribute [simp] Tryz.underlying45
attribute [simp] Tryz.underlying46
attribute [simp] Tryz.underlying48
attribute [simp] Tryz.underlying49
attribute [simp] Tryz.underlying50
attribute [simp] Tryz.underlying51
attribute [simp] Tryz.underlying52
attribute [simp] Tryz.underlying53
attribute [simp] Tryz.underlying54
attribute [simp] Tryz.underlying55
attribute [simp] Tryz.underlying56
attribute [simp] Tryz.underlying58
attribute [simp] Tryz.underlying59
attribute [simp] Tryz.underlying60
attribute [simp] Tryz.underlying61
attribute [simp] Tryz.underlying62
attribute [simp] Tryz.underlying63
attribute [simp] Tryz.underlying64
attribute [simp] Tryz.underlying65
attribute [simp] Tryz.underlying67
attribute [simp] Tryz.underlying68
attribute [simp] Tryz.underlying69
attribute [simp] Tryz.underlying70
attribute [simp] Tryz.underlying71
attribute [simp] Tryz.underlying72
attribute [simp] Tryz.underlying73
attribute [simp] Tryz.underlying74
attribute [simp] Tryz.underlying75
attribute [simp] Tryz.underlying76
attribute [simp] Tryz.underlying77
attribute [simp] Tryz.underlying78
attribute [simp] Tryz.underlying79
attribute [simp] Tryz.underlying80
attribute [simp] Tryz.underlying81
attribute [simp] Tryz.underlying82
attribute [simp] Tryz.underlying84
attribute [simp] Tryz.underlying85
attribute [simp] Tryz.underlying86
attribute [simp] Tryz.underlying87
attribute [simp] Tryz.underlying89
attribute [simp] Tryz.underlying90
attribute [simp] Tryz.underlying91
attribute [simp] Tryz.underlying92
attribute [simp] Tryz.underlying93
attribute [simp] Tryz.underlying97
attribute [simp] Tryz.underlying98
attribute [simp] Tryz.underlying99
attribute [simp] Tryz.underlying100
attribute [simp] Tryz.underlying101
attribute [simp] Tryz.underlying102
attribute [simp] Tryz.underlying103
attribute [simp] Tryz.underlying104
attribute [simp] Tryz.underlying105
attribute [simp] Tryz.underlying106
attribute [simp] Tryz.underlying107
attribute [simp] Tryz.underlying108
attribute [simp] Tryz.underlying109
attribute [simp] Tryz.underlying110
attribute [simp] Tryz.underlying111
attribute [simp] Tryz.underlying112
attribute [simp] Tryz.underlying113
attribute [simp] Tryz.underlying114
attribute [simp] Tryz.underlying115
attribute [simp] Tryz.underlying116
attribute [simp] Tryz.underlying117
attribute [simp] Tryz.underlying118
attribute [simp] Tryz.underlying119
attribute [simp] Tryz.underlying120
attribute [simp] Tryz.underlying121
attribute [simp] Tryz.underlying122
attribute [simp] Tryz.underlying123
attribute [simp] Tryz.underlying124
attribute [simp] Tryz.underlying125
attribute [simp] Tryz.underlying126
attribute [simp] Tryz.underlying127
attribute [simp] Tryz.underlying128
attribute [simp] Tryz.underlying129
attribute [simp] Tryz.underlying130
attribute [simp] Tryz.underlying131
attribute [simp] Tryz.underlying132
attribute [simp] Tryz.underlying133
attribute [simp] Tryz.underlying134
attribute [simp] Tryz.underlying135
attribute [simp] Tryz.underlying136
attribute [simp] Tryz.underlying137
attribute [simp] Tryz.underlying138
attribute [simp] Tryz.underlying140
attribute [simp] Tryz.underlying142
attribute [simp] Tryz.underlying143
attribute [simp] Tryz.underlying144
attribute [simp] Tryz.underlying145
attribute [simp] Tryz.underlying146
attribute [simp] Tryz.underlying148
attribute [simp] Tryz.underlying149
attribute [simp] Tryz.underlying150
attribute [simp] Tryz.underlying151
attribute [simp] Tryz.underlying152
attribute [simp] Tryz.underlying153
attribute [simp] Tryz.underlying154
attribute [simp] Tryz.underlying155
attribute [simp] Tryz.underlying156
attribute [simp] Tryz.underlying157
attribute [simp] Tryz.underlying158
attribute [simp] Tryz.underlying159
attribute [simp] Tryz.underlying160
attribute [simp] Tryz.underlying161
attribute [simp] Tryz.underlying162
attribute [simp] Tryz.underlying163
attribute [simp] Tryz.underlying164
attribute [simp] Tryz.underlying165
attribute [simp] Tryz.underlying166
attribute [simp] Tryz.underlying167
attribute [simp] Tryz.underlying168
attribute [simp] Tryz.underlying169
attribute [simp] Tryz.underlying170
attribute [simp] Tryz.underlying171
attribute [simp] Tryz.underlying172
attribute [simp] Tryz.underlying173
attribute [simp] Tryz.underlying174
attribute [simp] Tryz.underlying175
attribute [simp] Tryz.underlying176
attribute [simp] Tryz.underlying177
attribute [simp] Tryz.underlying178
attribute [simp] Tryz.underlying179
attribute [simp] Tryz.underlying180
attribute [simp] Tryz.underlying181
attribute [simp] Tryz.underlying182
attribute [simp] Tryz.underlying183
attribute [simp] Tryz.underlying184
attribute [simp] Tryz.underlying185
attribute [simp] Tryz.underlying186
attribute [simp] Tryz.underlying187
attribute [simp] Tryz.underlying188
attribute [simp] Tryz.underlying189
attribute [simp] Tryz.underlying190
attribute [simp] Tryz.underlying191
attribute [simp] Tryz.underlying192
end Pv.Tryz

namespace Pv
open Go Go.RowKit
variable {X : Ctx} {G : Ghost} {ph : PH} {w : World} {ρ : Option Nat} {n0 : Nat} {Q : Exit → PSt → PH → Prop}

/-- All that was there before is as it was. -/
structure Keeps (base ph : PH) : Prop where
  n : base.n ≤ ph.n
  bl : ∀ p, p < base.n → ph.get p = base.get p
  ob : ∀ r o, base.ob r = some o → ph.ob r = some o
  ty : ∀ p, p < base.n → ph.ty p = base.ty p
  gr : ∀ p, p < base.n → ph.gro p = base.gro p

theorem Keeps.refl (ph : PH) : Keeps ph ph := ⟨Nat.le_refl _, fun _ _ => rfl, fun _ _ h => h, fun _ _ => rfl, fun _ _ => rfl⟩
theorem Keeps.trans {a b c : PH} (h : Keeps a b) (k : Keeps b c) : Keeps a c :=
  ⟨Nat.le_trans h.n k.n, fun p hp => (k.bl p (Nat.lt_of_lt_of_le hp h.n)).trans (h.bl p hp), fun r o e => k.ob r o (h.ob r o e), fun p hp => (k.ty p (Nat.lt_of_lt_of_le hp h.n)).trans (h.ty p hp), fun p hp => (k.gr p (Nat.lt_of_lt_of_le hp h.n)).trans (h.gr p hp)⟩
theorem Keeps.push {a b : PH} (h : Keeps a b) (c : List PV) : Keeps a (b.push c) :=
  ⟨by have := h.n; simp; omega, fun p hp => by rw [PH.get_push, if_neg (by have := h.n; omega)]; exact h.bl p hp, h.ob, h.ty, fun p hp => by rw [PH.gro_push]; exact h.gr p hp⟩
theorem Keeps.put {a b : PH} (h : Keeps a b) {p : Nat} (hp : a.n ≤ p) (hl : p < b.n) (c : List PV) : Keeps a (b.put p c) :=
  ⟨by have := h.n; simp; omega, fun q hq => by rw [PH.get_put hl, if_neg (by omega)]; exact h.bl q hq, h.ob, h.ty, fun q hq => by rw [PH.gro_put, if_neg (by omega)]; exact h.gr q hq⟩
theorem Keeps.kill {a b : PH} (h : Keeps a b) {p : Nat} (hp : a.n ≤ p) : Keeps a (b.kill p) :=
  ⟨by have := h.n; simp; omega, fun q hq => by rw [PH.get_kill, if_neg (by omega)]; exact h.bl q hq, h.ob, h.ty, fun q hq => by rw [PH.gro_kill, if_neg (by omega)]; exact h.gr q hq⟩
theorem Keeps.tell {a b : PH} (h : Keeps a b) {p : Nat} (hp : a.n ≤ p) (e : TypeId) : Keeps a (b.setTy p e) :=
  ⟨h.n, h.bl, h.ob, fun q hq => by simp only [PH.setTy]; rw [if_neg (by omega)]; exact h.ty q hq, h.gr⟩

theorem Keeps.cut_eq {base ph : PH} (h : Keeps base ph) (hb : ∀ p e, base.ty p = some e → p < base.n) : ph.cut base.n base.ob = base := by
  unfold PH.cut
  have : ph.bl.take base.n = base.bl := by
    have hn : base.bl.length ≤ ph.bl.length := h.n
    apply List.ext_getElem?
    intro i
    rw [List.getElem?_take]
    split
    · rename_i hi
      have hi' : i < base.bl.length := hi
      have h1 := h.bl i hi
      have h2 := h.gr i hi
      simp only [PH.get, PH.gro, List.getElem?_eq_getElem hi', List.getElem?_eq_getElem (show i < ph.bl.length by omega), Option.join_some] at h1 h2
      rw [List.getElem?_eq_getElem hi', List.getElem?_eq_getElem (show i < ph.bl.length by omega)]
      congr 1
      revert h1 h2
      cases ph.bl[i] with
      | none => cases base.bl[i] with
        | none => intros; rfl
        | some b => cases b <;> simp [Blk.cells, Blk.gro]
      | some a => cases base.bl[i] with
        | none => cases a <;> simp [Blk.cells, Blk.gro]
        | some b => cases a <;> cases b <;> simp [Blk.cells, Blk.gro]
    · rename_i hi
      have hi' : base.bl.length ≤ i := Nat.le_of_not_lt hi
      rw [List.getElem?_eq_none hi']
  have ht : (fun p => if p < base.n then ph.ty p else none) = base.ty := by
    funext p
    split
    · rename_i hp; exact h.ty p hp
    · rename_i hp
      cases e : base.ty p with
      | none => rfl
      | some t => exact absurd (hb p t e) hp
  rw [this, ht]

/-- What stands there names nothing that isn't there. -/
def Shut (base : PH) : Prop := (∀ p c, base.get p = some c → Scs base.n c) ∧ (∀ r o, base.ob r = some o → ObSc base.n o)

theorem Rel.shuts (h : Rel X G ph w) : Shut ph := by
  refine ⟨fun p c hp => ?_, fun r o ho => ?_⟩
  · obtain ⟨L, vals, cs, e, fz, hL, o⟩ := h.own p c hp
    have := o.rv.scs; rw [h.lenN] at this; exact this
  · obtain ⟨_, h2⟩ := h.ob r o ho
    cases o with
    | loop l => obtain ⟨rt, q, _⟩ := h2; have := q.scs; rw [h.lenN] at this; exact this
    | defd => trivial

/-- A function of its arguments alone. -/
def Fn (X : Ctx) (f : FuncId) (args : List PV) (v : PV) : Prop := ∀ ph, PCalls X f args ph fun v' ph' => ph' = ph ∧ v' = v

theorem w_pure {f : FuncId} {args : List PV} {v : PV} {K : PV → PH → Prop} (h : Fn X f args v) (k : K v ph) : PCalls X f args ph K :=
  (h ph).mono (by rintro v' ph' ⟨rfl, rfl⟩; exact k)

theorem frz_scalar {ph : PH} {n d : Nat} {p : PV} (h : (match p with | .undef | .bool _ | .int _ _ | .str _ | .nilptr | .nilsl | .zsl | .nilfunc | .nilif | .yield _ => true | _ => false) = true) : frz ph n (d + 1) p = some p := by
  unfold frz
  cases p <;> simp_all

/-- Cells without blocks. -/
def scalarV : PV → Bool
  | .undef | .bool _ | .int _ _ | .str _ | .nilptr | .nilsl | .zsl | .nilfunc | .nilif | .yield _ => true
  | _ => false

theorem frzs_scalars {ph : PH} {n d : Nat} : ∀ {ps : List PV}, ps.all scalarV = true → frzs ph n (d + 1) ps = some ps
  | [], _ => by unfold frzs; rfl
  | p :: ps, h => by
    simp only [List.all_cons, Bool.and_eq_true] at h
    unfold frzs
    rw [frz_scalar (by have := h.1; unfold scalarV at this; exact this), frzs_scalars h.2]

theorem frz_agg {ph : PH} {n d : Nat} {ps qs : List PV} (h : frzs ph n d ps = some qs) : frz ph n (d + 1) (.agg ps) = some (.agg qs) := by unfold frz; simp only [h, Option.map_some]
theorem frz_tuple {ph : PH} {n d : Nat} {ps qs : List PV} (h : frzs ph n d ps = some qs) : frz ph n (d + 1) (.tuple ps) = some (.tuple qs) := by unfold frz; simp only [h, Option.map_some]
theorem frz_fsl {ph : PH} {n d e l : Nat} {ps qs : List PV} (h : frzs ph n d ps = some qs) : frz ph n (d + 1) (.fsl e l ps) = some (.fsl e l qs) := by unfold frz; simp only [h, Option.map_some]
theorem frz_sl {ph : PH} {n d p off e l : Nat} {cap : Option Nat} {cells qs : List PV} (hn : n ≤ p) (hp : ph.get p = some cells) (hl : off + l * e ≤ cells.length) (h : frzs ph n d (seg cells off (l * e)) = some qs) : frz ph n (d + 1) (.sl p off e l cap) = some (.fsl e l qs) := by
  unfold frz
  simp only [if_neg (show ¬ p < n by omega), hp, if_pos hl, h, Option.map_some]
theorem frzs_nil {ph : PH} {n d : Nat} : frzs ph n d [] = some [] := by unfold frzs; rfl
theorem frzs_cons {ph : PH} {n d : Nat} {p q : PV} {ps qs : List PV} (h : frz ph n d p = some q) (hs : frzs ph n d ps = some qs) : frzs ph n d (p :: ps) = some (q :: qs) := by unfold frzs; rw [h, hs]

end Pv
