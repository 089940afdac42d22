/- Part of the proof: the layer of pure values, or walks through functions (PvFxH, PvPure). -/
import Derived.Test.YtefgmekiaelcmacProg
import Derived.Test.YtefgmekiaelcmacPvFun
import Derived.KernelRfl
set_option linter.all false
namespace Pv.Try
open Go Go.Proofs
@[simp] theorem sz1 : szP Try.prog 1 = some 1 := by kernel_rfl
@[simp] theorem by1 : byP Try.prog 1 = some 8 := by kernel_rfl
@[simp] theorem kk1 : kP Try.prog 1 = some (.fn) := by kernel_rfl
@[simp] theorem ze1 : zeroP Try.prog 1 = some (.nilfunc) := by kernel_rfl
@[simp] theorem ag1 : aggP Try.prog 1 = false := by kernel_rfl
@[simp] theorem ap1 : appTy Try.prog 1 = false := by kernel_rfl
@[simp] theorem iu1 : isU8 Try.prog 1 = false := by kernel_rfl
@[simp] theorem se1 : selfTy Try.prog 1 = false := by kernel_rfl
@[simp] theorem sz3 : szP Try.prog 3 = some 1 := by kernel_rfl
@[simp] theorem by3 : byP Try.prog 3 = some 8 := by kernel_rfl
@[simp] theorem kk3 : kP Try.prog 3 = some (.int .i64) := by kernel_rfl
@[simp] theorem ze3 : zeroP Try.prog 3 = some (.int .i64 0) := by kernel_rfl
@[simp] theorem ag3 : aggP Try.prog 3 = false := by kernel_rfl
@[simp] theorem ap3 : appTy Try.prog 3 = false := by kernel_rfl
@[simp] theorem iu3 : isU8 Try.prog 3 = false := by kernel_rfl
@[simp] theorem se3 : selfTy Try.prog 3 = false := by kernel_rfl
@[simp] theorem sz4 : szP Try.prog 4 = some 1 := by kernel_rfl
@[simp] theorem by4 : byP Try.prog 4 = some 1 := by kernel_rfl
@[simp] theorem kk4 : kP Try.prog 4 = some (.bool) := by kernel_rfl
@[simp] theorem ze4 : zeroP Try.prog 4 = some (.bool false) := by kernel_rfl
@[simp] theorem ag4 : aggP Try.prog 4 = false := by kernel_rfl
@[simp] theorem ap4 : appTy Try.prog 4 = false := by kernel_rfl
@[simp] theorem iu4 : isU8 Try.prog 4 = false := by kernel_rfl
@[simp] theorem se4 : selfTy Try.prog 4 = false := by kernel_rfl
@[simp] theorem sz5 : szP Try.prog 5 = some 1 := by kernel_rfl
@[simp] theorem by5 : byP Try.prog 5 = some 1 := by kernel_rfl
@[simp] theorem kk5 : kP Try.prog 5 = some (.int .u8) := by kernel_rfl
@[simp] theorem ze5 : zeroP Try.prog 5 = some (.int .u8 0) := by kernel_rfl
@[simp] theorem ag5 : aggP Try.prog 5 = false := by kernel_rfl
@[simp] theorem ap5 : appTy Try.prog 5 = false := by kernel_rfl
@[simp] theorem iu5 : isU8 Try.prog 5 = true := by kernel_rfl
@[simp] theorem se5 : selfTy Try.prog 5 = false := by kernel_rfl
@[simp] theorem sz9 : szP Try.prog 9 = some 1 := by kernel_rfl
@[simp] theorem by9 : byP Try.prog 9 = some 16 := by kernel_rfl
@[simp] theorem kk9 : kP Try.prog 9 = some (.str) := by kernel_rfl
@[simp] theorem ze9 : zeroP Try.prog 9 = some (.str []) := by kernel_rfl
@[simp] theorem ag9 : aggP Try.prog 9 = false := by kernel_rfl
@[simp] theorem ap9 : appTy Try.prog 9 = true := by kernel_rfl
@[simp] theorem iu9 : isU8 Try.prog 9 = false := by kernel_rfl
@[simp] theorem se9 : selfTy Try.prog 9 = false := by kernel_rfl
@[simp] theorem sz21 : szP Try.prog 21 = some 1 := by kernel_rfl
@[simp] theorem by21 : byP Try.prog 21 = some 4 := by kernel_rfl
@[simp] theorem kk21 : kP Try.prog 21 = some (.int .i32) := by kernel_rfl
@[simp] theorem ze21 : zeroP Try.prog 21 = some (.int .i32 0) := by kernel_rfl
@[simp] theorem ag21 : aggP Try.prog 21 = false := by kernel_rfl
@[simp] theorem ap21 : appTy Try.prog 21 = false := by kernel_rfl
@[simp] theorem iu21 : isU8 Try.prog 21 = false := by kernel_rfl
@[simp] theorem se21 : selfTy Try.prog 21 = false := by kernel_rfl
@[simp] theorem sz27 : szP Try.prog 27 = some 1 := by kernel_rfl
@[simp] theorem by27 : byP Try.prog 27 = some 8 := by kernel_rfl
@[simp] theorem kk27 : kP Try.prog 27 = some (.int .i64) := by kernel_rfl
@[simp] theorem ze27 : zeroP Try.prog 27 = some (.int .i64 0) := by kernel_rfl
@[simp] theorem ag27 : aggP Try.prog 27 = false := by kernel_rfl
@[simp] theorem ap27 : appTy Try.prog 27 = false := by kernel_rfl
@[simp] theorem iu27 : isU8 Try.prog 27 = false := by kernel_rfl
@[simp] theorem se27 : selfTy Try.prog 27 = false := by kernel_rfl
@[simp] theorem sz33 : szP Try.prog 33 = some 1 := by kernel_rfl
@[simp] theorem by33 : byP Try.prog 33 = some 24 := by kernel_rfl
@[simp] theorem kk33 : kP Try.prog 33 = some (.sl 9) := by kernel_rfl
@[simp] theorem ze33 : zeroP Try.prog 33 = some (.nilsl) := by kernel_rfl
@[simp] theorem sl33 : kSl Try.prog 33 = some 9 := by kernel_rfl
@[simp] theorem ag33 : aggP Try.prog 33 = false := by kernel_rfl
@[simp] theorem ap33 : appTy Try.prog 33 = true := by kernel_rfl
@[simp] theorem iu33 : isU8 Try.prog 33 = false := by kernel_rfl
@[simp] theorem se33 : selfTy Try.prog 33 = false := by kernel_rfl
@[simp] theorem sz44 : szP Try.prog 44 = some 1 := by kernel_rfl
@[simp] theorem by44 : byP Try.prog 44 = some 24 := by kernel_rfl
@[simp] theorem kk44 : kP Try.prog 44 = some (.sl 5) := by kernel_rfl
@[simp] theorem ze44 : zeroP Try.prog 44 = some (.nilsl) := by kernel_rfl
@[simp] theorem sl44 : kSl Try.prog 44 = some 5 := by kernel_rfl
@[simp] theorem ag44 : aggP Try.prog 44 = false := by kernel_rfl
@[simp] theorem ap44 : appTy Try.prog 44 = true := by kernel_rfl
@[simp] theorem iu44 : isU8 Try.prog 44 = false := by kernel_rfl
@[simp] theorem se44 : selfTy Try.prog 44 = false := by kernel_rfl
@[simp] theorem sz45 : szP Try.prog 45 = some 1 := by kernel_rfl
@[simp] theorem by45 : byP Try.prog 45 = some 8 := by kernel_rfl
@[simp] theorem kk45 : kP Try.prog 45 = some (.ptr 70) := by kernel_rfl
@[simp] theorem ze45 : zeroP Try.prog 45 = some (.nilptr) := by kernel_rfl
@[simp] theorem ag45 : aggP Try.prog 45 = false := by kernel_rfl
@[simp] theorem ap45 : appTy Try.prog 45 = false := by kernel_rfl
@[simp] theorem iu45 : isU8 Try.prog 45 = false := by kernel_rfl
@[simp] theorem se45 : selfTy Try.prog 45 = false := by kernel_rfl
@[simp] theorem sz49 : szP Try.prog 49 = some 16 := by kernel_rfl
@[simp] theorem by49 : byP Try.prog 49 = some 16 := by kernel_rfl
@[simp] theorem kk49 : kP Try.prog 49 = some (.arr 16 5) := by kernel_rfl
@[simp] theorem ze49 : zeroP Try.prog 49 = some (.agg ([.int .u8 0, .int .u8 0, .int .u8 0, .int .u8 0, .int .u8 0, .int .u8 0, .int .u8 0, .int .u8 0, .int .u8 0, .int .u8 0, .int .u8 0, .int .u8 0, .int .u8 0, .int .u8 0, .int .u8 0, .int .u8 0])) := by kernel_rfl
@[simp] theorem ar49 : kArr Try.prog 49 = some (16, 5) := by kernel_rfl
@[simp] theorem pl49 : placeP Try.prog 49 = some (.inr 1) := by kernel_rfl
@[simp] theorem ag49 : aggP Try.prog 49 = true := by kernel_rfl
@[simp] theorem ap49 : appTy Try.prog 49 = false := by kernel_rfl
@[simp] theorem iu49 : isU8 Try.prog 49 = false := by kernel_rfl
@[simp] theorem se49 : selfTy Try.prog 49 = false := by kernel_rfl
@[simp] theorem ft49 : flatL Try.prog 20 49 = some ([.i, .i, .i, .i, .i, .i, .i, .i, .i, .i, .i, .i, .i, .i, .i, .i]) := by kernel_rfl
@[simp] theorem eg49 : Try.prog.eqGuardType Try.prog.depth 49 = false := by kernel_rfl
@[simp] theorem sz57 : szP Try.prog 57 = some 1 := by kernel_rfl
@[simp] theorem by57 : byP Try.prog 57 = some 4 := by kernel_rfl
@[simp] theorem kk57 : kP Try.prog 57 = some (.int .u32) := by kernel_rfl
@[simp] theorem ze57 : zeroP Try.prog 57 = some (.int .u32 0) := by kernel_rfl
@[simp] theorem ag57 : aggP Try.prog 57 = false := by kernel_rfl
@[simp] theorem ap57 : appTy Try.prog 57 = false := by kernel_rfl
@[simp] theorem iu57 : isU8 Try.prog 57 = false := by kernel_rfl
@[simp] theorem se57 : selfTy Try.prog 57 = false := by kernel_rfl
@[simp] theorem sz59 : szP Try.prog 59 = some 1 := by kernel_rfl
@[simp] theorem by59 : byP Try.prog 59 = some 4 := by kernel_rfl
@[simp] theorem kk59 : kP Try.prog 59 = some (.st) := by kernel_rfl
@[simp] theorem ze59 : zeroP Try.prog 59 = some (.agg ([.int .u32 0])) := by kernel_rfl
@[simp] theorem ag59 : aggP Try.prog 59 = true := by kernel_rfl
@[simp] theorem ap59 : appTy Try.prog 59 = false := by kernel_rfl
@[simp] theorem iu59 : isU8 Try.prog 59 = false := by kernel_rfl
@[simp] theorem se59 : selfTy Try.prog 59 = false := by kernel_rfl
@[simp] theorem fl59_1 : fldP Try.prog 59 1 = some (0, 57) := by kernel_rfl
@[simp] theorem pl59 : placeP Try.prog 59 = some (.inl [(0, 0), (0, 1)]) := by kernel_rfl
@[simp] theorem sz61 : szP Try.prog 61 = some 2 := by kernel_rfl
@[simp] theorem by61 : byP Try.prog 61 = some 8 := by kernel_rfl
@[simp] theorem kk61 : kP Try.prog 61 = some (.st) := by kernel_rfl
@[simp] theorem ze61 : zeroP Try.prog 61 = some (.agg ([.int .i32 0, .int .u32 0])) := by kernel_rfl
@[simp] theorem ag61 : aggP Try.prog 61 = true := by kernel_rfl
@[simp] theorem ap61 : appTy Try.prog 61 = false := by kernel_rfl
@[simp] theorem iu61 : isU8 Try.prog 61 = false := by kernel_rfl
@[simp] theorem se61 : selfTy Try.prog 61 = false := by kernel_rfl
@[simp] theorem fl61_0 : fldP Try.prog 61 0 = some (0, 21) := by kernel_rfl
@[simp] theorem fl61_1 : fldP Try.prog 61 1 = some (1, 57) := by kernel_rfl
@[simp] theorem pl61 : placeP Try.prog 61 = some (.inl [(0, 1), (1, 1)]) := by kernel_rfl
@[simp] theorem sz63 : szP Try.prog 63 = some 2 := by kernel_rfl
@[simp] theorem by63 : byP Try.prog 63 = some 8 := by kernel_rfl
@[simp] theorem kk63 : kP Try.prog 63 = some (.st) := by kernel_rfl
@[simp] theorem ze63 : zeroP Try.prog 63 = some (.agg ([.int .i32 0, .int .u32 0])) := by kernel_rfl
@[simp] theorem ag63 : aggP Try.prog 63 = true := by kernel_rfl
@[simp] theorem ap63 : appTy Try.prog 63 = false := by kernel_rfl
@[simp] theorem iu63 : isU8 Try.prog 63 = false := by kernel_rfl
@[simp] theorem se63 : selfTy Try.prog 63 = false := by kernel_rfl
@[simp] theorem fl63_1 : fldP Try.prog 63 1 = some (0, 61) := by kernel_rfl
@[simp] theorem pl63 : placeP Try.prog 63 = some (.inl [(0, 0), (0, 2)]) := by kernel_rfl
@[simp] theorem sz65 : szP Try.prog 65 = some 3 := by kernel_rfl
@[simp] theorem by65 : byP Try.prog 65 = some 12 := by kernel_rfl
@[simp] theorem kk65 : kP Try.prog 65 = some (.st) := by kernel_rfl
@[simp] theorem ze65 : zeroP Try.prog 65 = some (.agg ([.int .u32 0, .int .i32 0, .int .u32 0])) := by kernel_rfl
@[simp] theorem ag65 : aggP Try.prog 65 = true := by kernel_rfl
@[simp] theorem ap65 : appTy Try.prog 65 = false := by kernel_rfl
@[simp] theorem iu65 : isU8 Try.prog 65 = false := by kernel_rfl
@[simp] theorem se65 : selfTy Try.prog 65 = false := by kernel_rfl
@[simp] theorem fl65_1 : fldP Try.prog 65 1 = some (0, 59) := by kernel_rfl
@[simp] theorem fl65_2 : fldP Try.prog 65 2 = some (1, 63) := by kernel_rfl
@[simp] theorem pl65 : placeP Try.prog 65 = some (.inl [(0, 0), (0, 1), (1, 2)]) := by kernel_rfl
@[simp] theorem sz66 : szP Try.prog 66 = some 256 := by kernel_rfl
@[simp] theorem by66 : byP Try.prog 66 = some 256 := by kernel_rfl
@[simp] theorem kk66 : kP Try.prog 66 = some (.arr 256 5) := by kernel_rfl
@[simp] theorem ze66 : zeroP Try.prog 66 = some (.agg (List.replicate 256 (.int .u8 0))) := by kernel_rfl
@[simp] theorem ar66 : kArr Try.prog 66 = some (256, 5) := by kernel_rfl
@[simp] theorem pl66 : placeP Try.prog 66 = some (.inr 1) := by kernel_rfl
@[simp] theorem ag66 : aggP Try.prog 66 = true := by kernel_rfl
@[simp] theorem ap66 : appTy Try.prog 66 = false := by kernel_rfl
@[simp] theorem iu66 : isU8 Try.prog 66 = false := by kernel_rfl
@[simp] theorem se66 : selfTy Try.prog 66 = false := by kernel_rfl
@[simp] theorem ft66 : flatL Try.prog 20 66 = some (List.replicate 256 (.i)) := by kernel_rfl
@[simp] theorem eg66 : Try.prog.eqGuardType Try.prog.depth 66 = false := by kernel_rfl
@[simp] theorem sz67 : szP Try.prog 67 = some 4096 := by kernel_rfl
@[simp] theorem by67 : byP Try.prog 67 = some 4096 := by kernel_rfl
@[simp] theorem kk67 : kP Try.prog 67 = some (.arr 16 66) := by kernel_rfl
@[simp] theorem ze67 : zeroP Try.prog 67 = some (.agg (List.replicate 4096 (.int .u8 0))) := by
  apply zeroP_of (i := Try.t67) (by kernel_rfl) (Eq.refl Try.t67.zero)
  case hl =>
    repeat' with_reducible apply ofCells_app
    all_goals first | (show ofCells _ = some (List.replicate 64 (.int .u8 0)); rfl)
  case hok =>
    repeat' with_reducible apply all_app
    all_goals first | exact all_rep _ _ rfl | rfl
  case heq => simp only [List.append_assoc, rep_rep, List.replicate_append_replicate, Nat.reduceAdd]
@[simp] theorem ar67 : kArr Try.prog 67 = some (16, 66) := by kernel_rfl
@[simp] theorem pl67 : placeP Try.prog 67 = some (.inr 256) := by kernel_rfl
@[simp] theorem ag67 : aggP Try.prog 67 = true := by kernel_rfl
@[simp] theorem ap67 : appTy Try.prog 67 = false := by kernel_rfl
@[simp] theorem iu67 : isU8 Try.prog 67 = false := by kernel_rfl
@[simp] theorem se67 : selfTy Try.prog 67 = false := by kernel_rfl
@[simp] theorem sz68 : szP Try.prog 68 = some 1 := by kernel_rfl
@[simp] theorem by68 : byP Try.prog 68 = some 24 := by kernel_rfl
@[simp] theorem kk68 : kP Try.prog 68 = some (.sl 49) := by kernel_rfl
@[simp] theorem ze68 : zeroP Try.prog 68 = some (.nilsl) := by kernel_rfl
@[simp] theorem sl68 : kSl Try.prog 68 = some 49 := by kernel_rfl
@[simp] theorem ag68 : aggP Try.prog 68 = false := by kernel_rfl
@[simp] theorem ap68 : appTy Try.prog 68 = true := by kernel_rfl
@[simp] theorem iu68 : isU8 Try.prog 68 = false := by kernel_rfl
@[simp] theorem se68 : selfTy Try.prog 68 = false := by kernel_rfl
@[simp] theorem sz70 : szP Try.prog 70 = some 4613 := by kernel_rfl
@[simp] theorem by70 : byP Try.prog 70 = some 4664 := by kernel_rfl
@[simp] theorem kk70 : kP Try.prog 70 = some (.st) := by kernel_rfl
@[simp] theorem ze70 : zeroP Try.prog 70 = some (.agg ([.str [], .int .u32 0, .int .i32 0, .int .u32 0] ++ List.replicate 4608 (.int .u8 0) ++ [.nilsl])) := by
  apply zeroP_of (i := Try.t70) (by kernel_rfl) (Eq.refl Try.t70.zero)
  case hl =>
    repeat' with_reducible apply ofCells_app
    all_goals first | (show ofCells _ = some (List.replicate 36 (.int .u8 0)); rfl) | (show ofCells _ = some ([.str [], .int .u32 0, .int .i32 0, .int .u32 0] ++ List.replicate 32 (.int .u8 0)); rfl) | (show ofCells _ = some (List.replicate 35 (.int .u8 0) ++ [.nilsl]); rfl) | (show ofCells _ = some (List.replicate 37 (.int .u8 0)); rfl) | (show ofCells _ = some ([.str [], .int .u32 0, .int .i32 0, .int .u32 0] ++ List.replicate 33 (.int .u8 0)); rfl) | (show ofCells _ = some (List.replicate 36 (.int .u8 0) ++ [.nilsl]); rfl)
  case hok =>
    repeat' with_reducible apply all_app
    all_goals first | exact all_rep _ _ rfl | rfl
  case heq => simp only [List.append_assoc, rep_rep, List.replicate_append_replicate, Nat.reduceAdd]
@[simp] theorem ag70 : aggP Try.prog 70 = true := by kernel_rfl
@[simp] theorem ap70 : appTy Try.prog 70 = false := by kernel_rfl
@[simp] theorem iu70 : isU8 Try.prog 70 = false := by kernel_rfl
@[simp] theorem se70 : selfTy Try.prog 70 = false := by kernel_rfl
@[simp] theorem fl70_0 : fldP Try.prog 70 0 = some (0, 9) := by kernel_rfl
@[simp] theorem fl70_1 : fldP Try.prog 70 1 = some (1, 65) := by kernel_rfl
@[simp] theorem fl70_2 : fldP Try.prog 70 2 = some (4, 66) := by kernel_rfl
@[simp] theorem fl70_3 : fldP Try.prog 70 3 = some (260, 66) := by kernel_rfl
@[simp] theorem fl70_4 : fldP Try.prog 70 4 = some (516, 67) := by kernel_rfl
@[simp] theorem fl70_5 : fldP Try.prog 70 5 = some (4612, 68) := by kernel_rfl
@[simp] theorem pl70 : placeP Try.prog 70 = some (.inl [(0, 1), (1, 3), (4, 256), (260, 256), (516, 4096), (4612, 1)]) := by kernel_rfl
@[simp] theorem sz80 : szP Try.prog 80 = some 1 := by kernel_rfl
@[simp] theorem by80 : byP Try.prog 80 = some 8 := by kernel_rfl
@[simp] theorem kk80 : kP Try.prog 80 = some (.ptr 66) := by kernel_rfl
@[simp] theorem ze80 : zeroP Try.prog 80 = some (.nilptr) := by kernel_rfl
@[simp] theorem ag80 : aggP Try.prog 80 = false := by kernel_rfl
@[simp] theorem ap80 : appTy Try.prog 80 = false := by kernel_rfl
@[simp] theorem iu80 : isU8 Try.prog 80 = false := by kernel_rfl
@[simp] theorem se80 : selfTy Try.prog 80 = false := by kernel_rfl
@[simp] theorem sz83 : szP Try.prog 83 = some 1 := by kernel_rfl
@[simp] theorem by83 : byP Try.prog 83 = some 8 := by kernel_rfl
@[simp] theorem kk83 : kP Try.prog 83 = some (.ptr 49) := by kernel_rfl
@[simp] theorem ze83 : zeroP Try.prog 83 = some (.nilptr) := by kernel_rfl
@[simp] theorem ag83 : aggP Try.prog 83 = false := by kernel_rfl
@[simp] theorem ap83 : appTy Try.prog 83 = false := by kernel_rfl
@[simp] theorem iu83 : isU8 Try.prog 83 = false := by kernel_rfl
@[simp] theorem se83 : selfTy Try.prog 83 = false := by kernel_rfl
@[simp] theorem sz84 : szP Try.prog 84 = some 4 := by kernel_rfl
@[simp] theorem by84 : byP Try.prog 84 = some 4 := by kernel_rfl
@[simp] theorem kk84 : kP Try.prog 84 = some (.arr 4 5) := by kernel_rfl
@[simp] theorem ze84 : zeroP Try.prog 84 = some (.agg ([.int .u8 0, .int .u8 0, .int .u8 0, .int .u8 0])) := by kernel_rfl
@[simp] theorem ar84 : kArr Try.prog 84 = some (4, 5) := by kernel_rfl
@[simp] theorem pl84 : placeP Try.prog 84 = some (.inr 1) := by kernel_rfl
@[simp] theorem ag84 : aggP Try.prog 84 = true := by kernel_rfl
@[simp] theorem ap84 : appTy Try.prog 84 = false := by kernel_rfl
@[simp] theorem iu84 : isU8 Try.prog 84 = false := by kernel_rfl
@[simp] theorem se84 : selfTy Try.prog 84 = false := by kernel_rfl
@[simp] theorem ft84 : flatL Try.prog 20 84 = some ([.i, .i, .i, .i]) := by kernel_rfl
@[simp] theorem eg84 : Try.prog.eqGuardType Try.prog.depth 84 = false := by kernel_rfl
@[simp] theorem sz88 : szP Try.prog 88 = some 1 := by kernel_rfl
@[simp] theorem by88 : byP Try.prog 88 = some 24 := by kernel_rfl
@[simp] theorem kk88 : kP Try.prog 88 = some (.sl 84) := by kernel_rfl
@[simp] theorem ze88 : zeroP Try.prog 88 = some (.nilsl) := by kernel_rfl
@[simp] theorem sl88 : kSl Try.prog 88 = some 84 := by kernel_rfl
@[simp] theorem ag88 : aggP Try.prog 88 = false := by kernel_rfl
@[simp] theorem ap88 : appTy Try.prog 88 = true := by kernel_rfl
@[simp] theorem iu88 : isU8 Try.prog 88 = false := by kernel_rfl
@[simp] theorem se88 : selfTy Try.prog 88 = false := by kernel_rfl
@[simp] theorem sz102 : szP Try.prog 102 = some 1 := by kernel_rfl
@[simp] theorem by102 : byP Try.prog 102 = some 24 := by kernel_rfl
@[simp] theorem kk102 : kP Try.prog 102 = some (.sl 44) := by kernel_rfl
@[simp] theorem ze102 : zeroP Try.prog 102 = some (.nilsl) := by kernel_rfl
@[simp] theorem sl102 : kSl Try.prog 102 = some 44 := by kernel_rfl
@[simp] theorem ag102 : aggP Try.prog 102 = false := by kernel_rfl
@[simp] theorem ap102 : appTy Try.prog 102 = true := by kernel_rfl
@[simp] theorem iu102 : isU8 Try.prog 102 = false := by kernel_rfl
@[simp] theorem se102 : selfTy Try.prog 102 = false := by kernel_rfl
attribute [simp] Try.underlying1
attribute [simp] Try.underlying2
attribute [simp] Try.underlying3
attribute [simp] Try.underlying4
attribute [simp] Try.underlying5
attribute [simp] Try.underlying6
attribute [simp] Try.underlying7
attribute [simp] Try.underlying8
attribute [simp] Try.underlying9
attribute [simp] Try.underlying10
attribute [simp] Try.underlying11
attribute [simp] Try.underlying12
attribute [simp] Try.underlying13
attribute [simp] Try.underlying14
attribute [simp] Try.underlying15
attribute [simp] Try.underlying16
attribute [simp] Try.underlying17
attribute [simp] Try.underlying18
attribute [simp] Try.underlying19
attribute [simp] Try.underlying21
attribute [simp] Try.underlying22
attribute [simp] Try.underlying23
attribute [simp] Try.underlying24
attribute [simp] Try.underlying25
attribute [simp] Try.underlying26
attribute [simp] Try.underlying27
attribute [simp] Try.underlying29
attribute [simp] Try.underlying31
attribute [simp] Try.underlying32
attribute [simp] Try.underlying33
attribute [simp] Try.underlying35
attribute [simp] Try.underlying37
attribute [simp] Try.underlying38
attribute [simp] Try.underlying39
attribute [simp] Try.underlying40
attribute [simp] Try.underlying41
attribute [simp] Try.underlying42
attribute [simp] Try.underlying43
attribute [simp] Try.underlying44
attribute [simp] Try.underlying45
attribute [simp] Try.underlying47
attribute [simp] Try.underlying48
attribute [simp] Try.underlying49
attribute [simp] Try.underlying50
attribute [simp] Try.underlying51
attribute [simp] Try.underlying52
attribute [simp] Try.underlying53
attribute [simp] Try.underlying54
attribute [simp] Try.underlying55
attribute [simp] Try.underlying56
attribute [simp] Try.underlying57
attribute [simp] Try.underlying58
attribute [simp] Try.underlying59
attribute [simp] Try.underlying60
attribute [simp] Try.underlying61
attribute [simp] Try.underlying62
attribute [simp] Try.underlying63
attribute [simp] Try.underlying64
attribute [simp] Try.underlying65
attribute [simp] Try.underlying66
attribute [simp] Try.underlying67
attribute [simp] Try.underlying68
attribute [simp] Try.underlying69
attribute [simp] Try.underlying70
attribute [simp] Try.underlying71
attribute [simp] Try.underlying72
attribute [simp] Try.underlying73
attribute [simp] Try.underlying74
attribute [simp] Try.underlying75
attribute [simp] Try.underlying76
attribute [simp] Try.underlying77
attribute [simp] Try.underlying78
attribute [simp] Try.underlying79
attribute [simp] Try.underlying80
attribute [simp] Try.underlying81
attribute [simp] Try.underlying82
attribute [simp] Try.underlying83
attribute [simp] Try.underlying84
attribute [simp] Try.underlying85
attribute [simp] Try.underlying86
attribute [simp] Try.underlying87
attribute [simp] Try.underlying88
attribute [simp] Try.underlying89
attribute [simp] Try.underlying90
attribute [simp] Try.underlying91
attribute [simp] Try.underlying92
attribute [simp] Try.underlying93
attribute [simp] Try.underlying94
attribute [simp] Try.underlying95
attribute [simp] Try.underlying96
attribute [simp] Try.underlying97
attribute [simp] Try.underlying98
attribute [simp] Try.underlying99
attribute [simp] Try.underlying100
attribute [simp] Try.underlying101
attribute [simp] Try.underlying102
attribute [simp] Try.underlying103
attribute [simp] Try.underlying104
attribute [simp] Try.underlying105
attribute [simp] Try.underlying106
attribute [simp] Try.underlying107
attribute [simp] Try.underlying108
attribute [simp] Try.underlying109
attribute [simp] Try.underlying110
attribute [simp] Try.underlying112
attribute [simp] Try.underlying113
attribute [simp] Try.underlying114
attribute [simp] Try.underlying115
attribute [simp] Try.underlying116
attribute [simp] Try.underlying117
attribute [simp] Try.underlying118
attribute [simp] Try.underlying119
attribute [simp] Try.underlying120
attribute [simp] Try.underlying121
attribute [simp] Try.underlying122
attribute [simp] Try.underlying123
attribute [simp] Try.underlying124
attribute [simp] Try.underlying125
attribute [simp] Try.underlying126
attribute [simp] Try.underlying127
attribute [simp] Try.underlying128
attribute [simp] Try.underlying129
attribute [simp] Try.underlying130
attribute [simp] Try.underlying131
attribute [simp] Try.underlying132
end Pv.Try

namespace Pv
open Go Go.RowKit
variable {X : Ctx} {G : Ghost} {ph : PH} {w : World} {ρ : Option Nat} {n0 : Nat} {Q : Exit → PSt → PH → Prop}

/-- All that was there before is as it was. -/
structure Keeps (base ph : PH) : Prop where
  n : base.n ≤ ph.n
  bl : ∀ p, p < base.n → ph.get p = base.get p
  ob : ∀ r o, base.ob r = some o → ph.ob r = some o
  ty : ∀ p, p < base.n → ph.ty p = base.ty p
  gr : ∀ p, p < base.n → ph.gro p = base.gro p

theorem Keeps.refl (ph : PH) : Keeps ph ph := ⟨Nat.le_refl _, fun _ _ => rfl, fun _ _ h => h, fun _ _ => rfl, fun _ _ => rfl⟩
theorem Keeps.trans {a b c : PH} (h : Keeps a b) (k : Keeps b c) : Keeps a c :=
  ⟨Nat.le_trans h.n k.n, fun p hp => (k.bl p (Nat.lt_of_lt_of_le hp h.n)).trans (h.bl p hp), fun r o e => k.ob r o (h.ob r o e), fun p hp => (k.ty p (Nat.lt_of_lt_of_le hp h.n)).trans (h.ty p hp), fun p hp => (k.gr p (Nat.lt_of_lt_of_le hp h.n)).trans (h.gr p hp)⟩
theorem Keeps.push {a b : PH} (h : Keeps a b) (c : List PV) : Keeps a (b.push c) :=
  ⟨by have := h.n; simp; omega, fun p hp => by rw [PH.get_push, if_neg (by have := h.n; omega)]; exact h.bl p hp, h.ob, h.ty, fun p hp => by rw [PH.gro_push]; exact h.gr p hp⟩
theorem Keeps.put {a b : PH} (h : Keeps a b) {p : Nat} (hp : a.n ≤ p) (hl : p < b.n) (c : List PV) : Keeps a (b.put p c) :=
  ⟨by have := h.n; simp; omega, fun q hq => by rw [PH.get_put hl, if_neg (by omega)]; exact h.bl q hq, h.ob, h.ty, fun q hq => by rw [PH.gro_put, if_neg (by omega)]; exact h.gr q hq⟩
theorem Keeps.kill {a b : PH} (h : Keeps a b) {p : Nat} (hp : a.n ≤ p) : Keeps a (b.kill p) :=
  ⟨by have := h.n; simp; omega, fun q hq => by rw [PH.get_kill, if_neg (by omega)]; exact h.bl q hq, h.ob, h.ty, fun q hq => by rw [PH.gro_kill, if_neg (by omega)]; exact h.gr q hq⟩
theorem Keeps.tell {a b : PH} (h : Keeps a b) {p : Nat} (hp : a.n ≤ p) (e : TypeId) : Keeps a (b.setTy p e) :=
  ⟨h.n, h.bl, h.ob, fun q hq => by simp only [PH.setTy]; rw [if_neg (by omega)]; exact h.ty q hq, h.gr⟩

theorem Keeps.cut_eq {base ph : PH} (h : Keeps base ph) (hb : ∀ p e, base.ty p = some e → p < base.n) : ph.cut base.n base.ob = base := by
  unfold PH.cut
  have : ph.bl.take base.n = base.bl := by
    have hn : base.bl.length ≤ ph.bl.length := h.n
    apply List.ext_getElem?
    intro i
    rw [List.getElem?_take]
    split
    · rename_i hi
      have hi' : i < base.bl.length := hi
      have h1 := h.bl i hi
      have h2 := h.gr i hi
      simp only [PH.get, PH.gro, List.getElem?_eq_getElem hi', List.getElem?_eq_getElem (show i < ph.bl.length by omega), Option.join_some] at h1 h2
      rw [List.getElem?_eq_getElem hi', List.getElem?_eq_getElem (show i < ph.bl.length by omega)]
      congr 1
      revert h1 h2
      cases ph.bl[i] with
      | none => cases base.bl[i] with
        | none => intros; rfl
        | some b => cases b <;> simp [Blk.cells, Blk.gro]
      | some a => cases base.bl[i] with
        | none => cases a <;> simp [Blk.cells, Blk.gro]
        | some b => cases a <;> cases b <;> simp [Blk.cells, Blk.gro]
    · rename_i hi
      have hi' : base.bl.length ≤ i := Nat.le_of_not_lt hi
      rw [List.getElem?_eq_none hi']
  have ht : (fun p => if p < base.n then ph.ty p else none) = base.ty := by
    funext p
    split
    · rename_i hp; exact h.ty p hp
    · rename_i hp
      cases e : base.ty p with
      | none => rfl
      | some t => exact absurd (hb p t e) hp
  rw [this, ht]

/-- What stands there names nothing that isn't there. -/
def Shut (base : PH) : Prop := (∀ p c, base.get p = some c → Scs base.n c) ∧ (∀ r o, base.ob r = some o → ObSc base.n o)

theorem Rel.shuts (h : Rel X G ph w) : Shut ph := by
  refine ⟨fun p c hp => ?_, fun r o ho => ?_⟩
  · obtain ⟨L, vals, cs, e, fz, hL, o⟩ := h.own p c hp
    have := o.rv.scs; rw [h.lenN] at this; exact this
  · obtain ⟨_, h2⟩ := h.ob r o ho
    cases o with
    | loop l => obtain ⟨rt, q, _⟩ := h2; have := q.scs; rw [h.lenN] at this; exact this
    | defd => trivial

/-- A function of its arguments alone. -/
def Fn (X : Ctx) (f : FuncId) (args : List PV) (v : PV) : Prop := ∀ ph, PCalls X f args ph fun v' ph' => ph' = ph ∧ v' = v

theorem w_pure {f : FuncId} {args : List PV} {v : PV} {K : PV → PH → Prop} (h : Fn X f args v) (k : K v ph) : PCalls X f args ph K :=
  (h ph).mono (by rintro v' ph' ⟨rfl, rfl⟩; exact k)

theorem frz_scalar {ph : PH} {n d : Nat} {p : PV} (h : (match p with | .undef | .bool _ | .int _ _ | .str _ | .nilptr | .nilsl | .zsl | .nilfunc | .nilif | .yield _ => true | _ => false) = true) : frz ph n (d + 1) p = some p := by
  unfold frz
  cases p <;> simp_all

/-- Cells without blocks. -/
def scalarV : PV → Bool
  | .undef | .bool _ | .int _ _ | .str _ | .nilptr | .nilsl | .zsl | .nilfunc | .nilif | .yield _ => true
  | _ => false

theorem frzs_scalars {ph : PH} {n d : Nat} : ∀ {ps : List PV}, ps.all scalarV = true → frzs ph n (d + 1) ps = some ps
  | [], _ => by unfold frzs; rfl
  | p :: ps, h => by
    simp only [List.all_cons, Bool.and_eq_true] at h
    unfold frzs
    rw [frz_scalar (by have := h.1; unfold scalarV at this; exact this), frzs_scalars h.2]

theorem frz_agg {ph : PH} {n d : Nat} {ps qs : List PV} (h : frzs ph n d ps = some qs) : frz ph n (d + 1) (.agg ps) = some (.agg qs) := by unfold frz; simp only [h, Option.map_some]
theorem frz_tuple {ph : PH} {n d : Nat} {ps qs : List PV} (h : frzs ph n d ps = some qs) : frz ph n (d + 1) (.tuple ps) = some (.tuple qs) := by unfold frz; simp only [h, Option.map_some]
theorem frz_fsl {ph : PH} {n d e l : Nat} {ps qs : List PV} (h : frzs ph n d ps = some qs) : frz ph n (d + 1) (.fsl e l ps) = some (.fsl e l qs) := by unfold frz; simp only [h, Option.map_some]
theorem frz_sl {ph : PH} {n d p off e l : Nat} {cap : Option Nat} {cells qs : List PV} (hn : n ≤ p) (hp : ph.get p = some cells) (hl : off + l * e ≤ cells.length) (h : frzs ph n d (seg cells off (l * e)) = some qs) : frz ph n (d + 1) (.sl p off e l cap) = some (.fsl e l qs) := by
  unfold frz
  simp only [if_neg (show ¬ p < n by omega), hp, if_pos hl, h, Option.map_some]
theorem frzs_nil {ph : PH} {n d : Nat} : frzs ph n d [] = some [] := by unfold frzs; rfl
theorem frzs_cons {ph : PH} {n d : Nat} {p q : PV} {ps qs : List PV} (h : frz ph n d p = some q) (hs : frzs ph n d ps = some qs) : frzs ph n d (p :: ps) = some (q :: qs) := by unfold frzs; rw [h, hs]

end Pv
