/- Part of the proof: the layer of pure values, or walks through functions (PvFxR, PvPure). -/
import Derived.Test.YtjomgffpkdcanaaGreatDoorProg
import Derived.Test.YtjomgffpkdcanaaGreatDoorPvFun
import Derived.KernelRfl
set_option linter.all false
namespace Pv.Tryz
open Go Go.Proofs
@[simp] theorem sz1 : szP Tryz.prog 1 = some 1 := by kernel_rfl
@[simp] theorem by1 : byP Tryz.prog 1 = some 8 := by kernel_rfl
@[simp] theorem kk1 : kP Tryz.prog 1 = some (.fn) := by kernel_rfl
@[simp] theorem ze1 : zeroP Tryz.prog 1 = some (.nilfunc) := by kernel_rfl
@[simp] theorem ag1 : aggP Tryz.prog 1 = false := by kernel_rfl
@[simp] theorem ap1 : appTy Tryz.prog 1 = false := by kernel_rfl
@[simp] theorem iu1 : isU8 Tryz.prog 1 = false := by kernel_rfl
@[simp] theorem se1 : selfTy Tryz.prog 1 = false := by kernel_rfl
@[simp] theorem sz3 : szP Tryz.prog 3 = some 1 := by kernel_rfl
@[simp] theorem by3 : byP Tryz.prog 3 = some 8 := by kernel_rfl
@[simp] theorem kk3 : kP Tryz.prog 3 = some (.int .i64) := by kernel_rfl
@[simp] theorem ze3 : zeroP Tryz.prog 3 = some (.int .i64 0) := by kernel_rfl
@[simp] theorem ag3 : aggP Tryz.prog 3 = false := by kernel_rfl
@[simp] theorem ap3 : appTy Tryz.prog 3 = false := by kernel_rfl
@[simp] theorem iu3 : isU8 Tryz.prog 3 = false := by kernel_rfl
@[simp] theorem se3 : selfTy Tryz.prog 3 = false := by kernel_rfl
@[simp] theorem sz4 : szP Tryz.prog 4 = some 1 := by kernel_rfl
@[simp] theorem by4 : byP Tryz.prog 4 = some 1 := by kernel_rfl
@[simp] theorem kk4 : kP Tryz.prog 4 = some (.bool) := by kernel_rfl
@[simp] theorem ze4 : zeroP Tryz.prog 4 = some (.bool false) := by kernel_rfl
@[simp] theorem ag4 : aggP Tryz.prog 4 = false := by kernel_rfl
@[simp] theorem ap4 : appTy Tryz.prog 4 = false := by kernel_rfl
@[simp] theorem iu4 : isU8 Tryz.prog 4 = false := by kernel_rfl
@[simp] theorem se4 : selfTy Tryz.prog 4 = false := by kernel_rfl
@[simp] theorem sz5 : szP Tryz.prog 5 = some 1 := by kernel_rfl
@[simp] theorem by5 : byP Tryz.prog 5 = some 1 := by kernel_rfl
@[simp] theorem kk5 : kP Tryz.prog 5 = some (.int .u8) := by kernel_rfl
@[simp] theorem ze5 : zeroP Tryz.prog 5 = some (.int .u8 0) := by kernel_rfl
@[simp] theorem ag5 : aggP Tryz.prog 5 = false := by kernel_rfl
@[simp] theorem ap5 : appTy Tryz.prog 5 = false := by kernel_rfl
@[simp] theorem iu5 : isU8 Tryz.prog 5 = true := by kernel_rfl
@[simp] theorem se5 : selfTy Tryz.prog 5 = false := by kernel_rfl
@[simp] theorem sz9 : szP Tryz.prog 9 = some 1 := by kernel_rfl
@[simp] theorem by9 : byP Tryz.prog 9 = some 16 := by kernel_rfl
@[simp] theorem kk9 : kP Tryz.prog 9 = some (.str) := by kernel_rfl
@[simp] theorem ze9 : zeroP Tryz.prog 9 = some (.str []) := by kernel_rfl
@[simp] theorem ag9 : aggP Tryz.prog 9 = false := by kernel_rfl
@[simp] theorem ap9 : appTy Tryz.prog 9 = true := by kernel_rfl
@[simp] theorem iu9 : isU8 Tryz.prog 9 = false := by kernel_rfl
@[simp] theorem se9 : selfTy Tryz.prog 9 = false := by kernel_rfl
@[simp] theorem sz21 : szP Tryz.prog 21 = some 1 := by kernel_rfl
@[simp] theorem by21 : byP Tryz.prog 21 = some 4 := by kernel_rfl
@[simp] theorem kk21 : kP Tryz.prog 21 = some (.int .i32) := by kernel_rfl
@[simp] theorem ze21 : zeroP Tryz.prog 21 = some (.int .i32 0) := by kernel_rfl
@[simp] theorem ag21 : aggP Tryz.prog 21 = false := by kernel_rfl
@[simp] theorem ap21 : appTy Tryz.prog 21 = false := by kernel_rfl
@[simp] theorem iu21 : isU8 Tryz.prog 21 = false := by kernel_rfl
@[simp] theorem se21 : selfTy Tryz.prog 21 = false := by kernel_rfl
@[simp] theorem sz22 : szP Tryz.prog 22 = some 1 := by kernel_rfl
@[simp] theorem by22 : byP Tryz.prog 22 = some 8 := by kernel_rfl
@[simp] theorem kk22 : kP Tryz.prog 22 = some (.int .u64) := by kernel_rfl
@[simp] theorem ze22 : zeroP Tryz.prog 22 = some (.int .u64 0) := by kernel_rfl
@[simp] theorem ag22 : aggP Tryz.prog 22 = false := by kernel_rfl
@[simp] theorem ap22 : appTy Tryz.prog 22 = false := by kernel_rfl
@[simp] theorem iu22 : isU8 Tryz.prog 22 = false := by kernel_rfl
@[simp] theorem se22 : selfTy Tryz.prog 22 = false := by kernel_rfl
@[simp] theorem sz24 : szP Tryz.prog 24 = some 3 := by kernel_rfl
@[simp] theorem by24 : byP Tryz.prog 24 = some 40 := by kernel_rfl
@[simp] theorem kk24 : kP Tryz.prog 24 = some (.st) := by kernel_rfl
@[simp] theorem ze24 : zeroP Tryz.prog 24 = some (.agg ([.str [], .str [], .int .u64 0])) := by kernel_rfl
@[simp] theorem ag24 : aggP Tryz.prog 24 = true := by kernel_rfl
@[simp] theorem ap24 : appTy Tryz.prog 24 = false := by kernel_rfl
@[simp] theorem iu24 : isU8 Tryz.prog 24 = false := by kernel_rfl
@[simp] theorem se24 : selfTy Tryz.prog 24 = false := by kernel_rfl
@[simp] theorem fl24_0 : fldP Tryz.prog 24 0 = some (0, 9) := by kernel_rfl
@[simp] theorem fl24_1 : fldP Tryz.prog 24 1 = some (1, 9) := by kernel_rfl
@[simp] theorem fl24_2 : fldP Tryz.prog 24 2 = some (2, 22) := by kernel_rfl
@[simp] theorem pl24 : placeP Tryz.prog 24 = some (.inl [(0, 1), (1, 1), (2, 1)]) := by kernel_rfl
@[simp] theorem ft24 : flatL Tryz.prog 20 24 = some ([.s, .s, .i]) := by kernel_rfl
@[simp] theorem eg24 : Tryz.prog.eqGuardType Tryz.prog.depth 24 = false := by kernel_rfl
@[simp] theorem sz26 : szP Tryz.prog 26 = some 2 := by kernel_rfl
@[simp] theorem by26 : byP Tryz.prog 26 = some 24 := by kernel_rfl
@[simp] theorem kk26 : kP Tryz.prog 26 = some (.st) := by kernel_rfl
@[simp] theorem ze26 : zeroP Tryz.prog 26 = some (.agg ([.int .i64 0, .str []])) := by kernel_rfl
@[simp] theorem ag26 : aggP Tryz.prog 26 = true := by kernel_rfl
@[simp] theorem ap26 : appTy Tryz.prog 26 = false := by kernel_rfl
@[simp] theorem iu26 : isU8 Tryz.prog 26 = false := by kernel_rfl
@[simp] theorem se26 : selfTy Tryz.prog 26 = false := by kernel_rfl
@[simp] theorem fl26_0 : fldP Tryz.prog 26 0 = some (0, 3) := by kernel_rfl
@[simp] theorem fl26_1 : fldP Tryz.prog 26 1 = some (1, 9) := by kernel_rfl
@[simp] theorem pl26 : placeP Tryz.prog 26 = some (.inl [(0, 1), (1, 1)]) := by kernel_rfl
@[simp] theorem ft26 : flatL Tryz.prog 20 26 = some ([.i, .s]) := by kernel_rfl
@[simp] theorem eg26 : Tryz.prog.eqGuardType Tryz.prog.depth 26 = false := by kernel_rfl
@[simp] theorem sz27 : szP Tryz.prog 27 = some 1 := by kernel_rfl
@[simp] theorem by27 : byP Tryz.prog 27 = some 8 := by kernel_rfl
@[simp] theorem kk27 : kP Tryz.prog 27 = some (.fn) := by kernel_rfl
@[simp] theorem ze27 : zeroP Tryz.prog 27 = some (.nilfunc) := by kernel_rfl
@[simp] theorem ag27 : aggP Tryz.prog 27 = false := by kernel_rfl
@[simp] theorem ap27 : appTy Tryz.prog 27 = false := by kernel_rfl
@[simp] theorem iu27 : isU8 Tryz.prog 27 = false := by kernel_rfl
@[simp] theorem se27 : selfTy Tryz.prog 27 = false := by kernel_rfl
@[simp] theorem sz29 : szP Tryz.prog 29 = some 1 := by kernel_rfl
@[simp] theorem by29 : byP Tryz.prog 29 = some 8 := by kernel_rfl
@[simp] theorem kk29 : kP Tryz.prog 29 = some (.int .i64) := by kernel_rfl
@[simp] theorem ze29 : zeroP Tryz.prog 29 = some (.int .i64 0) := by kernel_rfl
@[simp] theorem ag29 : aggP Tryz.prog 29 = false := by kernel_rfl
@[simp] theorem ap29 : appTy Tryz.prog 29 = false := by kernel_rfl
@[simp] theorem iu29 : isU8 Tryz.prog 29 = false := by kernel_rfl
@[simp] theorem se29 : selfTy Tryz.prog 29 = false := by kernel_rfl
@[simp] theorem sz39 : szP Tryz.prog 39 = some 1 := by kernel_rfl
@[simp] theorem by39 : byP Tryz.prog 39 = some 24 := by kernel_rfl
@[simp] theorem kk39 : kP Tryz.prog 39 = some (.sl 26) := by kernel_rfl
@[simp] theorem ze39 : zeroP Tryz.prog 39 = some (.nilsl) := by kernel_rfl
@[simp] theorem sl39 : kSl Tryz.prog 39 = some 26 := by kernel_rfl
@[simp] theorem ag39 : aggP Tryz.prog 39 = false := by kernel_rfl
@[simp] theorem ap39 : appTy Tryz.prog 39 = true := by kernel_rfl
@[simp] theorem iu39 : isU8 Tryz.prog 39 = false := by kernel_rfl
@[simp] theorem se39 : selfTy Tryz.prog 39 = false := by kernel_rfl
@[simp] theorem sz46 : szP Tryz.prog 46 = some 1 := by kernel_rfl
@[simp] theorem by46 : byP Tryz.prog 46 = some 8 := by kernel_rfl
@[simp] theorem kk46 : kP Tryz.prog 46 = some (.ptr 58) := by kernel_rfl
@[simp] theorem ze46 : zeroP Tryz.prog 46 = some (.nilptr) := by kernel_rfl
@[simp] theorem ag46 : aggP Tryz.prog 46 = false := by kernel_rfl
@[simp] theorem ap46 : appTy Tryz.prog 46 = false := by kernel_rfl
@[simp] theorem iu46 : isU8 Tryz.prog 46 = false := by kernel_rfl
@[simp] theorem se46 : selfTy Tryz.prog 46 = false := by kernel_rfl
@[simp] theorem sz49 : szP Tryz.prog 49 = some 1 := by kernel_rfl
@[simp] theorem by49 : byP Tryz.prog 49 = some 24 := by kernel_rfl
@[simp] theorem kk49 : kP Tryz.prog 49 = some (.sl 5) := by kernel_rfl
@[simp] theorem ze49 : zeroP Tryz.prog 49 = some (.nilsl) := by kernel_rfl
@[simp] theorem sl49 : kSl Tryz.prog 49 = some 5 := by kernel_rfl
@[simp] theorem ag49 : aggP Tryz.prog 49 = false := by kernel_rfl
@[simp] theorem ap49 : appTy Tryz.prog 49 = true := by kernel_rfl
@[simp] theorem iu49 : isU8 Tryz.prog 49 = false := by kernel_rfl
@[simp] theorem se49 : selfTy Tryz.prog 49 = false := by kernel_rfl
@[simp] theorem sz56 : szP Tryz.prog 56 = some 1 := by kernel_rfl
@[simp] theorem by56 : byP Tryz.prog 56 = some 8 := by kernel_rfl
@[simp] theorem kk56 : kP Tryz.prog 56 = some (.st) := by kernel_rfl
@[simp] theorem ze56 : zeroP Tryz.prog 56 = some (.agg ([.int .u64 0])) := by kernel_rfl
@[simp] theorem ag56 : aggP Tryz.prog 56 = true := by kernel_rfl
@[simp] theorem ap56 : appTy Tryz.prog 56 = false := by kernel_rfl
@[simp] theorem iu56 : isU8 Tryz.prog 56 = false := by kernel_rfl
@[simp] theorem se56 : selfTy Tryz.prog 56 = false := by kernel_rfl
@[simp] theorem fl56_2 : fldP Tryz.prog 56 2 = some (0, 22) := by kernel_rfl
@[simp] theorem pl56 : placeP Tryz.prog 56 = some (.inl [(0, 0), (0, 0), (0, 1)]) := by kernel_rfl
@[simp] theorem sz58 : szP Tryz.prog 58 = some 5 := by kernel_rfl
@[simp] theorem by58 : byP Tryz.prog 58 = some 64 := by kernel_rfl
@[simp] theorem kk58 : kP Tryz.prog 58 = some (.st) := by kernel_rfl
@[simp] theorem ze58 : zeroP Tryz.prog 58 = some (.agg ([.str [], .str [], .int .u64 0, .int .u64 0, .str []])) := by kernel_rfl
@[simp] theorem ag58 : aggP Tryz.prog 58 = true := by kernel_rfl
@[simp] theorem ap58 : appTy Tryz.prog 58 = false := by kernel_rfl
@[simp] theorem iu58 : isU8 Tryz.prog 58 = false := by kernel_rfl
@[simp] theorem se58 : selfTy Tryz.prog 58 = false := by kernel_rfl
@[simp] theorem fl58_0 : fldP Tryz.prog 58 0 = some (0, 24) := by kernel_rfl
@[simp] theorem fl58_1 : fldP Tryz.prog 58 1 = some (3, 56) := by kernel_rfl
@[simp] theorem fl58_2 : fldP Tryz.prog 58 2 = some (4, 9) := by kernel_rfl
@[simp] theorem pl58 : placeP Tryz.prog 58 = some (.inl [(0, 3), (3, 1), (4, 1)]) := by kernel_rfl
@[simp] theorem sz81 : szP Tryz.prog 81 = some 4 := by kernel_rfl
@[simp] theorem by81 : byP Tryz.prog 81 = some 64 := by kernel_rfl
@[simp] theorem kk81 : kP Tryz.prog 81 = some (.st) := by kernel_rfl
@[simp] theorem ze81 : zeroP Tryz.prog 81 = some (.agg ([.str [], .str [], .str [], .str []])) := by kernel_rfl
@[simp] theorem ag81 : aggP Tryz.prog 81 = true := by kernel_rfl
@[simp] theorem ap81 : appTy Tryz.prog 81 = false := by kernel_rfl
@[simp] theorem iu81 : isU8 Tryz.prog 81 = false := by kernel_rfl
@[simp] theorem se81 : selfTy Tryz.prog 81 = false := by kernel_rfl
@[simp] theorem fl81_0 : fldP Tryz.prog 81 0 = some (0, 9) := by kernel_rfl
@[simp] theorem fl81_1 : fldP Tryz.prog 81 1 = some (1, 9) := by kernel_rfl
@[simp] theorem fl81_2 : fldP Tryz.prog 81 2 = some (2, 9) := by kernel_rfl
@[simp] theorem fl81_3 : fldP Tryz.prog 81 3 = some (3, 9) := by kernel_rfl
@[simp] theorem pl81 : placeP Tryz.prog 81 = some (.inl [(0, 1), (1, 1), (2, 1), (3, 1)]) := by kernel_rfl
@[simp] theorem ft81 : flatL Tryz.prog 20 81 = some ([.s, .s, .s, .s]) := by kernel_rfl
@[simp] theorem eg81 : Tryz.prog.eqGuardType Tryz.prog.depth 81 = false := by kernel_rfl
@[simp] theorem sz88 : szP Tryz.prog 88 = some 256 := by kernel_rfl
@[simp] theorem by88 : byP Tryz.prog 88 = some 256 := by kernel_rfl
@[simp] theorem kk88 : kP Tryz.prog 88 = some (.arr 256 4) := by kernel_rfl
@[simp] theorem ze88 : zeroP Tryz.prog 88 = some (.agg (List.replicate 256 (.bool false))) := by kernel_rfl
@[simp] theorem ar88 : kArr Tryz.prog 88 = some (256, 4) := by kernel_rfl
@[simp] theorem pl88 : placeP Tryz.prog 88 = some (.inr 1) := by kernel_rfl
@[simp] theorem ag88 : aggP Tryz.prog 88 = true := by kernel_rfl
@[simp] theorem ap88 : appTy Tryz.prog 88 = false := by kernel_rfl
@[simp] theorem iu88 : isU8 Tryz.prog 88 = false := by kernel_rfl
@[simp] theorem se88 : selfTy Tryz.prog 88 = false := by kernel_rfl
@[simp] theorem ft88 : flatL Tryz.prog 20 88 = some (List.replicate 256 (.b)) := by kernel_rfl
@[simp] theorem eg88 : Tryz.prog.eqGuardType Tryz.prog.depth 88 = false := by kernel_rfl
@[simp] theorem sz92 : szP Tryz.prog 92 = some 1 := by kernel_rfl
@[simp] theorem by92 : byP Tryz.prog 92 = some 8 := by kernel_rfl
@[simp] theorem kk92 : kP Tryz.prog 92 = some (.ptr 88) := by kernel_rfl
@[simp] theorem ze92 : zeroP Tryz.prog 92 = some (.nilptr) := by kernel_rfl
@[simp] theorem ag92 : aggP Tryz.prog 92 = false := by kernel_rfl
@[simp] theorem ap92 : appTy Tryz.prog 92 = false := by kernel_rfl
@[simp] theorem iu92 : isU8 Tryz.prog 92 = false := by kernel_rfl
@[simp] theorem se92 : selfTy Tryz.prog 92 = false := by kernel_rfl
@[simp] theorem sz98 : szP Tryz.prog 98 = some 1 := by kernel_rfl
@[simp] theorem by98 : byP Tryz.prog 98 = some 8 := by kernel_rfl
@[simp] theorem kk98 : kP Tryz.prog 98 = some (.ptr 22) := by kernel_rfl
@[simp] theorem ze98 : zeroP Tryz.prog 98 = some (.nilptr) := by kernel_rfl
@[simp] theorem ag98 : aggP Tryz.prog 98 = false := by kernel_rfl
@[simp] theorem ap98 : appTy Tryz.prog 98 = false := by kernel_rfl
@[simp] theorem iu98 : isU8 Tryz.prog 98 = false := by kernel_rfl
@[simp] theorem se98 : selfTy Tryz.prog 98 = false := by kernel_rfl
@[simp] theorem sz99 : szP Tryz.prog 99 = some 1 := by kernel_rfl
@[simp] theorem by99 : byP Tryz.prog 99 = some 4 := by kernel_rfl
@[simp] theorem kk99 : kP Tryz.prog 99 = some (.int .u32) := by kernel_rfl
@[simp] theorem ze99 : zeroP Tryz.prog 99 = some (.int .u32 0) := by kernel_rfl
@[simp] theorem ag99 : aggP Tryz.prog 99 = false := by kernel_rfl
@[simp] theorem ap99 : appTy Tryz.prog 99 = false := by kernel_rfl
@[simp] theorem iu99 : isU8 Tryz.prog 99 = false := by kernel_rfl
@[simp] theorem se99 : selfTy Tryz.prog 99 = false := by kernel_rfl
@[simp] theorem sz117 : szP Tryz.prog 117 = some 1 := by kernel_rfl
@[simp] theorem by117 : byP Tryz.prog 117 = some 8 := by kernel_rfl
@[simp] theorem kk117 : kP Tryz.prog 117 = some (.ptr 146) := by kernel_rfl
@[simp] theorem ze117 : zeroP Tryz.prog 117 = some (.nilptr) := by kernel_rfl
@[simp] theorem ag117 : aggP Tryz.prog 117 = false := by kernel_rfl
@[simp] theorem ap117 : appTy Tryz.prog 117 = false := by kernel_rfl
@[simp] theorem iu117 : isU8 Tryz.prog 117 = false := by kernel_rfl
@[simp] theorem se117 : selfTy Tryz.prog 117 = false := by kernel_rfl
@[simp] theorem sz120 : szP Tryz.prog 120 = some 16 := by kernel_rfl
@[simp] theorem by120 : byP Tryz.prog 120 = some 16 := by kernel_rfl
@[simp] theorem kk120 : kP Tryz.prog 120 = some (.arr 16 5) := by kernel_rfl
@[simp] theorem ze120 : zeroP Tryz.prog 120 = some (.agg ([.int .u8 0, .int .u8 0, .int .u8 0, .int .u8 0, .int .u8 0, .int .u8 0, .int .u8 0, .int .u8 0, .int .u8 0, .int .u8 0, .int .u8 0, .int .u8 0, .int .u8 0, .int .u8 0, .int .u8 0, .int .u8 0])) := by kernel_rfl
@[simp] theorem ar120 : kArr Tryz.prog 120 = some (16, 5) := by kernel_rfl
@[simp] theorem pl120 : placeP Tryz.prog 120 = some (.inr 1) := by kernel_rfl
@[simp] theorem ag120 : aggP Tryz.prog 120 = true := by kernel_rfl
@[simp] theorem ap120 : appTy Tryz.prog 120 = false := by kernel_rfl
@[simp] theorem iu120 : isU8 Tryz.prog 120 = false := by kernel_rfl
@[simp] theorem se120 : selfTy Tryz.prog 120 = false := by kernel_rfl
@[simp] theorem ft120 : flatL Tryz.prog 20 120 = some ([.i, .i, .i, .i, .i, .i, .i, .i, .i, .i, .i, .i, .i, .i, .i, .i]) := by kernel_rfl
@[simp] theorem eg120 : Tryz.prog.eqGuardType Tryz.prog.depth 120 = false := by kernel_rfl
@[simp] theorem sz121 : szP Tryz.prog 121 = some 16 := by kernel_rfl
@[simp] theorem by121 : byP Tryz.prog 121 = some 16 := by kernel_rfl
@[simp] theorem kk121 : kP Tryz.prog 121 = some (.arr 16 5) := by kernel_rfl
@[simp] theorem ze121 : zeroP Tryz.prog 121 = some (.agg ([.int .u8 0, .int .u8 0, .int .u8 0, .int .u8 0, .int .u8 0, .int .u8 0, .int .u8 0, .int .u8 0, .int .u8 0, .int .u8 0, .int .u8 0, .int .u8 0, .int .u8 0, .int .u8 0, .int .u8 0, .int .u8 0])) := by kernel_rfl
@[simp] theorem ar121 : kArr Tryz.prog 121 = some (16, 5) := by kernel_rfl
@[simp] theorem pl121 : placeP Tryz.prog 121 = some (.inr 1) := by kernel_rfl
@[simp] theorem ag121 : aggP Tryz.prog 121 = true := by kernel_rfl
@[simp] theorem ap121 : appTy Tryz.prog 121 = false := by kernel_rfl
@[simp] theorem iu121 : isU8 Tryz.prog 121 = false := by kernel_rfl
@[simp] theorem se121 : selfTy Tryz.prog 121 = false := by kernel_rfl
@[simp] theorem ft121 : flatL Tryz.prog 20 121 = some ([.i, .i, .i, .i, .i, .i, .i, .i, .i, .i, .i, .i, .i, .i, .i, .i]) := by kernel_rfl
@[simp] theorem eg121 : Tryz.prog.eqGuardType Tryz.prog.depth 121 = false := by kernel_rfl
@[simp] theorem sz124 : szP Tryz.prog 124 = some 2 := by kernel_rfl
@[simp] theorem by124 : byP Tryz.prog 124 = some 16 := by kernel_rfl
@[simp] theorem kk124 : kP Tryz.prog 124 = some (.arr 2 22) := by kernel_rfl
@[simp] theorem ze124 : zeroP Tryz.prog 124 = some (.agg ([.int .u64 0, .int .u64 0])) := by kernel_rfl
@[simp] theorem ar124 : kArr Tryz.prog 124 = some (2, 22) := by kernel_rfl
@[simp] theorem pl124 : placeP Tryz.prog 124 = some (.inr 1) := by kernel_rfl
@[simp] theorem ag124 : aggP Tryz.prog 124 = true := by kernel_rfl
@[simp] theorem ap124 : appTy Tryz.prog 124 = false := by kernel_rfl
@[simp] theorem iu124 : isU8 Tryz.prog 124 = false := by kernel_rfl
@[simp] theorem se124 : selfTy Tryz.prog 124 = false := by kernel_rfl
@[simp] theorem ft124 : flatL Tryz.prog 20 124 = some ([.i, .i]) := by kernel_rfl
@[simp] theorem eg124 : Tryz.prog.eqGuardType Tryz.prog.depth 124 = false := by kernel_rfl
@[simp] theorem sz127 : szP Tryz.prog 127 = some 1 := by kernel_rfl
@[simp] theorem by127 : byP Tryz.prog 127 = some 8 := by kernel_rfl
@[simp] theorem kk127 : kP Tryz.prog 127 = some (.fn) := by kernel_rfl
@[simp] theorem ze127 : zeroP Tryz.prog 127 = some (.nilfunc) := by kernel_rfl
@[simp] theorem ag127 : aggP Tryz.prog 127 = false := by kernel_rfl
@[simp] theorem ap127 : appTy Tryz.prog 127 = false := by kernel_rfl
@[simp] theorem iu127 : isU8 Tryz.prog 127 = false := by kernel_rfl
@[simp] theorem se127 : selfTy Tryz.prog 127 = false := by kernel_rfl
@[simp] theorem sz128 : szP Tryz.prog 128 = some 1 := by kernel_rfl
@[simp] theorem by128 : byP Tryz.prog 128 = some 24 := by kernel_rfl
@[simp] theorem kk128 : kP Tryz.prog 128 = some (.sl 9) := by kernel_rfl
@[simp] theorem ze128 : zeroP Tryz.prog 128 = some (.nilsl) := by kernel_rfl
@[simp] theorem sl128 : kSl Tryz.prog 128 = some 9 := by kernel_rfl
@[simp] theorem ag128 : aggP Tryz.prog 128 = false := by kernel_rfl
@[simp] theorem ap128 : appTy Tryz.prog 128 = true := by kernel_rfl
@[simp] theorem iu128 : isU8 Tryz.prog 128 = false := by kernel_rfl
@[simp] theorem se128 : selfTy Tryz.prog 128 = false := by kernel_rfl
@[simp] theorem sz135 : szP Tryz.prog 135 = some 1 := by kernel_rfl
@[simp] theorem by135 : byP Tryz.prog 135 = some 4 := by kernel_rfl
@[simp] theorem kk135 : kP Tryz.prog 135 = some (.st) := by kernel_rfl
@[simp] theorem ze135 : zeroP Tryz.prog 135 = some (.agg ([.int .u32 0])) := by kernel_rfl
@[simp] theorem ag135 : aggP Tryz.prog 135 = true := by kernel_rfl
@[simp] theorem ap135 : appTy Tryz.prog 135 = false := by kernel_rfl
@[simp] theorem iu135 : isU8 Tryz.prog 135 = false := by kernel_rfl
@[simp] theorem se135 : selfTy Tryz.prog 135 = false := by kernel_rfl
@[simp] theorem fl135_1 : fldP Tryz.prog 135 1 = some (0, 99) := by kernel_rfl
@[simp] theorem pl135 : placeP Tryz.prog 135 = some (.inl [(0, 0), (0, 1)]) := by kernel_rfl
@[simp] theorem sz137 : szP Tryz.prog 137 = some 2 := by kernel_rfl
@[simp] theorem by137 : byP Tryz.prog 137 = some 8 := by kernel_rfl
@[simp] theorem kk137 : kP Tryz.prog 137 = some (.st) := by kernel_rfl
@[simp] theorem ze137 : zeroP Tryz.prog 137 = some (.agg ([.int .i32 0, .int .u32 0])) := by kernel_rfl
@[simp] theorem ag137 : aggP Tryz.prog 137 = true := by kernel_rfl
@[simp] theorem ap137 : appTy Tryz.prog 137 = false := by kernel_rfl
@[simp] theorem iu137 : isU8 Tryz.prog 137 = false := by kernel_rfl
@[simp] theorem se137 : selfTy Tryz.prog 137 = false := by kernel_rfl
@[simp] theorem fl137_0 : fldP Tryz.prog 137 0 = some (0, 21) := by kernel_rfl
@[simp] theorem fl137_1 : fldP Tryz.prog 137 1 = some (1, 99) := by kernel_rfl
@[simp] theorem pl137 : placeP Tryz.prog 137 = some (.inl [(0, 1), (1, 1)]) := by kernel_rfl
@[simp] theorem sz139 : szP Tryz.prog 139 = some 2 := by kernel_rfl
@[simp] theorem by139 : byP Tryz.prog 139 = some 8 := by kernel_rfl
@[simp] theorem kk139 : kP Tryz.prog 139 = some (.st) := by kernel_rfl
@[simp] theorem ze139 : zeroP Tryz.prog 139 = some (.agg ([.int .i32 0, .int .u32 0])) := by kernel_rfl
@[simp] theorem ag139 : aggP Tryz.prog 139 = true := by kernel_rfl
@[simp] theorem ap139 : appTy Tryz.prog 139 = false := by kernel_rfl
@[simp] theorem iu139 : isU8 Tryz.prog 139 = false := by kernel_rfl
@[simp] theorem se139 : selfTy Tryz.prog 139 = false := by kernel_rfl
@[simp] theorem fl139_1 : fldP Tryz.prog 139 1 = some (0, 137) := by kernel_rfl
@[simp] theorem pl139 : placeP Tryz.prog 139 = some (.inl [(0, 0), (0, 2)]) := by kernel_rfl
@[simp] theorem sz141 : szP Tryz.prog 141 = some 3 := by kernel_rfl
@[simp] theorem by141 : byP Tryz.prog 141 = some 12 := by kernel_rfl
@[simp] theorem kk141 : kP Tryz.prog 141 = some (.st) := by kernel_rfl
@[simp] theorem ze141 : zeroP Tryz.prog 141 = some (.agg ([.int .u32 0, .int .i32 0, .int .u32 0])) := by kernel_rfl
@[simp] theorem ag141 : aggP Tryz.prog 141 = true := by kernel_rfl
@[simp] theorem ap141 : appTy Tryz.prog 141 = false := by kernel_rfl
@[simp] theorem iu141 : isU8 Tryz.prog 141 = false := by kernel_rfl
@[simp] theorem se141 : selfTy Tryz.prog 141 = false := by kernel_rfl
@[simp] theorem fl141_1 : fldP Tryz.prog 141 1 = some (0, 135) := by kernel_rfl
@[simp] theorem fl141_2 : fldP Tryz.prog 141 2 = some (1, 139) := by kernel_rfl
@[simp] theorem pl141 : placeP Tryz.prog 141 = some (.inl [(0, 0), (0, 1), (1, 2)]) := by kernel_rfl
@[simp] theorem sz142 : szP Tryz.prog 142 = some 256 := by kernel_rfl
@[simp] theorem by142 : byP Tryz.prog 142 = some 256 := by kernel_rfl
@[simp] theorem kk142 : kP Tryz.prog 142 = some (.arr 256 5) := by kernel_rfl
@[simp] theorem ze142 : zeroP Tryz.prog 142 = some (.agg (List.replicate 256 (.int .u8 0))) := by kernel_rfl
@[simp] theorem ar142 : kArr Tryz.prog 142 = some (256, 5) := by kernel_rfl
@[simp] theorem pl142 : placeP Tryz.prog 142 = some (.inr 1) := by kernel_rfl
@[simp] theorem ag142 : aggP Tryz.prog 142 = true := by kernel_rfl
@[simp] theorem ap142 : appTy Tryz.prog 142 = false := by kernel_rfl
@[simp] theorem iu142 : isU8 Tryz.prog 142 = false := by kernel_rfl
@[simp] theorem se142 : selfTy Tryz.prog 142 = false := by kernel_rfl
@[simp] theorem ft142 : flatL Tryz.prog 20 142 = some (List.replicate 256 (.i)) := by kernel_rfl
@[simp] theorem eg142 : Tryz.prog.eqGuardType Tryz.prog.depth 142 = false := by kernel_rfl
@[simp] theorem sz143 : szP Tryz.prog 143 = some 4096 := by kernel_rfl
@[simp] theorem by143 : byP Tryz.prog 143 = some 4096 := by kernel_rfl
@[simp] theorem kk143 : kP Tryz.prog 143 = some (.arr 16 142) := by kernel_rfl
@[simp] theorem ze143 : zeroP Tryz.prog 143 = some (.agg (List.replicate 4096 (.int .u8 0))) := by
  apply zeroP_of (i := Tryz.t143) (by kernel_rfl) (Eq.refl Tryz.t143.zero)
  case hl =>
    repeat' with_reducible apply ofCells_app
    all_goals first | (show ofCells _ = some (List.replicate 64 (.int .u8 0)); rfl)
  case hok =>
    repeat' with_reducible apply all_app
    all_goals first | exact all_rep _ _ rfl | rfl
  case heq => simp only [List.append_assoc, rep_rep, List.replicate_append_replicate, Nat.reduceAdd]
@[simp] theorem ar143 : kArr Tryz.prog 143 = some (16, 142) := by kernel_rfl
@[simp] theorem pl143 : placeP Tryz.prog 143 = some (.inr 256) := by kernel_rfl
@[simp] theorem ag143 : aggP Tryz.prog 143 = true := by kernel_rfl
@[simp] theorem ap143 : appTy Tryz.prog 143 = false := by kernel_rfl
@[simp] theorem iu143 : isU8 Tryz.prog 143 = false := by kernel_rfl
@[simp] theorem se143 : selfTy Tryz.prog 143 = false := by kernel_rfl
@[simp] theorem sz144 : szP Tryz.prog 144 = some 1 := by kernel_rfl
@[simp] theorem by144 : byP Tryz.prog 144 = some 24 := by kernel_rfl
@[simp] theorem kk144 : kP Tryz.prog 144 = some (.sl 121) := by kernel_rfl
@[simp] theorem ze144 : zeroP Tryz.prog 144 = some (.nilsl) := by kernel_rfl
@[simp] theorem sl144 : kSl Tryz.prog 144 = some 121 := by kernel_rfl
@[simp] theorem ag144 : aggP Tryz.prog 144 = false := by kernel_rfl
@[simp] theorem ap144 : appTy Tryz.prog 144 = true := by kernel_rfl
@[simp] theorem iu144 : isU8 Tryz.prog 144 = false := by kernel_rfl
@[simp] theorem se144 : selfTy Tryz.prog 144 = false := by kernel_rfl
@[simp] theorem sz146 : szP Tryz.prog 146 = some 4613 := by kernel_rfl
@[simp] theorem by146 : byP Tryz.prog 146 = some 4664 := by kernel_rfl
@[simp] theorem kk146 : kP Tryz.prog 146 = some (.st) := by kernel_rfl
@[simp] theorem ze146 : zeroP Tryz.prog 146 = some (.agg ([.str [], .int .u32 0, .int .i32 0, .int .u32 0] ++ List.replicate 4608 (.int .u8 0) ++ [.nilsl])) := by
  apply zeroP_of (i := Tryz.t146) (by kernel_rfl) (Eq.refl Tryz.t146.zero)
  case hl =>
    repeat' with_reducible apply ofCells_app
    all_goals first | (show ofCells _ = some (List.replicate 36 (.int .u8 0)); rfl) | (show ofCells _ = some ([.str [], .int .u32 0, .int .i32 0, .int .u32 0] ++ List.replicate 32 (.int .u8 0)); rfl) | (show ofCells _ = some (List.replicate 35 (.int .u8 0) ++ [.nilsl]); rfl) | (show ofCells _ = some (List.replicate 37 (.int .u8 0)); rfl) | (show ofCells _ = some ([.str [], .int .u32 0, .int .i32 0, .int .u32 0] ++ List.replicate 33 (.int .u8 0)); rfl) | (show ofCells _ = some (List.replicate 36 (.int .u8 0) ++ [.nilsl]); rfl)
  case hok =>
    repeat' with_reducible apply all_app
    all_goals first | exact all_rep _ _ rfl | rfl
  case heq => simp only [List.append_assoc, rep_rep, List.replicate_append_replicate, Nat.reduceAdd]
@[simp] theorem ag146 : aggP Tryz.prog 146 = true := by kernel_rfl
@[simp] theorem ap146 : appTy Tryz.prog 146 = false := by kernel_rfl
@[simp] theorem iu146 : isU8 Tryz.prog 146 = false := by kernel_rfl
@[simp] theorem se146 : selfTy Tryz.prog 146 = false := by kernel_rfl
@[simp] theorem fl146_0 : fldP Tryz.prog 146 0 = some (0, 9) := by kernel_rfl
@[simp] theorem fl146_1 : fldP Tryz.prog 146 1 = some (1, 141) := by kernel_rfl
@[simp] theorem fl146_2 : fldP Tryz.prog 146 2 = some (4, 142) := by kernel_rfl
@[simp] theorem fl146_3 : fldP Tryz.prog 146 3 = some (260, 142) := by kernel_rfl
@[simp] theorem fl146_4 : fldP Tryz.prog 146 4 = some (516, 143) := by kernel_rfl
@[simp] theorem fl146_5 : fldP Tryz.prog 146 5 = some (4612, 144) := by kernel_rfl
@[simp] theorem pl146 : placeP Tryz.prog 146 = some (.inl [(0, 1), (1, 3), (4, 256), (260, 256), (516, 4096), (4612, 1)]) := by kernel_rfl
@[simp] theorem sz152 : szP Tryz.prog 152 = some 1 := by kernel_rfl
@[simp] theorem by152 : byP Tryz.prog 152 = some 8 := by kernel_rfl
@[simp] theorem kk152 : kP Tryz.prog 152 = some (.ptr 142) := by kernel_rfl
@[simp] theorem ze152 : zeroP Tryz.prog 152 = some (.nilptr) := by kernel_rfl
@[simp] theorem ag152 : aggP Tryz.prog 152 = false := by kernel_rfl
@[simp] theorem ap152 : appTy Tryz.prog 152 = false := by kernel_rfl
@[simp] theorem iu152 : isU8 Tryz.prog 152 = false := by kernel_rfl
@[simp] theorem se152 : selfTy Tryz.prog 152 = false := by kernel_rfl
@[simp] theorem sz154 : szP Tryz.prog 154 = some 1 := by kernel_rfl
@[simp] theorem by154 : byP Tryz.prog 154 = some 8 := by kernel_rfl
@[simp] theorem kk154 : kP Tryz.prog 154 = some (.ptr 121) := by kernel_rfl
@[simp] theorem ze154 : zeroP Tryz.prog 154 = some (.nilptr) := by kernel_rfl
@[simp] theorem ag154 : aggP Tryz.prog 154 = false := by kernel_rfl
@[simp] theorem ap154 : appTy Tryz.prog 154 = false := by kernel_rfl
@[simp] theorem iu154 : isU8 Tryz.prog 154 = false := by kernel_rfl
@[simp] theorem se154 : selfTy Tryz.prog 154 = false := by kernel_rfl
@[simp] theorem sz155 : szP Tryz.prog 155 = some 4 := by kernel_rfl
@[simp] theorem by155 : byP Tryz.prog 155 = some 4 := by kernel_rfl
@[simp] theorem kk155 : kP Tryz.prog 155 = some (.arr 4 5) := by kernel_rfl
@[simp] theorem ze155 : zeroP Tryz.prog 155 = some (.agg ([.int .u8 0, .int .u8 0, .int .u8 0, .int .u8 0])) := by kernel_rfl
@[simp] theorem ar155 : kArr Tryz.prog 155 = some (4, 5) := by kernel_rfl
@[simp] theorem pl155 : placeP Tryz.prog 155 = some (.inr 1) := by kernel_rfl
@[simp] theorem ag155 : aggP Tryz.prog 155 = true := by kernel_rfl
@[simp] theorem ap155 : appTy Tryz.prog 155 = false := by kernel_rfl
@[simp] theorem iu155 : isU8 Tryz.prog 155 = false := by kernel_rfl
@[simp] theorem se155 : selfTy Tryz.prog 155 = false := by kernel_rfl
@[simp] theorem ft155 : flatL Tryz.prog 20 155 = some ([.i, .i, .i, .i]) := by kernel_rfl
@[simp] theorem eg155 : Tryz.prog.eqGuardType Tryz.prog.depth 155 = false := by kernel_rfl
@[simp] theorem sz168 : szP Tryz.prog 168 = some 1 := by kernel_rfl
@[simp] theorem by168 : byP Tryz.prog 168 = some 24 := by kernel_rfl
@[simp] theorem kk168 : kP Tryz.prog 168 = some (.sl 155) := by kernel_rfl
@[simp] theorem ze168 : zeroP Tryz.prog 168 = some (.nilsl) := by kernel_rfl
@[simp] theorem sl168 : kSl Tryz.prog 168 = some 155 := by kernel_rfl
@[simp] theorem ag168 : aggP Tryz.prog 168 = false := by kernel_rfl
@[simp] theorem ap168 : appTy Tryz.prog 168 = true := by kernel_rfl
@[simp] theorem iu168 : isU8 Tryz.prog 168 = false := by kernel_rfl
@[simp] theorem se168 : selfTy Tryz.prog 168 = false := by kernel_rfl
@[simp] theorem sz179 : szP Tryz.prog 179 = some 1 := by kernel_rfl
@[simp] theorem by179 : byP Tryz.prog 179 = some 24 := by kernel_rfl
@[simp] theorem kk179 : kP Tryz.prog 179 = some (.sl 49) := by kernel_rfl
@[simp] theorem ze179 : zeroP Tryz.prog 179 = some (.nilsl) := by kernel_rfl
@[simp] theorem sl179 : kSl Tryz.prog 179 = some 49 := by kernel_rfl
@[simp] theorem ag179 : aggP Tryz.prog 179 = false := by kernel_rfl
@[simp] theorem ap179 : appTy Tryz.prog 179 = true := by kernel_rfl
@[simp] theorem iu179 : isU8 Tryz.prog 179 = false := by kernel_rfl
@[simp] theorem se179 : selfTy Tryz.prog 179 = false := by kernel_rfl
attribute [simp] Tryz.underlying1
attribute [simp] Tryz.underlying2
attribute [simp] Tryz.underlying3
attribute [simp] Tryz.underlying4
attribute [simp] Tryz.underlying5
attribute [simp] Tryz.underlying6
attribute [simp] Tryz.underlying7
attribute [simp] Tryz.underlying8
attribute [simp] Tryz.underlying9
attribute [simp] Tryz.underlying10
attribute [simp] Tryz.underlying11
attribute [simp] Tryz.underlying12
attribute [simp] Tryz.underlying13
attribute [simp] Tryz.underlying14
attribute [simp] Tryz.underlying15
attribute [simp] Tryz.underlying16
attribute [simp] Tryz.underlying17
attribute [simp] Tryz.underlying18
attribute [simp] Tryz.underlying19
attribute [simp] Tryz.underlying21
attribute [simp] Tryz.underlying22
attribute [simp] Tryz.underlying23
attribute [simp] Tryz.underlying24
attribute [simp] Tryz.underlying25
attribute [simp] Tryz.underlying26
attribute [simp] Tryz.underlying27
attribute [simp] Tryz.underlying28
attribute [simp] Tryz.underlying29
attribute [simp] Tryz.underlying31
attribute [simp] Tryz.underlying33
attribute [simp] Tryz.underlying35
attribute [simp] Tryz.underlying37
attribute [simp] Tryz.underlying38
attribute [simp] Tryz.underlying39
attribute [simp] Tryz.underlying40
attribute [simp] Tryz.underlying41
attribute [simp] Tryz.underlying42
attribute [simp] Tryz.underlying43
attribute [simp] Tryz.underlying45
attribute [simp] Tryz.underlying46
attribute [simp] Tryz.underlying48
attribute [simp] Tryz.underlying49
attribute [simp] Tryz.underlying50
attribute [simp] Tryz.underlying51
attribute [simp] Tryz.underlying52
attribute [simp] Tryz.underlying53
attribute [simp] Tryz.underlying54
attribute [simp] Tryz.underlying55
attribute [simp] Tryz.underlying56
attribute [simp] Tryz.underlying57
attribute [simp] Tryz.underlying58
attribute [simp] Tryz.underlying59
attribute [simp] Tryz.underlying60
attribute [simp] Tryz.underlying61
attribute [simp] Tryz.underlying62
attribute [simp] Tryz.underlying63
attribute [simp] Tryz.underlying64
attribute [simp] Tryz.underlying65
attribute [simp] Tryz.underlying66
attribute [simp] Tryz.underlying68
attribute [simp] Tryz.underlying69
attribute [simp] Tryz.underlying70
attribute [simp] Tryz.underlying71
attribute [simp] Tryz.underlying72
attribute [simp] Tryz.underlying73
attribute [simp] Tryz.underlying77
attribute [simp] Tryz.underlying78
attribute [simp] Tryz.underlying79
attribute [simp] Tryz.underlying80
attribute [simp] Tryz.underlying81
attribute [simp] Tryz.underlying83
attribute [simp] Tryz.underlying84
attribute [simp] Tryz.underlying85
attribute [simp] Tryz.underlying86
attribute [simp] Tryz.underlying87
attribute [simp] Tryz.underlying88
attribute [simp] Tryz.underlying90
attribute [simp] Tryz.underlying91
attribute [simp] Tryz.underlying92
attribute [simp] Tryz.underlying93
attribute [simp] Tryz.underlying94
attribute [simp] Tryz.underlying95
attribute [simp] Tryz.underlying96
attribute [simp] Tryz.underlying97
attribute [simp] Tryz.underlying98
attribute [simp] Tryz.underlying99
attribute [simp] Tryz.underlying101
attribute [simp] Tryz.underlying103
attribute [simp] Tryz.underlying104
attribute [simp] Tryz.underlying105
attribute [simp] Tryz.underlying106
attribute [simp] Tryz.underlying107
attribute [simp] Tryz.underlying108
attribute [simp] Tryz.underlying109
attribute [simp] Tryz.underlying111
attribute [simp] Tryz.underlying112
attribute [simp] Tryz.underlying113
attribute [simp] Tryz.underlying115
attribute [simp] Tryz.underlying116
attribute [simp] Tryz.underlying117
attribute [simp] Tryz.underlying119
attribute [simp] Tryz.underlying120
attribute [simp] Tryz.underlying121
attribute [simp] Tryz.underlying122
attribute [simp] Tryz.underlying123
attribute [simp] Tryz.underlying124
attribute [simp] Tryz.underlying125
attribute [simp] Tryz.underlying126
attribute [simp] Tryz.underlying127
attribute [simp] Tryz.underlying128
attribute [simp] Tryz.underlying129
attribute [simp] Tryz.underlying130
attribute [simp] Tryz.underlying131
attribute [simp] Tryz.underlying132
attribute [simp] Tryz.underlying133
attribute [simp] Tryz.underlying134
attribute [simp] Tryz.underlying135
attribute [simp] Tryz.underlying136
attribute [simp] Tryz.underlying137
attribute [simp] Tryz.underlying138
attribute [simp] Tryz.underlying139
attribute [simp] Tryz.underlying140
attribute [simp] Tryz.underlying141
attribute [simp] Tryz.underlying142
attribute [simp] Tryz.underlying143
attribute [simp] Tryz.underlying144
attribute [simp] Tryz.underlying145
attribute [simp] Tryz.underlying146
attribute [simp] Tryz.underlying147
attribute [simp] Tryz.underlying148
attribute [simp] Tryz.underlying149
attribute [simp] Tryz.underlying150
attribute [simp] Tryz.underlying151
attribute [simp] Tryz.underlying152
attribute [simp] Tryz.underlying153
attribute [simp] Tryz.underlying154
attribute [simp] Tryz.underlying155
attribute [simp] Tryz.underlying156
attribute [simp] Tryz.underlying157
attribute [simp] Tryz.underlying158
attribute [simp] Tryz.underlying159
attribute [simp] Tryz.underlying160
attribute [simp] Tryz.underlying161
attribute [simp] Tryz.underlying162
attribute [simp] Tryz.underlying163
attribute [simp] Tryz.underlying164
attribute [simp] Tryz.underlying165
attribute [simp] Tryz.underlying166
attribute [simp] Tryz.underlying167
attribute [simp] Tryz.underlying168
attribute [simp] Tryz.underlying169
attribute [simp] Tryz.underlying170
attribute [simp] Tryz.underlying171
attribute [simp] Tryz.underlying172
attribute [simp] Tryz.underlying173
attribute [simp] Tryz.underlying174
attribute [simp] Tryz.underlying175
attribute [simp] Tryz.underlying176
attribute [simp] Tryz.underlying177
attribute [simp] Tryz.underlying178
attribute [simp] Tryz.underlying179
attribute [simp] Tryz.underlying180
attribute [simp] Tryz.underlying181
attribute [simp] Tryz.underlying182
attribute [simp] Tryz.underlying183
attribute [simp] Tryz.underlying184
attribute [simp] Tryz.underlying185
attribute [simp] Tryz.underlying186
attribute [simp] Tryz.underlying187
attribute [simp] Tryz.underlying188
attribute [simp] Tryz.underlying189
attribute [simp] Tryz.underlying190
attribute [simp] Tryz.underlying191
attribute [simp] Tryz.underlying192
attribute [simp] Tryz.underlying193
attribute [simp] Tryz.underlying194
attribute [simp] Tryz.underlying195
attribute [simp] Tryz.underlying196
attribute [simp] Tryz.underlying197
attribute [simp] Tryz.underlying198
attribute [simp] Tryz.underlying199
attribute [simp] Tryz.underlying200
attribute [simp] Tryz.underlying201
attribute [simp] Tryz.underlying202
attribute [simp] Tryz.underlying203
attribute [simp] Tryz.underlying204
attribute [simp] Tryz.underlying205
end Pv.Tryz

namespace Pv
open Go Go.RowKit
variable {X : Ctx} {G : Ghost} {ph : PH} {w : World} {ρ : Option Nat} {n0 : Nat} {Q : Exit → PSt → PH → Prop}

/-- All that was there before is as it was. -/
structure Keeps (base ph : PH) : Prop where
  n : base.n ≤ ph.n
  bl : ∀ p, p < base.n → ph.get p = base.get p
  ob : ∀ r o, base.ob r = some o → ph.ob r = some o
  ty : ∀ p, p < base.n → ph.ty p = base.ty p
  gr : ∀ p, p < base.n → ph.gro p = base.gro p

theorem Keeps.refl (ph : PH) : Keeps ph ph := ⟨Nat.le_refl _, fun _ _ => rfl, fun _ _ h => h, fun _ _ => rfl, fun _ _ => rfl⟩
theorem Keeps.trans {a b c : PH} (h : Keeps a b) (k : Keeps b c) : Keeps a c :=
  ⟨Nat.le_trans h.n k.n, fun p hp => (k.bl p (Nat.lt_of_lt_of_le hp h.n)).trans (h.bl p hp), fun r o e => k.ob r o (h.ob r o e), fun p hp => (k.ty p (Nat.lt_of_lt_of_le hp h.n)).trans (h.ty p hp), fun p hp => (k.gr p (Nat.lt_of_lt_of_le hp h.n)).trans (h.gr p hp)⟩
theorem Keeps.push {a b : PH} (h : Keeps a b) (c : List PV) : Keeps a (b.push c) :=
  ⟨by have := h.n; simp; omega, fun p hp => by rw [PH.get_push, if_neg (by have := h.n; omega)]; exact h.bl p hp, h.ob, h.ty, fun p hp => by rw [PH.gro_push]; exact h.gr p hp⟩
theorem Keeps.put {a b : PH} (h : Keeps a b) {p : Nat} (hp : a.n ≤ p) (hl : p < b.n) (c : List PV) : Keeps a (b.put p c) :=
  ⟨by have := h.n; simp; omega, fun q hq => by rw [PH.get_put hl, if_neg (by omega)]; exact h.bl q hq, h.ob, h.ty, fun q hq => by rw [PH.gro_put, if_neg (by omega)]; exact h.gr q hq⟩
theorem Keeps.kill {a b : PH} (h : Keeps a b) {p : Nat} (hp : a.n ≤ p) : Keeps a (b.kill p) :=
  ⟨by have := h.n; simp; omega, fun q hq => by rw [PH.get_kill, if_neg (by omega)]; exact h.bl q hq, h.ob, h.ty, fun q hq => by rw [PH.gro_kill, if_neg (by omega)]; exact h.gr q hq⟩
theorem Keeps.tell {a b : PH} (h : Keeps a b) {p : Nat} (hp : a.n ≤ p) (e : TypeId) : Keeps a (b.setTy p e) :=
  ⟨h.n, h.bl, h.ob, fun q hq => by simp only [PH.setTy]; rw [if_neg (by omega)]; exact h.ty q hq, h.gr⟩

theorem Keeps.cut_eq {base ph : PH} (h : Keeps base ph) (hb : ∀ p e, base.ty p = some e → p < base.n) : ph.cut base.n base.ob = base := by
  unfold PH.cut
  have : ph.bl.take base.n = base.bl := by
    have hn : base.bl.length ≤ ph.bl.length := h.n
    apply List.ext_getElem?
    intro i
    rw [List.getElem?_take]
    split
    · rename_i hi
      have hi' : i < base.bl.length := hi
      have h1 := h.bl i hi
      have h2 := h.gr i hi
      simp only [PH.get, PH.gro, List.getElem?_eq_getElem hi', List.getElem?_eq_getElem (show i < ph.bl.length by omega), Option.join_some] at h1 h2
      rw [List.getElem?_eq_getElem hi', List.getElem?_eq_getElem (show i < ph.bl.length by omega)]
      congr 1
      revert h1 h2
      cases ph.bl[i] with
      | none => cases base.bl[i] with
        | none => intros; rfl
        | some b => cases b <;> simp [Blk.cells, Blk.gro]
      | some a => cases base.bl[i] with
        | none => cases a <;> simp [Blk.cells, Blk.gro]
        | some b => cases a <;> cases b <;> simp [Blk.cells, Blk.gro]
    · rename_i hi
      have hi' : base.bl.length ≤ i := Nat.le_of_not_lt hi
      rw [List.getElem?_eq_none hi']
  have ht : (fun p => if p < base.n then ph.ty p else none) = base.ty := by
    funext p
    split
    · rename_i hp; exact h.ty p hp
    · rename_i hp
      cases e : base.ty p with
      | none => rfl
      | some t => exact absurd (hb p t e) hp
  rw [this, ht]

/-- What stands there names nothing that isn't there. -/
def Shut (base : PH) : Prop := (∀ p c, base.get p = some c → Scs base.n c) ∧ (∀ r o, base.ob r = some o → ObSc base.n o)

theorem Rel.shuts (h : Rel X G ph w) : Shut ph := by
  refine ⟨fun p c hp => ?_, fun r o ho => ?_⟩
  · obtain ⟨L, vals, cs, e, fz, hL, o⟩ := h.own p c hp
    have := o.rv.scs; rw [h.lenN] at this; exact this
  · obtain ⟨_, h2⟩ := h.ob r o ho
    cases o with
    | loop l => obtain ⟨rt, q, _⟩ := h2; have := q.scs; rw [h.lenN] at this; exact this
    | defd => trivial

/-- A function of its arguments alone. -/
def Fn (X : Ctx) (f : FuncId) (args : List PV) (v : PV) : Prop := ∀ ph, PCalls X f args ph fun v' ph' => ph' = ph ∧ v' = v

theorem w_pure {f : FuncId} {args : List PV} {v : PV} {K : PV → PH → Prop} (h : Fn X f args v) (k : K v ph) : PCalls X f args ph K :=
  (h ph).mono (by rintro v' ph' ⟨rfl, rfl⟩; exact k)

theorem frz_scalar {ph : PH} {n d : Nat} {p : PV} (h : (match p with | .undef | .bool _ | .int _ _ | .str _ | .nilptr | .nilsl | .zsl | .nilfunc | .nilif | .yield _ => true | _ => false) = true) : frz ph n (d + 1) p = some p := by
  unfold frz
  cases p <;> simp_all

/-- Cells without blocks. -/
def scalarV : PV → Bool
  | .undef | .bool _ | .int _ _ | .str _ | .nilptr | .nilsl | .zsl | .nilfunc | .nilif | .yield _ => true
  | _ => false

theorem frzs_scalars {ph : PH} {n d : Nat} : ∀ {ps : List PV}, ps.all scalarV = true → frzs ph n (d + 1) ps = some ps
  | [], _ => by unfold frzs; rfl
  | p :: ps, h => by
    simp only [List.all_cons, Bool.and_eq_true] at h
    unfold frzs
    rw [frz_scalar (by have := h.1; unfold scalarV at this; exact this), frzs_scalars h.2]

theorem frz_agg {ph : PH} {n d : Nat} {ps qs : List PV} (h : frzs ph n d ps = some qs) : frz ph n (d + 1) (.agg ps) = some (.agg qs) := by unfold frz; simp only [h, Option.map_some]
theorem frz_tuple {ph : PH} {n d : Nat} {ps qs : List PV} (h : frzs ph n d ps = some qs) : frz ph n (d + 1) (.tuple ps) = some (.tuple qs) := by unfold frz; simp only [h, Option.map_some]
theorem frz_fsl {ph : PH} {n d e l : Nat} {ps qs : List PV} (h : frzs ph n d ps = some qs) : frz ph n (d + 1) (.fsl e l ps) = some (.fsl e l qs) := by unfold frz; simp only [h, Option.map_some]
theorem frz_sl {ph : PH} {n d p off e l : Nat} {cap : Option Nat} {cells qs : List PV} (hn : n ≤ p) (hp : ph.get p = some cells) (hl : off + l * e ≤ cells.length) (h : frzs ph n d (seg cells off (l * e)) = some qs) : frz ph n (d + 1) (.sl p off e l cap) = some (.fsl e l qs) := by
  unfold frz
  simp only [if_neg (show ¬ p < n by omega), hp, if_pos hl, h, Option.map_some]
theorem frzs_nil {ph : PH} {n d : Nat} : frzs ph n d [] = some [] := by unfold frzs; rfl
theorem frzs_cons {ph : PH} {n d : Nat} {p q : PV} {ps qs : List PV} (h : frz ph n d p = some q) (hs : frzs ph n d ps = some qs) : frzs ph n d (p :: ps) = some (q :: qs) := by unfold frzs; rw [h, hs]

end Pv
