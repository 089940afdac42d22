/- Part of the proof: the layer of pure values, or walks through functions (PvWr9, PvShelf, PvTrim). -/
import Derived.Test.YtbocckencbkdeabDoorPvWr8
import Derived.Test.YtbocckencbkdeabDoorPvH
import Derived.Test.YtbocckencbkdeabDoorPvDrawF
import Derived.Shelf.Strings.SlTrimAscii
set_option linter.all false
--nosplit
--keep2
namespace Pv
set_option maxRecDepth 20000
set_option maxHeartbeats 4000000
open Go Go.Proofs Go.RowKit
def tb9_8Wr9 : Tab := [[], [0], [0, 1], [0, 1, 2], [], [4], [4, 5], [4, 5, 6], [4, 5, 6, 7], [], [9], [9, 10], [9, 10, 11], [], [13], [13, 14], [], [16], [16, 17], [16, 17, 18], [], [20], [20, 21], [20, 21, 22], [], [0, 1, 2, 3, 4, 5, 6, 7, 8, 9, 10, 11, 12, 13, 14, 15, 16, 17, 18, 19, 20, 21, 22, 23, 24], [], [0, 1, 2, 3, 4, 5, 6, 7, 8, 9, 10, 11, 12, 13, 14, 15, 16, 17, 18, 19, 20, 21, 22, 23, 24, 25, 26]]
def pl9_8Wr9 : Plan := [(0, true, []), (1, true, []), (2, true, []), (3, true, []), (4, true, []), (5, true, []), (6, true, []), (7, true, []), (8, true, []), (9, true, []), (10, true, []), (11, true, []), (12, true, []), (13, true, []), (14, true, []), (15, true, []), (16, true, []), (17, true, []), (18, true, []), (19, true, []), (20, true, []), (21, true, []), (22, true, []), (23, true, []), (24, true, []), (25, true, []), (26, false, [0, 1, 2, 3, 4, 5, 6, 7, 8, 9, 10, 11, 12, 13, 14, 15, 16, 17, 18, 19, 20, 21, 22, 23, 24, 25]), (27, false, [])]
variable {w0 : World}

def rdP (s : List UInt8) (f : List FR) : Nat → PKT
  | 0 => { pkOf s f with d := 0, e := 0, r := 0, a := 0, o := 0, c := 0, x := 0 }
  | 1 => { pkOf s f with e := 0, r := 0, a := 0, o := 0, c := 0, x := 0 }
  | 2 => { pkOf s f with r := 0, a := 0, o := 0, c := 0, x := 0 }
  | 3 => { pkOf s f with a := 0, o := 0, c := 0, x := 0 }
  | 4 => { pkOf s f with o := 0, c := 0, x := 0 }
  | 5 => { pkOf s f with c := 0, x := 0 }
  | 6 => { pkOf s f with x := 0 }
  | _ => pkOf s f
def pk0C : List PV := [.int .i64 0, .int .i64 0, .int .i64 0, .int .i64 0, .int .i64 0, .int .i64 0, .int .u32 0, .int .u32 0, .int .u32 0, .int .u64 0, .int .u64 0, .int .u64 0, .int .u64 0, .nilsl]
theorem wireRead_ok (s : List UInt8) (hs : s.length < 2 ^ 50) : Fn (Cx w0) 9 [.str s] (.tuple [.agg (pkC (readP s).1), .int .i64 (readP s).2]) := by
  by_cases h1 : s.length < 48
  · rw [show readP s = (pk0, 11) by rw [readP, if_pos h1]]
    have h1' : (s.length : Int) < 48 := by omega
    refine fn_H ([Go.ResultVar.cell 2 26, Go.ResultVar.tmp 3]) Tryd.func9 rfl rfl (by decide) fun ph hW Q hQ => ?_
    simp only [start, List.length_cons, List.length_nil, List.cons_append, List.nil_append, Nat.reduceAdd, Nat.reduceSub, List.replicate_succ, List.replicate_zero, Tryd.ntmps9]
    repeat' first | simp -implicitDefEqProofs (maxSteps := 400000) (disch := first | with_reducible rfl | omega | (simp only [wkH] <;> omega) | decide) only [wkAll, wkL, popO, wantedP, if_true, if_false, reduceIte, ne_eq, Nat.reduceAdd, Nat.reduceSub, Nat.reduceMul, Nat.reduceLeDiff, Nat.reduceLT, ofCells, ofCell, reduceCtorEq, Int.reduceLE, Int.reduceLT, Int.reduceToNat, Int.reduceAdd, Int.reduceSub, Int.reduceMul, Int.reduceNeg, Int.reduceBEq, Int.reduceBNe, Int.reduceEq, eqCell, eqCells, binP, unP, convP, lenP, builtinP, sliceDataP, unsafeStringP, appendT, appendS, appendP, copyP, srcP, mmsP, mmP, indexOp, indexAddrOp, sliceOp, bndsP, bndP, capw, capCut, loadOp, storeOp, loadP, fieldOp, fieldAddrOp, arrayAtOp, buildP, buildSliceP, makeSliceP, placeF, fillP, setL, PK.agg, isZero, gt_iff_lt, Nat.reducePow, Nat.reduceGT, reps, seg, wkN, if_pos, if_neg, tf3, Tryd.ze3, tf5, Tryd.ze5, tf9, Tryd.ze9, tf22, Tryd.ze22, tf23, Tryd.ze23, tf24, Tryd.ze24, tf26, Tryd.ze26, tf29, Tryd.ze29, tf56, Tryd.ze56, tf57, Tryd.ze57, tf58, Tryd.ze58, tf60, Tryd.ze60, tf61, Tryd.ze61, tf72, Tryd.ze72, pl9_8Wr9, h1'] | refine w_drawnF (id := 8) tb9_8Wr9 pl9_8Wr9 57 (by kernel_rfl) (by kernel_rfl) (by simp) ?_
    refine hQ (by first | exact .inr rfl | exact .inl rfl) (by first | exact trivial | exact marks1) (by first | (simp -implicitDefEqProofs (maxSteps := 400000) (disch := first | with_reducible rfl | omega | (simp only [wkH] <;> omega) | decide) only [wkAll, wkL, popO, wantedP, if_true, if_false, reduceIte, ne_eq, Nat.reduceAdd, Nat.reduceSub, Nat.reduceMul, Nat.reduceLeDiff, Nat.reduceLT, ofCells, ofCell, reduceCtorEq, Int.reduceLE, Int.reduceLT, Int.reduceToNat, Int.reduceAdd, Int.reduceSub, Int.reduceMul, Int.reduceNeg, Int.reduceBEq, Int.reduceBNe, Int.reduceEq, eqCell, eqCells, loadOp, storeOp, loadP, setL, PK.agg, isZero, gt_iff_lt, Nat.reducePow, Nat.reduceGT, reps, seg, wkN, if_pos, if_neg, tf3, Tryd.ze3, tf5, Tryd.ze5, tf9, Tryd.ze9, tf22, Tryd.ze22, tf23, Tryd.ze23, tf24, Tryd.ze24, tf26, Tryd.ze26, tf29, Tryd.ze29, tf56, Tryd.ze56, tf57, Tryd.ze57, tf58, Tryd.ze58, tf60, Tryd.ze60, tf61, Tryd.ze61, tf72, Tryd.ze72, pl9_8Wr9, resP, resPs, resP1]; rfl) | rfl) ⟨6, by repeat' first | exact frz_scalar rfl | apply frz_tuple | apply frz_agg | apply frz_fsl | apply frz_gsl (by omega) | exact frzs_nil | apply frzs_cons⟩ (by first | exact keepsH0 | exact keeps1 (by assumption)) ?_
    repeat' first | exact nw_nil | exact nw_zsl | apply nw_tuple | apply nw_agg | exact nws_nil | apply nws_cons | exact nw_eq rfl | apply nw_eq
  have h1' : ¬ (s.length : Int) < 48 := by omega
  by_cases h2 : 1280 < s.length
  · rw [show readP s = (pk0, 12) by rw [readP, if_neg h1, if_pos h2]]
    have h2' : (1280 : Int) < (s.length : Int) := by omega
    refine fn_H ([Go.ResultVar.cell 2 26, Go.ResultVar.tmp 3]) Tryd.func9 rfl rfl (by decide) fun ph hW Q hQ => ?_
    simp only [start, List.length_cons, List.length_nil, List.cons_append, List.nil_append, Nat.reduceAdd, Nat.reduceSub, List.replicate_succ, List.replicate_zero, Tryd.ntmps9]
    repeat' first | simp -implicitDefEqProofs (maxSteps := 400000) (disch := first | with_reducible rfl | omega | (simp only [wkH] <;> omega) | decide) only [wkAll, wkL, popO, wantedP, if_true, if_false, reduceIte, ne_eq, Nat.reduceAdd, Nat.reduceSub, Nat.reduceMul, Nat.reduceLeDiff, Nat.reduceLT, ofCells, ofCell, reduceCtorEq, Int.reduceLE, Int.reduceLT, Int.reduceToNat, Int.reduceAdd, Int.reduceSub, Int.reduceMul, Int.reduceNeg, Int.reduceBEq, Int.reduceBNe, Int.reduceEq, eqCell, eqCells, binP, unP, convP, lenP, builtinP, sliceDataP, unsafeStringP, appendT, appendS, appendP, copyP, srcP, mmsP, mmP, indexOp, indexAddrOp, sliceOp, bndsP, bndP, capw, capCut, loadOp, storeOp, loadP, fieldOp, fieldAddrOp, arrayAtOp, buildP, buildSliceP, makeSliceP, placeF, fillP, setL, PK.agg, isZero, gt_iff_lt, Nat.reducePow, Nat.reduceGT, reps, seg, wkN, if_pos, if_neg, tf3, Tryd.ze3, tf5, Tryd.ze5, tf9, Tryd.ze9, tf22, Tryd.ze22, tf23, Tryd.ze23, tf24, Tryd.ze24, tf26, Tryd.ze26, tf29, Tryd.ze29, tf56, Tryd.ze56, tf57, Tryd.ze57, tf58, Tryd.ze58, tf60, Tryd.ze60, tf61, Tryd.ze61, tf72, Tryd.ze72, pl9_8Wr9, h1', h2', gt_iff_lt] | refine w_drawnF (id := 8) tb9_8Wr9 pl9_8Wr9 57 (by kernel_rfl) (by kernel_rfl) (by simp) ?_
    refine hQ (by first | exact .inr rfl | exact .inl rfl) (by first | exact trivial | exact marks1) (by first | (simp -implicitDefEqProofs (maxSteps := 400000) (disch := first | with_reducible rfl | omega | (simp only [wkH] <;> omega) | decide) only [wkAll, wkL, popO, wantedP, if_true, if_false, reduceIte, ne_eq, Nat.reduceAdd, Nat.reduceSub, Nat.reduceMul, Nat.reduceLeDiff, Nat.reduceLT, ofCells, ofCell, reduceCtorEq, Int.reduceLE, Int.reduceLT, Int.reduceToNat, Int.reduceAdd, Int.reduceSub, Int.reduceMul, Int.reduceNeg, Int.reduceBEq, Int.reduceBNe, Int.reduceEq, eqCell, eqCells, loadOp, storeOp, loadP, setL, PK.agg, isZero, gt_iff_lt, Nat.reducePow, Nat.reduceGT, reps, seg, wkN, if_pos, if_neg, tf3, Tryd.ze3, tf5, Tryd.ze5, tf9, Tryd.ze9, tf22, Tryd.ze22, tf23, Tryd.ze23, tf24, Tryd.ze24, tf26, Tryd.ze26, tf29, Tryd.ze29, tf56, Tryd.ze56, tf57, Tryd.ze57, tf58, Tryd.ze58, tf60, Tryd.ze60, tf61, Tryd.ze61, tf72, Tryd.ze72, pl9_8Wr9, resP, resPs, resP1]; rfl) | rfl) ⟨6, by repeat' first | exact frz_scalar rfl | apply frz_tuple | apply frz_agg | apply frz_fsl | apply frz_gsl (by omega) | exact frzs_nil | apply frzs_cons⟩ (by first | exact keepsH0 | exact keeps1 (by assumption)) ?_
    repeat' first | exact nw_nil | exact nw_zsl | apply nw_tuple | apply nw_agg | exact nws_nil | apply nws_cons | exact nw_eq rfl | apply nw_eq
  have h2' : ¬ (1280 : Int) < (s.length : Int) := by omega
  have htk : (s.drop 48).take (s.length - 48) = s.drop 48 := List.take_of_length_le (by simp)
  have tf := wireToFields_ok (w0 := w0) (s.drop 48) (by rw [List.length_drop]; omega)
  obtain ⟨f, hf⟩ : ∃ f, f = (toFieldsL (s.drop 48)).1 := ⟨_, rfl⟩
  obtain ⟨e, he⟩ : ∃ e, e = (toFieldsL (s.drop 48)).2 := ⟨_, rfl⟩
  rw [← hf, ← he] at tf
  by_cases h3 : e = 0
  · rw [show readP s = (pkOf s f, 0) by rw [readP, if_neg h1, if_neg h2, if_neg (by simpa [he] using h3), hf]]
    subst h3
    have g0 := getD_some (s := s) (i := 0) (by omega)
    have g1 := getD_some (s := s) (i := 1) (by omega)
    have g2 := getD_some (s := s) (i := 2) (by omega)
    have g3 := getD_some (s := s) (i := 3) (by omega)
    have s0 := b_shr6 (s.getD 0 0)
    have s1 := b_shr3 (s.getD 0 0)
    have t0 := (s.getD 0 0).toNat_lt
    have t1 := (s.getD 1 0).toNat_lt
    have s2 := n_and7 ((s.getD 0 0).toNat / 8) (by omega)
    have s3 := n_and7 (s.getD 0 0).toNat (by omega)
    have i2 := b_i8 (s.getD 2 0)
    have i3 := b_i8 (s.getD 3 0)
    have j2 := sgI_i64 (s.getD 2 0)
    have j3 := sgI_i64 (s.getD 3 0)
    have vs : ∀ t : List UInt8, t.length ≤ 8 → Fn (Cx w0) 27 [.str t] (.int .u64 (valN t : Nat)) := fun t h => wireValue_ok t h
    refine fn_H ([Go.ResultVar.cell 2 26, Go.ResultVar.tmp 3]) Tryd.func9 rfl rfl (by decide) fun ph hW Q hQ => ?_
    simp only [start, List.length_cons, List.length_nil, List.cons_append, List.nil_append, Nat.reduceAdd, Nat.reduceSub, List.replicate_succ, List.replicate_zero, Tryd.ntmps9]
    repeat' first | simp -implicitDefEqProofs (maxSteps := 400000) (disch := first | with_reducible rfl | omega | (simp only [wkH] <;> omega) | decide) only [wkAll, wkL, popO, wantedP, if_true, if_false, reduceIte, ne_eq, Nat.reduceAdd, Nat.reduceSub, Nat.reduceMul, Nat.reduceLeDiff, Nat.reduceLT, ofCells, ofCell, reduceCtorEq, Int.reduceLE, Int.reduceLT, Int.reduceToNat, Int.reduceAdd, Int.reduceSub, Int.reduceMul, Int.reduceNeg, Int.reduceBEq, Int.reduceBNe, Int.reduceEq, eqCell, eqCells, binP, unP, convP, lenP, builtinP, sliceDataP, unsafeStringP, appendT, appendS, appendP, copyP, srcP, mmsP, mmP, indexOp, indexAddrOp, sliceOp, bndsP, bndP, capw, capCut, loadOp, storeOp, loadP, fieldOp, fieldAddrOp, arrayAtOp, buildP, buildSliceP, makeSliceP, placeF, fillP, setL, PK.agg, isZero, gt_iff_lt, Nat.reducePow, Nat.reduceGT, reps, seg, wkN, if_pos, if_neg, tf3, Tryd.ze3, tf5, Tryd.ze5, tf9, Tryd.ze9, tf22, Tryd.ze22, tf23, Tryd.ze23, tf24, Tryd.ze24, tf26, Tryd.ze26, tf29, Tryd.ze29, tf56, Tryd.ze56, tf57, Tryd.ze57, tf58, Tryd.ze58, tf60, Tryd.ze60, tf61, Tryd.ze61, tf72, Tryd.ze72, pl9_8Wr9, h1', h2', gt_iff_lt, htk, bne_self_eq_false, g0, g1, g2, g3, s0, s1, s2, s3, i2, i3, j2, j3] | refine w_pure (tf) ?_ | refine w_drawnF (id := 8) tb9_8Wr9 pl9_8Wr9 57 (by kernel_rfl) (by kernel_rfl) (by simp) ?_
    all_goals
      refine w_loopH (α := Nat) ph ph.ob ph.ty (fun i => [.str s, .undef, .ptr ph.n 0, .undef, .undef, .undef, .ptr (ph.n + 1) 0, .undef, .undef, .undef, .undef, .undef, .undef, .undef, .undef, .undef, .undef, .undef, .undef, .undef, .undef, .undef, .undef, .undef, .undef, .undef, .undef, .undef, .undef, .undef, .undef, .undef, .undef, .undef, .undef, .undef, .undef, .undef, .undef, .undef, .undef, .undef, .undef, .undef, .undef, .undef, .undef, .undef, .undef, .undef, .undef, .undef, .undef, .undef, .undef, .undef, .undef, .undef, .undef, .undef, .agg [.ptr (ph.n + 1) 6, .ptr (ph.n + 1) 7, .ptr (ph.n + 1) 8], .int .i64 i, .undef, .undef, .undef, .undef, .undef, .undef, .undef, .undef, .undef, .undef, .undef, .undef, .undef, .undef, .undef, .undef, .undef, .undef, .undef, .undef, .undef, .undef, .undef, .undef, .undef, .undef, .undef, .undef, .undef, .undef, .undef, .undef, .undef, .undef, .undef, .undef, .undef, .undef]) (fun i => [some (.own pk0C), some (.own (pkC (rdP s f i)))]) (fun i => i ≤ 3) (fun i => 3 - i) 0 (by simp) (fun _ _ => by simp) (.eq (by simp [FadeTo]) rfl) ?_
      intro i hi K hK
      rcases Nat.lt_or_ge i 3 with hlt | hge
      · rcases (show i = 0 ∨ i = 1 ∨ i = 2 by omega) with rfl | rfl | rfl
        · have v := vs ((s.drop 4).take 4) (by rw [List.length_take]; omega)
          have w : IntKind.wrap .u32 ((valN ((s.drop 4).take 4) : Nat) : Int) = _ := IntWalk.u32_in _ (by have := valN_lt4 s 4; omega)
          repeat' first | simp -implicitDefEqProofs (maxSteps := 400000) (disch := first | with_reducible rfl | omega | (simp only [wkH] <;> omega) | decide) only [wkAll, wkL, popO, wantedP, if_true, if_false, reduceIte, ne_eq, Nat.reduceAdd, Nat.reduceSub, Nat.reduceMul, Nat.reduceLeDiff, Nat.reduceLT, ofCells, ofCell, reduceCtorEq, Int.reduceLE, Int.reduceLT, Int.reduceToNat, Int.reduceAdd, Int.reduceSub, Int.reduceMul, Int.reduceNeg, Int.reduceBEq, Int.reduceBNe, Int.reduceEq, eqCell, eqCells, binP, unP, convP, lenP, builtinP, sliceDataP, unsafeStringP, appendT, appendS, appendP, copyP, srcP, mmsP, mmP, indexOp, indexAddrOp, sliceOp, bndsP, bndP, capw, capCut, loadOp, storeOp, loadP, fieldOp, fieldAddrOp, arrayAtOp, buildP, buildSliceP, makeSliceP, placeF, fillP, setL, PK.agg, isZero, gt_iff_lt, Nat.reducePow, Nat.reduceGT, reps, seg, wkN, if_pos, if_neg, tf3, Tryd.ze3, tf5, Tryd.ze5, tf9, Tryd.ze9, tf22, Tryd.ze22, tf23, Tryd.ze23, tf24, Tryd.ze24, tf26, Tryd.ze26, tf29, Tryd.ze29, tf56, Tryd.ze56, tf57, Tryd.ze57, tf58, Tryd.ze58, tf60, Tryd.ze60, tf61, Tryd.ze61, tf72, Tryd.ze72, pl9_8Wr9, rdP, pkOf, pkC, pk0C, w] | refine w_pure (v) ?_ | refine w_drawnF (id := 8) tb9_8Wr9 pl9_8Wr9 57 (by kernel_rfl) (by kernel_rfl) (by simp) ?_
          exact hK 1 _ _ (by omega) (by omega) (.eq (by simp [FadeTo]) rfl)
        · have v := vs ((s.drop 8).take 4) (by rw [List.length_take]; omega)
          have w : IntKind.wrap .u32 ((valN ((s.drop 8).take 4) : Nat) : Int) = _ := IntWalk.u32_in _ (by have := valN_lt4 s 8; omega)
          repeat' first | simp -implicitDefEqProofs (maxSteps := 400000) (disch := first | with_reducible rfl | omega | (simp only [wkH] <;> omega) | decide) only [wkAll, wkL, popO, wantedP, if_true, if_false, reduceIte, ne_eq, Nat.reduceAdd, Nat.reduceSub, Nat.reduceMul, Nat.reduceLeDiff, Nat.reduceLT, ofCells, ofCell, reduceCtorEq, Int.reduceLE, Int.reduceLT, Int.reduceToNat, Int.reduceAdd, Int.reduceSub, Int.reduceMul, Int.reduceNeg, Int.reduceBEq, Int.reduceBNe, Int.reduceEq, eqCell, eqCells, binP, unP, convP, lenP, builtinP, sliceDataP, unsafeStringP, appendT, appendS, appendP, copyP, srcP, mmsP, mmP, indexOp, indexAddrOp, sliceOp, bndsP, bndP, capw, capCut, loadOp, storeOp, loadP, fieldOp, fieldAddrOp, arrayAtOp, buildP, buildSliceP, makeSliceP, placeF, fillP, setL, PK.agg, isZero, gt_iff_lt, Nat.reducePow, Nat.reduceGT, reps, seg, wkN, if_pos, if_neg, tf3, Tryd.ze3, tf5, Tryd.ze5, tf9, Tryd.ze9, tf22, Tryd.ze22, tf23, Tryd.ze23, tf24, Tryd.ze24, tf26, Tryd.ze26, tf29, Tryd.ze29, tf56, Tryd.ze56, tf57, Tryd.ze57, tf58, Tryd.ze58, tf60, Tryd.ze60, tf61, Tryd.ze61, tf72, Tryd.ze72, pl9_8Wr9, rdP, pkOf, pkC, pk0C, w] | refine w_pure (v) ?_ | refine w_drawnF (id := 8) tb9_8Wr9 pl9_8Wr9 57 (by kernel_rfl) (by kernel_rfl) (by simp) ?_
          exact hK 2 _ _ (by omega) (by omega) (.eq (by simp [FadeTo]) rfl)
        · have v := vs ((s.drop 12).take 4) (by rw [List.length_take]; omega)
          have w : IntKind.wrap .u32 ((valN ((s.drop 12).take 4) : Nat) : Int) = _ := IntWalk.u32_in _ (by have := valN_lt4 s 12; omega)
          repeat' first | simp -implicitDefEqProofs (maxSteps := 400000) (disch := first | with_reducible rfl | omega | (simp only [wkH] <;> omega) | decide) only [wkAll, wkL, popO, wantedP, if_true, if_false, reduceIte, ne_eq, Nat.reduceAdd, Nat.reduceSub, Nat.reduceMul, Nat.reduceLeDiff, Nat.reduceLT, ofCells, ofCell, reduceCtorEq, Int.reduceLE, Int.reduceLT, Int.reduceToNat, Int.reduceAdd, Int.reduceSub, Int.reduceMul, Int.reduceNeg, Int.reduceBEq, Int.reduceBNe, Int.reduceEq, eqCell, eqCells, binP, unP, convP, lenP, builtinP, sliceDataP, unsafeStringP, appendT, appendS, appendP, copyP, srcP, mmsP, mmP, indexOp, indexAddrOp, sliceOp, bndsP, bndP, capw, capCut, loadOp, storeOp, loadP, fieldOp, fieldAddrOp, arrayAtOp, buildP, buildSliceP, makeSliceP, placeF, fillP, setL, PK.agg, isZero, gt_iff_lt, Nat.reducePow, Nat.reduceGT, reps, seg, wkN, if_pos, if_neg, tf3, Tryd.ze3, tf5, Tryd.ze5, tf9, Tryd.ze9, tf22, Tryd.ze22, tf23, Tryd.ze23, tf24, Tryd.ze24, tf26, Tryd.ze26, tf29, Tryd.ze29, tf56, Tryd.ze56, tf57, Tryd.ze57, tf58, Tryd.ze58, tf60, Tryd.ze60, tf61, Tryd.ze61, tf72, Tryd.ze72, pl9_8Wr9, rdP, pkOf, pkC, pk0C, w] | refine w_pure (v) ?_ | refine w_drawnF (id := 8) tb9_8Wr9 pl9_8Wr9 57 (by kernel_rfl) (by kernel_rfl) (by simp) ?_
          exact hK 3 _ _ (by omega) (by omega) (.eq (by simp [FadeTo]) rfl)
      · have : i = 3 := by omega
        subst this
        clear hK
        repeat' first | simp -implicitDefEqProofs (maxSteps := 400000) (disch := first | with_reducible rfl | omega | (simp only [wkH] <;> omega) | decide) only [wkAll, wkL, popO, wantedP, if_true, if_false, reduceIte, ne_eq, Nat.reduceAdd, Nat.reduceSub, Nat.reduceMul, Nat.reduceLeDiff, Nat.reduceLT, ofCells, ofCell, reduceCtorEq, Int.reduceLE, Int.reduceLT, Int.reduceToNat, Int.reduceAdd, Int.reduceSub, Int.reduceMul, Int.reduceNeg, Int.reduceBEq, Int.reduceBNe, Int.reduceEq, eqCell, eqCells, binP, unP, convP, lenP, builtinP, sliceDataP, unsafeStringP, appendT, appendS, appendP, copyP, srcP, mmsP, mmP, indexOp, indexAddrOp, sliceOp, bndsP, bndP, capw, capCut, loadOp, storeOp, loadP, fieldOp, fieldAddrOp, arrayAtOp, buildP, buildSliceP, makeSliceP, placeF, fillP, setL, PK.agg, isZero, gt_iff_lt, Nat.reducePow, Nat.reduceGT, reps, seg, wkN, if_pos, if_neg, tf3, Tryd.ze3, tf5, Tryd.ze5, tf9, Tryd.ze9, tf22, Tryd.ze22, tf23, Tryd.ze23, tf24, Tryd.ze24, tf26, Tryd.ze26, tf29, Tryd.ze29, tf56, Tryd.ze56, tf57, Tryd.ze57, tf58, Tryd.ze58, tf60, Tryd.ze60, tf61, Tryd.ze61, tf72, Tryd.ze72, pl9_8Wr9, rdP, pkOf, pkC, pk0C] | refine w_drawnF (id := 8) tb9_8Wr9 pl9_8Wr9 57 (by kernel_rfl) (by kernel_rfl) (by simp) ?_
        refine w_loopH (α := Nat) ph ph.ob ph.ty (fun i => [.str s, .undef, .ptr ph.n 0, .undef, .undef, .undef, .ptr (ph.n + 1) 0, .undef, .undef, .undef, .undef, .undef, .undef, .undef, .undef, .undef, .undef, .undef, .undef, .undef, .undef, .undef, .undef, .undef, .undef, .undef, .undef, .undef, .undef, .undef, .undef, .undef, .undef, .undef, .undef, .undef, .undef, .undef, .undef, .undef, .undef, .undef, .undef, .undef, .undef, .undef, .undef, .undef, .undef, .undef, .undef, .undef, .undef, .undef, .undef, .undef, .undef, .undef, .undef, .undef, .undef, .undef, .undef, .undef, .undef, .undef, .undef, .undef, .undef, .undef, .undef, .undef, .undef, .undef, .undef, .undef, .undef, .undef, .undef, .undef, .undef, .undef, .agg [.ptr (ph.n + 1) 9, .ptr (ph.n + 1) 10, .ptr (ph.n + 1) 11, .ptr (ph.n + 1) 12], .int .i64 i, .undef, .undef, .undef, .undef, .undef, .undef, .undef, .undef, .undef, .undef, .undef, .undef, .undef, .undef, .undef, .undef]) (fun i => [some (.own pk0C), some (.own (pkC (rdP s f (3 + i))))]) (fun i => i ≤ 4) (fun i => 4 - i) 0 (by simp) (fun _ _ => by simp) (.eq (by simp [FadeTo]) rfl) ?_
        intro i hi K hK
        rcases Nat.lt_or_ge i 4 with hlt | hge
        · rcases (show i = 0 ∨ i = 1 ∨ i = 2 ∨ i = 3 by omega) with rfl | rfl | rfl | rfl
          · have v := vs ((s.drop 16).take 8) (by rw [List.length_take]; omega)
            repeat' first | simp -implicitDefEqProofs (maxSteps := 400000) (disch := first | with_reducible rfl | omega | (simp only [wkH] <;> omega) | decide) only [wkAll, wkL, popO, wantedP, if_true, if_false, reduceIte, ne_eq, Nat.reduceAdd, Nat.reduceSub, Nat.reduceMul, Nat.reduceLeDiff, Nat.reduceLT, ofCells, ofCell, reduceCtorEq, Int.reduceLE, Int.reduceLT, Int.reduceToNat, Int.reduceAdd, Int.reduceSub, Int.reduceMul, Int.reduceNeg, Int.reduceBEq, Int.reduceBNe, Int.reduceEq, eqCell, eqCells, binP, unP, convP, lenP, builtinP, sliceDataP, unsafeStringP, appendT, appendS, appendP, copyP, srcP, mmsP, mmP, indexOp, indexAddrOp, sliceOp, bndsP, bndP, capw, capCut, loadOp, storeOp, loadP, fieldOp, fieldAddrOp, arrayAtOp, buildP, buildSliceP, makeSliceP, placeF, fillP, setL, PK.agg, isZero, gt_iff_lt, Nat.reducePow, Nat.reduceGT, reps, seg, wkN, if_pos, if_neg, tf3, Tryd.ze3, tf5, Tryd.ze5, tf9, Tryd.ze9, tf22, Tryd.ze22, tf23, Tryd.ze23, tf24, Tryd.ze24, tf26, Tryd.ze26, tf29, Tryd.ze29, tf56, Tryd.ze56, tf57, Tryd.ze57, tf58, Tryd.ze58, tf60, Tryd.ze60, tf61, Tryd.ze61, tf72, Tryd.ze72, pl9_8Wr9, rdP, pkOf, pkC, pk0C] | refine w_pure (v) ?_ | refine w_drawnF (id := 8) tb9_8Wr9 pl9_8Wr9 57 (by kernel_rfl) (by kernel_rfl) (by simp) ?_
            exact hK 1 _ _ (by omega) (by omega) (.eq (by simp [FadeTo]) rfl)
          · have v := vs ((s.drop 24).take 8) (by rw [List.length_take]; omega)
            repeat' first | simp -implicitDefEqProofs (maxSteps := 400000) (disch := first | with_reducible rfl | omega | (simp only [wkH] <;> omega) | decide) only [wkAll, wkL, popO, wantedP, if_true, if_false, reduceIte, ne_eq, Nat.reduceAdd, Nat.reduceSub, Nat.reduceMul, Nat.reduceLeDiff, Nat.reduceLT, ofCells, ofCell, reduceCtorEq, Int.reduceLE, Int.reduceLT, Int.reduceToNat, Int.reduceAdd, Int.reduceSub, Int.reduceMul, Int.reduceNeg, Int.reduceBEq, Int.reduceBNe, Int.reduceEq, eqCell, eqCells, binP, unP, convP, lenP, builtinP, sliceDataP, unsafeStringP, appendT, appendS, appendP, copyP, srcP, mmsP, mmP, indexOp, indexAddrOp, sliceOp, bndsP, bndP, capw, capCut, loadOp, storeOp, loadP, fieldOp, fieldAddrOp, arrayAtOp, buildP, buildSliceP, makeSliceP, placeF, fillP, setL, PK.agg, isZero, gt_iff_lt, Nat.reducePow, Nat.reduceGT, reps, seg, wkN, if_pos, if_neg, tf3, Tryd.ze3, tf5, Tryd.ze5, tf9, Tryd.ze9, tf22, Tryd.ze22, tf23, Tryd.ze23, tf24, Tryd.ze24, tf26, Tryd.ze26, tf29, Tryd.ze29, tf56, Tryd.ze56, tf57, Tryd.ze57, tf58, Tryd.ze58, tf60, Tryd.ze60, tf61, Tryd.ze61, tf72, Tryd.ze72, pl9_8Wr9, rdP, pkOf, pkC, pk0C] | refine w_pure (v) ?_ | refine w_drawnF (id := 8) tb9_8Wr9 pl9_8Wr9 57 (by kernel_rfl) (by kernel_rfl) (by simp) ?_
            exact hK 2 _ _ (by omega) (by omega) (.eq (by simp [FadeTo]) rfl)
          · have v := vs ((s.drop 32).take 8) (by rw [List.length_take]; omega)
            repeat' first | simp -implicitDefEqProofs (maxSteps := 400000) (disch := first | with_reducible rfl | omega | (simp only [wkH] <;> omega) | decide) only [wkAll, wkL, popO, wantedP, if_true, if_false, reduceIte, ne_eq, Nat.reduceAdd, Nat.reduceSub, Nat.reduceMul, Nat.reduceLeDiff, Nat.reduceLT, ofCells, ofCell, reduceCtorEq, Int.reduceLE, Int.reduceLT, Int.reduceToNat, Int.reduceAdd, Int.reduceSub, Int.reduceMul, Int.reduceNeg, Int.reduceBEq, Int.reduceBNe, Int.reduceEq, eqCell, eqCells, binP, unP, convP, lenP, builtinP, sliceDataP, unsafeStringP, appendT, appendS, appendP, copyP, srcP, mmsP, mmP, indexOp, indexAddrOp, sliceOp, bndsP, bndP, capw, capCut, loadOp, storeOp, loadP, fieldOp, fieldAddrOp, arrayAtOp, buildP, buildSliceP, makeSliceP, placeF, fillP, setL, PK.agg, isZero, gt_iff_lt, Nat.reducePow, Nat.reduceGT, reps, seg, wkN, if_pos, if_neg, tf3, Tryd.ze3, tf5, Tryd.ze5, tf9, Tryd.ze9, tf22, Tryd.ze22, tf23, Tryd.ze23, tf24, Tryd.ze24, tf26, Tryd.ze26, tf29, Tryd.ze29, tf56, Tryd.ze56, tf57, Tryd.ze57, tf58, Tryd.ze58, tf60, Tryd.ze60, tf61, Tryd.ze61, tf72, Tryd.ze72, pl9_8Wr9, rdP, pkOf, pkC, pk0C] | refine w_pure (v) ?_ | refine w_drawnF (id := 8) tb9_8Wr9 pl9_8Wr9 57 (by kernel_rfl) (by kernel_rfl) (by simp) ?_
            exact hK 3 _ _ (by omega) (by omega) (.eq (by simp [FadeTo]) rfl)
          · have v := vs ((s.drop 40).take 8) (by rw [List.length_take]; omega)
            repeat' first | simp -implicitDefEqProofs (maxSteps := 400000) (disch := first | with_reducible rfl | omega | (simp only [wkH] <;> omega) | decide) only [wkAll, wkL, popO, wantedP, if_true, if_false, reduceIte, ne_eq, Nat.reduceAdd, Nat.reduceSub, Nat.reduceMul, Nat.reduceLeDiff, Nat.reduceLT, ofCells, ofCell, reduceCtorEq, Int.reduceLE, Int.reduceLT, Int.reduceToNat, Int.reduceAdd, Int.reduceSub, Int.reduceMul, Int.reduceNeg, Int.reduceBEq, Int.reduceBNe, Int.reduceEq, eqCell, eqCells, binP, unP, convP, lenP, builtinP, sliceDataP, unsafeStringP, appendT, appendS, appendP, copyP, srcP, mmsP, mmP, indexOp, indexAddrOp, sliceOp, bndsP, bndP, capw, capCut, loadOp, storeOp, loadP, fieldOp, fieldAddrOp, arrayAtOp, buildP, buildSliceP, makeSliceP, placeF, fillP, setL, PK.agg, isZero, gt_iff_lt, Nat.reducePow, Nat.reduceGT, reps, seg, wkN, if_pos, if_neg, tf3, Tryd.ze3, tf5, Tryd.ze5, tf9, Tryd.ze9, tf22, Tryd.ze22, tf23, Tryd.ze23, tf24, Tryd.ze24, tf26, Tryd.ze26, tf29, Tryd.ze29, tf56, Tryd.ze56, tf57, Tryd.ze57, tf58, Tryd.ze58, tf60, Tryd.ze60, tf61, Tryd.ze61, tf72, Tryd.ze72, pl9_8Wr9, rdP, pkOf, pkC, pk0C] | refine w_pure (v) ?_ | refine w_drawnF (id := 8) tb9_8Wr9 pl9_8Wr9 57 (by kernel_rfl) (by kernel_rfl) (by simp) ?_
            exact hK 4 _ _ (by omega) (by omega) (.eq (by simp [FadeTo]) rfl)
        · have : i = 4 := by omega
          subst this
          simp only [Nat.reduceAdd]
          repeat' first | simp -implicitDefEqProofs (maxSteps := 400000) (disch := first | with_reducible rfl | omega | (simp only [wkH] <;> omega) | decide) only [wkAll, wkL, popO, wantedP, if_true, if_false, reduceIte, ne_eq, Nat.reduceAdd, Nat.reduceSub, Nat.reduceMul, Nat.reduceLeDiff, Nat.reduceLT, ofCells, ofCell, reduceCtorEq, Int.reduceLE, Int.reduceLT, Int.reduceToNat, Int.reduceAdd, Int.reduceSub, Int.reduceMul, Int.reduceNeg, Int.reduceBEq, Int.reduceBNe, Int.reduceEq, eqCell, eqCells, binP, unP, convP, lenP, builtinP, sliceDataP, unsafeStringP, appendT, appendS, appendP, copyP, srcP, mmsP, mmP, indexOp, indexAddrOp, sliceOp, bndsP, bndP, capw, capCut, loadOp, storeOp, loadP, fieldOp, fieldAddrOp, arrayAtOp, buildP, buildSliceP, makeSliceP, placeF, fillP, setL, PK.agg, isZero, gt_iff_lt, Nat.reducePow, Nat.reduceGT, reps, seg, wkN, if_pos, if_neg, tf3, Tryd.ze3, tf5, Tryd.ze5, tf9, Tryd.ze9, tf22, Tryd.ze22, tf23, Tryd.ze23, tf24, Tryd.ze24, tf26, Tryd.ze26, tf29, Tryd.ze29, tf56, Tryd.ze56, tf57, Tryd.ze57, tf58, Tryd.ze58, tf60, Tryd.ze60, tf61, Tryd.ze61, tf72, Tryd.ze72, pl9_8Wr9, rdP, pkOf, pkC, pk0C] | refine w_drawnF (id := 8) tb9_8Wr9 pl9_8Wr9 57 (by kernel_rfl) (by kernel_rfl) (by simp) ?_
          refine hQ (by first | exact .inr rfl | exact .inl rfl) (by first | exact trivial | exact marks1) (by first | (simp -implicitDefEqProofs (maxSteps := 400000) (disch := first | with_reducible rfl | omega | (simp only [wkH] <;> omega) | decide) only [wkAll, wkL, popO, wantedP, if_true, if_false, reduceIte, ne_eq, Nat.reduceAdd, Nat.reduceSub, Nat.reduceMul, Nat.reduceLeDiff, Nat.reduceLT, ofCells, ofCell, reduceCtorEq, Int.reduceLE, Int.reduceLT, Int.reduceToNat, Int.reduceAdd, Int.reduceSub, Int.reduceMul, Int.reduceNeg, Int.reduceBEq, Int.reduceBNe, Int.reduceEq, eqCell, eqCells, loadOp, storeOp, loadP, setL, PK.agg, isZero, gt_iff_lt, Nat.reducePow, Nat.reduceGT, reps, seg, wkN, if_pos, if_neg, tf3, Tryd.ze3, tf5, Tryd.ze5, tf9, Tryd.ze9, tf22, Tryd.ze22, tf23, Tryd.ze23, tf24, Tryd.ze24, tf26, Tryd.ze26, tf29, Tryd.ze29, tf56, Tryd.ze56, tf57, Tryd.ze57, tf58, Tryd.ze58, tf60, Tryd.ze60, tf61, Tryd.ze61, tf72, Tryd.ze72, pl9_8Wr9, resP, resPs, resP1]; rfl) | rfl) ⟨6, by repeat' first | exact frz_scalar rfl | apply frz_tuple | apply frz_agg | apply frz_fsl | apply frz_gsl (by omega) | exact frzs_nil | apply frzs_cons | exact frzs_scalars (frsC_ok _)⟩ (by first | exact keepsH0 | exact keeps1 (by assumption)) (nw_eq ?_)
          rfl
  · rw [show readP s = (pk0, e) by rw [readP, if_neg h1, if_neg h2, if_pos (by rw [← he]; exact h3), he]]
    have hne : (e != 0) = true := by rw [bne_iff_ne]; exact h3
    refine fn_H ([Go.ResultVar.cell 2 26, Go.ResultVar.tmp 3]) Tryd.func9 rfl rfl (by decide) fun ph hW Q hQ => ?_
    simp only [start, List.length_cons, List.length_nil, List.cons_append, List.nil_append, Nat.reduceAdd, Nat.reduceSub, List.replicate_succ, List.replicate_zero, Tryd.ntmps9]
    repeat' first | simp -implicitDefEqProofs (maxSteps := 400000) (disch := first | with_reducible rfl | omega | (simp only [wkH] <;> omega) | decide) only [wkAll, wkL, popO, wantedP, if_true, if_false, reduceIte, ne_eq, Nat.reduceAdd, Nat.reduceSub, Nat.reduceMul, Nat.reduceLeDiff, Nat.reduceLT, ofCells, ofCell, reduceCtorEq, Int.reduceLE, Int.reduceLT, Int.reduceToNat, Int.reduceAdd, Int.reduceSub, Int.reduceMul, Int.reduceNeg, Int.reduceBEq, Int.reduceBNe, Int.reduceEq, eqCell, eqCells, binP, unP, convP, lenP, builtinP, sliceDataP, unsafeStringP, appendT, appendS, appendP, copyP, srcP, mmsP, mmP, indexOp, indexAddrOp, sliceOp, bndsP, bndP, capw, capCut, loadOp, storeOp, loadP, fieldOp, fieldAddrOp, arrayAtOp, buildP, buildSliceP, makeSliceP, placeF, fillP, setL, PK.agg, isZero, gt_iff_lt, Nat.reducePow, Nat.reduceGT, reps, seg, wkN, if_pos, if_neg, tf3, Tryd.ze3, tf5, Tryd.ze5, tf9, Tryd.ze9, tf22, Tryd.ze22, tf23, Tryd.ze23, tf24, Tryd.ze24, tf26, Tryd.ze26, tf29, Tryd.ze29, tf56, Tryd.ze56, tf57, Tryd.ze57, tf58, Tryd.ze58, tf60, Tryd.ze60, tf61, Tryd.ze61, tf72, Tryd.ze72, pl9_8Wr9, h1', h2', gt_iff_lt, htk, hne] | refine w_pure (tf) ?_ | refine w_drawnF (id := 8) tb9_8Wr9 pl9_8Wr9 57 (by kernel_rfl) (by kernel_rfl) (by simp) ?_
    refine hQ (by first | exact .inr rfl | exact .inl rfl) (by first | exact trivial | exact marks1) (by first | (simp -implicitDefEqProofs (maxSteps := 400000) (disch := first | with_reducible rfl | omega | (simp only [wkH] <;> omega) | decide) only [wkAll, wkL, popO, wantedP, if_true, if_false, reduceIte, ne_eq, Nat.reduceAdd, Nat.reduceSub, Nat.reduceMul, Nat.reduceLeDiff, Nat.reduceLT, ofCells, ofCell, reduceCtorEq, Int.reduceLE, Int.reduceLT, Int.reduceToNat, Int.reduceAdd, Int.reduceSub, Int.reduceMul, Int.reduceNeg, Int.reduceBEq, Int.reduceBNe, Int.reduceEq, eqCell, eqCells, loadOp, storeOp, loadP, setL, PK.agg, isZero, gt_iff_lt, Nat.reducePow, Nat.reduceGT, reps, seg, wkN, if_pos, if_neg, tf3, Tryd.ze3, tf5, Tryd.ze5, tf9, Tryd.ze9, tf22, Tryd.ze22, tf23, Tryd.ze23, tf24, Tryd.ze24, tf26, Tryd.ze26, tf29, Tryd.ze29, tf56, Tryd.ze56, tf57, Tryd.ze57, tf58, Tryd.ze58, tf60, Tryd.ze60, tf61, Tryd.ze61, tf72, Tryd.ze72, pl9_8Wr9, resP, resPs, resP1]; rfl) | rfl) ⟨6, by repeat' first | exact frz_scalar rfl | apply frz_tuple | apply frz_agg | apply frz_fsl | apply frz_gsl (by omega) | exact frzs_nil | apply frzs_cons⟩ (by first | exact keepsH0 | exact keeps1 (by assumption)) ?_
    repeat' first | exact nw_nil | exact nw_zsl | apply nw_tuple | apply nw_agg | exact nws_nil | apply nws_cons | exact nw_eq rfl | apply nw_eq
end Pv

namespace Pv
open Go Go.RowKit
variable {X : Ctx} {G : Ghost} {ph : PH} {w w' : World}

/-! ### Contracts of the kit's shelf, told as functions of their arguments -/
theorem hb_below (h : Below w.heap.size w w') {k : Nat} {o : Obj} (hk : w.heap[k]? = some o) : w'.heap[k]? = some o := by
  have : k < w.heap.size := by
    rcases Nat.lt_or_ge k w.heap.size with h1 | h1
    · exact h1
    · rw [Array.getElem?_eq_none h1] at hk; cases hk
  rw [h.block k this]; exact hk
theorem cell_below (h : Below w.heap.size w w') {a : Addr} {v : Value} (hc : w.cell? a = some v) : w'.cell? a = some v := by
  have : w'.heap[a.block]? = w.heap[a.block]? := by
    rcases Nat.lt_or_ge a.block w.heap.size with h1 | h1
    · exact h.block _ h1
    · exfalso
      unfold World.cell? at hc
      rw [Array.getElem?_eq_none h1] at hc
      cases hc
  unfold World.cell? at hc ⊢
  rw [this]; exact hc
theorem Rel.below_w (h : Rel X G ph w) (hb : Below w.heap.size w w') : Rel X G ph w' := by
  have hX : X.B ≤ w.heap.size := h.below.size
  refine ⟨h.len, h.below.trans (hb.mono hX), ?_, h.disj, ?_, h.fdisj, ?_, ?_, ?_⟩
  · intro p cells hp
    obtain ⟨L, vals, cs, e, fz, hL, o⟩ := h.own p cells hp
    exact ⟨L, vals, cs, e, fz, hL, ⟨o.rv, o.lt, o.ge, hb_below hb o.hb, o.sz, o.fr, o.at_, o.one⟩⟩
  · intro a v ha
    exact ⟨(h.fz a v ha).1, cell_below hb (h.fz a v ha).2⟩
  · intro r o hr
    obtain ⟨h1, h2⟩ := h.ob r o hr
    refine ⟨h1, ?_⟩
    cases o with
    | loop l =>
      obtain ⟨rt, k1, k2⟩ := h2
      exact ⟨rt, k1, hb_below hb k2⟩
    | defd => exact hb_below hb h2
  · intro p e hp
    obtain ⟨L, cs, fz, k1, k2, k3⟩ := h.ty p e hp
    exact ⟨L, cs, fz, k1, k2, hb_below hb k3⟩
  · refine ⟨?_, h.grow.disj, h.grow.new⟩
    intro p sz top e hg
    obtain ⟨x, o⟩ := h.grow.own p sz top e hg
    refine ⟨x, o.loc, o.max, o.nil, ?_⟩
    intro a rcap hx
    have r := o.row a rcap hx
    obtain ⟨cs, fz, k1, k2⟩ := r.hb
    exact ⟨r.sp, r.ge, r.le, r.off, ⟨cs, fz, hb_below hb k1, k2⟩, r.ff, r.own⟩

theorem fn_of_calls {f : FuncId} {fn : Func} {args : List PV} {v : PV} (hf : X.P.funcs[f]? = some fn) (hb : fn.body.isSome = true) (hnm : (fn.name == "runtime.NumGoroutine") = false)
    (h : ∀ (G : Ghost) (w : World) (rargs : List Value), RVs G args rargs → Calls X.P f rargs.toArray w fun e w' => (∃ u, e = .returned u ∧ RV G v u) ∧ Below w.heap.size w w') : Fn X f args v := by
  intro ph G w rargs hr ha
  refine .inr ⟨w, run_enter (P := X.P) (w := w) (args := rargs.toArray) hf hb hnm, (h G w rargs ha).mono ?_⟩
  rintro e w' ⟨⟨u, rfl, hu⟩, hbl⟩
  exact ⟨G, v, ph, (LeN.refl _ _), hr.below_w hbl, hu, Nat.le_refl _, rfl, rfl⟩
end Pv

namespace Go.Proofs
open Go.Shelf Go.RowKit
def Tryd.laysTrim_ren : Go.Shelf.Ren := ⟨fun | 160 => 37 | 232 => 44 | 231 => 43 | 227 => 45 | 234 => 47 | 233 => 46 | 236 => 49 | 235 => 48 | 228 => 51 | 271 => 54 | 151 => 53 | 197 => 52 | 120 => 57 | 152 => 56 | 260 => 55 | 137 => 58 | 119 => 59 | 224 => 60 | 225 => 61 | 217 => 62 | 266 => 63 | n => n, fun | 9 => 9 | 4 => 4 | 3 => 3 | 5 => 5 | 117 => 92 | 116 => 91 | 0 => 0 | 124 => 95 | 21 => 21 | 105 => 99 | 46 => 55 | 119 => 103 | 139 => 106 | 138 => 105 | n => n, fun | 3 => 0 | 4 => 1 | n => n⟩
theorem Tryd.laysTrim : Lays.n160 Tryd.prog Tryd.laysTrim_ren where
  mixed := by kernel_rfl
  f119 := Tryd.func59.trans (congrArg some (by kernel_rfl))
  f120 := Tryd.func57.trans (congrArg some (by kernel_rfl))
  f137 := Tryd.func58.trans (congrArg some (by kernel_rfl))
  f151 := Tryd.func53.trans (congrArg some (by kernel_rfl))
  f152 := Tryd.func56.trans (congrArg some (by kernel_rfl))
  f160 := Tryd.func37.trans (congrArg some (by kernel_rfl))
  f197 := Tryd.func52.trans (congrArg some (by kernel_rfl))
  f217 := Tryd.func62.trans (congrArg some (by kernel_rfl))
  f224 := Tryd.func60.trans (congrArg some (by kernel_rfl))
  f225 := Tryd.func61.trans (congrArg some (by kernel_rfl))
  f227 := Tryd.func45.trans (congrArg some (by kernel_rfl))
  f228 := Tryd.func51.trans (congrArg some (by kernel_rfl))
  f231 := Tryd.func43.trans (congrArg some (by kernel_rfl))
  f232 := Tryd.func44.trans (congrArg some (by kernel_rfl))
  f233 := Tryd.func46.trans (congrArg some (by kernel_rfl))
  f234 := Tryd.func47.trans (congrArg some (by kernel_rfl))
  f235 := Tryd.func48.trans (congrArg some (by kernel_rfl))
  f236 := Tryd.func49.trans (congrArg some (by kernel_rfl))
  f260 := Tryd.func55.trans (congrArg some (by kernel_rfl))
  f266 := Tryd.func63.trans (congrArg some (by kernel_rfl))
  f271 := Tryd.func54.trans (congrArg some (by kernel_rfl))
  t0 := Tryd.underlying0
  a0 := Tryd.isAgg0
  z0 := Tryd.sizeOf0
  v0 := Tryd.zeroValue0
  t3 := Tryd.underlying3
  a3 := Tryd.isAgg3
  z3 := Tryd.sizeOf3
  v3 := Tryd.zeroValue3
  t4 := Tryd.underlying4
  a4 := Tryd.isAgg4
  z4 := Tryd.sizeOf4
  v4 := Tryd.zeroValue4
  t5 := Tryd.underlying5
  a5 := Tryd.isAgg5
  z5 := Tryd.sizeOf5
  v5 := Tryd.zeroValue5
  t9 := Tryd.underlying9
  a9 := Tryd.isAgg9
  z9 := Tryd.sizeOf9
  v9 := Tryd.zeroValue9
  t21 := Tryd.underlying21
  a21 := Tryd.isAgg21
  z21 := Tryd.sizeOf21
  v21 := Tryd.zeroValue21
  t46 := Tryd.underlying55
  a46 := Tryd.isAgg55
  z46 := Tryd.sizeOf55
  v46 := Tryd.zeroValue55
  t105 := Tryd.underlying99
  a105 := Tryd.isAgg99
  z105 := Tryd.sizeOf99
  v105 := Tryd.zeroValue99
  t116 := Tryd.underlying91
  a116 := Tryd.isAgg91
  z116 := Tryd.sizeOf91
  t117 := Tryd.underlying92
  a117 := Tryd.isAgg92
  z117 := Tryd.sizeOf92
  v117 := Tryd.zeroValue92
  t119 := Tryd.underlying103
  a119 := Tryd.isAgg103
  z119 := Tryd.sizeOf103
  t124 := Tryd.underlying95
  a124 := Tryd.isAgg95
  z124 := Tryd.sizeOf95
  v124 := Tryd.zeroValue95
  t138 := Tryd.underlying105
  a138 := Tryd.isAgg105
  z138 := Tryd.sizeOf105
  v138 := Tryd.zeroValue105
  t139 := Tryd.underlying106
  a139 := Tryd.isAgg106
  z139 := Tryd.sizeOf106
  v139 := Tryd.zeroValue106
  g3 := by kernel_rfl
  g4 := by kernel_rfl
end Go.Proofs
namespace Pv
open Go Go.Proofs Go.RowKit
variable {w0 : World}
/-- strings.Trim at an ASCII cutset. -/
theorem trim_ok (s c : List UInt8) (hs : s.length < 2 ^ 50) (hc : c.length < 4294967281) (ha : c.all (fun b => decide (b.toNat < 128)) = true) : Fn (Cx w0) 37 [.str s, .str c] (.str (Lib.trimS s c)) := by
  refine fn_of_calls Tryd.func37 (by kernel_rfl) (by kernel_rfl) ?_
  intro G w rargs hr
  cases hr with
  | cons _ v1 _ _ h1 h2 =>
    cases h2 with
    | cons _ v2 _ _ h3 h4 =>
      cases h4
      cases h1 with
      | str _ t ht =>
        cases h3 with
        | str _ u hu =>
          have hsz : t.size = s.length := by
            show t.data.size = s.length
            rw [← Array.length_toList, ht]
          have hcz : u.size = c.length := by
            show u.data.size = c.length
            rw [← Array.length_toList, hu]
          refine (Any.strings_Trim_laid Tryd.laysTrim (by kernel_rfl) t u w (by omega) (by omega) (by rw [hu]; exact ascii_of_all ha)).mono fun e w' ⟨he, hw⟩ => ⟨⟨_, he, ?_⟩, hw⟩
          refine .str _ _ ?_
          rw [ht, hu]
theorem dw_nil {α : Type} (p : α → Bool) : ∀ l : List α, (l.dropWhile p = []) ↔ l.all p = true
  | [] => by simp
  | a :: l => by
    rw [List.dropWhile_cons, List.all_cons]
    cases h : p a with
    | true => simpa using dw_nil p l
    | false => simp
theorem trimS_nil (l cs : List UInt8) : (Lib.trimS l cs = []) ↔ l.all (cs.contains ·) = true := by
  rw [Lib.trimS, Lib.trimLeftS, dw_nil, Lib.trimRightS]
  constructor
  · intro h
    by_cases hl : l.all (cs.contains ·) = true
    · exact hl
    · exfalso
      have hr : l.reverse.dropWhile (cs.contains ·) ≠ [] := fun he => hl (by have := (dw_nil _ _).1 he; rwa [List.all_reverse] at this)
      obtain ⟨x, r, hx⟩ := List.exists_cons_of_ne_nil hr
      have h1 := List.head?_dropWhile_not (cs.contains ·) l.reverse
      rw [hx] at h1
      rw [hx, List.all_reverse, List.all_cons] at h
      simp only [List.head?_cons, Bool.and_eq_true] at h1 h
      rw [h.1] at h1; simp at h1
  · intro h
    have : l.reverse.dropWhile (cs.contains ·) = [] := (dw_nil _ _).2 (by rw [List.all_reverse]; exact h)
    rw [this]; rfl
end Pv
