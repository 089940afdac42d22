/- Part of the proof: the layer of pure values, or walks through functions (PvSd1). -/
import Derived.Test.YtbocckencbkdeaaGreatPvEntry
import Derived.Test.YtbocckencbkdeaaGreatPvAe21
set_option linter.all false
--nosplit
--keep2
namespace Pv
set_option maxRecDepth 20000
set_option maxHeartbeats 4000000
open Go Go.Proofs Go.RowKit
def tb40_7Sd1 : Tab := [[], [], [], [], [2, 3], [2, 3, 4], [], [], [7], [6, 7, 8], [6, 7, 8, 9], [2, 3, 4, 5, 6, 7, 8, 9, 10], [0, 1, 2, 3, 4, 5, 6, 7, 8, 9, 10, 11], [0, 1, 2, 3, 4, 5, 6, 7, 8, 9, 10, 11, 12]]
def pl40_7Sd1 : Plan := [(0, true, []), (1, true, []), (2, true, []), (3, true, []), (4, true, []), (5, true, []), (6, true, []), (7, true, []), (8, true, []), (9, true, []), (10, true, []), (11, true, []), (12, true, []), (13, false, [])]
variable {w0 : World}

theorem refZeros10_ok (n : Nat) (hn : n < 2 ^ 40) : Fn (Cx w0) 39 [.int .i64 n] (.str (zL n)) := by
  obtain ⟨Z, hZ⟩ : ∃ Z : List UInt8, Z = List.replicate n 0 := ⟨_, rfl⟩
  have hZl : Z.length = n := by rw [hZ]; simp
  have k4 : List.take n (bytesPV Z) = bytesPV Z := List.take_of_length_le (by rw [bytesPV_len]; omega)
  rw [show zL n = Z from hZ.symm]
  refine fn_H ([Go.ResultVar.tmp 2]) Tryz.func39 rfl rfl (by decide) fun ph hW Q hQ => ?_
  simp only [start, List.length_cons, List.length_nil, List.cons_append, List.nil_append, Nat.reduceAdd, Nat.reduceSub, List.replicate_succ, List.replicate_zero, Tryz.ntmps39]
  repeat' first | simp -implicitDefEqProofs (maxSteps := 400000) (disch := first | with_reducible rfl | omega | (simp only [wkH] <;> omega) | decide) only [wkAll, wkL, popO, wantedP, if_true, if_false, reduceIte, ne_eq, Nat.reduceAdd, Nat.reduceSub, Nat.reduceMul, Nat.reduceLeDiff, Nat.reduceLT, ofCells, ofCell, reduceCtorEq, Int.reduceLE, Int.reduceLT, Int.reduceToNat, Int.reduceAdd, Int.reduceSub, Int.reduceMul, Int.reduceNeg, Int.reduceBEq, Int.reduceBNe, Int.reduceEq, eqCell, eqCells, binP, unP, convP, lenP, builtinP, sliceDataP, unsafeStringP, appendT, appendS, appendP, copyP, srcP, mmsP, mmP, indexOp, indexAddrOp, sliceOp, bndsP, bndP, capw, capCut, loadOp, storeOp, loadP, fieldOp, fieldAddrOp, arrayAtOp, buildP, buildSliceP, makeSliceP, placeF, fillP, setL, PK.agg, isZero, gt_iff_lt, Nat.reducePow, Nat.reduceGT, reps, seg, wkN, if_pos, if_neg, tf5, Tryz.ze5, tf9, Tryz.ze9, tf30, Tryz.ze30, -makeSliceP, mkBm, h_push, h_n, ← hZ, hZl, k4, bytesX_bytesPV]
  refine hQ (by first | exact .inr rfl | exact .inl rfl) (by first | exact trivial | exact marks1) (by first | (simp -implicitDefEqProofs (maxSteps := 400000) (disch := first | with_reducible rfl | omega | (simp only [wkH] <;> omega) | decide) only [wkAll, wkL, popO, wantedP, if_true, if_false, reduceIte, ne_eq, Nat.reduceAdd, Nat.reduceSub, Nat.reduceMul, Nat.reduceLeDiff, Nat.reduceLT, ofCells, ofCell, reduceCtorEq, Int.reduceLE, Int.reduceLT, Int.reduceToNat, Int.reduceAdd, Int.reduceSub, Int.reduceMul, Int.reduceNeg, Int.reduceBEq, Int.reduceBNe, Int.reduceEq, eqCell, eqCells, loadOp, storeOp, loadP, setL, PK.agg, isZero, gt_iff_lt, Nat.reducePow, Nat.reduceGT, reps, seg, wkN, if_pos, if_neg, tf5, Tryz.ze5, tf9, Tryz.ze9, tf30, Tryz.ze30, resP, resPs, resP1]; rfl) | rfl) ⟨6, by repeat' first | exact frz_scalar rfl | apply frz_tuple | apply frz_agg | apply frz_fsl | apply frz_gsl (by omega) | exact frzs_nil | apply frzs_cons⟩ (by first | exact keepsH0 | exact keeps1 (by assumption)) (nw_eq ?_)
  rfl
theorem refz16 : Fn (Cx w0) 39 [.int .i64 16] (.str (zL 16)) := refZeros10_ok 16 (by decide)
theorem refz15 : Fn (Cx w0) 39 [.int .i64 15] (.str (zL 15)) := refZeros10_ok 15 (by decide)
theorem xor_u8_135 (a : UInt8) : bitsP .xor .u8 a.toNat 135 = ((a ^^^ 135).toNat : Int) := xor_u8 a 135
theorem refTwice10_ok (b : List UInt8) (hb : b.length = 16) : Fn (Cx w0) 40 [.str b] (.str (dbl b)) := by
  rw [dbl_of0 hb]
  have hDl := dbl0_len b
  obtain ⟨D, hD⟩ : ∃ D, D = dbl0 b := ⟨_, rfl⟩
  have hDat : ∀ k, k < 16 → D[k]? = some (dbD b k) := fun k hk => by rw [hD]; exact dbl0_at b hk
  rw [← hD] at hDl ⊢
  obtain ⟨Z, hZ⟩ : ∃ Z, Z = zL 16 := ⟨_, rfl⟩
  have hZl : Z.length = 16 := by rw [hZ]; rfl
  obtain ⟨b0, hb0⟩ := get_someW (show 0 < b.length by omega)
  have hg0 : b.getD 0 0 = b0 := by rw [List.getD_eq_getElem?_getD, hb0]; rfl
  rw [hg0, top_if]
  refine fn_H ([Go.ResultVar.tmp 2]) Tryz.func40 rfl rfl (by decide) fun ph hW Q hQ => ?_
  simp only [start, List.length_cons, List.length_nil, List.cons_append, List.nil_append, Nat.reduceAdd, Nat.reduceSub, List.replicate_succ, List.replicate_zero, Tryz.ntmps40]
  repeat' first | simp -implicitDefEqProofs (maxSteps := 400000) (disch := first | with_reducible rfl | omega | (simp only [wkH] <;> omega) | decide) only [wkAll, wkL, popO, wantedP, if_true, if_false, reduceIte, ne_eq, Nat.reduceAdd, Nat.reduceSub, Nat.reduceMul, Nat.reduceLeDiff, Nat.reduceLT, ofCells, ofCell, reduceCtorEq, Int.reduceLE, Int.reduceLT, Int.reduceToNat, Int.reduceAdd, Int.reduceSub, Int.reduceMul, Int.reduceNeg, Int.reduceBEq, Int.reduceBNe, Int.reduceEq, eqCell, eqCells, binP, unP, convP, lenP, builtinP, sliceDataP, unsafeStringP, appendT, appendS, appendP, copyP, srcP, mmsP, mmP, indexOp, indexAddrOp, sliceOp, bndsP, bndP, capw, capCut, loadOp, storeOp, loadP, fieldOp, fieldAddrOp, arrayAtOp, buildP, buildSliceP, makeSliceP, placeF, fillP, setL, PK.agg, isZero, gt_iff_lt, Nat.reducePow, Nat.reduceGT, reps, seg, wkN, if_pos, if_neg, tf3, Tryz.ze3, tf5, Tryz.ze5, tf9, Tryz.ze9, tf30, Tryz.ze30, pl40_7Sd1] | refine w_drawnF (id := 7) tb40_7Sd1 pl40_7Sd1 32 (by kernel_rfl) (by kernel_rfl) (by simp) ?_
  refine w_loopH (α := Nat) ph ph.ob ph.ty (fun i => [.str b, .undef, .undef, .sl ph.n 0 1 16 (some 16), .int .i64 i, .undef, .undef, .undef, .undef, .undef, .undef, .undef, .undef, .undef, .undef, .undef, .undef, .undef, .undef, .undef, .undef, .undef, .undef, .undef, .undef, .undef, .undef, .undef, .undef, .undef, .undef, .undef, .undef, .undef, .undef, .undef, .undef, .undef, .undef, .undef, .undef, .undef, .undef]) (fun i => [some (.own (bytesPV (midB D Z i)))]) (fun i => i ≤ 16) (fun i => 16 - i) 0 (by simp) (fun _ _ => by simp) (.eq (by simp [FadeTo]) (by rw [midB_0, hZ]; rfl)) ?_
  intro i hi K hK
  have hml := midB_len (m := D) (l := Z) (by omega) i
  rcases Nat.lt_or_ge i 16 with hlt | hge
  · have hlt' : (i : Int) < 16 := by omega
    obtain ⟨x, hx⟩ := get_someW (show i < b.length by omega)
    have hxg : b.getD i 0 = x := by rw [List.getD_eq_getElem?_getD, hx]; rfl
    have hm := hDat i hlt
    have hs := midB_set (m := D) (l := Z) (by omega) hm
    have hK1 := fun tm ph' => hK (i + 1) tm ph' (by omega) (by omega)
    clear hK
    by_cases h15 : i < 15
    · obtain ⟨y, hy⟩ := get_someW (show i + 1 < b.length by omega)
      have hyg : b.getD (i + 1) 0 = y := by rw [List.getD_eq_getElem?_getD, hy]; rfl
      rw [dbD, hxg, hyg] at hs
      have g3 : (i : Int) + 1 = ((i + 1 : Nat) : Int) := by omega
      have g4 : (i : Int) < 15 := by omega
      have g5 : ((i + 1 : Nat) : Int) < 16 := by omega
      generalize midB D Z (i + 1) = M' at *
      generalize midB D Z i = M at *
      have c1 : (M.set i (x <<< 1))[i]? = some (x <<< 1) := List.getElem?_set_self (by omega)
      have c3 : (M.set i (x <<< 1)).length = 16 := by rw [List.length_set, hml, hZl]
      have c4 : (M.set i (x <<< 1)).set i ((x <<< 1) ||| (y >>> 7)) = M' := by rw [List.set_set, hs]
      generalize hM2 : M.set i (x <<< 1) = M2 at *
      repeat' first | simp -implicitDefEqProofs (maxSteps := 400000) (disch := first | with_reducible rfl | omega | (simp only [wkH] <;> omega) | decide) only [wkAll, wkL, popO, wantedP, if_true, if_false, reduceIte, ne_eq, Nat.reduceAdd, Nat.reduceSub, Nat.reduceMul, Nat.reduceLeDiff, Nat.reduceLT, ofCells, ofCell, reduceCtorEq, Int.reduceLE, Int.reduceLT, Int.reduceToNat, Int.reduceAdd, Int.reduceSub, Int.reduceMul, Int.reduceNeg, Int.reduceBEq, Int.reduceBNe, Int.reduceEq, eqCell, eqCells, binP, unP, convP, lenP, builtinP, sliceDataP, unsafeStringP, appendT, appendS, appendP, copyP, srcP, mmsP, mmP, indexOp, indexAddrOp, sliceOp, bndsP, bndP, capw, capCut, loadOp, storeOp, loadP, fieldOp, fieldAddrOp, arrayAtOp, buildP, buildSliceP, makeSliceP, placeF, fillP, setL, PK.agg, isZero, gt_iff_lt, Nat.reducePow, Nat.reduceGT, reps, seg, wkN, if_pos, if_neg, tf3, Tryz.ze3, tf5, Tryz.ze5, tf9, Tryz.ze9, tf30, Tryz.ze30, pl40_7Sd1, hlt', g3, g4, g5, hb, hx, hy, hml, hZl, c1, c3, hM2, shl_u8_1, shr_u8_7, or_u8, bytesPV_set, c4] | refine w_drawnF (id := 7) tb40_7Sd1 pl40_7Sd1 32 (by kernel_rfl) (by kernel_rfl) (by simp) ?_
      exact hK1 _ _ (.eq (by simp [FadeTo]) rfl)
    · have h15' : i = 15 := by omega
      have hyg : b.getD (i + 1) 0 = 0 := by rw [List.getD_eq_getElem?_getD, List.getElem?_eq_none (by omega)]; rfl
      rw [dbD, hxg, hyg, show (0 : UInt8) >>> 7 = 0 from rfl, UInt8.or_zero] at hs
      have g4 : ¬ (i : Int) < 15 := by omega
      generalize midB D Z (i + 1) = M' at *
      generalize midB D Z i = M at *
      repeat' first | simp -implicitDefEqProofs (maxSteps := 400000) (disch := first | with_reducible rfl | omega | (simp only [wkH] <;> omega) | decide) only [wkAll, wkL, popO, wantedP, if_true, if_false, reduceIte, ne_eq, Nat.reduceAdd, Nat.reduceSub, Nat.reduceMul, Nat.reduceLeDiff, Nat.reduceLT, ofCells, ofCell, reduceCtorEq, Int.reduceLE, Int.reduceLT, Int.reduceToNat, Int.reduceAdd, Int.reduceSub, Int.reduceMul, Int.reduceNeg, Int.reduceBEq, Int.reduceBNe, Int.reduceEq, eqCell, eqCells, binP, unP, convP, lenP, builtinP, sliceDataP, unsafeStringP, appendT, appendS, appendP, copyP, srcP, mmsP, mmP, indexOp, indexAddrOp, sliceOp, bndsP, bndP, capw, capCut, loadOp, storeOp, loadP, fieldOp, fieldAddrOp, arrayAtOp, buildP, buildSliceP, makeSliceP, placeF, fillP, setL, PK.agg, isZero, gt_iff_lt, Nat.reducePow, Nat.reduceGT, reps, seg, wkN, if_pos, if_neg, tf3, Tryz.ze3, tf5, Tryz.ze5, tf9, Tryz.ze9, tf30, Tryz.ze30, pl40_7Sd1, hlt', g4, hb, hx, hml, hZl, shl_u8_1, bytesPV_set, hs] | refine w_drawnF (id := 7) tb40_7Sd1 pl40_7Sd1 32 (by kernel_rfl) (by kernel_rfl) (by simp) ?_
      exact hK1 _ _ (.eq (by simp [FadeTo]) rfl)
  · have hge' : ¬ (i : Int) < 16 := by omega
    have : i = 16 := by omega
    subst this
    rw [midB_all (by omega) (by omega)]
    have h15 := hDat 15 (by decide)
    generalize dbD b 15 = x at *
    by_cases ht : 128 ≤ b0.toNat
    · have p : (128 : Int) ≤ (b0.toNat : Int) := by omega
      rw [if_pos ht] at hQ
      have hl : (D.set 15 (x ^^^ 135)).length = 16 := by rw [List.length_set, hDl]
      generalize hE : D.set 15 (x ^^^ 135) = E at *
      have k4 : List.take 16 (bytesPV E) = bytesPV E := List.take_of_length_le (by rw [bytesPV_len]; omega)
      repeat' first | simp -implicitDefEqProofs (maxSteps := 400000) (disch := first | with_reducible rfl | omega | (simp only [wkH] <;> omega) | decide) only [wkAll, wkL, popO, wantedP, if_true, if_false, reduceIte, ne_eq, Nat.reduceAdd, Nat.reduceSub, Nat.reduceMul, Nat.reduceLeDiff, Nat.reduceLT, ofCells, ofCell, reduceCtorEq, Int.reduceLE, Int.reduceLT, Int.reduceToNat, Int.reduceAdd, Int.reduceSub, Int.reduceMul, Int.reduceNeg, Int.reduceBEq, Int.reduceBNe, Int.reduceEq, eqCell, eqCells, binP, unP, convP, lenP, builtinP, sliceDataP, unsafeStringP, appendT, appendS, appendP, copyP, srcP, mmsP, mmP, indexOp, indexAddrOp, sliceOp, bndsP, bndP, capw, capCut, loadOp, storeOp, loadP, fieldOp, fieldAddrOp, arrayAtOp, buildP, buildSliceP, makeSliceP, placeF, fillP, setL, PK.agg, isZero, gt_iff_lt, Nat.reducePow, Nat.reduceGT, reps, seg, wkN, if_pos, if_neg, tf3, Tryz.ze3, tf5, Tryz.ze5, tf9, Tryz.ze9, tf30, Tryz.ze30, pl40_7Sd1, ge_iff_le, hge', hb, hb0, p, hDl, h15, xor_u8_135, bytesPV_set, hE, hl, k4, bytesX_bytesPV] | refine w_drawnF (id := 7) tb40_7Sd1 pl40_7Sd1 32 (by kernel_rfl) (by kernel_rfl) (by simp) ?_
      refine hQ (by first | exact .inr rfl | exact .inl rfl) (by first | exact trivial | exact marks1) (by first | (simp -implicitDefEqProofs (maxSteps := 400000) (disch := first | with_reducible rfl | omega | (simp only [wkH] <;> omega) | decide) only [wkAll, wkL, popO, wantedP, if_true, if_false, reduceIte, ne_eq, Nat.reduceAdd, Nat.reduceSub, Nat.reduceMul, Nat.reduceLeDiff, Nat.reduceLT, ofCells, ofCell, reduceCtorEq, Int.reduceLE, Int.reduceLT, Int.reduceToNat, Int.reduceAdd, Int.reduceSub, Int.reduceMul, Int.reduceNeg, Int.reduceBEq, Int.reduceBNe, Int.reduceEq, eqCell, eqCells, loadOp, storeOp, loadP, setL, PK.agg, isZero, gt_iff_lt, Nat.reducePow, Nat.reduceGT, reps, seg, wkN, if_pos, if_neg, tf3, Tryz.ze3, tf5, Tryz.ze5, tf9, Tryz.ze9, tf30, Tryz.ze30, pl40_7Sd1, resP, resPs, resP1]; rfl) | rfl) ⟨6, by repeat' first | exact frz_scalar rfl | apply frz_tuple | apply frz_agg | apply frz_fsl | apply frz_gsl (by omega) | exact frzs_nil | apply frzs_cons⟩ (by first | exact keepsH0 | exact keeps1 (by assumption)) (nw_eq ?_)
      rfl
    · have p : ¬ (128 : Int) ≤ (b0.toNat : Int) := by omega
      rw [if_neg ht, UInt8.xor_zero, show D.set 15 x = D by
          apply List.ext_getElem?; intro t; rw [List.getElem?_set]; split
          · rename_i e; subst e; rw [h15, if_pos (by omega)]
          · rfl] at hQ
      have k4 : List.take 16 (bytesPV D) = bytesPV D := List.take_of_length_le (by rw [bytesPV_len]; omega)
      repeat' first | simp -implicitDefEqProofs (maxSteps := 400000) (disch := first | with_reducible rfl | omega | (simp only [wkH] <;> omega) | decide) only [wkAll, wkL, popO, wantedP, if_true, if_false, reduceIte, ne_eq, Nat.reduceAdd, Nat.reduceSub, Nat.reduceMul, Nat.reduceLeDiff, Nat.reduceLT, ofCells, ofCell, reduceCtorEq, Int.reduceLE, Int.reduceLT, Int.reduceToNat, Int.reduceAdd, Int.reduceSub, Int.reduceMul, Int.reduceNeg, Int.reduceBEq, Int.reduceBNe, Int.reduceEq, eqCell, eqCells, binP, unP, convP, lenP, builtinP, sliceDataP, unsafeStringP, appendT, appendS, appendP, copyP, srcP, mmsP, mmP, indexOp, indexAddrOp, sliceOp, bndsP, bndP, capw, capCut, loadOp, storeOp, loadP, fieldOp, fieldAddrOp, arrayAtOp, buildP, buildSliceP, makeSliceP, placeF, fillP, setL, PK.agg, isZero, gt_iff_lt, Nat.reducePow, Nat.reduceGT, reps, seg, wkN, if_pos, if_neg, tf3, Tryz.ze3, tf5, Tryz.ze5, tf9, Tryz.ze9, tf30, Tryz.ze30, pl40_7Sd1, ge_iff_le, hge', hb, hb0, p, hDl, k4, bytesX_bytesPV] | refine w_drawnF (id := 7) tb40_7Sd1 pl40_7Sd1 32 (by kernel_rfl) (by kernel_rfl) (by simp) ?_
      refine hQ (by first | exact .inr rfl | exact .inl rfl) (by first | exact trivial | exact marks1) (by first | (simp -implicitDefEqProofs (maxSteps := 400000) (disch := first | with_reducible rfl | omega | (simp only [wkH] <;> omega) | decide) only [wkAll, wkL, popO, wantedP, if_true, if_false, reduceIte, ne_eq, Nat.reduceAdd, Nat.reduceSub, Nat.reduceMul, Nat.reduceLeDiff, Nat.reduceLT, ofCells, ofCell, reduceCtorEq, Int.reduceLE, Int.reduceLT, Int.reduceToNat, Int.reduceAdd, Int.reduceSub, Int.reduceMul, Int.reduceNeg, Int.reduceBEq, Int.reduceBNe, Int.reduceEq, eqCell, eqCells, loadOp, storeOp, loadP, setL, PK.agg, isZero, gt_iff_lt, Nat.reducePow, Nat.reduceGT, reps, seg, wkN, if_pos, if_neg, tf3, Tryz.ze3, tf5, Tryz.ze5, tf9, Tryz.ze9, tf30, Tryz.ze30, pl40_7Sd1, resP, resPs, resP1]; rfl) | rfl) ⟨6, by repeat' first | exact frz_scalar rfl | apply frz_tuple | apply frz_agg | apply frz_fsl | apply frz_gsl (by omega) | exact frzs_nil | apply frzs_cons⟩ (by first | exact keepsH0 | exact keeps1 (by assumption)) (nw_eq ?_)
      rfl
theorem refWhole_ok (s : List UInt8) (hs : s.length < 16) : Fn (Cx w0) 41 [.str s] (.str (wholeL s)) := by
  have z := refz16 (w0 := w0)
  have ht := whole_take hs
  have hzl := zL_len 16
  generalize zL 16 = zz at *
  have h2 : (s.length + 1 ≤ 9223372036854775807) = True := by rw [eq_iff_iff, iff_true]; omega
  have h3 : (s.length + 1 + 16 ≤ 9223372036854775807) = True := by rw [eq_iff_iff, iff_true]; omega
  have h4 : (s ++ [128] ++ zz).length = s.length + 1 + 16 := by simp [hzl]
  have h5 : (16 : Int) ≤ ((s.length + 1 + 16 : Nat) : Int) := by omega
  have h6 : 16 ≤ s.length + 1 + 16 := by omega
  refine fn_H ([Go.ResultVar.tmp 2]) Tryz.func41 rfl rfl (by decide) fun ph hW Q hQ => ?_
  simp only [start, List.length_cons, List.length_nil, List.cons_append, List.nil_append, Nat.reduceAdd, Nat.reduceSub, List.replicate_succ, List.replicate_zero, Tryz.ntmps41]
  repeat' first | simp -implicitDefEqProofs (maxSteps := 400000) (disch := first | with_reducible rfl | omega | (simp only [wkH] <;> omega) | decide) only [wkAll, wkL, popO, wantedP, if_true, if_false, reduceIte, ne_eq, Nat.reduceAdd, Nat.reduceSub, Nat.reduceMul, Nat.reduceLeDiff, Nat.reduceLT, ofCells, ofCell, reduceCtorEq, Int.reduceLE, Int.reduceLT, Int.reduceToNat, Int.reduceAdd, Int.reduceSub, Int.reduceMul, Int.reduceNeg, Int.reduceBEq, Int.reduceBNe, Int.reduceEq, eqCell, eqCells, binP, unP, convP, lenP, builtinP, sliceDataP, unsafeStringP, appendT, appendS, appendP, copyP, srcP, mmsP, mmP, indexOp, indexAddrOp, sliceOp, bndsP, bndP, capw, capCut, loadOp, storeOp, loadP, fieldOp, fieldAddrOp, arrayAtOp, buildP, buildSliceP, makeSliceP, placeF, fillP, setL, PK.agg, isZero, gt_iff_lt, Nat.reducePow, Nat.reduceGT, reps, seg, wkN, if_pos, if_neg, tf3, Tryz.ze3, tf9, Tryz.ze9, h2, h3, h4, h5, h6, hzl, List.length_append, List.length_cons, List.length_nil, Nat.zero_add, ht] | refine w_pure (z) ?_
  refine hQ (by first | exact .inr rfl | exact .inl rfl) (by first | exact trivial | exact marks1) (by first | (simp -implicitDefEqProofs (maxSteps := 400000) (disch := first | with_reducible rfl | omega | (simp only [wkH] <;> omega) | decide) only [wkAll, wkL, popO, wantedP, if_true, if_false, reduceIte, ne_eq, Nat.reduceAdd, Nat.reduceSub, Nat.reduceMul, Nat.reduceLeDiff, Nat.reduceLT, ofCells, ofCell, reduceCtorEq, Int.reduceLE, Int.reduceLT, Int.reduceToNat, Int.reduceAdd, Int.reduceSub, Int.reduceMul, Int.reduceNeg, Int.reduceBEq, Int.reduceBNe, Int.reduceEq, eqCell, eqCells, loadOp, storeOp, loadP, setL, PK.agg, isZero, gt_iff_lt, Nat.reducePow, Nat.reduceGT, reps, seg, wkN, if_pos, if_neg, tf3, Tryz.ze3, tf9, Tryz.ze9, resP, resPs, resP1]; rfl) | rfl) ⟨6, by repeat' first | exact frz_scalar rfl | apply frz_tuple | apply frz_agg | apply frz_fsl | apply frz_gsl (by omega) | exact frzs_nil | apply frzs_cons⟩ (by first | exact keepsH0 | exact keeps1 (by assumption)) (nw_eq ?_)
  rfl
theorem refSized10_ok (key : List UInt8) : Fn (Cx w0) 36 [.str key] (.bool (decide (goodK key))) := by
  obtain ⟨b1, b2, q1, q0, hbb⟩ : ∃ b1 b2 : Bool, ((key.length : Int) == 16) = b1 ∧ ((key.length : Int) == 32) = b2 ∧ decide (goodK key) = (b1 || b2) := ⟨_, _, rfl, rfl, by
    have hA : ((key.length : Int) == 16) = decide (key.length = 16) := by rw [Bool.eq_iff_iff, beq_iff_eq, decide_eq_true_iff]; omega
    have hB : ((key.length : Int) == 32) = decide (key.length = 32) := by rw [Bool.eq_iff_iff, beq_iff_eq, decide_eq_true_iff]; omega
    rw [hA, hB, Bool.eq_iff_iff, Bool.or_eq_true, decide_eq_true_iff, decide_eq_true_iff, decide_eq_true_iff]; exact Iff.rfl⟩
  rw [hbb]
  cases b1 <;> cases b2
  all_goals
    refine fn_H ([Go.ResultVar.tmp 2]) Tryz.func36 rfl rfl (by decide) fun ph hW Q hQ => ?_
    simp only [start, List.length_cons, List.length_nil, List.cons_append, List.nil_append, Nat.reduceAdd, Nat.reduceSub, List.replicate_succ, List.replicate_zero, Tryz.ntmps36]
    repeat' first | simp -implicitDefEqProofs (maxSteps := 400000) (disch := first | with_reducible rfl | omega | (simp only [wkH] <;> omega) | decide) only [wkAll, wkL, popO, wantedP, if_true, if_false, reduceIte, ne_eq, Nat.reduceAdd, Nat.reduceSub, Nat.reduceMul, Nat.reduceLeDiff, Nat.reduceLT, ofCells, ofCell, reduceCtorEq, Int.reduceLE, Int.reduceLT, Int.reduceToNat, Int.reduceAdd, Int.reduceSub, Int.reduceMul, Int.reduceNeg, Int.reduceBEq, Int.reduceBNe, Int.reduceEq, eqCell, eqCells, binP, unP, convP, lenP, builtinP, sliceDataP, unsafeStringP, appendT, appendS, appendP, copyP, srcP, mmsP, mmP, indexOp, indexAddrOp, sliceOp, bndsP, bndP, capw, capCut, loadOp, storeOp, loadP, fieldOp, fieldAddrOp, arrayAtOp, buildP, buildSliceP, makeSliceP, placeF, fillP, setL, PK.agg, isZero, gt_iff_lt, Nat.reducePow, Nat.reduceGT, reps, seg, wkN, if_pos, if_neg, tf3, Tryz.ze3, tf9, Tryz.ze9, q1, q0]
    refine hQ (by first | exact .inr rfl | exact .inl rfl) (by first | exact trivial | exact marks1) (by first | (simp -implicitDefEqProofs (maxSteps := 400000) (disch := first | with_reducible rfl | omega | (simp only [wkH] <;> omega) | decide) only [wkAll, wkL, popO, wantedP, if_true, if_false, reduceIte, ne_eq, Nat.reduceAdd, Nat.reduceSub, Nat.reduceMul, Nat.reduceLeDiff, Nat.reduceLT, ofCells, ofCell, reduceCtorEq, Int.reduceLE, Int.reduceLT, Int.reduceToNat, Int.reduceAdd, Int.reduceSub, Int.reduceMul, Int.reduceNeg, Int.reduceBEq, Int.reduceBNe, Int.reduceEq, eqCell, eqCells, loadOp, storeOp, loadP, setL, PK.agg, isZero, gt_iff_lt, Nat.reducePow, Nat.reduceGT, reps, seg, wkN, if_pos, if_neg, tf3, Tryz.ze3, tf9, Tryz.ze9, resP, resPs, resP1]; rfl) | rfl) ⟨6, by repeat' first | exact frz_scalar rfl | apply frz_tuple | apply frz_agg | apply frz_fsl | apply frz_gsl (by omega) | exact frzs_nil | apply frzs_cons⟩ (by first | exact keepsH0 | exact keeps1 (by assumption)) (nw_eq ?_)
    rfl
theorem refCmac_ok (key s : List UInt8) (hk : goodK key) (hs : s.length < 2 ^ 40) : Fn (Cx w0) 37 [.str key, .str s] (.str (cmacL (wordsL key) s)) := by
  have hw := words16 hk
  have en := fun (b : List UInt8) (hb : b.length = 16) => (enc_good hk hb) ▸ refEncrypt_ok (w0 := w0) key b
  have z := refz16 (w0 := w0)
  have e0 := en (zL 16) (zL_len 16)
  have hul : (encB (wordsL key) (zL 16)).length = 16 := encB_len (zL_len 16) hw
  have t1 := refTwice10_ok (w0 := w0) (encB (wordsL key) (zL 16)) hul
  rw [show dbl (encB (wordsL key) (zL 16)) = cmK1 (wordsL key) from rfl] at t1
  have hk1 : (cmK1 (wordsL key)).length = 16 := dbl_len _
  have hk2 : (cmK2 (wordsL key)).length = 16 := dbl_len _
  have t2 := refTwice10_ok (w0 := w0) (cmK1 (wordsL key)) hk1
  rw [show dbl (cmK1 (wordsL key)) = cmK2 (wordsL key) from rfl] at t2
  have hX := cmX_len (w := wordsL key) (s := s) hw
  have hfin : cmacL (wordsL key) s = encB (wordsL key) (if (cmR s).length = 16 then xorB (xorB (cmX (wordsL key) s (cmN s)) (cmR s)) (cmK1 (wordsL key)) else xorB (xorB (cmX (wordsL key) s (cmN s)) (wholeL (cmR s))) (cmK2 (wordsL key))) := by
    rw [cmacL, cmL]; split
    · rw [xorB_assoc]
    · rw [xorB_assoc]
  rw [hfin]
  have hX0 : cmX (wordsL key) s 0 = zL 16 := rfl
  have hXs : ∀ j, cmX (wordsL key) s (j + 1) = encB (wordsL key) (xorB (cmX (wordsL key) s j) ((s.drop (16 * j)).take 16)) := fun _ => rfl
  clear hfin
  generalize encB (wordsL key) (zL 16) = u0 at *
  generalize cmK1 (wordsL key) = k1 at *
  generalize cmK2 (wordsL key) = k2 at *
  generalize wordsL key = w at *
  refine fn_H ([Go.ResultVar.tmp 4]) Tryz.func37 rfl rfl (by decide) fun ph hW Q hQ => ?_
  simp only [start, List.length_cons, List.length_nil, List.cons_append, List.nil_append, Nat.reduceAdd, Nat.reduceSub, List.replicate_succ, List.replicate_zero, Tryz.ntmps37]
  repeat' first | simp -implicitDefEqProofs (maxSteps := 400000) (disch := first | with_reducible rfl | omega | (simp only [wkH] <;> omega) | decide) only [wkAll, wkL, popO, wantedP, if_true, if_false, reduceIte, ne_eq, Nat.reduceAdd, Nat.reduceSub, Nat.reduceMul, Nat.reduceLeDiff, Nat.reduceLT, ofCells, ofCell, reduceCtorEq, Int.reduceLE, Int.reduceLT, Int.reduceToNat, Int.reduceAdd, Int.reduceSub, Int.reduceMul, Int.reduceNeg, Int.reduceBEq, Int.reduceBNe, Int.reduceEq, eqCell, eqCells, binP, unP, convP, lenP, builtinP, sliceDataP, unsafeStringP, appendT, appendS, appendP, copyP, srcP, mmsP, mmP, indexOp, indexAddrOp, sliceOp, bndsP, bndP, capw, capCut, loadOp, storeOp, loadP, fieldOp, fieldAddrOp, arrayAtOp, buildP, buildSliceP, makeSliceP, placeF, fillP, setL, PK.agg, isZero, gt_iff_lt, Nat.reducePow, Nat.reduceGT, reps, seg, wkN, if_pos, if_neg, tf3, Tryz.ze3, tf9, Tryz.ze9] | refine w_pure (z) ?_ | refine w_pure (e0) ?_ | refine w_pure (t1) ?_
  refine w_loopH (α := Nat) ph ph.ob ph.ty (fun j => [.str key, .str (s.drop (16 * j)), .undef, .undef, .undef, .undef, .undef, .str k1, .str (cmX w s j), .undef, .undef, .undef, .undef, .undef, .undef, .undef, .undef, .undef, .undef, .undef, .undef, .undef, .undef, .undef, .undef, .undef, .undef, .undef, .undef, .undef, .undef, .undef, .undef, .undef, .undef, .undef, .undef, .undef, .undef, .undef, .undef, .undef, .undef, .undef, .undef, .undef, .undef, .undef, .undef, .undef, .undef, .undef]) (fun j => []) (fun j => j ≤ cmN s) (fun j => cmN s - j) 0 (by simp) (fun _ _ => by simp) (.eq (by simp [FadeTo, hX0]) rfl) ?_
  intro j hj K hK
  have hXl := hX j hj
  rcases Nat.lt_or_ge j (cmN s) with hlt | hge
  · have hnx := hXs j
    have hlt2 : 16 * j + 16 < s.length := by rw [cmN] at hlt; omega
    have hdl : (s.drop (16 * j)).length = s.length - 16 * j := List.length_drop
    have hdd : s.drop (16 * (j + 1)) = (s.drop (16 * j)).drop 16 := by rw [List.drop_drop, Nat.mul_succ]
    have hK1 := fun tm ph' => hK (j + 1) tm ph' (by omega) (by omega)
    rw [hnx, hdd] at hK1
    clear hK hnx hdd
    generalize s.drop (16 * j) = d at *
    have hd16 : (16 : Int) < (d.length : Int) := by omega
    have hbl : (d.take 16).length = 16 := by rw [List.length_take]; omega
    have hd3 : (16 : Int) ≤ (d.length : Int) := by omega
    have hd4 : 16 ≤ d.length := by omega
    have hdt : (d.drop 16).take (d.length - 16) = d.drop 16 := List.take_of_length_le (by rw [List.length_drop]; exact Nat.le_refl _)
    generalize cmX w s j = X at *
    have xx := refXor_ok (w0 := w0) X (d.take 16) (by omega) (by omega)
    have ee := en (xorB X (d.take 16)) (by rw [xorB_len, hXl, hbl]; rfl)
    generalize encB w (xorB X (d.take 16)) = u at *
    generalize xorB X (d.take 16) = v at *
    repeat' first | simp -implicitDefEqProofs (maxSteps := 400000) (disch := first | with_reducible rfl | omega | (simp only [wkH] <;> omega) | decide) only [wkAll, wkL, popO, wantedP, if_true, if_false, reduceIte, ne_eq, Nat.reduceAdd, Nat.reduceSub, Nat.reduceMul, Nat.reduceLeDiff, Nat.reduceLT, ofCells, ofCell, reduceCtorEq, Int.reduceLE, Int.reduceLT, Int.reduceToNat, Int.reduceAdd, Int.reduceSub, Int.reduceMul, Int.reduceNeg, Int.reduceBEq, Int.reduceBNe, Int.reduceEq, eqCell, eqCells, binP, unP, convP, lenP, builtinP, sliceDataP, unsafeStringP, appendT, appendS, appendP, copyP, srcP, mmsP, mmP, indexOp, indexAddrOp, sliceOp, bndsP, bndP, capw, capCut, loadOp, storeOp, loadP, fieldOp, fieldAddrOp, arrayAtOp, buildP, buildSliceP, makeSliceP, placeF, fillP, setL, PK.agg, isZero, gt_iff_lt, Nat.reducePow, Nat.reduceGT, reps, seg, wkN, if_pos, if_neg, tf3, Tryz.ze3, tf9, Tryz.ze9, gt_iff_lt, hd16, hd3, hd4, hdt] | refine w_pure (xx) ?_ | refine w_pure (ee) ?_
    exact hK1 _ _ (.eq (by simp [FadeTo]) rfl)
  · have hje : j = cmN s := by omega
    subst hje
    clear hK
    have hrl := cmR_len s
    rw [show s.drop (16 * cmN s) = cmR s from rfl]
    generalize cmR s = d at *
    have hd16 : ¬ (16 : Int) < (d.length : Int) := by omega
    generalize cmX w s (cmN s) = X at *
    by_cases h16 : d.length = 16
    · rw [if_pos h16] at hQ
      have q : ¬ (d.length : Int) < 16 := by omega
      have m1 := refXor_ok (w0 := w0) X d (by omega) (by omega)
      have hml : (xorB X d).length = 16 := by rw [xorB_len, hXl, h16]; rfl
      generalize xorB X d = b at *
      have xx := refXor_ok (w0 := w0) b k1 (by omega) (by omega)
      have ee := en (xorB b k1) (by rw [xorB_len, hml, hk1]; rfl)
      generalize encB w (xorB b k1) = u at *
      generalize xorB b k1 = v at *
      repeat' first | simp -implicitDefEqProofs (maxSteps := 400000) (disch := first | with_reducible rfl | omega | (simp only [wkH] <;> omega) | decide) only [wkAll, wkL, popO, wantedP, if_true, if_false, reduceIte, ne_eq, Nat.reduceAdd, Nat.reduceSub, Nat.reduceMul, Nat.reduceLeDiff, Nat.reduceLT, ofCells, ofCell, reduceCtorEq, Int.reduceLE, Int.reduceLT, Int.reduceToNat, Int.reduceAdd, Int.reduceSub, Int.reduceMul, Int.reduceNeg, Int.reduceBEq, Int.reduceBNe, Int.reduceEq, eqCell, eqCells, binP, unP, convP, lenP, builtinP, sliceDataP, unsafeStringP, appendT, appendS, appendP, copyP, srcP, mmsP, mmP, indexOp, indexAddrOp, sliceOp, bndsP, bndP, capw, capCut, loadOp, storeOp, loadP, fieldOp, fieldAddrOp, arrayAtOp, buildP, buildSliceP, makeSliceP, placeF, fillP, setL, PK.agg, isZero, gt_iff_lt, Nat.reducePow, Nat.reduceGT, reps, seg, wkN, if_pos, if_neg, tf3, Tryz.ze3, tf9, Tryz.ze9, gt_iff_lt, hd16, q] | refine w_pure (m1) ?_ | refine w_pure (xx) ?_ | refine w_pure (ee) ?_
      refine hQ (by first | exact .inr rfl | exact .inl rfl) (by first | exact trivial | exact marks1) (by first | (simp -implicitDefEqProofs (maxSteps := 400000) (disch := first | with_reducible rfl | omega | (simp only [wkH] <;> omega) | decide) only [wkAll, wkL, popO, wantedP, if_true, if_false, reduceIte, ne_eq, Nat.reduceAdd, Nat.reduceSub, Nat.reduceMul, Nat.reduceLeDiff, Nat.reduceLT, ofCells, ofCell, reduceCtorEq, Int.reduceLE, Int.reduceLT, Int.reduceToNat, Int.reduceAdd, Int.reduceSub, Int.reduceMul, Int.reduceNeg, Int.reduceBEq, Int.reduceBNe, Int.reduceEq, eqCell, eqCells, loadOp, storeOp, loadP, setL, PK.agg, isZero, gt_iff_lt, Nat.reducePow, Nat.reduceGT, reps, seg, wkN, if_pos, if_neg, tf3, Tryz.ze3, tf9, Tryz.ze9, resP, resPs, resP1]; rfl) | rfl) ⟨6, by repeat' first | exact frz_scalar rfl | apply frz_tuple | apply frz_agg | apply frz_fsl | apply frz_gsl (by omega) | exact frzs_nil | apply frzs_cons⟩ (by first | exact keepsH0 | exact keeps1 (by assumption)) (nw_eq ?_)
      rfl
    · rw [if_neg h16] at hQ
      have q : (d.length : Int) < 16 := by omega
      have wh := refWhole_ok (w0 := w0) d (by omega)
      have hwl := whole_len (s := d) (by omega)
      generalize wholeL d = y at *
      have m1 := refXor_ok (w0 := w0) X y (by omega) (by omega)
      have hml : (xorB X y).length = 16 := by rw [xorB_len, hXl, hwl]; rfl
      generalize xorB X y = b at *
      have xx := refXor_ok (w0 := w0) b k2 (by omega) (by omega)
      have ee := en (xorB b k2) (by rw [xorB_len, hml, hk2]; rfl)
      generalize encB w (xorB b k2) = u at *
      generalize xorB b k2 = v at *
      repeat' first | simp -implicitDefEqProofs (maxSteps := 400000) (disch := first | with_reducible rfl | omega | (simp only [wkH] <;> omega) | decide) only [wkAll, wkL, popO, wantedP, if_true, if_false, reduceIte, ne_eq, Nat.reduceAdd, Nat.reduceSub, Nat.reduceMul, Nat.reduceLeDiff, Nat.reduceLT, ofCells, ofCell, reduceCtorEq, Int.reduceLE, Int.reduceLT, Int.reduceToNat, Int.reduceAdd, Int.reduceSub, Int.reduceMul, Int.reduceNeg, Int.reduceBEq, Int.reduceBNe, Int.reduceEq, eqCell, eqCells, binP, unP, convP, lenP, builtinP, sliceDataP, unsafeStringP, appendT, appendS, appendP, copyP, srcP, mmsP, mmP, indexOp, indexAddrOp, sliceOp, bndsP, bndP, capw, capCut, loadOp, storeOp, loadP, fieldOp, fieldAddrOp, arrayAtOp, buildP, buildSliceP, makeSliceP, placeF, fillP, setL, PK.agg, isZero, gt_iff_lt, Nat.reducePow, Nat.reduceGT, reps, seg, wkN, if_pos, if_neg, tf3, Tryz.ze3, tf9, Tryz.ze9, gt_iff_lt, hd16, q] | refine w_pure (wh) ?_ | refine w_pure (t2) ?_ | refine w_pure (m1) ?_ | refine w_pure (xx) ?_ | refine w_pure (ee) ?_
      refine hQ (by first | exact .inr rfl | exact .inl rfl) (by first | exact trivial | exact marks1) (by first | (simp -implicitDefEqProofs (maxSteps := 400000) (disch := first | with_reducible rfl | omega | (simp only [wkH] <;> omega) | decide) only [wkAll, wkL, popO, wantedP, if_true, if_false, reduceIte, ne_eq, Nat.reduceAdd, Nat.reduceSub, Nat.reduceMul, Nat.reduceLeDiff, Nat.reduceLT, ofCells, ofCell, reduceCtorEq, Int.reduceLE, Int.reduceLT, Int.reduceToNat, Int.reduceAdd, Int.reduceSub, Int.reduceMul, Int.reduceNeg, Int.reduceBEq, Int.reduceBNe, Int.reduceEq, eqCell, eqCells, loadOp, storeOp, loadP, setL, PK.agg, isZero, gt_iff_lt, Nat.reducePow, Nat.reduceGT, reps, seg, wkN, if_pos, if_neg, tf3, Tryz.ze3, tf9, Tryz.ze9, resP, resPs, resP1]; rfl) | rfl) ⟨6, by repeat' first | exact frz_scalar rfl | apply frz_tuple | apply frz_agg | apply frz_fsl | apply frz_gsl (by omega) | exact frzs_nil | apply frzs_cons⟩ (by first | exact keepsH0 | exact keeps1 (by assumption)) (nw_eq ?_)
      rfl
end Pv
