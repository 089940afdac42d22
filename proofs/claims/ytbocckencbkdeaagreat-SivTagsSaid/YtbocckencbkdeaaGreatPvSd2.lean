/- Part of the proof: the layer of pure values, or walks through functions (PvSd2, PvSv8, PvGd2). -/
import Derived.Test.YtbocckencbkdeaaGreatPvSd1
import Derived.Test.YtbocckencbkdeaaGreatPvEntry
import Derived.Test.YtbocckencbkdeaaGreatPvAe19
set_option linter.all false
--nosplit
--keep2
namespace Pv
set_option maxRecDepth 20000
set_option maxHeartbeats 4000000
open Go Go.Proofs Go.RowKit
def tb19_11Sd2 : Tab := [[], [0], [], [], [], [3, 4], [3, 4, 5], [0, 1, 2, 3, 4, 5, 6], [0, 1, 2, 3, 4, 5, 6, 7], [0, 1, 2, 3, 4, 5, 6, 7, 8]]
def pl19_11Sd2 : Plan := [(0, true, []), (2, true, []), (3, true, []), (4, true, []), (5, true, []), (6, true, []), (1, false, [2, 3, 4, 5, 6]), (7, false, []), (8, false, []), (9, false, [])]
def tb19_16Sd2 : Tab := [[], [], [], [1, 2], [], [], [4, 5], [], [4, 5, 6, 7], [1, 2, 3, 4, 5, 6, 7, 8], [0, 1, 2, 3, 4, 5, 6, 7, 8, 9], [0, 1, 2, 3, 4, 5, 6, 7, 8, 9, 10], [0, 1, 2, 3, 4, 5, 6, 7, 8, 9, 10, 11]]
def pl19_16Sd2 : Plan := [(0, true, []), (1, true, []), (2, true, []), (3, true, []), (4, true, []), (5, true, []), (6, true, []), (7, true, []), (8, false, [0, 1, 2, 3]), (9, true, []), (10, false, []), (11, false, []), (12, false, [])]
variable {w0 : World}

def s2vR (key : List UInt8) (L : List (List UInt8)) : List UInt8 × Int := if ¬ goodK key then ([], 13) else if 127 < L.length then ([], 18) else (rowL (wordsL key) L, 0)
theorem s2v_good {key : List UInt8} {L : List (List UInt8)} (hk : goodK key) (hl : L.length ≤ 127) : s2vR key L = (rowL (wordsL key) L, 0) := by rw [s2vR, if_neg (by simpa using hk), if_neg (by omega)]
theorem refS2v_ok (key : List UInt8) (L : List (List UInt8)) (hs : ∀ s ∈ L, s.length < 2 ^ 39) : Fn (Cx w0) 19 [.str key, .fsl 1 L.length (strsC L)] (.tuple [.str (s2vR key L).1, .int .i64 (s2vR key L).2]) := by
  have sz := refSized10_ok (w0 := w0) key
  by_cases hk : goodK key
  · rw [decide_eq_true hk] at sz
    by_cases h127 : 127 < L.length
    · rw [show s2vR key L = ([], 18) by rw [s2vR, if_neg (by simpa using hk), if_pos h127]]
      have p : (127 : Int) < (L.length : Int) := by omega
      refine fn_H ([Go.ResultVar.tmp 4, Go.ResultVar.tmp 5]) Tryz.func19 rfl rfl (by decide) fun ph hW Q hQ => ?_
      simp only [start, List.length_cons, List.length_nil, List.cons_append, List.nil_append, Nat.reduceAdd, Nat.reduceSub, List.replicate_succ, List.replicate_zero, Tryz.ntmps19]
      repeat' first
      | simp -implicitDefEqProofs (maxSteps := 400000) (disch := first | with_reducible rfl | omega | (simp only [h_n, PH.n_push, PH.n_put, List.length_cons, List.length_nil] <;> omega) | decide) only [wkAll, wkL, popO, wantedP, if_true, if_false, reduceIte, ne_eq, Nat.reduceAdd, Nat.reduceSub, Nat.reduceMul, Nat.reduceLeDiff, Nat.reduceLT, ofCells, ofCell, reduceCtorEq, Int.reduceLE, Int.reduceLT, Int.reduceToNat, Int.reduceAdd, Int.reduceSub, Int.reduceMul, Int.reduceNeg, Int.reduceBEq, Int.reduceBNe, Int.reduceEq, eqCell, eqCells, binP, unP, convP, lenP, builtinP, sliceDataP, unsafeStringP, appendT, appendS, appendP, copyP, srcP, mmsP, mmP, indexOp, indexAddrOp, sliceOp, bndsP, bndP, capw, capCut, loadOp, storeOp, loadP, fieldOp, fieldAddrOp, arrayAtOp, buildP, buildSliceP, makeSliceP, placeF, fillP, setL, PK.agg, isZero, gt_iff_lt, Nat.reducePow, Nat.reduceGT, reps, seg, wkN, if_pos, if_neg, tf3, Tryz.ze3, tf4, Tryz.ze4, tf9, Tryz.ze9, tf33, Tryz.ze33, pl19_11Sd2, pl19_16Sd2, gt_iff_lt, p]
      | refine w_pure (sz) ?_
      | refine w_drawnF (id := 11) tb19_11Sd2 pl19_11Sd2 42 (by kernel_rfl) (by kernel_rfl) (by simp) ?_
      | refine w_drawnF (id := 16) tb19_16Sd2 pl19_16Sd2 72 (by kernel_rfl) (by kernel_rfl) (by simp) ?_
      refine hQ (by first | exact .inr rfl | exact .inl rfl) (by first | exact trivial | exact marks1) (by first | (simp -implicitDefEqProofs (maxSteps := 400000) (disch := first | with_reducible rfl | omega | (simp only [h_n, PH.n_push, PH.n_put, List.length_cons, List.length_nil] <;> omega) | decide) only [wkAll, wkL, popO, wantedP, if_true, if_false, reduceIte, ne_eq, Nat.reduceAdd, Nat.reduceSub, Nat.reduceMul, Nat.reduceLeDiff, Nat.reduceLT, ofCells, ofCell, reduceCtorEq, Int.reduceLE, Int.reduceLT, Int.reduceToNat, Int.reduceAdd, Int.reduceSub, Int.reduceMul, Int.reduceNeg, Int.reduceBEq, Int.reduceBNe, Int.reduceEq, eqCell, eqCells, binP, unP, convP, lenP, builtinP, sliceDataP, unsafeStringP, appendT, appendS, appendP, copyP, srcP, mmsP, mmP, indexOp, indexAddrOp, sliceOp, bndsP, bndP, capw, capCut, loadOp, storeOp, loadP, fieldOp, fieldAddrOp, arrayAtOp, buildP, buildSliceP, makeSliceP, placeF, fillP, setL, PK.agg, isZero, gt_iff_lt, Nat.reducePow, Nat.reduceGT, reps, seg, wkN, if_pos, if_neg, tf3, Tryz.ze3, tf4, Tryz.ze4, tf9, Tryz.ze9, tf33, Tryz.ze33, pl19_11Sd2, pl19_16Sd2, resP, resPs, resP1]; rfl) | rfl) ⟨6, by repeat' first | exact frz_scalar rfl | apply frz_tuple | apply frz_agg | apply frz_fsl | apply frz_gsl (by omega) | exact frzs_nil | apply frzs_cons⟩ (by first | exact keepsH0 | exact keeps1 (by assumption)) (nw_eq ?_)
      rfl
    · rw [s2v_good hk (by omega)]
      have p : ¬ (127 : Int) < (L.length : Int) := by omega
      have hw := words16 hk
      have hsl : (strsC L).length = L.length := strsC_len L
      have tg := fun s hs => refCmac_ok (w0 := w0) key s hk hs
      have hDl := rowD_len hw L
      have hcl := cmac_len hw
      have hD0 : rowD (wordsL key) L 0 = cmacL (wordsL key) (zL 16) := rfl
      have hDs : ∀ i, rowD (wordsL key) L (i + 1) = xorB (dbl (rowD (wordsL key) L i)) (cmacL (wordsL key) (L.getD i [])) := fun _ => rfl
      have z16 := refz16 (w0 := w0)
      have z15 := refz15 (w0 := w0)
      by_cases h0 : L.length = 0
      · rw [rowL, if_pos h0]
        have t1 := tg (zL 15 ++ [1]) (by simp [zL])
        have hz := zL_len 15
        generalize zL 15 = zz at *
        generalize cmacL (wordsL key) (zz ++ [1]) = u at *
        generalize wordsL key = w at *
        rw [h0]
        refine fn_H ([Go.ResultVar.tmp 4, Go.ResultVar.tmp 5]) Tryz.func19 rfl rfl (by decide) fun ph hW Q hQ => ?_
        simp only [start, List.length_cons, List.length_nil, List.cons_append, List.nil_append, Nat.reduceAdd, Nat.reduceSub, List.replicate_succ, List.replicate_zero, Tryz.ntmps19]
        repeat' first
        | simp -implicitDefEqProofs (maxSteps := 400000) (disch := first | with_reducible rfl | omega | (simp only [h_n, PH.n_push, PH.n_put, List.length_cons, List.length_nil] <;> omega) | decide) only [wkAll, wkL, popO, wantedP, if_true, if_false, reduceIte, ne_eq, Nat.reduceAdd, Nat.reduceSub, Nat.reduceMul, Nat.reduceLeDiff, Nat.reduceLT, ofCells, ofCell, reduceCtorEq, Int.reduceLE, Int.reduceLT, Int.reduceToNat, Int.reduceAdd, Int.reduceSub, Int.reduceMul, Int.reduceNeg, Int.reduceBEq, Int.reduceBNe, Int.reduceEq, eqCell, eqCells, binP, unP, convP, lenP, builtinP, sliceDataP, unsafeStringP, appendT, appendS, appendP, copyP, srcP, mmsP, mmP, indexOp, indexAddrOp, sliceOp, bndsP, bndP, capw, capCut, loadOp, storeOp, loadP, fieldOp, fieldAddrOp, arrayAtOp, buildP, buildSliceP, makeSliceP, placeF, fillP, setL, PK.agg, isZero, gt_iff_lt, Nat.reducePow, Nat.reduceGT, reps, seg, wkN, if_pos, if_neg, tf3, Tryz.ze3, tf4, Tryz.ze4, tf9, Tryz.ze9, tf33, Tryz.ze33, pl19_11Sd2, pl19_16Sd2, gt_iff_lt, hz]
        | refine w_pure (sz) ?_
        | refine w_pure (z15) ?_
        | refine w_pure (t1) ?_
        | refine w_drawnF (id := 11) tb19_11Sd2 pl19_11Sd2 42 (by kernel_rfl) (by kernel_rfl) (by simp) ?_
        | refine w_drawnF (id := 16) tb19_16Sd2 pl19_16Sd2 72 (by kernel_rfl) (by kernel_rfl) (by simp) ?_
        refine hQ (by first | exact .inr rfl | exact .inl rfl) (by first | exact trivial | exact marks1) (by first | (simp -implicitDefEqProofs (maxSteps := 400000) (disch := first | with_reducible rfl | omega | (simp only [h_n, PH.n_push, PH.n_put, List.length_cons, List.length_nil] <;> omega) | decide) only [wkAll, wkL, popO, wantedP, if_true, if_false, reduceIte, ne_eq, Nat.reduceAdd, Nat.reduceSub, Nat.reduceMul, Nat.reduceLeDiff, Nat.reduceLT, ofCells, ofCell, reduceCtorEq, Int.reduceLE, Int.reduceLT, Int.reduceToNat, Int.reduceAdd, Int.reduceSub, Int.reduceMul, Int.reduceNeg, Int.reduceBEq, Int.reduceBNe, Int.reduceEq, eqCell, eqCells, binP, unP, convP, lenP, builtinP, sliceDataP, unsafeStringP, appendT, appendS, appendP, copyP, srcP, mmsP, mmP, indexOp, indexAddrOp, sliceOp, bndsP, bndP, capw, capCut, loadOp, storeOp, loadP, fieldOp, fieldAddrOp, arrayAtOp, buildP, buildSliceP, makeSliceP, placeF, fillP, setL, PK.agg, isZero, gt_iff_lt, Nat.reducePow, Nat.reduceGT, reps, seg, wkN, if_pos, if_neg, tf3, Tryz.ze3, tf4, Tryz.ze4, tf9, Tryz.ze9, tf33, Tryz.ze33, pl19_11Sd2, pl19_16Sd2, resP, resPs, resP1]; rfl) | rfl) ⟨6, by repeat' first | exact frz_scalar rfl | apply frz_tuple | apply frz_agg | apply frz_fsl | apply frz_gsl (by omega) | exact frzs_nil | apply frzs_cons⟩ (by first | exact keepsH0 | exact keeps1 (by assumption)) (nw_eq ?_)
        rfl
      · obtain ⟨n, hn⟩ : ∃ n, L.length = n + 1 := ⟨L.length - 1, by omega⟩
        obtain ⟨s, hls⟩ := get_someW (show n < L.length by omega)
        have hsb := hs s (List.mem_of_getElem? hls)
        have hgs : L.getD n [] = s := by rw [List.getD_eq_getElem?_getD, hls]; rfl
        have hcs := strsC_get hls
        have hcs2 : ((strsC L).drop n)[0]? = some (.str s) := by rw [List.getElem?_drop]; exact hcs
        rw [rowL, if_neg h0, show L.length - 1 = n by omega, hgs]
        rw [hn] at p hsl ⊢
        have q0 : (((n + 1 : Nat) : Int) == 0) = false := by rw [beq_eq_false_iff_ne]; omega
        have i1 : ((n + 1 : Nat) : Int) - 1 = (n : Int) := by omega
        have i2 : (n : Int) < ((n + 1 : Nat) : Int) := by omega
        have t0 := tg (zL 16) (by simp [zL])
        rw [← hD0] at t0
        have hL127 : n ≤ 126 := by omega
        refine fn_H ([Go.ResultVar.tmp 4, Go.ResultVar.tmp 5]) Tryz.func19 rfl rfl (by decide) fun ph hW Q hQ => ?_
        simp only [start, List.length_cons, List.length_nil, List.cons_append, List.nil_append, Nat.reduceAdd, Nat.reduceSub, List.replicate_succ, List.replicate_zero, Tryz.ntmps19]
        repeat' first
        | simp -implicitDefEqProofs (maxSteps := 400000) (disch := first | with_reducible rfl | omega | (simp only [h_n, PH.n_push, PH.n_put, List.length_cons, List.length_nil] <;> omega) | decide) only [wkAll, wkL, popO, wantedP, if_true, if_false, reduceIte, ne_eq, Nat.reduceAdd, Nat.reduceSub, Nat.reduceMul, Nat.reduceLeDiff, Nat.reduceLT, ofCells, ofCell, reduceCtorEq, Int.reduceLE, Int.reduceLT, Int.reduceToNat, Int.reduceAdd, Int.reduceSub, Int.reduceMul, Int.reduceNeg, Int.reduceBEq, Int.reduceBNe, Int.reduceEq, eqCell, eqCells, binP, unP, convP, lenP, builtinP, sliceDataP, unsafeStringP, appendT, appendS, appendP, copyP, srcP, mmsP, mmP, indexOp, indexAddrOp, sliceOp, bndsP, bndP, capw, capCut, loadOp, storeOp, loadP, fieldOp, fieldAddrOp, arrayAtOp, buildP, buildSliceP, makeSliceP, placeF, fillP, setL, PK.agg, isZero, gt_iff_lt, Nat.reducePow, Nat.reduceGT, reps, seg, wkN, if_pos, if_neg, tf3, Tryz.ze3, tf4, Tryz.ze4, tf9, Tryz.ze9, tf33, Tryz.ze33, pl19_11Sd2, pl19_16Sd2, gt_iff_lt, p, q0]
        | refine w_pure (sz) ?_
        | refine w_pure (z16) ?_
        | refine w_pure (t0) ?_
        | refine w_drawnF (id := 11) tb19_11Sd2 pl19_11Sd2 42 (by kernel_rfl) (by kernel_rfl) (by simp) ?_
        | refine w_drawnF (id := 16) tb19_16Sd2 pl19_16Sd2 72 (by kernel_rfl) (by kernel_rfl) (by simp) ?_
        refine w_loopH (α := Nat) ph ph.ob ph.ty (fun i => [.str key, .fsl 1 (n + 1) (strsC L), .undef, .undef, .undef, .undef, .str (rowD (wordsL key) L i), .int .i64 i, .undef, .undef, .undef, .undef, .undef, .undef, .undef, .undef, .undef, .undef, .undef, .undef, .undef, .undef, .undef, .undef, .undef, .undef, .undef, .undef, .undef, .undef, .undef, .undef, .undef, .undef, .undef, .undef, .undef, .undef, .undef, .undef, .undef, .undef, .undef, .undef, .undef, .undef, .undef, .undef, .undef, .undef, .undef, .undef, .undef, .undef, .undef, .undef, .undef, .undef, .undef, .undef, .undef, .undef, .undef, .undef, .undef, .undef, .undef, .undef, .undef, .undef, .undef, .undef]) (fun i => []) (fun i => i ≤ n) (fun i => n - i) 0 (by simp) (fun _ _ => by simp) (.eq (by simp [FadeTo]) rfl) ?_
        intro i hi K hK
        rcases Nat.lt_or_ge i n with hlt | hge
        · have hlt' : (i : Int) < (n : Int) := by omega
          have hlt2 : (i : Int) < ((n + 1 : Nat) : Int) := by omega
          obtain ⟨t, ht⟩ := get_someW (show i < L.length by omega)
          have hgt : L.getD i [] = t := by rw [List.getD_eq_getElem?_getD, ht]; rfl
          have hTt : (strsC L)[i]? = some (.str t) := strsC_get ht
          have hTt2 : ((strsC L).drop i)[0]? = some (.str t) := by rw [List.getElem?_drop]; exact hTt
          have hK1 := fun tm ph' => hK (i + 1) tm ph' (by omega) (by omega)
          rw [hDs, hgt] at hK1
          have tw := refTwice10_ok (w0 := w0) (rowD (wordsL key) L i) (hDl i)
          have tt := tg t (Nat.lt_trans (hs t (List.mem_of_getElem? ht)) (by decide))
          have xx := refXor_ok (w0 := w0) (dbl (rowD (wordsL key) L i)) (cmacL (wordsL key) t) (by rw [dbl_len, hcl]; exact Nat.le_refl _) (by rw [dbl_len]; decide)
          clear hK hcs hcs2 hD0 hDs
          generalize xorB (dbl (rowD (wordsL key) L i)) (cmacL (wordsL key) t) = x at *
          generalize cmacL (wordsL key) t = c at *
          generalize dbl (rowD (wordsL key) L i) = y at *
          generalize rowD (wordsL key) L i = d at *
          repeat' first
          | simp -implicitDefEqProofs (maxSteps := 400000) (disch := first | with_reducible rfl | omega | (simp only [h_n, PH.n_push, PH.n_put, List.length_cons, List.length_nil] <;> omega) | decide) only [wkAll, wkL, popO, wantedP, if_true, if_false, reduceIte, ne_eq, Nat.reduceAdd, Nat.reduceSub, Nat.reduceMul, Nat.reduceLeDiff, Nat.reduceLT, ofCells, ofCell, reduceCtorEq, Int.reduceLE, Int.reduceLT, Int.reduceToNat, Int.reduceAdd, Int.reduceSub, Int.reduceMul, Int.reduceNeg, Int.reduceBEq, Int.reduceBNe, Int.reduceEq, eqCell, eqCells, binP, unP, convP, lenP, builtinP, sliceDataP, unsafeStringP, appendT, appendS, appendP, copyP, srcP, mmsP, mmP, indexOp, indexAddrOp, sliceOp, bndsP, bndP, capw, capCut, loadOp, storeOp, loadP, fieldOp, fieldAddrOp, arrayAtOp, buildP, buildSliceP, makeSliceP, placeF, fillP, setL, PK.agg, isZero, gt_iff_lt, Nat.reducePow, Nat.reduceGT, reps, seg, wkN, if_pos, if_neg, tf3, Tryz.ze3, tf4, Tryz.ze4, tf9, Tryz.ze9, tf33, Tryz.ze33, pl19_11Sd2, pl19_16Sd2, i1, hlt', hlt2, hsl, hTt, hTt2]
          | refine w_pure (tw) ?_
          | refine w_pure (tt) ?_
          | refine w_pure (xx) ?_
          | refine w_drawnF (id := 11) tb19_11Sd2 pl19_11Sd2 42 (by kernel_rfl) (by kernel_rfl) (by simp) ?_
          | refine w_drawnF (id := 16) tb19_16Sd2 pl19_16Sd2 72 (by kernel_rfl) (by kernel_rfl) (by simp) ?_
          exact hK1 _ _ (.eq (by simp [FadeTo]) rfl)
        · have hge' : ¬ (i : Int) < (n : Int) := by omega
          have : i = n := by omega
          subst this
          have hdl := hDl i
          clear hK hD0 hDs t0
          generalize rowD (wordsL key) L i = d at *
          by_cases h16 : s.length < 16
          · rw [rowE, if_pos h16, xorB_comm'] at hQ
            have c0 : (s.length : Int) < 16 := by omega
            have wh := refWhole_ok (w0 := w0) s h16
            have hwl := whole_len h16
            have tw := refTwice10_ok (w0 := w0) d hdl
            have hyl := dbl_len d
            generalize wholeL s = y1 at *
            generalize dbl d = y at *
            have xx := refXor_ok (w0 := w0) y y1 (by omega) (by omega)
            have hxl : (xorB y y1).length = 16 := by rw [xorB_len, hwl, hyl]; rfl
            generalize xorB y y1 = x at *
            have tt := tg x (by omega)
            generalize cmacL (wordsL key) x = u at *
            repeat' first
            | simp -implicitDefEqProofs (maxSteps := 400000) (disch := first | with_reducible rfl | omega | (simp only [h_n, PH.n_push, PH.n_put, List.length_cons, List.length_nil] <;> omega) | decide) only [wkAll, wkL, popO, wantedP, if_true, if_false, reduceIte, ne_eq, Nat.reduceAdd, Nat.reduceSub, Nat.reduceMul, Nat.reduceLeDiff, Nat.reduceLT, ofCells, ofCell, reduceCtorEq, Int.reduceLE, Int.reduceLT, Int.reduceToNat, Int.reduceAdd, Int.reduceSub, Int.reduceMul, Int.reduceNeg, Int.reduceBEq, Int.reduceBNe, Int.reduceEq, eqCell, eqCells, binP, unP, convP, lenP, builtinP, sliceDataP, unsafeStringP, appendT, appendS, appendP, copyP, srcP, mmsP, mmP, indexOp, indexAddrOp, sliceOp, bndsP, bndP, capw, capCut, loadOp, storeOp, loadP, fieldOp, fieldAddrOp, arrayAtOp, buildP, buildSliceP, makeSliceP, placeF, fillP, setL, PK.agg, isZero, gt_iff_lt, Nat.reducePow, Nat.reduceGT, reps, seg, wkN, if_pos, if_neg, tf3, Tryz.ze3, tf4, Tryz.ze4, tf9, Tryz.ze9, tf33, Tryz.ze33, pl19_11Sd2, pl19_16Sd2, ge_iff_le, i1, i2, hge', hsl, hcs, hcs2, c0]
            | refine w_pure (tw) ?_
            | refine w_pure (wh) ?_
            | refine w_pure (xx) ?_
            | refine w_pure (tt) ?_
            | refine w_drawnF (id := 11) tb19_11Sd2 pl19_11Sd2 42 (by kernel_rfl) (by kernel_rfl) (by simp) ?_
            | refine w_drawnF (id := 16) tb19_16Sd2 pl19_16Sd2 72 (by kernel_rfl) (by kernel_rfl) (by simp) ?_
            refine hQ (by first | exact .inr rfl | exact .inl rfl) (by first | exact trivial | exact marks1) (by first | (simp -implicitDefEqProofs (maxSteps := 400000) (disch := first | with_reducible rfl | omega | (simp only [h_n, PH.n_push, PH.n_put, List.length_cons, List.length_nil] <;> omega) | decide) only [wkAll, wkL, popO, wantedP, if_true, if_false, reduceIte, ne_eq, Nat.reduceAdd, Nat.reduceSub, Nat.reduceMul, Nat.reduceLeDiff, Nat.reduceLT, ofCells, ofCell, reduceCtorEq, Int.reduceLE, Int.reduceLT, Int.reduceToNat, Int.reduceAdd, Int.reduceSub, Int.reduceMul, Int.reduceNeg, Int.reduceBEq, Int.reduceBNe, Int.reduceEq, eqCell, eqCells, binP, unP, convP, lenP, builtinP, sliceDataP, unsafeStringP, appendT, appendS, appendP, copyP, srcP, mmsP, mmP, indexOp, indexAddrOp, sliceOp, bndsP, bndP, capw, capCut, loadOp, storeOp, loadP, fieldOp, fieldAddrOp, arrayAtOp, buildP, buildSliceP, makeSliceP, placeF, fillP, setL, PK.agg, isZero, gt_iff_lt, Nat.reducePow, Nat.reduceGT, reps, seg, wkN, if_pos, if_neg, tf3, Tryz.ze3, tf4, Tryz.ze4, tf9, Tryz.ze9, tf33, Tryz.ze33, pl19_11Sd2, pl19_16Sd2, resP, resPs, resP1]; rfl) | rfl) ⟨6, by repeat' first | exact frz_scalar rfl | apply frz_tuple | apply frz_agg | apply frz_fsl | apply frz_gsl (by omega) | exact frzs_nil | apply frzs_cons⟩ (by first | exact keepsH0 | exact keeps1 (by assumption)) (nw_eq ?_)
            rfl
          · rw [rowE, if_neg h16] at hQ
            obtain ⟨m, hm⟩ : ∃ m, s.length - 16 = m := ⟨_, rfl⟩
            rw [hm] at hQ
            have c1 : (s.length : Int) - 16 = (m : Int) := by omega
            have c0 : ¬ (s.length : Int) < 16 := by omega
            have c2 : (m : Int) ≤ (s.length : Int) := by omega
            have c3 : m ≤ s.length := by omega
            have hdl2 : (s.drop m).length = 16 := by rw [List.length_drop]; omega
            have htl2 : (s.take m).length = m := by rw [List.length_take]; omega
            have hdt : (s.drop m).take (s.length - m) = s.drop m := List.take_of_length_le (by rw [List.length_drop]; exact Nat.le_refl _)
            have xx := refXor_ok (w0 := w0) (s.drop m) d (by omega) (by omega)
            have hxl : (xorB (s.drop m) d).length = 16 := by rw [xorB_len, hdl2, hdl]; rfl
            have h3 : ((s.take m).length + (xorB (s.drop m) d).length ≤ 9223372036854775807) = True := by rw [eq_iff_iff, iff_true]; omega
            have tt := tg (s.take m ++ xorB (s.drop m) d) (by rw [List.length_append]; omega)
            generalize xorB (s.drop m) d = x at *
            generalize cmacL (wordsL key) (s.take m ++ x) = u at *
            repeat' first
            | simp -implicitDefEqProofs (maxSteps := 400000) (disch := first | with_reducible rfl | omega | (simp only [h_n, PH.n_push, PH.n_put, List.length_cons, List.length_nil] <;> omega) | decide) only [wkAll, wkL, popO, wantedP, if_true, if_false, reduceIte, ne_eq, Nat.reduceAdd, Nat.reduceSub, Nat.reduceMul, Nat.reduceLeDiff, Nat.reduceLT, ofCells, ofCell, reduceCtorEq, Int.reduceLE, Int.reduceLT, Int.reduceToNat, Int.reduceAdd, Int.reduceSub, Int.reduceMul, Int.reduceNeg, Int.reduceBEq, Int.reduceBNe, Int.reduceEq, eqCell, eqCells, binP, unP, convP, lenP, builtinP, sliceDataP, unsafeStringP, appendT, appendS, appendP, copyP, srcP, mmsP, mmP, indexOp, indexAddrOp, sliceOp, bndsP, bndP, capw, capCut, loadOp, storeOp, loadP, fieldOp, fieldAddrOp, arrayAtOp, buildP, buildSliceP, makeSliceP, placeF, fillP, setL, PK.agg, isZero, gt_iff_lt, Nat.reducePow, Nat.reduceGT, reps, seg, wkN, if_pos, if_neg, tf3, Tryz.ze3, tf4, Tryz.ze4, tf9, Tryz.ze9, tf33, Tryz.ze33, pl19_11Sd2, pl19_16Sd2, ge_iff_le, i1, i2, hge', hsl, hcs, hcs2, c0, c1, c2, c3, h3, hdt]
            | refine w_pure (xx) ?_
            | refine w_pure (tt) ?_
            | refine w_drawnF (id := 11) tb19_11Sd2 pl19_11Sd2 42 (by kernel_rfl) (by kernel_rfl) (by simp) ?_
            | refine w_drawnF (id := 16) tb19_16Sd2 pl19_16Sd2 72 (by kernel_rfl) (by kernel_rfl) (by simp) ?_
            refine hQ (by first | exact .inr rfl | exact .inl rfl) (by first | exact trivial | exact marks1) (by first | (simp -implicitDefEqProofs (maxSteps := 400000) (disch := first | with_reducible rfl | omega | (simp only [h_n, PH.n_push, PH.n_put, List.length_cons, List.length_nil] <;> omega) | decide) only [wkAll, wkL, popO, wantedP, if_true, if_false, reduceIte, ne_eq, Nat.reduceAdd, Nat.reduceSub, Nat.reduceMul, Nat.reduceLeDiff, Nat.reduceLT, ofCells, ofCell, reduceCtorEq, Int.reduceLE, Int.reduceLT, Int.reduceToNat, Int.reduceAdd, Int.reduceSub, Int.reduceMul, Int.reduceNeg, Int.reduceBEq, Int.reduceBNe, Int.reduceEq, eqCell, eqCells, binP, unP, convP, lenP, builtinP, sliceDataP, unsafeStringP, appendT, appendS, appendP, copyP, srcP, mmsP, mmP, indexOp, indexAddrOp, sliceOp, bndsP, bndP, capw, capCut, loadOp, storeOp, loadP, fieldOp, fieldAddrOp, arrayAtOp, buildP, buildSliceP, makeSliceP, placeF, fillP, setL, PK.agg, isZero, gt_iff_lt, Nat.reducePow, Nat.reduceGT, reps, seg, wkN, if_pos, if_neg, tf3, Tryz.ze3, tf4, Tryz.ze4, tf9, Tryz.ze9, tf33, Tryz.ze33, pl19_11Sd2, pl19_16Sd2, resP, resPs, resP1]; rfl) | rfl) ⟨6, by repeat' first | exact frz_scalar rfl | apply frz_tuple | apply frz_agg | apply frz_fsl | apply frz_gsl (by omega) | exact frzs_nil | apply frzs_cons⟩ (by first | exact keepsH0 | exact keeps1 (by assumption)) (nw_eq ?_)
            rfl
  · rw [show s2vR key L = ([], 13) by rw [s2vR, if_pos hk]]
    rw [decide_eq_false hk] at sz
    refine fn_H ([Go.ResultVar.tmp 4, Go.ResultVar.tmp 5]) Tryz.func19 rfl rfl (by decide) fun ph hW Q hQ => ?_
    simp only [start, List.length_cons, List.length_nil, List.cons_append, List.nil_append, Nat.reduceAdd, Nat.reduceSub, List.replicate_succ, List.replicate_zero, Tryz.ntmps19]
    repeat' first
    | simp -implicitDefEqProofs (maxSteps := 400000) (disch := first | with_reducible rfl | omega | (simp only [h_n, PH.n_push, PH.n_put, List.length_cons, List.length_nil] <;> omega) | decide) only [wkAll, wkL, popO, wantedP, if_true, if_false, reduceIte, ne_eq, Nat.reduceAdd, Nat.reduceSub, Nat.reduceMul, Nat.reduceLeDiff, Nat.reduceLT, ofCells, ofCell, reduceCtorEq, Int.reduceLE, Int.reduceLT, Int.reduceToNat, Int.reduceAdd, Int.reduceSub, Int.reduceMul, Int.reduceNeg, Int.reduceBEq, Int.reduceBNe, Int.reduceEq, eqCell, eqCells, binP, unP, convP, lenP, builtinP, sliceDataP, unsafeStringP, appendT, appendS, appendP, copyP, srcP, mmsP, mmP, indexOp, indexAddrOp, sliceOp, bndsP, bndP, capw, capCut, loadOp, storeOp, loadP, fieldOp, fieldAddrOp, arrayAtOp, buildP, buildSliceP, makeSliceP, placeF, fillP, setL, PK.agg, isZero, gt_iff_lt, Nat.reducePow, Nat.reduceGT, reps, seg, wkN, if_pos, if_neg, tf3, Tryz.ze3, tf4, Tryz.ze4, tf9, Tryz.ze9, tf33, Tryz.ze33, pl19_11Sd2, pl19_16Sd2]
    | refine w_pure (sz) ?_
    | refine w_drawnF (id := 11) tb19_11Sd2 pl19_11Sd2 42 (by kernel_rfl) (by kernel_rfl) (by simp) ?_
    | refine w_drawnF (id := 16) tb19_16Sd2 pl19_16Sd2 72 (by kernel_rfl) (by kernel_rfl) (by simp) ?_
    refine hQ (by first | exact .inr rfl | exact .inl rfl) (by first | exact trivial | exact marks1) (by first | (simp -implicitDefEqProofs (maxSteps := 400000) (disch := first | with_reducible rfl | omega | (simp only [h_n, PH.n_push, PH.n_put, List.length_cons, List.length_nil] <;> omega) | decide) only [wkAll, wkL, popO, wantedP, if_true, if_false, reduceIte, ne_eq, Nat.reduceAdd, Nat.reduceSub, Nat.reduceMul, Nat.reduceLeDiff, Nat.reduceLT, ofCells, ofCell, reduceCtorEq, Int.reduceLE, Int.reduceLT, Int.reduceToNat, Int.reduceAdd, Int.reduceSub, Int.reduceMul, Int.reduceNeg, Int.reduceBEq, Int.reduceBNe, Int.reduceEq, eqCell, eqCells, binP, unP, convP, lenP, builtinP, sliceDataP, unsafeStringP, appendT, appendS, appendP, copyP, srcP, mmsP, mmP, indexOp, indexAddrOp, sliceOp, bndsP, bndP, capw, capCut, loadOp, storeOp, loadP, fieldOp, fieldAddrOp, arrayAtOp, buildP, buildSliceP, makeSliceP, placeF, fillP, setL, PK.agg, isZero, gt_iff_lt, Nat.reducePow, Nat.reduceGT, reps, seg, wkN, if_pos, if_neg, tf3, Tryz.ze3, tf4, Tryz.ze4, tf9, Tryz.ze9, tf33, Tryz.ze33, pl19_11Sd2, pl19_16Sd2, resP, resPs, resP1]; rfl) | rfl) ⟨6, by repeat' first | exact frz_scalar rfl | apply frz_tuple | apply frz_agg | apply frz_fsl | apply frz_gsl (by omega) | exact frzs_nil | apply frzs_cons⟩ (by first | exact keepsH0 | exact keeps1 (by assumption)) (nw_eq ?_)
    rfl
end Pv

--nosplit
--keep2
namespace Pv
set_option maxRecDepth 20000
set_option maxHeartbeats 4000000
open Go Go.Proofs Go.RowKit
variable {w0 : World}

theorem few10_2 {a b : List UInt8} (h : few10 [a, b] = true) : a.length ≤ 600 ∧ b.length ≤ 600 := by
  rw [few10, Bool.and_eq_true] at h
  simpa using h.1
theorem few10_le {L : List (List UInt8)} (h : few10 L = true) : ∀ s ∈ L, s.length ≤ 600 := by
  rw [few10, Bool.and_eq_true, List.all_eq_true] at h
  intro s hs
  simpa using h.1 s hs
theorem few10_n {L : List (List UInt8)} (h : few10 L = true) : L.length < 200 := by
  rw [few10, Bool.and_eq_true] at h
  have := h.2
  simp at this
  omega
end Pv

--nosplit
--keep2
namespace Pv
set_option maxRecDepth 20000
set_option maxHeartbeats 4000000
open Go Go.Proofs Go.RowKit
variable {w0 : World}

end Pv
