/- Part of the proof: the layer of pure values, or walks through functions (PvSv3, PvSvP, PvClone). -/
import Derived.Test.YtbocckencbkdeaaGreatPvSv2
import Derived.Test.YtbocckencbkdeaaGreatPvAe13
import Derived.Test.YtbocckencbkdeaaGreatPvDrawF
import Derived.Test.YtbocckencbkdeaaGreatPvAeT
import Derived.Shelf.Slices.Clone
set_option linter.all false
--nosplit
--keep2
namespace Pv
set_option maxRecDepth 20000
set_option maxHeartbeats 4000000
open Go Go.Proofs Go.RowKit
def tb38_12Sv3 : Tab := [[], [], [], [1, 2], [], [], [4, 5], [], [4, 5, 6, 7], [1, 2, 3, 4, 5, 6, 7, 8], [0, 1, 2, 3, 4, 5, 6, 7, 8, 9], [0, 1, 2, 3, 4, 5, 6, 7, 8, 9, 10]]
def pl38_12Sv3 : Plan := [(0, true, []), (1, true, []), (2, true, []), (3, true, []), (4, true, []), (5, true, []), (6, true, []), (7, true, []), (8, false, [0, 1, 2, 3]), (9, true, []), (10, false, []), (11, false, [])]
def tb38_13Sv3 : Tab := [[], [], [1], [], [3], [3, 4], [3, 4, 5], [1, 2, 3, 4, 5, 6], [], [3, 4, 5, 6, 8], [1, 2, 3, 4, 5, 6, 7, 8, 9], [0, 1, 2, 3, 4, 5, 6, 7, 8, 9, 10], [0, 1, 2, 3, 4, 5, 6, 7, 8, 9, 10, 11]]
def pl38_13Sv3 : Plan := [(0, true, []), (1, true, []), (2, true, []), (3, true, []), (4, true, []), (5, true, []), (8, true, []), (6, false, [0, 1, 2, 8]), (7, true, []), (9, false, [0, 1, 2, 7]), (10, false, [0]), (11, false, []), (12, false, [])]
def tb38_2Sv3 : Tab := [[], [], [1], [0, 1, 2], [0, 1, 2, 3]]
def pl38_2Sv3 : Plan := [(0, true, []), (1, false, [0]), (2, true, []), (3, false, []), (4, false, [])]
def tb38_3Sv3 : Tab := [[], [], [0, 1], [0, 1, 2]]
def pl38_3Sv3 : Plan := [(0, true, []), (1, false, [0]), (2, false, []), (3, false, [])]
def tb38_8Sv3 : Tab := [[], [0], [], [], [0, 1, 2, 3], [0, 1, 2, 3, 4], [0, 1, 2, 3, 4, 5]]
def pl38_8Sv3 : Plan := [(0, true, []), (2, true, []), (3, true, []), (1, false, [2, 3]), (4, false, []), (5, false, []), (6, false, [])]
variable {w0 : World}

theorem cmac_len {w : List UInt8} (hw : 16 ≤ w.length) (s : List UInt8) : (cmacL w s).length = 16 := by
  rw [cmacL]; exact encB_len (by rw [xorB_len, cmX_len hw _ (Nat.le_refl _), cmL_len (cmR_len s)]; rfl) hw
theorem rowD_len {w : List UInt8} (hw : 16 ≤ w.length) (l : List (List UInt8)) : ∀ i, (rowD w l i).length = 16
  | 0 => cmac_len hw _
  | i + 1 => by rw [rowD, xorB_len, dbl_len, cmac_len hw]; rfl
theorem strsC_get {L : List (List UInt8)} {i : Nat} {k : List UInt8} (h : L[i]? = some k) : (strsC L)[i]? = some (.str k) := by simp [strsC, h]
theorem sivRow_ok (key : List UInt8) (L : List (List UInt8)) (hk : goodK key) (hL : L.length < 2 ^ 30) (hs : ∀ s ∈ L, s.length < 2 ^ 39) : Fn (Cx w0) 38 [.agg (mkC key), .fsl 1 L.length (strsC L)] (.str (rowL (wordsL key) L)) := by
  have hw := words16 hk
  have hsl : (strsC L).length = L.length := strsC_len L
  have tg := fun s hs => sivTag_ok (w0 := w0) key s hk hs
  have hDl := rowD_len hw L
  have hcl := cmac_len hw
  have hD0 : rowD (wordsL key) L 0 = cmacL (wordsL key) (zL 16) := rfl
  have hDs : ∀ i, rowD (wordsL key) L (i + 1) = xorB (dbl (rowD (wordsL key) L i)) (cmacL (wordsL key) (L.getD i [])) := fun _ => rfl
  have hmk : (mkC key).length = 3 := rfl
  have hmk2 : (mkC key).all cellOk = true := rfl
  have hmk3 : List.take 3 (mkC key) = mkC key := rfl
  have hmks : ∀ n, Scs n (mkC key) := fun n => by simp [mkC, scs_cons, scs_nil, sc_ptr, sc_fsl, sc_gsl, sc_sl, sc_agg, sc_func, sc_int, sc_bool, sc_str, sc_undef, sc_nilptr, sc_nilsl, sc_yield, sc_tuple, sc_fptr, scs_bytes, scs_append]
  have z16 := zer16 (w0 := w0)
  have z15 := zer15 (w0 := w0)
  by_cases h0 : L.length = 0
  · rw [rowL, if_pos h0]
    have t1 := tg (zL 15 ++ [1]) (by simp [zL])
    have hz := zL_len 15
    generalize zL 15 = zz at *
    generalize cmacL (wordsL key) (zz ++ [1]) = u at *
    generalize mkC key = M at *
    generalize wordsL key = w at *
    refine fn_H ([Go.ResultVar.tmp 4]) Tryz.func38 rfl rfl (by decide) fun ph hW Q hQ => ?_
    simp only [start, List.length_cons, List.length_nil, List.cons_append, List.nil_append, Nat.reduceAdd, Nat.reduceSub, List.replicate_succ, List.replicate_zero, Tryz.ntmps38]
    repeat' first | simp -implicitDefEqProofs (maxSteps := 400000) (disch := first | with_reducible rfl | omega | (simp only [wkH] <;> omega) | decide) only [wkAll, wkL, popO, wantedP, if_true, if_false, reduceIte, ne_eq, Nat.reduceAdd, Nat.reduceSub, Nat.reduceMul, Nat.reduceLeDiff, Nat.reduceLT, ofCells, ofCell, reduceCtorEq, Int.reduceLE, Int.reduceLT, Int.reduceToNat, Int.reduceAdd, Int.reduceSub, Int.reduceMul, Int.reduceNeg, Int.reduceBEq, Int.reduceBNe, Int.reduceEq, eqCell, eqCells, binP, unP, convP, lenP, builtinP, sliceDataP, unsafeStringP, appendT, appendS, appendP, copyP, srcP, mmsP, mmP, indexOp, indexAddrOp, sliceOp, bndsP, bndP, capw, capCut, loadOp, storeOp, loadP, fieldOp, fieldAddrOp, arrayAtOp, buildP, buildSliceP, makeSliceP, placeF, fillP, setL, PK.agg, isZero, gt_iff_lt, Nat.reducePow, Nat.reduceGT, reps, seg, wkN, if_pos, if_neg, tf3, Tryz.ze3, tf9, Tryz.ze9, tf33, Tryz.ze33, tf56, Tryz.ze56, pl38_2Sv3, pl38_3Sv3, pl38_8Sv3, pl38_12Sv3, pl38_13Sv3, h0, hmk, hmk2, hmk3, hz] | refine w_pure (z15) ?_ | refine w_pure (t1) ?_ | refine w_drawnF (id := 2) tb38_2Sv3 pl38_2Sv3 17 (by kernel_rfl) (by kernel_rfl) (by simp) ?_ | refine w_drawnF (id := 3) tb38_3Sv3 pl38_3Sv3 20 (by kernel_rfl) (by kernel_rfl) (by simp) ?_ | refine w_drawnF (id := 8) tb38_8Sv3 pl38_8Sv3 42 (by kernel_rfl) (by kernel_rfl) (by simp) ?_ | refine w_drawnF (id := 12) tb38_12Sv3 pl38_12Sv3 59 (by kernel_rfl) (by kernel_rfl) (by simp) ?_ | refine w_drawnF (id := 13) tb38_13Sv3 pl38_13Sv3 71 (by kernel_rfl) (by kernel_rfl) (by simp) ?_
    refine hQ (by first | exact .inr rfl | exact .inl rfl) (by first | exact trivial | exact marks1) (by first | (simp -implicitDefEqProofs (maxSteps := 400000) (disch := first | with_reducible rfl | omega | (simp only [wkH] <;> omega) | decide) only [wkAll, wkL, popO, wantedP, if_true, if_false, reduceIte, ne_eq, Nat.reduceAdd, Nat.reduceSub, Nat.reduceMul, Nat.reduceLeDiff, Nat.reduceLT, ofCells, ofCell, reduceCtorEq, Int.reduceLE, Int.reduceLT, Int.reduceToNat, Int.reduceAdd, Int.reduceSub, Int.reduceMul, Int.reduceNeg, Int.reduceBEq, Int.reduceBNe, Int.reduceEq, eqCell, eqCells, loadOp, storeOp, loadP, setL, PK.agg, isZero, gt_iff_lt, Nat.reducePow, Nat.reduceGT, reps, seg, wkN, if_pos, if_neg, tf3, Tryz.ze3, tf9, Tryz.ze9, tf33, Tryz.ze33, tf56, Tryz.ze56, pl38_2Sv3, pl38_3Sv3, pl38_8Sv3, pl38_12Sv3, pl38_13Sv3, resP, resPs, resP1]; rfl) | rfl) ⟨6, by repeat' first | exact frz_scalar rfl | apply frz_tuple | apply frz_agg | apply frz_fsl | apply frz_gsl (by omega) | exact frzs_nil | apply frzs_cons⟩ (by first | exact keepsH0 | exact keeps1 (by assumption)) (nw_eq ?_)
    rfl
  · obtain ⟨n, hn⟩ : ∃ n, L.length = n + 1 := ⟨L.length - 1, by omega⟩
    obtain ⟨s, hls⟩ := get_someW (show n < L.length by omega)
    have hsb := hs s (List.mem_of_getElem? hls)
    have hgs : L.getD n [] = s := by rw [List.getD_eq_getElem?_getD, hls]; rfl
    have hcs := strsC_get hls
    have hcs2 : ((strsC L).drop n)[0]? = some (.str s) := by rw [List.getElem?_drop]; exact hcs
    rw [rowL, if_neg h0, show L.length - 1 = n by omega, hgs]
    have q0 : (((n + 1 : Nat) : Int) == 0) = false := by rw [beq_eq_false_iff_ne]; omega
    have i1 : ((n + 1 : Nat) : Int) - 1 = (n : Int) := by omega
    have i2 : (n : Int) < ((n + 1 : Nat) : Int) := by omega
    have i3 : (n : Int) ≤ ((n + 1 : Nat) : Int) := by omega
    have i4 : n ≤ n + 1 := by omega
    obtain ⟨T, hT⟩ : ∃ T, T = (strsC L).take n := ⟨_, rfl⟩
    have hTl : T.length = n := by rw [hT, List.length_take]; omega
    have hTs : ∀ m, Scs m T := fun m => by rw [hT, show (strsC L).take n = strsC (L.take n) by simp [strsC]]; simp [scs_strs]
    have hTd : T.take (n * 1) = T := List.take_of_length_le (by omega)
    have t0 := tg (zL 16) (by simp [zL])
    rw [← hD0] at t0
    refine fn_H ([Go.ResultVar.tmp 4]) Tryz.func38 rfl rfl (by decide) fun ph hW Q hQ => ?_
    simp only [start, List.length_cons, List.length_nil, List.cons_append, List.nil_append, Nat.reduceAdd, Nat.reduceSub, List.replicate_succ, List.replicate_zero, Tryz.ntmps38]
    repeat' first | simp -implicitDefEqProofs (maxSteps := 400000) (disch := first | with_reducible rfl | omega | (simp only [wkH] <;> omega) | decide) only [wkAll, wkL, popO, wantedP, if_true, if_false, reduceIte, ne_eq, Nat.reduceAdd, Nat.reduceSub, Nat.reduceMul, Nat.reduceLeDiff, Nat.reduceLT, ofCells, ofCell, reduceCtorEq, Int.reduceLE, Int.reduceLT, Int.reduceToNat, Int.reduceAdd, Int.reduceSub, Int.reduceMul, Int.reduceNeg, Int.reduceBEq, Int.reduceBNe, Int.reduceEq, eqCell, eqCells, binP, unP, convP, lenP, builtinP, sliceDataP, unsafeStringP, appendT, appendS, appendP, copyP, srcP, mmsP, mmP, indexOp, indexAddrOp, sliceOp, bndsP, bndP, capw, capCut, loadOp, storeOp, loadP, fieldOp, fieldAddrOp, arrayAtOp, buildP, buildSliceP, makeSliceP, placeF, fillP, setL, PK.agg, isZero, gt_iff_lt, Nat.reducePow, Nat.reduceGT, reps, seg, wkN, if_pos, if_neg, tf3, Tryz.ze3, tf9, Tryz.ze9, tf33, Tryz.ze33, tf56, Tryz.ze56, pl38_2Sv3, pl38_3Sv3, pl38_8Sv3, pl38_12Sv3, pl38_13Sv3, hn, hsl, hcs, hcs2, q0, i1, i2, i3, i4, hmk, hmk2, hmk3, ← hT] | refine w_pure (z16) ?_ | refine w_pure (t0) ?_ | refine w_drawnF (id := 2) tb38_2Sv3 pl38_2Sv3 17 (by kernel_rfl) (by kernel_rfl) (by simp) ?_ | refine w_drawnF (id := 3) tb38_3Sv3 pl38_3Sv3 20 (by kernel_rfl) (by kernel_rfl) (by simp) ?_ | refine w_drawnF (id := 8) tb38_8Sv3 pl38_8Sv3 42 (by kernel_rfl) (by kernel_rfl) (by simp) ?_ | refine w_drawnF (id := 12) tb38_12Sv3 pl38_12Sv3 59 (by kernel_rfl) (by kernel_rfl) (by simp) ?_ | refine w_drawnF (id := 13) tb38_13Sv3 pl38_13Sv3 71 (by kernel_rfl) (by kernel_rfl) (by simp) ?_
    refine w_loopH (α := Nat) ph ph.ob ph.ty (fun i => [.undef, .undef, .ptr ph.n 0, .undef, .undef, .str (rowD (wordsL key) L i), .str s, .undef, .undef, .undef, .undef, .undef, .undef, .undef, .undef, .undef, .undef, .undef, .undef, .undef, .undef, .undef, .undef, .undef, .undef, .undef, .undef, .undef, .undef, .undef, .fsl 1 n T, .int .i64 n, .int .i64 i, .undef, .undef, .undef, .undef, .undef, .undef, .undef, .undef, .undef, .undef, .undef, .undef, .undef, .undef, .undef, .undef, .undef, .undef, .undef, .undef, .undef, .undef, .undef, .undef, .undef, .undef, .undef, .undef, .undef, .undef, .undef, .undef, .undef, .undef, .undef, .undef, .undef, .undef]) (fun i => [some (.own (mkC key))]) (fun i => i ≤ n) (fun i => n - i) 0 (by simp) (fun _ _ => by simp) (.eq (by simp [FadeTo]) rfl) ?_
    intro i hi K hK
    rcases Nat.lt_or_ge i n with hlt | hge
    · have hlt' : (i : Int) < (n : Int) := by omega
      obtain ⟨t, ht⟩ := get_someW (show i < L.length by omega)
      have hgt : L.getD i [] = t := by rw [List.getD_eq_getElem?_getD, ht]; rfl
      have hTt : T[i]? = some (.str t) := by rw [hT, List.getElem?_take, if_pos hlt]; exact strsC_get ht
      have hTt2 : (T.drop i)[0]? = some (.str t) := by rw [List.getElem?_drop]; exact hTt
      have hK1 := fun tm ph' => hK (i + 1) tm ph' (by omega) (by omega)
      rw [hDs, hgt] at hK1
      have tw := sivTwice16 (w0 := w0) (rowD (wordsL key) L i) (hDl i)
      have tt := tg t (Nat.lt_trans (hs t (List.mem_of_getElem? ht)) (by decide))
      have xx := sivXor_ok (w0 := w0) (dbl (rowD (wordsL key) L i)) (cmacL (wordsL key) t) (by rw [dbl_len, hcl]; exact Nat.le_refl _) (by rw [dbl_len]; decide)
      clear hK hcs hcs2 hD0 hDs
      generalize xorB (dbl (rowD (wordsL key) L i)) (cmacL (wordsL key) t) = x at *
      generalize cmacL (wordsL key) t = c at *
      generalize dbl (rowD (wordsL key) L i) = y at *
      generalize rowD (wordsL key) L i = d at *
      generalize mkC key = M at *
      repeat' first | simp -implicitDefEqProofs (maxSteps := 400000) (disch := first | with_reducible rfl | omega | (simp only [wkH] <;> omega) | decide) only [wkAll, wkL, popO, wantedP, if_true, if_false, reduceIte, ne_eq, Nat.reduceAdd, Nat.reduceSub, Nat.reduceMul, Nat.reduceLeDiff, Nat.reduceLT, ofCells, ofCell, reduceCtorEq, Int.reduceLE, Int.reduceLT, Int.reduceToNat, Int.reduceAdd, Int.reduceSub, Int.reduceMul, Int.reduceNeg, Int.reduceBEq, Int.reduceBNe, Int.reduceEq, eqCell, eqCells, binP, unP, convP, lenP, builtinP, sliceDataP, unsafeStringP, appendT, appendS, appendP, copyP, srcP, mmsP, mmP, indexOp, indexAddrOp, sliceOp, bndsP, bndP, capw, capCut, loadOp, storeOp, loadP, fieldOp, fieldAddrOp, arrayAtOp, buildP, buildSliceP, makeSliceP, placeF, fillP, setL, PK.agg, isZero, gt_iff_lt, Nat.reducePow, Nat.reduceGT, reps, seg, wkN, if_pos, if_neg, tf3, Tryz.ze3, tf9, Tryz.ze9, tf33, Tryz.ze33, tf56, Tryz.ze56, pl38_2Sv3, pl38_3Sv3, pl38_8Sv3, pl38_12Sv3, pl38_13Sv3, hlt', hTl, hTt, hTt2, hmk, hmk2, hmk3] | refine w_pure (tw) ?_ | refine w_pure (tt) ?_ | refine w_pure (xx) ?_ | refine w_drawnF (id := 2) tb38_2Sv3 pl38_2Sv3 17 (by kernel_rfl) (by kernel_rfl) (by simp) ?_ | refine w_drawnF (id := 3) tb38_3Sv3 pl38_3Sv3 20 (by kernel_rfl) (by kernel_rfl) (by simp) ?_ | refine w_drawnF (id := 8) tb38_8Sv3 pl38_8Sv3 42 (by kernel_rfl) (by kernel_rfl) (by simp) ?_ | refine w_drawnF (id := 12) tb38_12Sv3 pl38_12Sv3 59 (by kernel_rfl) (by kernel_rfl) (by simp) ?_ | refine w_drawnF (id := 13) tb38_13Sv3 pl38_13Sv3 71 (by kernel_rfl) (by kernel_rfl) (by simp) ?_
      exact hK1 _ _ (.eq (by simp [FadeTo]) rfl)
    · have hge' : ¬ (i : Int) < (n : Int) := by omega
      have : i = n := by omega
      subst this
      have hdl := hDl i
      clear hK hD0 hDs t0
      generalize rowD (wordsL key) L i = d at *
      by_cases h16 : s.length < 16
      · rw [rowE, if_pos h16] at hQ
        have c0 : ¬ (0 : Int) ≤ (s.length : Int) - 16 := by omega
        have c1 : (15 : Int) - (s.length : Int) = ((15 - s.length : Nat) : Int) := by omega
        have zz := sivZeros_ok (w0 := w0) (15 - s.length) (by omega)
        have hwl := whole_len h16
        have hwd : wholeL s = s ++ [128] ++ zL (15 - s.length) := rfl
        have h2 : (s.length + 1 ≤ 9223372036854775807) = True := by rw [eq_iff_iff, iff_true]; omega
        have hzl := zL_len (15 - s.length)
        have h3 : (s.length + 1 + (15 - s.length) ≤ 9223372036854775807) = True := by rw [eq_iff_iff, iff_true]; omega
        generalize zL (15 - s.length) = zt at *
        rw [hwd] at hQ hwl
        have tw := sivTwice16 (w0 := w0) d hdl
        have hyl := dbl_len d
        generalize dbl d = y at *
        have xx := sivXor_ok (w0 := w0) (s ++ [128] ++ zt) y (by omega) (by omega)
        have hxl : (xorB (s ++ [128] ++ zt) y).length = 16 := by rw [xorB_len, hwl, hyl]; rfl
        generalize xorB (s ++ [128] ++ zt) y = x at *
        have tt := tg x (by omega)
        generalize cmacL (wordsL key) x = u at *
        generalize mkC key = M at *
        repeat' first | simp -implicitDefEqProofs (maxSteps := 400000) (disch := first | with_reducible rfl | omega | (simp only [wkH] <;> omega) | decide) only [wkAll, wkL, popO, wantedP, if_true, if_false, reduceIte, ne_eq, Nat.reduceAdd, Nat.reduceSub, Nat.reduceMul, Nat.reduceLeDiff, Nat.reduceLT, ofCells, ofCell, reduceCtorEq, Int.reduceLE, Int.reduceLT, Int.reduceToNat, Int.reduceAdd, Int.reduceSub, Int.reduceMul, Int.reduceNeg, Int.reduceBEq, Int.reduceBNe, Int.reduceEq, eqCell, eqCells, binP, unP, convP, lenP, builtinP, sliceDataP, unsafeStringP, appendT, appendS, appendP, copyP, srcP, mmsP, mmP, indexOp, indexAddrOp, sliceOp, bndsP, bndP, capw, capCut, loadOp, storeOp, loadP, fieldOp, fieldAddrOp, arrayAtOp, buildP, buildSliceP, makeSliceP, placeF, fillP, setL, PK.agg, isZero, gt_iff_lt, Nat.reducePow, Nat.reduceGT, reps, seg, wkN, if_pos, if_neg, tf3, Tryz.ze3, tf9, Tryz.ze9, tf33, Tryz.ze33, tf56, Tryz.ze56, pl38_2Sv3, pl38_3Sv3, pl38_8Sv3, pl38_12Sv3, pl38_13Sv3, ge_iff_le, hge', c0, c1, h2, h3, hzl, List.length_append, List.length_cons, List.length_nil, Nat.zero_add, hmk, hmk2, hmk3] | refine w_pure (zz) ?_ | refine w_pure (tw) ?_ | refine w_pure (xx) ?_ | refine w_pure (tt) ?_ | refine w_drawnF (id := 2) tb38_2Sv3 pl38_2Sv3 17 (by kernel_rfl) (by kernel_rfl) (by simp) ?_ | refine w_drawnF (id := 3) tb38_3Sv3 pl38_3Sv3 20 (by kernel_rfl) (by kernel_rfl) (by simp) ?_ | refine w_drawnF (id := 8) tb38_8Sv3 pl38_8Sv3 42 (by kernel_rfl) (by kernel_rfl) (by simp) ?_ | refine w_drawnF (id := 12) tb38_12Sv3 pl38_12Sv3 59 (by kernel_rfl) (by kernel_rfl) (by simp) ?_ | refine w_drawnF (id := 13) tb38_13Sv3 pl38_13Sv3 71 (by kernel_rfl) (by kernel_rfl) (by simp) ?_
        refine hQ (by first | exact .inr rfl | exact .inl rfl) (by first | exact trivial | exact marks1) (by first | (simp -implicitDefEqProofs (maxSteps := 400000) (disch := first | with_reducible rfl | omega | (simp only [wkH] <;> omega) | decide) only [wkAll, wkL, popO, wantedP, if_true, if_false, reduceIte, ne_eq, Nat.reduceAdd, Nat.reduceSub, Nat.reduceMul, Nat.reduceLeDiff, Nat.reduceLT, ofCells, ofCell, reduceCtorEq, Int.reduceLE, Int.reduceLT, Int.reduceToNat, Int.reduceAdd, Int.reduceSub, Int.reduceMul, Int.reduceNeg, Int.reduceBEq, Int.reduceBNe, Int.reduceEq, eqCell, eqCells, loadOp, storeOp, loadP, setL, PK.agg, isZero, gt_iff_lt, Nat.reducePow, Nat.reduceGT, reps, seg, wkN, if_pos, if_neg, tf3, Tryz.ze3, tf9, Tryz.ze9, tf33, Tryz.ze33, tf56, Tryz.ze56, pl38_2Sv3, pl38_3Sv3, pl38_8Sv3, pl38_12Sv3, pl38_13Sv3, resP, resPs, resP1]; rfl) | rfl) ⟨6, by repeat' first | exact frz_scalar rfl | apply frz_tuple | apply frz_agg | apply frz_fsl | apply frz_gsl (by omega) | exact frzs_nil | apply frzs_cons⟩ (by first | exact keepsH0 | exact keeps1 (by assumption)) (nw_eq ?_)
        rfl
      · rw [rowE, if_neg h16] at hQ
        obtain ⟨m, hm⟩ : ∃ m, s.length - 16 = m := ⟨_, rfl⟩
        rw [hm] at hQ
        have c1 : (s.length : Int) - 16 = (m : Int) := by omega
        have c0 : (0 : Int) ≤ (m : Int) := by omega
        have c2 : (m : Int) ≤ (s.length : Int) := by omega
        have c3 : m ≤ s.length := by omega
        have hdl2 : (s.drop m).length = 16 := by rw [List.length_drop]; omega
        have htl2 : (s.take m).length = m := by rw [List.length_take]; omega
        have hdt : (s.drop m).take (s.length - m) = s.drop m := List.take_of_length_le (by rw [List.length_drop]; exact Nat.le_refl _)
        have xx := sivXor_ok (w0 := w0) (s.drop m) d (by omega) (by omega)
        have hxl : (xorB (s.drop m) d).length = 16 := by rw [xorB_len, hdl2, hdl]; rfl
        have h3 : ((s.take m).length + (xorB (s.drop m) d).length ≤ 9223372036854775807) = True := by rw [eq_iff_iff, iff_true]; omega
        have tt := tg (s.take m ++ xorB (s.drop m) d) (by rw [List.length_append]; omega)
        generalize xorB (s.drop m) d = x at *
        generalize cmacL (wordsL key) (s.take m ++ x) = u at *
        generalize mkC key = M at *
        repeat' first | simp -implicitDefEqProofs (maxSteps := 400000) (disch := first | with_reducible rfl | omega | (simp only [wkH] <;> omega) | decide) only [wkAll, wkL, popO, wantedP, if_true, if_false, reduceIte, ne_eq, Nat.reduceAdd, Nat.reduceSub, Nat.reduceMul, Nat.reduceLeDiff, Nat.reduceLT, ofCells, ofCell, reduceCtorEq, Int.reduceLE, Int.reduceLT, Int.reduceToNat, Int.reduceAdd, Int.reduceSub, Int.reduceMul, Int.reduceNeg, Int.reduceBEq, Int.reduceBNe, Int.reduceEq, eqCell, eqCells, binP, unP, convP, lenP, builtinP, sliceDataP, unsafeStringP, appendT, appendS, appendP, copyP, srcP, mmsP, mmP, indexOp, indexAddrOp, sliceOp, bndsP, bndP, capw, capCut, loadOp, storeOp, loadP, fieldOp, fieldAddrOp, arrayAtOp, buildP, buildSliceP, makeSliceP, placeF, fillP, setL, PK.agg, isZero, gt_iff_lt, Nat.reducePow, Nat.reduceGT, reps, seg, wkN, if_pos, if_neg, tf3, Tryz.ze3, tf9, Tryz.ze9, tf33, Tryz.ze33, tf56, Tryz.ze56, pl38_2Sv3, pl38_3Sv3, pl38_8Sv3, pl38_12Sv3, pl38_13Sv3, ge_iff_le, hge', c0, c1, c2, c3, h3, hdt, hmk, hmk2, hmk3] | refine w_pure (xx) ?_ | refine w_pure (tt) ?_ | refine w_drawnF (id := 2) tb38_2Sv3 pl38_2Sv3 17 (by kernel_rfl) (by kernel_rfl) (by simp) ?_ | refine w_drawnF (id := 3) tb38_3Sv3 pl38_3Sv3 20 (by kernel_rfl) (by kernel_rfl) (by simp) ?_ | refine w_drawnF (id := 8) tb38_8Sv3 pl38_8Sv3 42 (by kernel_rfl) (by kernel_rfl) (by simp) ?_ | refine w_drawnF (id := 12) tb38_12Sv3 pl38_12Sv3 59 (by kernel_rfl) (by kernel_rfl) (by simp) ?_ | refine w_drawnF (id := 13) tb38_13Sv3 pl38_13Sv3 71 (by kernel_rfl) (by kernel_rfl) (by simp) ?_
        refine hQ (by first | exact .inr rfl | exact .inl rfl) (by first | exact trivial | exact marks1) (by first | (simp -implicitDefEqProofs (maxSteps := 400000) (disch := first | with_reducible rfl | omega | (simp only [wkH] <;> omega) | decide) only [wkAll, wkL, popO, wantedP, if_true, if_false, reduceIte, ne_eq, Nat.reduceAdd, Nat.reduceSub, Nat.reduceMul, Nat.reduceLeDiff, Nat.reduceLT, ofCells, ofCell, reduceCtorEq, Int.reduceLE, Int.reduceLT, Int.reduceToNat, Int.reduceAdd, Int.reduceSub, Int.reduceMul, Int.reduceNeg, Int.reduceBEq, Int.reduceBNe, Int.reduceEq, eqCell, eqCells, loadOp, storeOp, loadP, setL, PK.agg, isZero, gt_iff_lt, Nat.reducePow, Nat.reduceGT, reps, seg, wkN, if_pos, if_neg, tf3, Tryz.ze3, tf9, Tryz.ze9, tf33, Tryz.ze33, tf56, Tryz.ze56, pl38_2Sv3, pl38_3Sv3, pl38_8Sv3, pl38_12Sv3, pl38_13Sv3, resP, resPs, resP1]; rfl) | rfl) ⟨6, by repeat' first | exact frz_scalar rfl | apply frz_tuple | apply frz_agg | apply frz_fsl | apply frz_gsl (by omega) | exact frzs_nil | apply frzs_cons⟩ (by first | exact keepsH0 | exact keeps1 (by assumption)) (nw_eq ?_)
        rfl
end Pv

set_option linter.all false
namespace Pv
open Go
/-! ### Sealed by SIV: plain. -/
def goodS (key : List UInt8) : Prop := key.length = 32 ∨ key.length = 64
instance (key : List UInt8) : Decidable (goodS key) := by unfold goodS; infer_instance
def svA (key : List UInt8) : List UInt8 := key.take (key.length / 2)
def svB (key : List UInt8) : List UInt8 := key.drop (key.length / 2)
theorem svA_good {key : List UInt8} (h : goodS key) : goodK (svA key) := by
  rw [goodK, svA, List.length_take]; rcases h with h | h <;> omega
theorem svB_good {key : List UInt8} (h : goodS key) : goodK (svB key) := by
  rw [goodK, svB, List.length_drop]; rcases h with h | h <;> omega
def svS (k v s : List UInt8) : List UInt8 := xorB s (strL (wordsL k) (maskV v) s.length)
def svT (k : List UInt8) (ad : List (List UInt8)) (s : List UInt8) : List UInt8 := rowL (wordsL k) (ad ++ [s])
def sealS (key : List UInt8) (ad : List (List UInt8)) (s : List UInt8) : List UInt8 × Int :=
  if ¬ goodS key then ([], 13) else if 127 ≤ ad.length then ([], 18) else if 65536 < s.length then ([], 12) else (svT (svA key) ad s ++ svS (svB key) (svT (svA key) ad s) s, 0)
def openS (key : List UInt8) (ad : List (List UInt8)) (s : List UInt8) : List UInt8 × Int :=
  if ¬ goodS key then ([], 13) else if 127 ≤ ad.length then ([], 18) else if s.length < 16 then ([], 11) else if 65552 < s.length then ([], 12) else
  if svT (svA key) ad (svS (svB key) (s.take 16) (s.drop 16)) = s.take 16 then (svS (svB key) (s.take 16) (s.drop 16), 0) else ([], 17)
theorem cmX_len' {w s : List UInt8} (hw : 16 ≤ w.length) : ∀ j, j ≤ cmN s → (cmX w s j).length = 16
  | 0, _ => zL_len 16
  | j + 1, h => by
    have := cmX_len' (w := w) (s := s) hw j (by omega)
    have h2 : ((s.drop (16 * j)).take 16).length = 16 := by rw [List.length_take, List.length_drop]; rw [cmN] at h; omega
    rw [cmX]; exact encB_len (by rw [xorB_len, this, h2]; rfl) hw
theorem cmac_len' {w : List UInt8} (hw : 16 ≤ w.length) (s : List UInt8) : (cmacL w s).length = 16 := by
  rw [cmacL]; exact encB_len (by rw [xorB_len, cmX_len' hw _ (Nat.le_refl _), cmL_len (cmR_len s)]; rfl) hw
theorem row_len {w : List UInt8} (hw : 16 ≤ w.length) (L : List (List UInt8)) : (rowL w L).length = 16 := by
  rw [rowL]; split
  · exact cmac_len' hw _
  · rw [rowE]; split <;> exact cmac_len' hw _
theorem svT_len {k : List UInt8} (hk : goodK k) (ad : List (List UInt8)) (s : List UInt8) : (svT k ad s).length = 16 := row_len (words16 hk) _
theorem svS_len {k v : List UInt8} (hk : goodK k) (hv : v.length = 16) (s : List UInt8) : (svS k v s).length = s.length := by
  rw [svS, xorB_len, strL_len (by rw [maskV_len, hv]) (words16 hk), Nat.min_self]
theorem svS_svS {k v : List UInt8} (hk : goodK k) (hv : v.length = 16) (s : List UInt8) : svS k v (svS k v s) = s := by
  rw [show svS k v (svS k v s) = xorB (svS k v s) (strL (wordsL k) (maskV v) (svS k v s).length) from rfl, svS_len hk hv, svS, xorB_cancel _ _ (by rw [strL_len (by rw [maskV_len, hv]) (words16 hk)]; exact Nat.le_refl _)]
theorem xorB_self : ∀ (a : List UInt8), xorB a a = zL a.length
  | [] => rfl
  | x :: a => by
    have := xorB_self a
    simp only [xorB, zL, List.zipWith_cons_cons, List.length_cons, List.replicate_succ] at this ⊢
    rw [this, UInt8.xor_self]
theorem zL_xorB (a : List UInt8) : xorB (zL a.length) a = a := by
  rw [← xorB_self, xorB_cancel _ _ (Nat.le_refl _)]
theorem xorB_zero {a b : List UInt8} (ha : a.length = 16) (hb : b.length = 16) : xorB a b = zL 16 ↔ b = a := by
  constructor
  · intro h
    have h2 : xorB (xorB a b) b = xorB (zL 16) b := by rw [h]
    rw [xorB_cancel _ _ (by omega), ← hb, zL_xorB] at h2
    exact h2.symm
  · rintro rfl; rw [xorB_self, ha]
theorem sealS_e (key : List UInt8) (ad : List (List UInt8)) (s : List UInt8) : (sealS key ad s).2 = 0 ↔ goodS key ∧ ad.length ≤ 126 ∧ s.length ≤ 65536 := by
  unfold sealS
  by_cases hk : goodS key
  · rw [if_neg (by simpa using hk)]
    by_cases hn : 127 ≤ ad.length
    · rw [if_pos hn]; simp; omega
    · rw [if_neg hn]
      by_cases hl : 65536 < s.length
      · rw [if_pos hl]; simp; omega
      · rw [if_neg hl]; simp [hk]; omega
  · rw [if_pos hk]; simp [hk]
theorem sealS_good {key : List UInt8} {ad : List (List UInt8)} {s : List UInt8} (hk : goodS key) (hn : ad.length ≤ 126) (hl : s.length ≤ 65536) : sealS key ad s = (svT (svA key) ad s ++ svS (svB key) (svT (svA key) ad s) s, 0) := by
  rw [sealS, if_neg (by simpa using hk), if_neg (by omega), if_neg (by omega)]
theorem openS_sealS {key : List UInt8} {ad : List (List UInt8)} {s : List UInt8} (hk : goodS key) (hn : ad.length ≤ 126) (hl : s.length ≤ 65536) : openS key ad (sealS key ad s).1 = (s, 0) ∧ (sealS key ad s).1.length = s.length + 16 := by
  rw [sealS_good hk hn hl]
  have h1 := svT_len (svA_good hk) ad s
  have h2 := svS_len (svB_good hk) h1 s
  generalize hv : svT (svA key) ad s = v at *
  have hlen : (v ++ svS (svB key) v s).length = s.length + 16 := by rw [List.length_append, h1, h2]; omega
  refine ⟨?_, hlen⟩
  show openS key ad (v ++ svS (svB key) v s) = _
  unfold openS
  have ht : (v ++ svS (svB key) v s).take 16 = v := by rw [← h1, List.take_left]
  have hd : (v ++ svS (svB key) v s).drop 16 = svS (svB key) v s := by rw [← h1, List.drop_left]
  rw [if_neg (by simpa using hk), if_neg (by omega), hlen, if_neg (by omega), if_neg (by omega), ht, hd, svS_svS (svB_good hk) h1, hv, if_pos rfl]
/-! #### The example of awake -/
def exSk : List UInt8 := [0xff, 0xfe, 0xfd, 0xfc, 0xfb, 0xfa, 0xf9, 0xf8, 0xf7, 0xf6, 0xf5, 0xf4, 0xf3, 0xf2, 0xf1, 0xf0, 0xf0, 0xf1, 0xf2, 0xf3, 0xf4, 0xf5, 0xf6, 0xf7, 0xf8, 0xf9, 0xfa, 0xfb, 0xfc, 0xfd, 0xfe, 0xff]
def exSa : List UInt8 := [0x10, 0x11, 0x12, 0x13, 0x14, 0x15, 0x16, 0x17, 0x18, 0x19, 0x1a, 0x1b, 0x1c, 0x1d, 0x1e, 0x1f, 0x20, 0x21, 0x22, 0x23, 0x24, 0x25, 0x26, 0x27]
def exSp : List UInt8 := [0x11, 0x22, 0x33, 0x44, 0x55, 0x66, 0x77, 0x88, 0x99, 0xaa, 0xbb, 0xcc, 0xdd, 0xee]
def exSo : List UInt8 := [0x85, 0x63, 0x2d, 0x07, 0xc6, 0xe8, 0xf3, 0x7f, 0x95, 0x0a, 0xcd, 0x32, 0x0a, 0x2e, 0xcc, 0x93, 0x40, 0xc0, 0x2b, 0x96, 0x90, 0xc4, 0xdc, 0x04, 0xda, 0xef, 0x7f, 0x6a, 0xfe, 0x5c]
theorem exS_T : svT (svA exSk) [exSa] exSp = exSo.take 16 := by decide +kernel
theorem exS_S : svS (svB exSk) (exSo.take 16) exSp = exSo.drop 16 := by decide +kernel
theorem exS : sealS exSk [exSa] exSp = (exSo, 0) := by
  rw [sealS_good (.inl rfl) (by simp) (by simp [exSp]), exS_T, exS_S, List.take_append_drop]
end Pv

namespace Go.Proofs
open Go.Shelf Go.RowKit
def Tryz.cloneS_ren : Go.Shelf.Ren := ⟨fun | 16 => 44 | n => n, fun | 24 => 33 | 9 => 9 | 4 => 4 | n => n, fun | n => n⟩
theorem Tryz.cloneS : Lays2.n16 Tryz.prog Tryz.cloneS_ren where
  mixed := by kernel_rfl
  f16 := Tryz.func44.trans (congrArg some (by kernel_rfl))
  t4 := Tryz.underlying4
  a4 := Tryz.isAgg4
  z4 := Tryz.sizeOf4
  v4 := Tryz.zeroValue4
  t9 := Tryz.underlying9
  a9 := Tryz.isAgg9
  z9 := Tryz.sizeOf9
  v9 := Tryz.zeroValue9
  t24 := Tryz.underlying33
  a24 := Tryz.isAgg33
  z24 := Tryz.sizeOf33
  v24 := Tryz.zeroValue33
  i9 := by kernel_rfl
end Go.Proofs
namespace Pv
open Go Go.Proofs Go.RowKit
variable {w0 : World}
/-- slices.Clone of an empty row: nil, or an empty row of one's own. -/
theorem clone0_ok (ph : PH) (K : PV → PH → Prop) (h1 : K .nilsl ph) (h2 : K (.sl ph.n 0 1 0 none) (ph.push [])) : PCalls (Cx w0) 44 [.fsl 1 0 []] ph K := by
  intro G w rargs hr ha
  cases ha with
  | cons _ a _ as' ha1 ha2 =>
  cases ha2
  refine .inr ⟨w, run_enter (P := Tryz.prog) Tryz.func44 rfl (by kernel_rfl), ?_⟩
  cases ha1 with
  | fslnil _ =>
    refine (Any.slices_Clone_string_nil Tryz.cloneS 0 0 w).mono ?_
    rintro e w' ⟨rfl, rfl⟩
    exact ⟨G, .nilsl, ph, LeN.refl _ _, hr, .nilsl, Nat.le_refl _, h1⟩
  | fsl _ _ _ vals a rcap hv hle hl hne hc =>
    refine (Any.slices_Clone_string_zero Tryz.cloneS a rcap w).mono ?_
    rintro e w' ⟨v', rfl, ⟨-, hown⟩, hnn, hbl⟩
    rcases hown with ⟨hn, _⟩ | ⟨g, cap, cur, rfl, hg, hb, h0, _, hsz, _⟩
    · exact absurd hn hnn
    · have hr' := hr.below_w hbl
      have lt : ∀ {k : Nat} {o : Obj}, w.heap[k]? = some o → k < w.heap.size := fun {k o} hk => by
        rcases Nat.lt_or_ge k w.heap.size with h | h
        · exact h
        · rw [Array.getElem?_eq_none h] at hk; cases hk
      have hrel := hr'.own_again (L := ⟨g, 0, cap⟩) (cells := []) (vals := []) hb (Nat.le_trans hr.size hg)
        (fun p c M hp hM e => by
          obtain ⟨L, vs, cs, e', fz, hL, o⟩ := hr.own p c hp
          rw [hM] at hL; cases hL
          have := lt o.hb
          simp only at e; omega)
        (fun c v hc e => by
          have h3 := (hr.fz c v hc).2
          have : c.block < w.heap.size := by
            rcases Nat.lt_or_ge c.block w.heap.size with h | h
            · exact h
            · unfold World.cell? at h3
              rw [Array.getElem?_eq_none h] at h3
              cases h3
          simp only at e; omega)
        .nil (by simp) (Nat.zero_le _) (by show 0 + cap ≤ cur.size; omega) (fun j _ h => by simp only at h; omega) (fun j v hj => by simp at hj)
        (by
          rintro ⟨p, s, t, e', a', ra, hp, hG, hab⟩
          obtain ⟨x, o⟩ := hr.grow.own p s t e' hp
          have hx := o.loc
          rw [hG] at hx
          obtain ⟨cs, fz, k1, k2⟩ := (o.row a' ra (Option.some.inj hx).symm).hb
          have := lt k1
          simp only at hab; omega)
      refine ⟨_, .sl ph.n 0 1 0 none, ph.push [], (Le.push G _).n _, hrel, ?_, by simp, h2⟩
      exact .sl _ _ _ _ _ ⟨g, 0, cap⟩ _ _ (by simp [Ghost.push, ← hr.lenN]) (Nat.zero_le _) (by show 0 + cap * 1 ≤ cap; omega) (by simp) (fun _ => rfl)
end Pv
