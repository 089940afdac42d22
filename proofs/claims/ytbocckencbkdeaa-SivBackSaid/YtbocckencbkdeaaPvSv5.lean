/- Part of the proof: the layer of pure values, or walks through functions (PvSv5). -/
import Derived.Test.YtbocckencbkdeaaPvSv4
set_option linter.all false
namespace Pv
set_option maxRecDepth 20000
set_option maxHeartbeats 4000000
open Go Go.Proofs Go.RowKit
def tb21_6Sv5 : Tab := [[], [], [1], [], [3], [1, 2, 3, 4], [0, 1, 2, 3, 4, 5], [0, 1, 2, 3, 4, 5, 6]]
def pl21_6Sv5 : PT := (.mv 0 (.mv 1 (.mv 3 (.fx 2 [0, 3] (.fx 4 [0] (.fx 5 [0] (.fx 6 [] (.fx 7 [] .nil .no) .no) .no) .no) (.fx 4 [0, 1] (.fx 2 [0] (.fx 5 [0] (.fx 6 [] (.fx 7 [] .nil .no) .no) .no) .no) .no)))))
variable {w0 : World}

theorem strsC_cok (L : List (List UInt8)) : (strsC L).all cellOk = true := by simp [strsC, cellOk]
theorem sivSeal_ok (key : List UInt8) (ad : List (List UInt8)) (s : List UInt8) (ha : ∀ t ∈ ad, t.length < 2 ^ 39) (hn : ad.length < 2 ^ 40) (hs0 : s.length < 2 ^ 50) : Fn (Cx w0) 21 [.str key, .fsl 1 ad.length (strsC ad), .str s] (.tuple [.str (sealS key ad s).1, .int .i64 (sealS key ad s).2]) := by
  by_cases hk : goodS key
  · by_cases hn1 : 127 ≤ ad.length
    · rw [show sealS key ad s = ([], 18) by rw [sealS, if_neg (by simpa using hk), if_pos hn1]]
      have bg := halves_no (w0 := w0) key ad.length (strsC ad) 18 (.inr ⟨hk, hn1, rfl⟩)
      refine fn_H ([Go.ResultVar.tmp 6, Go.ResultVar.tmp 7]) Try.func21 rfl rfl (by decide) fun ph hW Q hQ => ?_
      simp only [start, List.length_cons, List.length_nil, List.cons_append, List.nil_append, Nat.reduceAdd, Nat.reduceSub, List.replicate_succ, List.replicate_zero, Try.ntmps21]
      repeat' first
        | simp -implicitDefEqProofs (maxSteps := 400000) (disch := first | with_reducible rfl | omega | (simp only [h_n, PH.n_push, PH.n_put, List.length_cons, List.length_nil] <;> omega) | decide) only [wkAll, wkL, popO, wantedP, if_true, if_false, reduceIte, ne_eq, Nat.reduceAdd, Nat.reduceSub, Nat.reduceMul, Nat.reduceLeDiff, Nat.reduceLT, ofCells, ofCell, reduceCtorEq, Int.reduceLE, Int.reduceLT, Int.reduceToNat, Int.reduceAdd, Int.reduceSub, Int.reduceMul, Int.reduceNeg, Int.reduceBEq, Int.reduceBNe, Int.reduceEq, eqCell, eqCells, binP, unP, convP, lenP, builtinP, sliceDataP, unsafeStringP, appendT, appendS, appendP, copyP, srcP, mmsP, mmP, indexOp, indexAddrOp, sliceOp, bndsP, bndP, capw, capCut, loadOp, storeOp, loadP, fieldOp, fieldAddrOp, arrayAtOp, buildP, buildSliceP, makeSliceP, placeF, fillP, setL, PK.agg, isZero, gt_iff_lt, Nat.reducePow, Nat.reduceGT, reps, seg, wkN, if_pos, if_neg, t_nil, t_no, t_mv, t_fx, t_op, t_true, t_false, t_mvk, t_se0, t_se, and_true, tf3, Try.ze3, tf9, Try.ze9, tf24, Try.ze24, tf38, Try.ze38, tf63, Try.ze63, pl21_6Sv5]
        | refine w_pure (bg) ?_
        | refine w_dec (fun _ => ?_) (fun _ => ?_)
        | refine w_eqc (fun _ => ?_) (fun _ => ?_)
        | refine w_neqc (fun _ => ?_) (fun _ => ?_)
        | refine w_nneqc (fun _ => ?_) (fun _ => ?_)
        | ((first | refine w_split (fun h => ?_) (fun h => ?_) | refine d_split (fun h => ?_) (fun h => ?_) | refine w_csplit (fun h => ?_) (fun h => ?_)) <;> (try simp only [wkS] at h) <;> (have h2 := h) <;> (try simp only [wkT, ne_eq] at h2) <;> (try simp only [h]))
        | refine And.intro ?_ ?_
        | refine w_drawnTF (id := 6) tb21_6Sv5 pl21_6Sv5 [0, 1, 2, 3, 4, 5, 6, 7] 34 (by kernel_rfl) (by kernel_rfl) (by simp) ?_
      refine hQ (by first | exact .inr rfl | exact .inl rfl) (by first | exact trivial | exact marks1) (by first | (simp -implicitDefEqProofs (maxSteps := 400000) (disch := first | with_reducible rfl | omega | (simp only [h_n, PH.n_push, PH.n_put, List.length_cons, List.length_nil] <;> omega) | decide) only [wkAll, wkL, popO, wantedP, if_true, if_false, reduceIte, ne_eq, Nat.reduceAdd, Nat.reduceSub, Nat.reduceMul, Nat.reduceLeDiff, Nat.reduceLT, ofCells, ofCell, reduceCtorEq, Int.reduceLE, Int.reduceLT, Int.reduceToNat, Int.reduceAdd, Int.reduceSub, Int.reduceMul, Int.reduceNeg, Int.reduceBEq, Int.reduceBNe, Int.reduceEq, eqCell, eqCells, binP, unP, convP, lenP, builtinP, sliceDataP, unsafeStringP, appendT, appendS, appendP, copyP, srcP, mmsP, mmP, indexOp, indexAddrOp, sliceOp, bndsP, bndP, capw, capCut, loadOp, storeOp, loadP, fieldOp, fieldAddrOp, arrayAtOp, buildP, buildSliceP, makeSliceP, placeF, fillP, setL, PK.agg, isZero, gt_iff_lt, Nat.reducePow, Nat.reduceGT, reps, seg, wkN, if_pos, if_neg, t_nil, t_no, t_mv, t_fx, t_op, t_true, t_false, t_mvk, t_se0, t_se, and_true, tf3, Try.ze3, tf9, Try.ze9, tf24, Try.ze24, tf38, Try.ze38, tf63, Try.ze63, pl21_6Sv5, resP, resPs, resP1]; rfl) | rfl) ⟨6, by repeat' first | exact frz_scalar rfl | apply frz_tuple | apply frz_agg | apply frz_fsl | apply frz_gsl (by omega) | exact frzs_nil | apply frzs_cons⟩ (by first | exact keepsH0 | exact keeps1 (by assumption) | exact keepsH (fun _ _ h => h) (fun p hp => by simp only [upF]; (repeat rw [if_neg (by omega)])) | exact keeps1t (by assumption) (fun p hp => by simp only [upF]; (repeat rw [if_neg (by omega)])) | (subst hT; exact keepsH (fun _ _ h => h) fun _ _ => rfl)) (nw_eq ?_)
      rfl
    · have bg := halves_ok (w0 := w0) key ad.length (strsC ad) hk (by omega)
      have hmk : (mkC (svA key)).length = 3 := rfl
      have hmk2 : (mkC (svA key)).all cellOk = true := rfl
      have hmk3 : List.take 3 (mkC (svA key)) = mkC (svA key) := rfl
      have hset : ∀ c : List PV, c.length = 3 → setL c 0 (mkC (svA key)) = mkC (svA key) := fun c hc => setL_all _ _ (by rw [hc, hmk])
      have rw1 := sivRow_ok (w0 := w0) (svA key) (ad ++ [s]) (svA_good hk) (by simp; omega)
      generalize mkC (svA key) = M at *
      by_cases hl : 65536 < s.length
      · rw [show sealS key ad s = ([], 12) by rw [sealS, if_neg (by simpa using hk), if_neg hn1, if_pos hl]]
        have hl' : (65536 : Int) < (s.length : Int) := by omega
        refine fn_H ([Go.ResultVar.tmp 6, Go.ResultVar.tmp 7]) Try.func21 rfl rfl (by decide) fun ph hW Q hQ => ?_
        simp only [start, List.length_cons, List.length_nil, List.cons_append, List.nil_append, Nat.reduceAdd, Nat.reduceSub, List.replicate_succ, List.replicate_zero, Try.ntmps21]
        repeat' first
          | simp -implicitDefEqProofs (maxSteps := 400000) (disch := first | with_reducible rfl | omega | (simp only [h_n, PH.n_push, PH.n_put, List.length_cons, List.length_nil] <;> omega) | decide) only [wkAll, wkL, popO, wantedP, if_true, if_false, reduceIte, ne_eq, Nat.reduceAdd, Nat.reduceSub, Nat.reduceMul, Nat.reduceLeDiff, Nat.reduceLT, ofCells, ofCell, reduceCtorEq, Int.reduceLE, Int.reduceLT, Int.reduceToNat, Int.reduceAdd, Int.reduceSub, Int.reduceMul, Int.reduceNeg, Int.reduceBEq, Int.reduceBNe, Int.reduceEq, eqCell, eqCells, binP, unP, convP, lenP, builtinP, sliceDataP, unsafeStringP, appendT, appendS, appendP, copyP, srcP, mmsP, mmP, indexOp, indexAddrOp, sliceOp, bndsP, bndP, capw, capCut, loadOp, storeOp, loadP, fieldOp, fieldAddrOp, arrayAtOp, buildP, buildSliceP, makeSliceP, placeF, fillP, setL, PK.agg, isZero, gt_iff_lt, Nat.reducePow, Nat.reduceGT, reps, seg, wkN, if_pos, if_neg, t_nil, t_no, t_mv, t_fx, t_op, t_true, t_false, t_mvk, t_se0, t_se, and_true, tf3, Try.ze3, tf9, Try.ze9, tf24, Try.ze24, tf38, Try.ze38, tf63, Try.ze63, pl21_6Sv5, gt_iff_lt, hl', hmk, hmk2, hmk3, hset]
          | refine w_pure (bg) ?_
          | refine w_dec (fun _ => ?_) (fun _ => ?_)
          | refine w_eqc (fun _ => ?_) (fun _ => ?_)
          | refine w_neqc (fun _ => ?_) (fun _ => ?_)
          | refine w_nneqc (fun _ => ?_) (fun _ => ?_)
          | ((first | refine w_split (fun h => ?_) (fun h => ?_) | refine d_split (fun h => ?_) (fun h => ?_) | refine w_csplit (fun h => ?_) (fun h => ?_)) <;> (try simp only [wkS] at h) <;> (have h2 := h) <;> (try simp only [wkT, ne_eq] at h2) <;> (try simp only [h]))
          | refine And.intro ?_ ?_
          | refine w_drawnTF (id := 6) tb21_6Sv5 pl21_6Sv5 [0, 1, 2, 3, 4, 5, 6, 7] 34 (by kernel_rfl) (by kernel_rfl) (by simp) ?_
        refine hQ (by first | exact .inr rfl | exact .inl rfl) (by first | exact trivial | exact marks1) (by first | (simp -implicitDefEqProofs (maxSteps := 400000) (disch := first | with_reducible rfl | omega | (simp only [h_n, PH.n_push, PH.n_put, List.length_cons, List.length_nil] <;> omega) | decide) only [wkAll, wkL, popO, wantedP, if_true, if_false, reduceIte, ne_eq, Nat.reduceAdd, Nat.reduceSub, Nat.reduceMul, Nat.reduceLeDiff, Nat.reduceLT, ofCells, ofCell, reduceCtorEq, Int.reduceLE, Int.reduceLT, Int.reduceToNat, Int.reduceAdd, Int.reduceSub, Int.reduceMul, Int.reduceNeg, Int.reduceBEq, Int.reduceBNe, Int.reduceEq, eqCell, eqCells, binP, unP, convP, lenP, builtinP, sliceDataP, unsafeStringP, appendT, appendS, appendP, copyP, srcP, mmsP, mmP, indexOp, indexAddrOp, sliceOp, bndsP, bndP, capw, capCut, loadOp, storeOp, loadP, fieldOp, fieldAddrOp, arrayAtOp, buildP, buildSliceP, makeSliceP, placeF, fillP, setL, PK.agg, isZero, gt_iff_lt, Nat.reducePow, Nat.reduceGT, reps, seg, wkN, if_pos, if_neg, t_nil, t_no, t_mv, t_fx, t_op, t_true, t_false, t_mvk, t_se0, t_se, and_true, tf3, Try.ze3, tf9, Try.ze9, tf24, Try.ze24, tf38, Try.ze38, tf63, Try.ze63, pl21_6Sv5, resP, resPs, resP1]; rfl) | rfl) ⟨6, by repeat' first | exact frz_scalar rfl | apply frz_tuple | apply frz_agg | apply frz_fsl | apply frz_gsl (by omega) | exact frzs_nil | apply frzs_cons⟩ (by first | exact keepsH0 | exact keeps1 (by assumption) | exact keepsH (fun _ _ h => h) (fun p hp => by simp only [upF]; (repeat rw [if_neg (by omega)])) | exact keeps1t (by assumption) (fun p hp => by simp only [upF]; (repeat rw [if_neg (by omega)])) | (subst hT; exact keepsH (fun _ _ h => h) fun _ _ => rfl)) (nw_eq ?_)
        rfl
      · have hl' : ¬ (65536 : Int) < (s.length : Int) := by omega
        rw [sealS_good hk (by omega) (by omega)]
        have rw2 := rw1 (by
          intro t ht
          rcases List.mem_append.1 ht with h | h
          · exact ha t h
          · simp at h; subst h; omega)
        have hvl := svT_len (svA_good hk) ad s
        rw [show rowL (wordsL (svA key)) (ad ++ [s]) = svT (svA key) ad s from rfl] at rw2
        have st := sivStream_ok (w0 := w0) (svB key) (svT (svA key) ad s) s (svB_good hk) hvl (by omega)
        have hsl := svS_len (svB_good hk) hvl s
        clear rw1
        generalize svT (svA key) ad s = v at *
        generalize svS (svB key) v s = c at *
        have hcat : (v.length + c.length ≤ 9223372036854775807) = True := by rw [eq_iff_iff, iff_true]; omega
        have hLc : strsC (ad ++ [s]) = strsC ad ++ [.str s] := by simp [strsC]
        have hLl : (ad ++ [s]).length = ad.length + 1 := by simp
        have hsl0 := strsC_len ad
        have hck := strsC_cok ad
        have htk : (strsC ad).take (ad.length * 1) = strsC ad := List.take_of_length_le (by rw [strsC_len, Nat.mul_one]; exact Nat.le_refl _)
        rw [hLc, hLl] at rw2
        have hseg : PV.fsl 1 (ad.length + 1) (strsC ad ++ [.str s]) = PV.fsl 1 (ad.length + 1) (seg (strsC ad ++ [.str s]) 0 ((ad.length + 1) * 1)) := by
          congr 1; rw [seg, List.drop_zero, List.take_of_length_le (by simp [strsC_len])]
        have hle : 0 + (ad.length + 1) * 1 ≤ (strsC ad ++ [PV.str s]).length := by simp [strsC_len]
        by_cases h0 : ad.length = 0
        · have had : ad = [] := List.length_eq_zero_iff.1 h0
          subst had
          refine fn_H ([Go.ResultVar.tmp 6, Go.ResultVar.tmp 7]) Try.func21 rfl rfl (by decide) fun ph hW Q hQ => ?_
          simp only [start, List.length_cons, List.length_nil, List.cons_append, List.nil_append, Nat.reduceAdd, Nat.reduceSub, List.replicate_succ, List.replicate_zero, Try.ntmps21]
          repeat' first
            | simp -implicitDefEqProofs (maxSteps := 400000) (disch := first | with_reducible rfl | omega | (simp only [h_n, PH.n_push, PH.n_put, List.length_cons, List.length_nil] <;> omega) | decide) only [wkAll, wkL, popO, wantedP, if_true, if_false, reduceIte, ne_eq, Nat.reduceAdd, Nat.reduceSub, Nat.reduceMul, Nat.reduceLeDiff, Nat.reduceLT, ofCells, ofCell, reduceCtorEq, Int.reduceLE, Int.reduceLT, Int.reduceToNat, Int.reduceAdd, Int.reduceSub, Int.reduceMul, Int.reduceNeg, Int.reduceBEq, Int.reduceBNe, Int.reduceEq, eqCell, eqCells, binP, unP, convP, lenP, builtinP, sliceDataP, unsafeStringP, appendT, appendS, appendP, copyP, srcP, mmsP, mmP, indexOp, indexAddrOp, sliceOp, bndsP, bndP, capw, capCut, loadOp, storeOp, loadP, fieldOp, fieldAddrOp, arrayAtOp, buildP, buildSliceP, makeSliceP, placeF, fillP, setL, PK.agg, isZero, gt_iff_lt, Nat.reducePow, Nat.reduceGT, reps, seg, wkN, if_pos, if_neg, t_nil, t_no, t_mv, t_fx, t_op, t_true, t_false, t_mvk, t_se0, t_se, and_true, tf3, Try.ze3, tf9, Try.ze9, tf24, Try.ze24, tf38, Try.ze38, tf63, Try.ze63, pl21_6Sv5, gt_iff_lt, hl', hmk, hmk2, hmk3, hset, hcat]
            | refine w_pure (bg) ?_
            | refine w_pure (st) ?_
            | refine w_dec (fun _ => ?_) (fun _ => ?_)
            | refine w_eqc (fun _ => ?_) (fun _ => ?_)
            | refine w_neqc (fun _ => ?_) (fun _ => ?_)
            | refine w_nneqc (fun _ => ?_) (fun _ => ?_)
            | ((first | refine w_split (fun h => ?_) (fun h => ?_) | refine d_split (fun h => ?_) (fun h => ?_) | refine w_csplit (fun h => ?_) (fun h => ?_)) <;> (try simp only [wkS] at h) <;> (have h2 := h) <;> (try simp only [wkT, ne_eq] at h2) <;> (try simp only [h]))
            | refine And.intro ?_ ?_
            | refine w_drawnTF (id := 6) tb21_6Sv5 pl21_6Sv5 [0, 1, 2, 3, 4, 5, 6, 7] 34 (by kernel_rfl) (by kernel_rfl) (by simp) ?_
          all_goals
            refine clone0_ok _ _ ?_ ?_
          all_goals
            repeat' first
              | simp -implicitDefEqProofs (maxSteps := 400000) (disch := first | with_reducible rfl | omega | (simp only [h_n, PH.n_push, PH.n_put, List.length_cons, List.length_nil] <;> omega) | decide) only [wkAll, wkL, popO, wantedP, if_true, if_false, reduceIte, ne_eq, Nat.reduceAdd, Nat.reduceSub, Nat.reduceMul, Nat.reduceLeDiff, Nat.reduceLT, ofCells, ofCell, reduceCtorEq, Int.reduceLE, Int.reduceLT, Int.reduceToNat, Int.reduceAdd, Int.reduceSub, Int.reduceMul, Int.reduceNeg, Int.reduceBEq, Int.reduceBNe, Int.reduceEq, eqCell, eqCells, binP, unP, convP, lenP, builtinP, sliceDataP, unsafeStringP, appendT, appendS, appendP, copyP, srcP, mmsP, mmP, indexOp, indexAddrOp, sliceOp, bndsP, bndP, capw, capCut, loadOp, storeOp, loadP, fieldOp, fieldAddrOp, arrayAtOp, buildP, buildSliceP, makeSliceP, placeF, fillP, setL, PK.agg, isZero, gt_iff_lt, Nat.reducePow, Nat.reduceGT, reps, seg, wkN, if_pos, if_neg, t_nil, t_no, t_mv, t_fx, t_op, t_true, t_false, t_mvk, t_se0, t_se, and_true, tf3, Try.ze3, tf9, Try.ze9, tf24, Try.ze24, tf38, Try.ze38, tf63, Try.ze63, pl21_6Sv5, gt_iff_lt, hl', hmk, hmk2, hmk3, hset, hcat]
              | refine w_pure (bg) ?_
              | refine w_pure (st) ?_
              | refine w_dec (fun _ => ?_) (fun _ => ?_)
              | refine w_eqc (fun _ => ?_) (fun _ => ?_)
              | refine w_neqc (fun _ => ?_) (fun _ => ?_)
              | refine w_nneqc (fun _ => ?_) (fun _ => ?_)
              | ((first | refine w_split (fun h => ?_) (fun h => ?_) | refine d_split (fun h => ?_) (fun h => ?_) | refine w_csplit (fun h => ?_) (fun h => ?_)) <;> (try simp only [wkS] at h) <;> (have h2 := h) <;> (try simp only [wkT, ne_eq] at h2) <;> (try simp only [h]))
              | refine And.intro ?_ ?_
              | refine w_drawnTF (id := 6) tb21_6Sv5 pl21_6Sv5 [0, 1, 2, 3, 4, 5, 6, 7] 34 (by kernel_rfl) (by kernel_rfl) (by simp) ?_
            refine w_frz (cells := strsC [] ++ [.str s]) (args' := [.agg M, .fsl 1 1 (strsC [] ++ [.str s])]) (by first | (rw [h_get]; rfl) | (rw [h_get0]; rfl)) ⟨.inl rfl, .inr ⟨0, 1, 1, none, rfl, hseg, hle⟩, trivial⟩ ?_
            refine w_pure rw2 ?_
            repeat' first
              | simp -implicitDefEqProofs (maxSteps := 400000) (disch := first | with_reducible rfl | omega | (simp only [h_n, PH.n_push, PH.n_put, List.length_cons, List.length_nil] <;> omega) | decide) only [wkAll, wkL, popO, wantedP, if_true, if_false, reduceIte, ne_eq, Nat.reduceAdd, Nat.reduceSub, Nat.reduceMul, Nat.reduceLeDiff, Nat.reduceLT, ofCells, ofCell, reduceCtorEq, Int.reduceLE, Int.reduceLT, Int.reduceToNat, Int.reduceAdd, Int.reduceSub, Int.reduceMul, Int.reduceNeg, Int.reduceBEq, Int.reduceBNe, Int.reduceEq, eqCell, eqCells, binP, unP, convP, lenP, builtinP, sliceDataP, unsafeStringP, appendT, appendS, appendP, copyP, srcP, mmsP, mmP, indexOp, indexAddrOp, sliceOp, bndsP, bndP, capw, capCut, loadOp, storeOp, loadP, fieldOp, fieldAddrOp, arrayAtOp, buildP, buildSliceP, makeSliceP, placeF, fillP, setL, PK.agg, isZero, gt_iff_lt, Nat.reducePow, Nat.reduceGT, reps, seg, wkN, if_pos, if_neg, t_nil, t_no, t_mv, t_fx, t_op, t_true, t_false, t_mvk, t_se0, t_se, and_true, tf3, Try.ze3, tf9, Try.ze9, tf24, Try.ze24, tf38, Try.ze38, tf63, Try.ze63, pl21_6Sv5, gt_iff_lt, hl', hmk, hmk2, hmk3, hset, hcat]
              | refine w_pure (bg) ?_
              | refine w_pure (st) ?_
              | refine w_dec (fun _ => ?_) (fun _ => ?_)
              | refine w_eqc (fun _ => ?_) (fun _ => ?_)
              | refine w_neqc (fun _ => ?_) (fun _ => ?_)
              | refine w_nneqc (fun _ => ?_) (fun _ => ?_)
              | ((first | refine w_split (fun h => ?_) (fun h => ?_) | refine d_split (fun h => ?_) (fun h => ?_) | refine w_csplit (fun h => ?_) (fun h => ?_)) <;> (try simp only [wkS] at h) <;> (have h2 := h) <;> (try simp only [wkT, ne_eq] at h2) <;> (try simp only [h]))
              | refine And.intro ?_ ?_
              | refine w_drawnTF (id := 6) tb21_6Sv5 pl21_6Sv5 [0, 1, 2, 3, 4, 5, 6, 7] 34 (by kernel_rfl) (by kernel_rfl) (by simp) ?_
            refine hQ (by first | exact .inr rfl | exact .inl rfl) (by first | exact trivial | exact marks1) (by first | (simp -implicitDefEqProofs (maxSteps := 400000) (disch := first | with_reducible rfl | omega | (simp only [h_n, PH.n_push, PH.n_put, List.length_cons, List.length_nil] <;> omega) | decide) only [wkAll, wkL, popO, wantedP, if_true, if_false, reduceIte, ne_eq, Nat.reduceAdd, Nat.reduceSub, Nat.reduceMul, Nat.reduceLeDiff, Nat.reduceLT, ofCells, ofCell, reduceCtorEq, Int.reduceLE, Int.reduceLT, Int.reduceToNat, Int.reduceAdd, Int.reduceSub, Int.reduceMul, Int.reduceNeg, Int.reduceBEq, Int.reduceBNe, Int.reduceEq, eqCell, eqCells, binP, unP, convP, lenP, builtinP, sliceDataP, unsafeStringP, appendT, appendS, appendP, copyP, srcP, mmsP, mmP, indexOp, indexAddrOp, sliceOp, bndsP, bndP, capw, capCut, loadOp, storeOp, loadP, fieldOp, fieldAddrOp, arrayAtOp, buildP, buildSliceP, makeSliceP, placeF, fillP, setL, PK.agg, isZero, gt_iff_lt, Nat.reducePow, Nat.reduceGT, reps, seg, wkN, if_pos, if_neg, t_nil, t_no, t_mv, t_fx, t_op, t_true, t_false, t_mvk, t_se0, t_se, and_true, tf3, Try.ze3, tf9, Try.ze9, tf24, Try.ze24, tf38, Try.ze38, tf63, Try.ze63, pl21_6Sv5, resP, resPs, resP1]; rfl) | rfl) ⟨6, by repeat' first | exact frz_scalar rfl | apply frz_tuple | apply frz_agg | apply frz_fsl | apply frz_gsl (by omega) | exact frzs_nil | apply frzs_cons⟩ (by first | exact keepsH0 | exact keeps1 (by assumption) | exact keepsH (fun _ _ h => h) (fun p hp => by simp only [upF]; (repeat rw [if_neg (by omega)])) | exact keeps1t (by assumption) (fun p hp => by simp only [upF]; (repeat rw [if_neg (by omega)])) | (subst hT; exact keepsH (fun _ _ h => h) fun _ _ => rfl)) (nw_eq ?_)
            rfl
        · have hne : ad.length ≠ 0 := h0
          refine fn_H ([Go.ResultVar.tmp 6, Go.ResultVar.tmp 7]) Try.func21 rfl rfl (by decide) fun ph hW Q hQ => ?_
          simp only [start, List.length_cons, List.length_nil, List.cons_append, List.nil_append, Nat.reduceAdd, Nat.reduceSub, List.replicate_succ, List.replicate_zero, Try.ntmps21]
          repeat' first
            | simp -implicitDefEqProofs (maxSteps := 400000) (disch := first | with_reducible rfl | omega | (simp only [h_n, PH.n_push, PH.n_put, List.length_cons, List.length_nil] <;> omega) | decide) only [wkAll, wkL, popO, wantedP, if_true, if_false, reduceIte, ne_eq, Nat.reduceAdd, Nat.reduceSub, Nat.reduceMul, Nat.reduceLeDiff, Nat.reduceLT, ofCells, ofCell, reduceCtorEq, Int.reduceLE, Int.reduceLT, Int.reduceToNat, Int.reduceAdd, Int.reduceSub, Int.reduceMul, Int.reduceNeg, Int.reduceBEq, Int.reduceBNe, Int.reduceEq, eqCell, eqCells, binP, unP, convP, lenP, builtinP, sliceDataP, unsafeStringP, appendT, appendS, appendP, copyP, srcP, mmsP, mmP, indexOp, indexAddrOp, sliceOp, bndsP, bndP, capw, capCut, loadOp, storeOp, loadP, fieldOp, fieldAddrOp, arrayAtOp, buildP, buildSliceP, makeSliceP, placeF, fillP, setL, PK.agg, isZero, gt_iff_lt, Nat.reducePow, Nat.reduceGT, reps, seg, wkN, if_pos, if_neg, t_nil, t_no, t_mv, t_fx, t_op, t_true, t_false, t_mvk, t_se0, t_se, and_true, tf3, Try.ze3, tf9, Try.ze9, tf24, Try.ze24, tf38, Try.ze38, tf63, Try.ze63, pl21_6Sv5, gt_iff_lt, hl', hmk, hmk2, hmk3, hset, hcat]
            | refine w_pure (bg) ?_
            | refine w_pure (st) ?_
            | refine w_dec (fun _ => ?_) (fun _ => ?_)
            | refine w_eqc (fun _ => ?_) (fun _ => ?_)
            | refine w_neqc (fun _ => ?_) (fun _ => ?_)
            | refine w_nneqc (fun _ => ?_) (fun _ => ?_)
            | ((first | refine w_split (fun h => ?_) (fun h => ?_) | refine d_split (fun h => ?_) (fun h => ?_) | refine w_csplit (fun h => ?_) (fun h => ?_)) <;> (try simp only [wkS] at h) <;> (have h2 := h) <;> (try simp only [wkT, ne_eq] at h2) <;> (try simp only [h]))
            | refine And.intro ?_ ?_
            | refine w_drawnTF (id := 6) tb21_6Sv5 pl21_6Sv5 [0, 1, 2, 3, 4, 5, 6, 7] 34 (by kernel_rfl) (by kernel_rfl) (by simp) ?_
          all_goals
            refine w_inl ([Go.ResultVar.tmp 2]) Try.func38 rfl rfl (by decide) fun _ hI => ?_
            simp only [start, List.length_cons, List.length_nil, List.cons_append, List.nil_append, Nat.reduceAdd, Nat.reduceSub, List.replicate_succ, List.replicate_zero, Try.ntmps38]
            repeat' first
              | simp -implicitDefEqProofs (maxSteps := 400000) (disch := first | with_reducible rfl | omega | (simp only [h_n, PH.n_push, PH.n_put, List.length_cons, List.length_nil] <;> omega) | decide) only [wkAll, wkL, popO, wantedP, if_true, if_false, reduceIte, ne_eq, Nat.reduceAdd, Nat.reduceSub, Nat.reduceMul, Nat.reduceLeDiff, Nat.reduceLT, ofCells, ofCell, reduceCtorEq, Int.reduceLE, Int.reduceLT, Int.reduceToNat, Int.reduceAdd, Int.reduceSub, Int.reduceMul, Int.reduceNeg, Int.reduceBEq, Int.reduceBNe, Int.reduceEq, eqCell, eqCells, binP, unP, convP, lenP, builtinP, sliceDataP, unsafeStringP, appendT, appendS, appendP, copyP, srcP, mmsP, mmP, indexOp, indexAddrOp, sliceOp, bndsP, bndP, capw, capCut, loadOp, storeOp, loadP, fieldOp, fieldAddrOp, arrayAtOp, buildP, buildSliceP, makeSliceP, placeF, fillP, setL, PK.agg, isZero, gt_iff_lt, Nat.reducePow, Nat.reduceGT, reps, seg, wkN, if_pos, if_neg, tf9, Try.ze9, tf38, Try.ze38, hsl0, htk, hne, hck, Option.getD_none]
              | refine w_dec (fun _ => ?_) (fun _ => ?_)
              | refine w_eqc (fun _ => ?_) (fun _ => ?_)
              | refine w_neqc (fun _ => ?_) (fun _ => ?_)
              | refine w_nneqc (fun _ => ?_) (fun _ => ?_)
              | ((first | refine w_split (fun h => ?_) (fun h => ?_) | refine d_split (fun h => ?_) (fun h => ?_) | refine w_csplit (fun h => ?_) (fun h => ?_)) <;> (try simp only [wkS] at h) <;> (have h2 := h) <;> (try simp only [wkT, ne_eq] at h2) <;> (try simp only [h]))
            refine hI (by first | exact .inr rfl | exact .inl rfl) trivial (by first | (simp -implicitDefEqProofs (maxSteps := 400000) (disch := first | with_reducible rfl | omega | (simp only [h_n, PH.n_push, PH.n_put, List.length_cons, List.length_nil] <;> omega) | decide) only [wkAll, wkL, popO, wantedP, if_true, if_false, reduceIte, ne_eq, Nat.reduceAdd, Nat.reduceSub, Nat.reduceMul, Nat.reduceLeDiff, Nat.reduceLT, ofCells, ofCell, reduceCtorEq, Int.reduceLE, Int.reduceLT, Int.reduceToNat, Int.reduceAdd, Int.reduceSub, Int.reduceMul, Int.reduceNeg, Int.reduceBEq, Int.reduceBNe, Int.reduceEq, eqCell, eqCells, binP, unP, convP, lenP, builtinP, sliceDataP, unsafeStringP, appendT, appendS, appendP, copyP, srcP, mmsP, mmP, indexOp, indexAddrOp, sliceOp, bndsP, bndP, capw, capCut, loadOp, storeOp, loadP, fieldOp, fieldAddrOp, arrayAtOp, buildP, buildSliceP, makeSliceP, placeF, fillP, setL, PK.agg, isZero, gt_iff_lt, Nat.reducePow, Nat.reduceGT, reps, seg, wkN, if_pos, if_neg, tf9, Try.ze9, tf38, Try.ze38, resP, resPs, resP1]; rfl) | rfl) ?_
            repeat' first
              | simp -implicitDefEqProofs (maxSteps := 400000) (disch := first | with_reducible rfl | omega | (simp only [h_n, PH.n_push, PH.n_put, List.length_cons, List.length_nil] <;> omega) | decide) only [wkAll, wkL, popO, wantedP, if_true, if_false, reduceIte, ne_eq, Nat.reduceAdd, Nat.reduceSub, Nat.reduceMul, Nat.reduceLeDiff, Nat.reduceLT, ofCells, ofCell, reduceCtorEq, Int.reduceLE, Int.reduceLT, Int.reduceToNat, Int.reduceAdd, Int.reduceSub, Int.reduceMul, Int.reduceNeg, Int.reduceBEq, Int.reduceBNe, Int.reduceEq, eqCell, eqCells, binP, unP, convP, lenP, builtinP, sliceDataP, unsafeStringP, appendT, appendS, appendP, copyP, srcP, mmsP, mmP, indexOp, indexAddrOp, sliceOp, bndsP, bndP, capw, capCut, loadOp, storeOp, loadP, fieldOp, fieldAddrOp, arrayAtOp, buildP, buildSliceP, makeSliceP, placeF, fillP, setL, PK.agg, isZero, gt_iff_lt, Nat.reducePow, Nat.reduceGT, reps, seg, wkN, if_pos, if_neg, t_nil, t_no, t_mv, t_fx, t_op, t_true, t_false, t_mvk, t_se0, t_se, and_true, tf3, Try.ze3, tf9, Try.ze9, tf24, Try.ze24, tf38, Try.ze38, tf63, Try.ze63, pl21_6Sv5, gt_iff_lt, hl', hmk, hmk2, hmk3, hset, hcat, hsl0, htk, hck, Option.getD_none]
              | refine w_pure (bg) ?_
              | refine w_pure (st) ?_
              | refine w_dec (fun _ => ?_) (fun _ => ?_)
              | refine w_eqc (fun _ => ?_) (fun _ => ?_)
              | refine w_neqc (fun _ => ?_) (fun _ => ?_)
              | refine w_nneqc (fun _ => ?_) (fun _ => ?_)
              | ((first | refine w_split (fun h => ?_) (fun h => ?_) | refine d_split (fun h => ?_) (fun h => ?_) | refine w_csplit (fun h => ?_) (fun h => ?_)) <;> (try simp only [wkS] at h) <;> (have h2 := h) <;> (try simp only [wkT, ne_eq] at h2) <;> (try simp only [h]))
              | refine And.intro ?_ ?_
              | refine w_drawnTF (id := 6) tb21_6Sv5 pl21_6Sv5 [0, 1, 2, 3, 4, 5, 6, 7] 34 (by kernel_rfl) (by kernel_rfl) (by simp) ?_
            refine w_frz (cells := strsC ad ++ [.str s]) (args' := [.agg M, .fsl 1 (ad.length + 1) (strsC ad ++ [.str s])]) (by first | (rw [h_get]; rfl) | (rw [h_get0]; rfl)) ⟨.inl rfl, .inr ⟨0, 1, ad.length + 1, none, rfl, hseg, hle⟩, trivial⟩ ?_
            refine w_pure rw2 ?_
            repeat' first
              | simp -implicitDefEqProofs (maxSteps := 400000) (disch := first | with_reducible rfl | omega | (simp only [h_n, PH.n_push, PH.n_put, List.length_cons, List.length_nil] <;> omega) | decide) only [wkAll, wkL, popO, wantedP, if_true, if_false, reduceIte, ne_eq, Nat.reduceAdd, Nat.reduceSub, Nat.reduceMul, Nat.reduceLeDiff, Nat.reduceLT, ofCells, ofCell, reduceCtorEq, Int.reduceLE, Int.reduceLT, Int.reduceToNat, Int.reduceAdd, Int.reduceSub, Int.reduceMul, Int.reduceNeg, Int.reduceBEq, Int.reduceBNe, Int.reduceEq, eqCell, eqCells, binP, unP, convP, lenP, builtinP, sliceDataP, unsafeStringP, appendT, appendS, appendP, copyP, srcP, mmsP, mmP, indexOp, indexAddrOp, sliceOp, bndsP, bndP, capw, capCut, loadOp, storeOp, loadP, fieldOp, fieldAddrOp, arrayAtOp, buildP, buildSliceP, makeSliceP, placeF, fillP, setL, PK.agg, isZero, gt_iff_lt, Nat.reducePow, Nat.reduceGT, reps, seg, wkN, if_pos, if_neg, t_nil, t_no, t_mv, t_fx, t_op, t_true, t_false, t_mvk, t_se0, t_se, and_true, tf3, Try.ze3, tf9, Try.ze9, tf24, Try.ze24, tf38, Try.ze38, tf63, Try.ze63, pl21_6Sv5, gt_iff_lt, hl', hmk, hmk2, hmk3, hset, hcat]
              | refine w_pure (bg) ?_
              | refine w_pure (st) ?_
              | refine w_dec (fun _ => ?_) (fun _ => ?_)
              | refine w_eqc (fun _ => ?_) (fun _ => ?_)
              | refine w_neqc (fun _ => ?_) (fun _ => ?_)
              | refine w_nneqc (fun _ => ?_) (fun _ => ?_)
              | ((first | refine w_split (fun h => ?_) (fun h => ?_) | refine d_split (fun h => ?_) (fun h => ?_) | refine w_csplit (fun h => ?_) (fun h => ?_)) <;> (try simp only [wkS] at h) <;> (have h2 := h) <;> (try simp only [wkT, ne_eq] at h2) <;> (try simp only [h]))
              | refine And.intro ?_ ?_
              | refine w_drawnTF (id := 6) tb21_6Sv5 pl21_6Sv5 [0, 1, 2, 3, 4, 5, 6, 7] 34 (by kernel_rfl) (by kernel_rfl) (by simp) ?_
            refine hQ (by first | exact .inr rfl | exact .inl rfl) (by first | exact trivial | exact marks1) (by first | (simp -implicitDefEqProofs (maxSteps := 400000) (disch := first | with_reducible rfl | omega | (simp only [h_n, PH.n_push, PH.n_put, List.length_cons, List.length_nil] <;> omega) | decide) only [wkAll, wkL, popO, wantedP, if_true, if_false, reduceIte, ne_eq, Nat.reduceAdd, Nat.reduceSub, Nat.reduceMul, Nat.reduceLeDiff, Nat.reduceLT, ofCells, ofCell, reduceCtorEq, Int.reduceLE, Int.reduceLT, Int.reduceToNat, Int.reduceAdd, Int.reduceSub, Int.reduceMul, Int.reduceNeg, Int.reduceBEq, Int.reduceBNe, Int.reduceEq, eqCell, eqCells, binP, unP, convP, lenP, builtinP, sliceDataP, unsafeStringP, appendT, appendS, appendP, copyP, srcP, mmsP, mmP, indexOp, indexAddrOp, sliceOp, bndsP, bndP, capw, capCut, loadOp, storeOp, loadP, fieldOp, fieldAddrOp, arrayAtOp, buildP, buildSliceP, makeSliceP, placeF, fillP, setL, PK.agg, isZero, gt_iff_lt, Nat.reducePow, Nat.reduceGT, reps, seg, wkN, if_pos, if_neg, t_nil, t_no, t_mv, t_fx, t_op, t_true, t_false, t_mvk, t_se0, t_se, and_true, tf3, Try.ze3, tf9, Try.ze9, tf24, Try.ze24, tf38, Try.ze38, tf63, Try.ze63, pl21_6Sv5, resP, resPs, resP1]; rfl) | rfl) ⟨6, by repeat' first | exact frz_scalar rfl | apply frz_tuple | apply frz_agg | apply frz_fsl | apply frz_gsl (by omega) | exact frzs_nil | apply frzs_cons⟩ (by first | exact keepsH0 | exact keeps1 (by assumption) | exact keepsH (fun _ _ h => h) (fun p hp => by simp only [upF]; (repeat rw [if_neg (by omega)])) | exact keeps1t (by assumption) (fun p hp => by simp only [upF]; (repeat rw [if_neg (by omega)])) | (subst hT; exact keepsH (fun _ _ h => h) fun _ _ => rfl)) (nw_eq ?_)
            rfl
  · 
    rw [show sealS key ad s = ([], 13) by rw [sealS, if_pos hk]]
    have bg := halves_no (w0 := w0) key ad.length (strsC ad) 13 (.inl ⟨hk, rfl⟩)
    refine fn_H ([Go.ResultVar.tmp 6, Go.ResultVar.tmp 7]) Try.func21 rfl rfl (by decide) fun ph hW Q hQ => ?_
    simp only [start, List.length_cons, List.length_nil, List.cons_append, List.nil_append, Nat.reduceAdd, Nat.reduceSub, List.replicate_succ, List.replicate_zero, Try.ntmps21]
    repeat' first
      | simp -implicitDefEqProofs (maxSteps := 400000) (disch := first | with_reducible rfl | omega | (simp only [h_n, PH.n_push, PH.n_put, List.length_cons, List.length_nil] <;> omega) | decide) only [wkAll, wkL, popO, wantedP, if_true, if_false, reduceIte, ne_eq, Nat.reduceAdd, Nat.reduceSub, Nat.reduceMul, Nat.reduceLeDiff, Nat.reduceLT, ofCells, ofCell, reduceCtorEq, Int.reduceLE, Int.reduceLT, Int.reduceToNat, Int.reduceAdd, Int.reduceSub, Int.reduceMul, Int.reduceNeg, Int.reduceBEq, Int.reduceBNe, Int.reduceEq, eqCell, eqCells, binP, unP, convP, lenP, builtinP, sliceDataP, unsafeStringP, appendT, appendS, appendP, copyP, srcP, mmsP, mmP, indexOp, indexAddrOp, sliceOp, bndsP, bndP, capw, capCut, loadOp, storeOp, loadP, fieldOp, fieldAddrOp, arrayAtOp, buildP, buildSliceP, makeSliceP, placeF, fillP, setL, PK.agg, isZero, gt_iff_lt, Nat.reducePow, Nat.reduceGT, reps, seg, wkN, if_pos, if_neg, t_nil, t_no, t_mv, t_fx, t_op, t_true, t_false, t_mvk, t_se0, t_se, and_true, tf3, Try.ze3, tf9, Try.ze9, tf24, Try.ze24, tf38, Try.ze38, tf63, Try.ze63, pl21_6Sv5]
      | refine w_pure (bg) ?_
      | refine w_dec (fun _ => ?_) (fun _ => ?_)
      | refine w_eqc (fun _ => ?_) (fun _ => ?_)
      | refine w_neqc (fun _ => ?_) (fun _ => ?_)
      | refine w_nneqc (fun _ => ?_) (fun _ => ?_)
      | ((first | refine w_split (fun h => ?_) (fun h => ?_) | refine d_split (fun h => ?_) (fun h => ?_) | refine w_csplit (fun h => ?_) (fun h => ?_)) <;> (try simp only [wkS] at h) <;> (have h2 := h) <;> (try simp only [wkT, ne_eq] at h2) <;> (try simp only [h]))
      | refine And.intro ?_ ?_
      | refine w_drawnTF (id := 6) tb21_6Sv5 pl21_6Sv5 [0, 1, 2, 3, 4, 5, 6, 7] 34 (by kernel_rfl) (by kernel_rfl) (by simp) ?_
    refine hQ (by first | exact .inr rfl | exact .inl rfl) (by first | exact trivial | exact marks1) (by first | (simp -implicitDefEqProofs (maxSteps := 400000) (disch := first | with_reducible rfl | omega | (simp only [h_n, PH.n_push, PH.n_put, List.length_cons, List.length_nil] <;> omega) | decide) only [wkAll, wkL, popO, wantedP, if_true, if_false, reduceIte, ne_eq, Nat.reduceAdd, Nat.reduceSub, Nat.reduceMul, Nat.reduceLeDiff, Nat.reduceLT, ofCells, ofCell, reduceCtorEq, Int.reduceLE, Int.reduceLT, Int.reduceToNat, Int.reduceAdd, Int.reduceSub, Int.reduceMul, Int.reduceNeg, Int.reduceBEq, Int.reduceBNe, Int.reduceEq, eqCell, eqCells, binP, unP, convP, lenP, builtinP, sliceDataP, unsafeStringP, appendT, appendS, appendP, copyP, srcP, mmsP, mmP, indexOp, indexAddrOp, sliceOp, bndsP, bndP, capw, capCut, loadOp, storeOp, loadP, fieldOp, fieldAddrOp, arrayAtOp, buildP, buildSliceP, makeSliceP, placeF, fillP, setL, PK.agg, isZero, gt_iff_lt, Nat.reducePow, Nat.reduceGT, reps, seg, wkN, if_pos, if_neg, t_nil, t_no, t_mv, t_fx, t_op, t_true, t_false, t_mvk, t_se0, t_se, and_true, tf3, Try.ze3, tf9, Try.ze9, tf24, Try.ze24, tf38, Try.ze38, tf63, Try.ze63, pl21_6Sv5, resP, resPs, resP1]; rfl) | rfl) ⟨6, by repeat' first | exact frz_scalar rfl | apply frz_tuple | apply frz_agg | apply frz_fsl | apply frz_gsl (by omega) | exact frzs_nil | apply frzs_cons⟩ (by first | exact keepsH0 | exact keeps1 (by assumption) | exact keepsH (fun _ _ h => h) (fun p hp => by simp only [upF]; (repeat rw [if_neg (by omega)])) | exact keeps1t (by assumption) (fun p hp => by simp only [upF]; (repeat rw [if_neg (by omega)])) | (subst hT; exact keepsH (fun _ _ h => h) fun _ _ => rfl)) (nw_eq ?_)
    rfl
end Pv
