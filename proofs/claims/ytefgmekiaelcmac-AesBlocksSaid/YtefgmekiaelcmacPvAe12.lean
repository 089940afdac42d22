/- Part of the proof: the layer of pure values, or walks through functions (PvAe12, PvAe13, PvEntry, PvEntry2, PvEntry3, PvAe14, PvAe15). -/
import Derived.Test.YtefgmekiaelcmacPvAe11
import Derived.Test.YtefgmekiaelcmacPvNum
import Derived.ProofKit
import Derived.Carry
import Derived.SizedLaws
import Derived.ChangeArms
set_option linter.all false
namespace Pv
set_option maxRecDepth 20000
set_option maxHeartbeats 4000000
open Go Go.Proofs Go.RowKit
variable {w0 : World}

/-! ### Round keys -/
def strsC (L : List (List UInt8)) : List PV := L.map PV.str
theorem strsC_len (L : List (List UInt8)) : (strsC L).length = L.length := by simp [strsC]
theorem strsC_ok (L : List (List UInt8)) : (strsC L).all scalarV = true := by simp [strsC, scalarV]
theorem scs_strs {n : Nat} {L : List (List UInt8)} : Scs n (strsC L) = True := eq_true (scs_scalars (strsC_ok L))
def rksL (w : List UInt8) (n : Nat) : List (List UInt8) := (List.range n).map (rkL w)
theorem rksL_len (w : List UInt8) (n : Nat) : (rksL w n).length = n := by simp [rksL]
theorem rksL_succ (w : List UInt8) (n : Nat) : rksL w (n + 1) = rksL w n ++ [rkL w n] := by simp [rksL, List.range_succ]
def keysR (key : List UInt8) : List (List UInt8) × Int := if goodK key then (rksL (wordsL key) (key.length / 4 + 7), 0) else ([], 13)
theorem keys_ok (key : List UInt8) : Fn (Cx w0) 15 [.str key] (.tuple [.fsl 1 (keysR key).1.length (strsC (keysR key).1), .int .i64 (keysR key).2]) := by
  by_cases hk : goodK key
  · have e : keysR key = (rksL (wordsL key) (key.length / 4 + 7), 0) := by rw [keysR, if_pos hk]
    rw [e]
    have hwl := words_len hk
    have hcr := ci_r key
    obtain ⟨n, hn⟩ : ∃ n, n = key.length / 4 + 7 := ⟨_, rfl⟩
    have hn2 : n ≤ 15 := by rcases hk with h | h <;> omega
    rw [← hn] at hwl hcr ⊢
    have rd := fun (p : PH) (q : Nat) (hh : p.get q = some (ciC key false)) => ready8_ok (w0 := w0) p q key false hk hh
    generalize wordsL key = w at *
    obtain ⟨b1, b2, q1, q0, hbb⟩ : ∃ b1 b2 : Bool, ((key.length : Int) != 16) = b1 ∧ ((key.length : Int) != 32) = b2 ∧ (b1 && b2) = false := ⟨_, _, rfl, rfl, by rcases hk with h | h <;> simp [h]⟩
    cases b1 <;> cases b2 <;> simp only [Bool.and_self, Bool.and_true, Bool.true_and, reduceCtorEq] at hbb
    all_goals
      refine fn_H ([Go.ResultVar.tmp 2, Go.ResultVar.tmp 3]) Try.func15 rfl rfl (by decide) fun ph hW Q hQ => ?_
      simp only [start, List.length_cons, List.length_nil, List.cons_append, List.nil_append, Nat.reduceAdd, Nat.reduceSub, List.replicate_succ, List.replicate_zero, Try.ntmps15]
      repeat' first
        | simp -implicitDefEqProofs (maxSteps := 400000) (disch := first | with_reducible rfl | omega | (simp only [h_n, PH.n_push, PH.n_put, List.length_cons, List.length_nil] <;> omega) | decide) only [wkAll, wkL, popO, wantedP, if_true, if_false, reduceIte, ne_eq, Nat.reduceAdd, Nat.reduceSub, Nat.reduceMul, Nat.reduceLeDiff, Nat.reduceLT, ofCells, ofCell, reduceCtorEq, Int.reduceLE, Int.reduceLT, Int.reduceToNat, Int.reduceAdd, Int.reduceSub, Int.reduceMul, Int.reduceNeg, Int.reduceBEq, Int.reduceBNe, Int.reduceEq, eqCell, eqCells, binP, unP, convP, lenP, builtinP, sliceDataP, unsafeStringP, appendT, appendS, appendP, copyP, srcP, mmsP, mmP, indexOp, indexAddrOp, sliceOp, bndsP, bndP, capw, capCut, loadOp, storeOp, loadP, fieldOp, fieldAddrOp, arrayAtOp, buildP, buildSliceP, makeSliceP, placeF, fillP, setL, PK.agg, isZero, gt_iff_lt, Nat.reducePow, Nat.reduceGT, reps, seg, wkN, if_pos, if_neg, tf3, Try.ze3, tf5, Try.ze5, tf9, Try.ze9, tf21, Try.ze21, tf27, Try.ze27, tf33, Try.ze33, tf44, Try.ze44, tf45, Try.ze45, tf49, Try.ze49, tf57, Try.ze57, tf59, Try.ze59, tf61, Try.ze61, tf63, Try.ze63, tf65, Try.ze65, tf66, Try.ze66, tf67, Try.ze67, tf68, Try.ze68, tf70, Try.ze70]
        | refine w_dec (fun _ => ?_) (fun _ => ?_)
        | refine w_eqc (fun _ => ?_) (fun _ => ?_)
        | refine w_neqc (fun _ => ?_) (fun _ => ?_)
        | refine w_nneqc (fun _ => ?_) (fun _ => ?_)
        | ((first | refine w_split (fun h => ?_) (fun h => ?_) | refine d_split (fun h => ?_) (fun h => ?_) | refine w_csplit (fun h => ?_) (fun h => ?_)) <;> (try simp only [wkS] at h) <;> (have h2 := h) <;> (try simp only [wkT, ne_eq] at h2) <;> (try simp only [h]))
      refine w_inl ([Go.ResultVar.tmp 4, Go.ResultVar.tmp 5]) Try.func23 rfl rfl (by decide) fun _ hI => ?_
      simp only [start, List.length_cons, List.length_nil, List.cons_append, List.nil_append, Nat.reduceAdd, Nat.reduceSub, List.replicate_succ, List.replicate_zero, Try.ntmps23]
      repeat' first
        | simp -implicitDefEqProofs (maxSteps := 400000) (disch := first | with_reducible rfl | omega | (simp only [h_n, PH.n_push, PH.n_put, List.length_cons, List.length_nil] <;> omega) | decide) only [wkAll, wkL, popO, wantedP, if_true, if_false, reduceIte, ne_eq, Nat.reduceAdd, Nat.reduceSub, Nat.reduceMul, Nat.reduceLeDiff, Nat.reduceLT, ofCells, ofCell, reduceCtorEq, Int.reduceLE, Int.reduceLT, Int.reduceToNat, Int.reduceAdd, Int.reduceSub, Int.reduceMul, Int.reduceNeg, Int.reduceBEq, Int.reduceBNe, Int.reduceEq, eqCell, eqCells, binP, unP, convP, lenP, builtinP, sliceDataP, unsafeStringP, appendT, appendS, appendP, copyP, srcP, mmsP, mmP, indexOp, indexAddrOp, sliceOp, bndsP, bndP, capw, capCut, loadOp, storeOp, loadP, fieldOp, fieldAddrOp, arrayAtOp, buildP, buildSliceP, makeSliceP, placeF, fillP, setL, PK.agg, isZero, gt_iff_lt, Nat.reducePow, Nat.reduceGT, reps, seg, wkN, if_pos, if_neg, tf3, Try.ze3, tf5, Try.ze5, tf9, Try.ze9, tf21, Try.ze21, tf49, Try.ze49, tf57, Try.ze57, tf59, Try.ze59, tf61, Try.ze61, tf63, Try.ze63, tf65, Try.ze65, tf66, Try.ze66, tf67, Try.ze67, tf68, Try.ze68, tf70, Try.ze70, -buildP, -Try.ze70, bC, ciF_cok, q1, q0]
        | refine w_dec (fun _ => ?_) (fun _ => ?_)
        | refine w_eqc (fun _ => ?_) (fun _ => ?_)
        | refine w_neqc (fun _ => ?_) (fun _ => ?_)
        | refine w_nneqc (fun _ => ?_) (fun _ => ?_)
        | ((first | refine w_split (fun h => ?_) (fun h => ?_) | refine d_split (fun h => ?_) (fun h => ?_) | refine w_csplit (fun h => ?_) (fun h => ?_)) <;> (try simp only [wkS] at h) <;> (have h2 := h) <;> (try simp only [wkT, ne_eq] at h2) <;> (try simp only [h]))
      refine hI (by first | exact .inr rfl | exact .inl rfl) trivial (by first | (simp -implicitDefEqProofs (maxSteps := 400000) (disch := first | with_reducible rfl | omega | (simp only [h_n, PH.n_push, PH.n_put, List.length_cons, List.length_nil] <;> omega) | decide) only [wkAll, wkL, popO, wantedP, if_true, if_false, reduceIte, ne_eq, Nat.reduceAdd, Nat.reduceSub, Nat.reduceMul, Nat.reduceLeDiff, Nat.reduceLT, ofCells, ofCell, reduceCtorEq, Int.reduceLE, Int.reduceLT, Int.reduceToNat, Int.reduceAdd, Int.reduceSub, Int.reduceMul, Int.reduceNeg, Int.reduceBEq, Int.reduceBNe, Int.reduceEq, eqCell, eqCells, binP, unP, convP, lenP, builtinP, sliceDataP, unsafeStringP, appendT, appendS, appendP, copyP, srcP, mmsP, mmP, indexOp, indexAddrOp, sliceOp, bndsP, bndP, capw, capCut, loadOp, storeOp, loadP, fieldOp, fieldAddrOp, arrayAtOp, buildP, buildSliceP, makeSliceP, placeF, fillP, setL, PK.agg, isZero, gt_iff_lt, Nat.reducePow, Nat.reduceGT, reps, seg, wkN, if_pos, if_neg, tf3, Try.ze3, tf5, Try.ze5, tf9, Try.ze9, tf21, Try.ze21, tf49, Try.ze49, tf57, Try.ze57, tf59, Try.ze59, tf61, Try.ze61, tf63, Try.ze63, tf65, Try.ze65, tf66, Try.ze66, tf67, Try.ze67, tf68, Try.ze68, tf70, Try.ze70, resP, resPs, resP1]; rfl) | rfl) ?_
      repeat' first
        | simp -implicitDefEqProofs (maxSteps := 400000) (disch := first | with_reducible rfl | omega | (simp only [h_n, PH.n_push, PH.n_put, List.length_cons, List.length_nil] <;> omega) | decide) only [wkAll, wkL, popO, wantedP, if_true, if_false, reduceIte, ne_eq, Nat.reduceAdd, Nat.reduceSub, Nat.reduceMul, Nat.reduceLeDiff, Nat.reduceLT, ofCells, ofCell, reduceCtorEq, Int.reduceLE, Int.reduceLT, Int.reduceToNat, Int.reduceAdd, Int.reduceSub, Int.reduceMul, Int.reduceNeg, Int.reduceBEq, Int.reduceBNe, Int.reduceEq, eqCell, eqCells, binP, unP, convP, lenP, builtinP, sliceDataP, unsafeStringP, appendT, appendS, appendP, copyP, srcP, mmsP, mmP, indexOp, indexAddrOp, sliceOp, bndsP, bndP, capw, capCut, loadOp, storeOp, loadP, fieldOp, fieldAddrOp, arrayAtOp, buildP, buildSliceP, makeSliceP, placeF, fillP, setL, PK.agg, isZero, gt_iff_lt, Nat.reducePow, Nat.reduceGT, reps, seg, wkN, if_pos, if_neg, tf3, Try.ze3, tf5, Try.ze5, tf9, Try.ze9, tf21, Try.ze21, tf27, Try.ze27, tf33, Try.ze33, tf44, Try.ze44, tf45, Try.ze45, tf49, Try.ze49, tf57, Try.ze57, tf59, Try.ze59, tf61, Try.ze61, tf63, Try.ze63, tf65, Try.ze65, tf66, Try.ze66, tf67, Try.ze67, tf68, Try.ze68, tf70, Try.ze70, hcr]
        | refine w_eff (rd _ _ (by rw [h_get0]; rfl)) ?_
        | refine w_dec (fun _ => ?_) (fun _ => ?_)
        | refine w_eqc (fun _ => ?_) (fun _ => ?_)
        | refine w_neqc (fun _ => ?_) (fun _ => ?_)
        | refine w_nneqc (fun _ => ?_) (fun _ => ?_)
        | ((first | refine w_split (fun h => ?_) (fun h => ?_) | refine d_split (fun h => ?_) (fun h => ?_) | refine w_csplit (fun h => ?_) (fun h => ?_)) <;> (try simp only [wkS] at h) <;> (have h2 := h) <;> (try simp only [wkT, ne_eq] at h2) <;> (try simp only [h]))
      refine w_growL 1 9 [.undef, .undef, .undef, .undef, .undef, .undef, .gsl (ph.n + 1) 1 0 [], .undef, .undef, .undef, .undef, .undef, .undef, .undef, .undef, .undef, .undef, .undef, .undef, .undef, .undef, .undef, .fsl 16 n (bytesPV w), .int .i64 n, .int .i64 0, .undef, .undef, .undef, .undef, .undef, .undef, .undef, .undef, .undef, .undef] [some (.own (ciC key true))] (by simp) (by simp [NilL]) (by simp [NilB]) ?_
      refine w_loopH (α := Nat) ph ph.ob ph.ty (fun i => [.undef, .undef, .undef, .undef, .undef, .undef, .gsl (ph.n + 1) 1 i (strsC (rksL w i)), .undef, .undef, .undef, .undef, .undef, .undef, .undef, .undef, .undef, .undef, .undef, .undef, .undef, .undef, .undef, .fsl 16 n (bytesPV w), .int .i64 n, .int .i64 i, .undef, .undef, .undef, .undef, .undef, .undef, .undef, .undef, .undef, .undef]) (fun i => [some (.own (ciC key true)), some (.grow 1 i 9)]) (fun i => i ≤ n) (fun i => n - i) 0 (by simp) (fun _ _ => by simp) (.eq (by simp [FadeTo, strsC, rksL]) rfl) ?_
      intro i hi K hK
      rcases Nat.lt_or_ge i n with hlt | hge
      · have hlt' : (i : Int) < (n : Int) := by omega
        obtain ⟨k, hkk⟩ : ∃ k, k = rkL w i := ⟨_, rfl⟩
        have hkl : k.length = 16 := by rw [hkk]; exact rk_len (by omega)
        have k1 : (List.drop (i * 16) (bytesPV w)).take 16 = bytesPV k := by rw [rk_cells, hkk]
        have k2 : 16 ≤ (List.drop (i * 16) (bytesPV w)).length := by rw [List.length_drop, bytesPV_len]; omega
        have k3 : ∀ c : List PV, c.length = 16 → setL c 0 (bytesPV k) = bytesPV k := fun c hc => setL_all _ _ (by rw [hc, bytesPV_len, hkl])
        have k4 : List.take 16 (bytesPV k) = bytesPV k := List.take_of_length_le (by rw [bytesPV_len]; omega)
        have k5 : strsC (rksL w (i + 1)) = strsC (rksL w i) ++ [.str k] := by rw [rksL_succ, hkk]; simp [strsC]
        repeat' first
          | simp -implicitDefEqProofs (maxSteps := 400000) (disch := first | with_reducible rfl | omega | (simp only [h_n, PH.n_push, PH.n_put, List.length_cons, List.length_nil] <;> omega) | decide) only [wkAll, wkL, popO, wantedP, if_true, if_false, reduceIte, ne_eq, Nat.reduceAdd, Nat.reduceSub, Nat.reduceMul, Nat.reduceLeDiff, Nat.reduceLT, ofCells, ofCell, reduceCtorEq, Int.reduceLE, Int.reduceLT, Int.reduceToNat, Int.reduceAdd, Int.reduceSub, Int.reduceMul, Int.reduceNeg, Int.reduceBEq, Int.reduceBNe, Int.reduceEq, eqCell, eqCells, binP, unP, convP, lenP, builtinP, sliceDataP, unsafeStringP, appendT, appendS, appendP, copyP, srcP, mmsP, mmP, indexOp, indexAddrOp, sliceOp, bndsP, bndP, capw, capCut, loadOp, storeOp, loadP, fieldOp, fieldAddrOp, arrayAtOp, buildP, buildSliceP, makeSliceP, placeF, fillP, setL, PK.agg, isZero, gt_iff_lt, Nat.reducePow, Nat.reduceGT, reps, seg, wkN, if_pos, if_neg, tf3, Try.ze3, tf5, Try.ze5, tf9, Try.ze9, tf21, Try.ze21, tf27, Try.ze27, tf33, Try.ze33, tf44, Try.ze44, tf45, Try.ze45, tf49, Try.ze49, tf57, Try.ze57, tf59, Try.ze59, tf61, Try.ze61, tf63, Try.ze63, tf65, Try.ze65, tf66, Try.ze66, tf67, Try.ze67, tf68, Try.ze68, tf70, Try.ze70, hlt', k1, k2, k3, k4, hkl, bytesPV_cok, bytesX_bytesPV, app_g]
          | refine w_dec (fun _ => ?_) (fun _ => ?_)
          | refine w_eqc (fun _ => ?_) (fun _ => ?_)
          | refine w_neqc (fun _ => ?_) (fun _ => ?_)
          | refine w_nneqc (fun _ => ?_) (fun _ => ?_)
          | ((first | refine w_split (fun h => ?_) (fun h => ?_) | refine d_split (fun h => ?_) (fun h => ?_) | refine w_csplit (fun h => ?_) (fun h => ?_)) <;> (try simp only [wkS] at h) <;> (have h2 := h) <;> (try simp only [wkT, ne_eq] at h2) <;> (try simp only [h]))
        refine hK (i + 1) _ _ (by omega) (by omega) (.cut [_, _] hW (by simp [FadeTo, k5]) (by rfl) (by simp [scs_cons, scs_nil, sc_ptr, sc_fsl, sc_gsl, sc_sl, sc_agg, sc_func, sc_int, sc_bool, sc_str, sc_undef, sc_nilptr, sc_nilsl, sc_yield, sc_tuple, sc_fptr, scs_bytes, scs_append, scs_bytes, scs_strs, ciC_scs]) (by simp [scs_cons, scs_nil, sc_ptr, sc_fsl, sc_gsl, sc_sl, sc_agg, sc_func, sc_int, sc_bool, sc_str, sc_undef, sc_nilptr, sc_nilsl, sc_yield, sc_tuple, sc_fptr, scs_bytes, scs_append, scs_bytes, scs_strs, ciC_scs]))
      · have hge' : ¬ (i : Int) < (n : Int) := by omega
        have : i = n := by omega
        subst this
        repeat' first
          | simp -implicitDefEqProofs (maxSteps := 400000) (disch := first | with_reducible rfl | omega | (simp only [h_n, PH.n_push, PH.n_put, List.length_cons, List.length_nil] <;> omega) | decide) only [wkAll, wkL, popO, wantedP, if_true, if_false, reduceIte, ne_eq, Nat.reduceAdd, Nat.reduceSub, Nat.reduceMul, Nat.reduceLeDiff, Nat.reduceLT, ofCells, ofCell, reduceCtorEq, Int.reduceLE, Int.reduceLT, Int.reduceToNat, Int.reduceAdd, Int.reduceSub, Int.reduceMul, Int.reduceNeg, Int.reduceBEq, Int.reduceBNe, Int.reduceEq, eqCell, eqCells, binP, unP, convP, lenP, builtinP, sliceDataP, unsafeStringP, appendT, appendS, appendP, copyP, srcP, mmsP, mmP, indexOp, indexAddrOp, sliceOp, bndsP, bndP, capw, capCut, loadOp, storeOp, loadP, fieldOp, fieldAddrOp, arrayAtOp, buildP, buildSliceP, makeSliceP, placeF, fillP, setL, PK.agg, isZero, gt_iff_lt, Nat.reducePow, Nat.reduceGT, reps, seg, wkN, if_pos, if_neg, tf3, Try.ze3, tf5, Try.ze5, tf9, Try.ze9, tf21, Try.ze21, tf27, Try.ze27, tf33, Try.ze33, tf44, Try.ze44, tf45, Try.ze45, tf49, Try.ze49, tf57, Try.ze57, tf59, Try.ze59, tf61, Try.ze61, tf63, Try.ze63, tf65, Try.ze65, tf66, Try.ze66, tf67, Try.ze67, tf68, Try.ze68, tf70, Try.ze70, hge']
          | refine w_dec (fun _ => ?_) (fun _ => ?_)
          | refine w_eqc (fun _ => ?_) (fun _ => ?_)
          | refine w_neqc (fun _ => ?_) (fun _ => ?_)
          | refine w_nneqc (fun _ => ?_) (fun _ => ?_)
          | ((first | refine w_split (fun h => ?_) (fun h => ?_) | refine d_split (fun h => ?_) (fun h => ?_) | refine w_csplit (fun h => ?_) (fun h => ?_)) <;> (try simp only [wkS] at h) <;> (have h2 := h) <;> (try simp only [wkT, ne_eq] at h2) <;> (try simp only [h]))
        refine hQ (by first | exact .inr rfl | exact .inl rfl) (by first | exact trivial | exact marks1) (by first | (simp -implicitDefEqProofs (maxSteps := 400000) (disch := first | with_reducible rfl | omega | (simp only [h_n, PH.n_push, PH.n_put, List.length_cons, List.length_nil] <;> omega) | decide) only [wkAll, wkL, popO, wantedP, if_true, if_false, reduceIte, ne_eq, Nat.reduceAdd, Nat.reduceSub, Nat.reduceMul, Nat.reduceLeDiff, Nat.reduceLT, ofCells, ofCell, reduceCtorEq, Int.reduceLE, Int.reduceLT, Int.reduceToNat, Int.reduceAdd, Int.reduceSub, Int.reduceMul, Int.reduceNeg, Int.reduceBEq, Int.reduceBNe, Int.reduceEq, eqCell, eqCells, binP, unP, convP, lenP, builtinP, sliceDataP, unsafeStringP, appendT, appendS, appendP, copyP, srcP, mmsP, mmP, indexOp, indexAddrOp, sliceOp, bndsP, bndP, capw, capCut, loadOp, storeOp, loadP, fieldOp, fieldAddrOp, arrayAtOp, buildP, buildSliceP, makeSliceP, placeF, fillP, setL, PK.agg, isZero, gt_iff_lt, Nat.reducePow, Nat.reduceGT, reps, seg, wkN, if_pos, if_neg, tf3, Try.ze3, tf5, Try.ze5, tf9, Try.ze9, tf21, Try.ze21, tf27, Try.ze27, tf33, Try.ze33, tf44, Try.ze44, tf45, Try.ze45, tf49, Try.ze49, tf57, Try.ze57, tf59, Try.ze59, tf61, Try.ze61, tf63, Try.ze63, tf65, Try.ze65, tf66, Try.ze66, tf67, Try.ze67, tf68, Try.ze68, tf70, Try.ze70, resP, resPs, resP1]; rfl) | rfl) ⟨6, by repeat' first | exact frz_scalar rfl | apply frz_tuple | apply frz_agg | apply frz_fsl | apply frz_gsl (by omega) | exact frzs_nil | apply frzs_cons | exact frzs_scalars (strsC_ok _)⟩ (by first | exact keepsH0 | exact keeps1 (by assumption) | exact keepsH (fun _ _ h => h) (fun p hp => by simp only [upF]; (repeat rw [if_neg (by omega)])) | exact keeps1t (by assumption) (fun p hp => by simp only [upF]; (repeat rw [if_neg (by omega)])) | (subst hT; exact keepsH (fun _ _ h => h) fun _ _ => rfl)) (nw_eq ?_)
        rw [rksL_len]
  · have e : keysR key = ([], 13) := by rw [keysR, if_neg hk]
    rw [e]
    obtain ⟨q1, q0⟩ := goodK_b hk
    refine fn_H ([Go.ResultVar.tmp 2, Go.ResultVar.tmp 3]) Try.func15 rfl rfl (by decide) fun ph hW Q hQ => ?_
    simp only [start, List.length_cons, List.length_nil, List.cons_append, List.nil_append, Nat.reduceAdd, Nat.reduceSub, List.replicate_succ, List.replicate_zero, Try.ntmps15]
    repeat' first
      | simp -implicitDefEqProofs (maxSteps := 400000) (disch := first | with_reducible rfl | omega | (simp only [h_n, PH.n_push, PH.n_put, List.length_cons, List.length_nil] <;> omega) | decide) only [wkAll, wkL, popO, wantedP, if_true, if_false, reduceIte, ne_eq, Nat.reduceAdd, Nat.reduceSub, Nat.reduceMul, Nat.reduceLeDiff, Nat.reduceLT, ofCells, ofCell, reduceCtorEq, Int.reduceLE, Int.reduceLT, Int.reduceToNat, Int.reduceAdd, Int.reduceSub, Int.reduceMul, Int.reduceNeg, Int.reduceBEq, Int.reduceBNe, Int.reduceEq, eqCell, eqCells, binP, unP, convP, lenP, builtinP, sliceDataP, unsafeStringP, appendT, appendS, appendP, copyP, srcP, mmsP, mmP, indexOp, indexAddrOp, sliceOp, bndsP, bndP, capw, capCut, loadOp, storeOp, loadP, fieldOp, fieldAddrOp, arrayAtOp, buildP, buildSliceP, makeSliceP, placeF, fillP, setL, PK.agg, isZero, gt_iff_lt, Nat.reducePow, Nat.reduceGT, reps, seg, wkN, if_pos, if_neg, tf3, Try.ze3, tf5, Try.ze5, tf9, Try.ze9, tf21, Try.ze21, tf27, Try.ze27, tf33, Try.ze33, tf44, Try.ze44, tf45, Try.ze45, tf49, Try.ze49, tf57, Try.ze57, tf59, Try.ze59, tf61, Try.ze61, tf63, Try.ze63, tf65, Try.ze65, tf66, Try.ze66, tf67, Try.ze67, tf68, Try.ze68, tf70, Try.ze70]
      | refine w_dec (fun _ => ?_) (fun _ => ?_)
      | refine w_eqc (fun _ => ?_) (fun _ => ?_)
      | refine w_neqc (fun _ => ?_) (fun _ => ?_)
      | refine w_nneqc (fun _ => ?_) (fun _ => ?_)
      | ((first | refine w_split (fun h => ?_) (fun h => ?_) | refine d_split (fun h => ?_) (fun h => ?_) | refine w_csplit (fun h => ?_) (fun h => ?_)) <;> (try simp only [wkS] at h) <;> (have h2 := h) <;> (try simp only [wkT, ne_eq] at h2) <;> (try simp only [h]))
    refine w_inl ([Go.ResultVar.tmp 4, Go.ResultVar.tmp 5]) Try.func23 rfl rfl (by decide) fun _ hI => ?_
    simp only [start, List.length_cons, List.length_nil, List.cons_append, List.nil_append, Nat.reduceAdd, Nat.reduceSub, List.replicate_succ, List.replicate_zero, Try.ntmps23]
    repeat' first
      | simp -implicitDefEqProofs (maxSteps := 400000) (disch := first | with_reducible rfl | omega | (simp only [h_n, PH.n_push, PH.n_put, List.length_cons, List.length_nil] <;> omega) | decide) only [wkAll, wkL, popO, wantedP, if_true, if_false, reduceIte, ne_eq, Nat.reduceAdd, Nat.reduceSub, Nat.reduceMul, Nat.reduceLeDiff, Nat.reduceLT, ofCells, ofCell, reduceCtorEq, Int.reduceLE, Int.reduceLT, Int.reduceToNat, Int.reduceAdd, Int.reduceSub, Int.reduceMul, Int.reduceNeg, Int.reduceBEq, Int.reduceBNe, Int.reduceEq, eqCell, eqCells, binP, unP, convP, lenP, builtinP, sliceDataP, unsafeStringP, appendT, appendS, appendP, copyP, srcP, mmsP, mmP, indexOp, indexAddrOp, sliceOp, bndsP, bndP, capw, capCut, loadOp, storeOp, loadP, fieldOp, fieldAddrOp, arrayAtOp, buildP, buildSliceP, makeSliceP, placeF, fillP, setL, PK.agg, isZero, gt_iff_lt, Nat.reducePow, Nat.reduceGT, reps, seg, wkN, if_pos, if_neg, tf3, Try.ze3, tf5, Try.ze5, tf9, Try.ze9, tf21, Try.ze21, tf49, Try.ze49, tf57, Try.ze57, tf59, Try.ze59, tf61, Try.ze61, tf63, Try.ze63, tf65, Try.ze65, tf66, Try.ze66, tf67, Try.ze67, tf68, Try.ze68, tf70, Try.ze70, q1, q0]
      | refine w_dec (fun _ => ?_) (fun _ => ?_)
      | refine w_eqc (fun _ => ?_) (fun _ => ?_)
      | refine w_neqc (fun _ => ?_) (fun _ => ?_)
      | refine w_nneqc (fun _ => ?_) (fun _ => ?_)
      | ((first | refine w_split (fun h => ?_) (fun h => ?_) | refine d_split (fun h => ?_) (fun h => ?_) | refine w_csplit (fun h => ?_) (fun h => ?_)) <;> (try simp only [wkS] at h) <;> (have h2 := h) <;> (try simp only [wkT, ne_eq] at h2) <;> (try simp only [h]))
    refine hI (by first | exact .inr rfl | exact .inl rfl) trivial (by first | (simp -implicitDefEqProofs (maxSteps := 400000) (disch := first | with_reducible rfl | omega | (simp only [h_n, PH.n_push, PH.n_put, List.length_cons, List.length_nil] <;> omega) | decide) only [wkAll, wkL, popO, wantedP, if_true, if_false, reduceIte, ne_eq, Nat.reduceAdd, Nat.reduceSub, Nat.reduceMul, Nat.reduceLeDiff, Nat.reduceLT, ofCells, ofCell, reduceCtorEq, Int.reduceLE, Int.reduceLT, Int.reduceToNat, Int.reduceAdd, Int.reduceSub, Int.reduceMul, Int.reduceNeg, Int.reduceBEq, Int.reduceBNe, Int.reduceEq, eqCell, eqCells, binP, unP, convP, lenP, builtinP, sliceDataP, unsafeStringP, appendT, appendS, appendP, copyP, srcP, mmsP, mmP, indexOp, indexAddrOp, sliceOp, bndsP, bndP, capw, capCut, loadOp, storeOp, loadP, fieldOp, fieldAddrOp, arrayAtOp, buildP, buildSliceP, makeSliceP, placeF, fillP, setL, PK.agg, isZero, gt_iff_lt, Nat.reducePow, Nat.reduceGT, reps, seg, wkN, if_pos, if_neg, tf3, Try.ze3, tf5, Try.ze5, tf9, Try.ze9, tf21, Try.ze21, tf49, Try.ze49, tf57, Try.ze57, tf59, Try.ze59, tf61, Try.ze61, tf63, Try.ze63, tf65, Try.ze65, tf66, Try.ze66, tf67, Try.ze67, tf68, Try.ze68, tf70, Try.ze70, resP, resPs, resP1]; rfl) | rfl) ?_
    repeat' first
      | simp -implicitDefEqProofs (maxSteps := 400000) (disch := first | with_reducible rfl | omega | (simp only [h_n, PH.n_push, PH.n_put, List.length_cons, List.length_nil] <;> omega) | decide) only [wkAll, wkL, popO, wantedP, if_true, if_false, reduceIte, ne_eq, Nat.reduceAdd, Nat.reduceSub, Nat.reduceMul, Nat.reduceLeDiff, Nat.reduceLT, ofCells, ofCell, reduceCtorEq, Int.reduceLE, Int.reduceLT, Int.reduceToNat, Int.reduceAdd, Int.reduceSub, Int.reduceMul, Int.reduceNeg, Int.reduceBEq, Int.reduceBNe, Int.reduceEq, eqCell, eqCells, binP, unP, convP, lenP, builtinP, sliceDataP, unsafeStringP, appendT, appendS, appendP, copyP, srcP, mmsP, mmP, indexOp, indexAddrOp, sliceOp, bndsP, bndP, capw, capCut, loadOp, storeOp, loadP, fieldOp, fieldAddrOp, arrayAtOp, buildP, buildSliceP, makeSliceP, placeF, fillP, setL, PK.agg, isZero, gt_iff_lt, Nat.reducePow, Nat.reduceGT, reps, seg, wkN, if_pos, if_neg, tf3, Try.ze3, tf5, Try.ze5, tf9, Try.ze9, tf21, Try.ze21, tf27, Try.ze27, tf33, Try.ze33, tf44, Try.ze44, tf45, Try.ze45, tf49, Try.ze49, tf57, Try.ze57, tf59, Try.ze59, tf61, Try.ze61, tf63, Try.ze63, tf65, Try.ze65, tf66, Try.ze66, tf67, Try.ze67, tf68, Try.ze68, tf70, Try.ze70]
      | refine w_dec (fun _ => ?_) (fun _ => ?_)
      | refine w_eqc (fun _ => ?_) (fun _ => ?_)
      | refine w_neqc (fun _ => ?_) (fun _ => ?_)
      | refine w_nneqc (fun _ => ?_) (fun _ => ?_)
      | ((first | refine w_split (fun h => ?_) (fun h => ?_) | refine d_split (fun h => ?_) (fun h => ?_) | refine w_csplit (fun h => ?_) (fun h => ?_)) <;> (try simp only [wkS] at h) <;> (have h2 := h) <;> (try simp only [wkT, ne_eq] at h2) <;> (try simp only [h]))
    refine hQ (by first | exact .inr rfl | exact .inl rfl) (by first | exact trivial | exact marks1) (by first | (simp -implicitDefEqProofs (maxSteps := 400000) (disch := first | with_reducible rfl | omega | (simp only [h_n, PH.n_push, PH.n_put, List.length_cons, List.length_nil] <;> omega) | decide) only [wkAll, wkL, popO, wantedP, if_true, if_false, reduceIte, ne_eq, Nat.reduceAdd, Nat.reduceSub, Nat.reduceMul, Nat.reduceLeDiff, Nat.reduceLT, ofCells, ofCell, reduceCtorEq, Int.reduceLE, Int.reduceLT, Int.reduceToNat, Int.reduceAdd, Int.reduceSub, Int.reduceMul, Int.reduceNeg, Int.reduceBEq, Int.reduceBNe, Int.reduceEq, eqCell, eqCells, binP, unP, convP, lenP, builtinP, sliceDataP, unsafeStringP, appendT, appendS, appendP, copyP, srcP, mmsP, mmP, indexOp, indexAddrOp, sliceOp, bndsP, bndP, capw, capCut, loadOp, storeOp, loadP, fieldOp, fieldAddrOp, arrayAtOp, buildP, buildSliceP, makeSliceP, placeF, fillP, setL, PK.agg, isZero, gt_iff_lt, Nat.reducePow, Nat.reduceGT, reps, seg, wkN, if_pos, if_neg, tf3, Try.ze3, tf5, Try.ze5, tf9, Try.ze9, tf21, Try.ze21, tf27, Try.ze27, tf33, Try.ze33, tf44, Try.ze44, tf45, Try.ze45, tf49, Try.ze49, tf57, Try.ze57, tf59, Try.ze59, tf61, Try.ze61, tf63, Try.ze63, tf65, Try.ze65, tf66, Try.ze66, tf67, Try.ze67, tf68, Try.ze68, tf70, Try.ze70, resP, resPs, resP1]; rfl) | rfl) ⟨6, by repeat' first | exact frz_scalar rfl | apply frz_tuple | apply frz_agg | apply frz_fsl | apply frz_gsl (by omega) | exact frzs_nil | apply frzs_cons⟩ (by first | exact keepsH0 | exact keeps1 (by assumption) | exact keepsH (fun _ _ h => h) (fun p hp => by simp only [upF]; (repeat rw [if_neg (by omega)])) | exact keeps1t (by assumption) (fun p hp => by simp only [upF]; (repeat rw [if_neg (by omega)])) | (subst hT; exact keepsH (fun _ _ h => h) fun _ _ => rfl)) ?_
    repeat' first | exact nw_nil | exact nw_zsl | apply nw_tuple | apply nw_agg | exact nws_nil | apply nws_cons | exact nw_eq rfl | apply nw_eq
end Pv

namespace Pv
set_option maxRecDepth 20000
set_option maxHeartbeats 4000000
open Go Go.Proofs Go.RowKit
variable {w0 : World}

end Pv

namespace Pv
open Go Go.RowKit

/-! ### What an argument reads as -/
inductive FK where
  | int (k : IntKind)
  | bool
  | str
  | sl (row : List FK)

mutual
inductive OkC : FK → PV → Prop
  | int (k : IntKind) (n : Int) (h : (Lit.int k n).wf = true) : OkC (.int k) (.int k n)
  | bool (b : Bool) : OkC .bool (.bool b)
  | str (l : List UInt8) (h : l.length ≤ maxLen) : OkC .str (.str l)
  | sl (row : List FK) (len : Nat) (cells : List PV) (h : len ≤ maxLen) (hc : OkR row len cells) : OkC (.sl row) (.fsl row.length len cells)
inductive OkL : List FK → List PV → Prop
  | nil : OkL [] []
  | cons (k : FK) (ks : List FK) (p : PV) (ps : List PV) (h : OkC k p) (hs : OkL ks ps) : OkL (k :: ks) (p :: ps)
inductive OkR : List FK → Nat → List PV → Prop
  | nil (row : List FK) : OkR row 0 []
  | cons (row : List FK) (n : Nat) (c r : List PV) (h : OkL row c) (hr : OkR row n r) : OkR row (n + 1) (c ++ r)
end

theorem OkL.length {ks : List FK} {ps : List PV} (h : OkL ks ps) : ps.length = ks.length := by
  induction ks generalizing ps with
  | nil => cases h; rfl
  | cons k ks ih => cases h with | cons _ _ _ _ _ hs => simp [ih hs]

theorem OkR.length {row : List FK} {n : Nat} {ps : List PV} (h : OkR row n ps) : ps.length = n * row.length := by
  induction n generalizing ps with
  | zero => cases h; simp
  | succ n ih => cases h with | cons _ _ c r hc hr => rw [List.length_append, ih hr, hc.length, Nat.succ_mul, Nat.add_comm]

theorem OkL.append {a b : List FK} {ps qs : List PV} (h : OkL a ps) (k : OkL b qs) : OkL (a ++ b) (ps ++ qs) := by
  induction a generalizing ps with
  | nil => cases h; exact k
  | cons x a ih => cases h with | cons _ _ _ _ h1 h2 => exact .cons _ _ _ _ h1 (ih h2)

/-- All that there was, as it is. -/
noncomputable def G0 (w : World) : Ghost := { l := [], f := fun a => if a.spot = none then w.cell? a else none }

def PH0 : PH := { bl := [], ob := fun _ => none }

theorem rel0 {P : Program} (w : World) : Rel ⟨P, w⟩ (G0 w) PH0 w := by
  refine ⟨rfl, .refl _ _, fun p c h => by simp [PH0, PH.get] at h, fun p q c d L M _ h => by simp [PH0, PH.get] at h, ?_, fun a v p c L _ h => by simp [PH0, PH.get] at h, fun r o h => by simp [PH0] at h, fun p e h => by simp [PH0] at h, ⟨fun p s t e h => by simp [PH0, PH.gro] at h, fun p q s t e s' t' e' a ra b rb _ h => by simp [PH0, PH.gro] at h, fun p m x h => by simp [G0] at h⟩⟩
  intro a v h
  simp only [G0] at h
  split at h
  · rename_i hs; exact ⟨hs, h⟩
  · cases h

section
variable {H : Type} {enc : TypeId × Value → H} {P : Program} {w : World} {base : Nat} {spare : Nat → Bool} {held : Bool}

end

section
variable {H : Type} {enc : TypeId × Value → H} {P : Program} {w : World} {spare : Nat → Bool} {held : Bool} {t : TypeId} {v : Value} {d : DataW H} {ps : List MemPlace} {base : Nat} {ks : List FK}

end

/-- From what the body does to what the row asks for. -/
theorem enter {P : Program} {f : FuncId} {args : List PV} {W : World} {rargs : List Value} {b : Bool} {fn : Func} (hf : P.funcs[f]? = some fn) (hb : fn.body.isSome = true) (hnm : (fn.name == "runtime.NumGoroutine") = false) (h : Fn ⟨P, W⟩ f args (.bool b)) (ha : RVs (G0 W) args rargs) :
    Calls P f rargs.toArray W fun e W' => e = .returned (.bool b) ∧ Below W.heap.size W W' := by
  have hp := h PH0 (G0 W) W rargs (rel0 W) ha
  have hent := run_enter (P := P) (w := W) (args := rargs.toArray) hf hb hnm
  rw [hent] at hp
  rcases hp with ⟨v, w', e, -⟩ | ⟨w', e, hc⟩
  · cases e
  · cases e
    refine Calls.mono hc fun e W' he => ?_
    cases e with
    | returned u =>
      obtain ⟨G', pv, ph', -, hr, hv, -, rfl, rfl⟩ := he
      refine ⟨?_, hr.below⟩
      cases hv; rfl
    | panicked _ => exact he.elim
    | outgrown => exact he.elim
end Pv

namespace Pv
open Go Go.RowKit
variable {H : Type} {enc : TypeId × Value → H} {P : Program} {w : World} {spare : Nat → Bool} {held : Bool} {t : TypeId} {v : Value} {d : DataW H} {ps : List MemPlace} {base : Nat}

/-- A text among the arguments, with the bound that the form itself gives. -/
theorem open_str2 {ts : List TypeId} {ds : List (DataW H)} (hu : P.underlying t = some .string) (hv : Value.okWide P w .any base t v) (h : DataW.Trod enc P w 0 spare held t v d ps) (hsz : (DataW.weightsEach P ts ds).all (· ≤ reachBytes) = true) {j : Nat} (ht : ts[j]? = some t) (hd : ds[j]? = some d) :
    ∃ l, l.length < 2 ^ 47 ∧ RV (G0 w) (.str l) v := by
  obtain ⟨fuel, hf⟩ := h
  obtain ⟨s, rfl⟩ := Go.WideShapes.okWide_string hu hv
  obtain ⟨s', e1, e2, -⟩ := DataW.trod_string hu hf
  have e3 : s = s' := by simpa [Value.cells] using e1
  subst e3
  cases e2
  have := sized_string hsz ht hd
  exact ⟨s.data.toList, by have := reachBytes_lt; omega, .str _ _ rfl⟩
end Pv

namespace Pv
open Go Go.RowKit

section
variable {H : Type} {enc : TypeId × Value → H} {P : Program} {w : World} {spare : Nat → Bool} {held : Bool} {t : TypeId} {v : Value} {d : DataW H} {ps : List MemPlace} {base : Nat} {ks : List FK}
end

end Pv

namespace Pv
set_option maxRecDepth 20000
set_option maxHeartbeats 4000000
open Go Go.Proofs Go.RowKit
variable {w0 : World}

theorem exK_at : ∀ i : Fin 16, exK[i.val]? = some (UInt8.ofNat i.val) ∧ exB[i.val]? = some (UInt8.ofNat (17 * i.val)) := by decide
theorem take_next {α : Type} {l : List α} {i : Nat} {x : α} (h : l[i]? = some x) : l.take (i + 1) = l.take i ++ [x] := by rw [List.take_add_one, h]; rfl
theorem awake08_ok : Fn (Cx w0) 12 [] (.bool true) := by
  have en := encrypt_ok (w0 := w0) exK exB (by decide)
  have e1 : encR exK exB = ([0x69, 0xc4, 0xe0, 0xd8, 0x6a, 0x7b, 0x04, 0x30, 0xd8, 0xcd, 0xb7, 0x80, 0x70, 0xb4, 0xc5, 0x5a], 0) := by
    rw [encR, blockR, if_neg (by simp [goodK, exK]), if_neg (by simp [exB]), aes_ex]
  rw [e1] at en
  have su := sub8_ok (w0 := w0) 0
  rw [show sbox 0 = 99 by decide +kernel] at su
  have ti := times8_ok (w0 := w0) 2 128
  rw [show gm 2 128 = 27 by decide +kernel] at ti
  have su' : Fn (Cx w0) 10 [.int .u8 0] (.int .u8 99) := su
  have ti' : Fn (Cx w0) 8 [.int .u8 2, .int .u8 128] (.int .u8 27) := ti
  refine fn_H ([Go.ResultVar.tmp 0]) Try.func12 rfl rfl (by decide) fun ph hW Q hQ => ?_
  simp only [start, List.length_cons, List.length_nil, List.cons_append, List.nil_append, Nat.reduceAdd, Nat.reduceSub, List.replicate_succ, List.replicate_zero, Try.ntmps12]
  repeat' first
    | simp -implicitDefEqProofs (maxSteps := 400000) (disch := first | with_reducible rfl | omega | (simp only [h_n, PH.n_push, PH.n_put, List.length_cons, List.length_nil] <;> omega) | decide) only [wkAll, wkL, popO, wantedP, if_true, if_false, reduceIte, ne_eq, Nat.reduceAdd, Nat.reduceSub, Nat.reduceMul, Nat.reduceLeDiff, Nat.reduceLT, ofCells, ofCell, reduceCtorEq, Int.reduceLE, Int.reduceLT, Int.reduceToNat, Int.reduceAdd, Int.reduceSub, Int.reduceMul, Int.reduceNeg, Int.reduceBEq, Int.reduceBNe, Int.reduceEq, eqCell, eqCells, binP, unP, convP, lenP, builtinP, sliceDataP, unsafeStringP, appendT, appendS, appendP, copyP, srcP, mmsP, mmP, indexOp, indexAddrOp, sliceOp, bndsP, bndP, capw, capCut, loadOp, storeOp, loadP, fieldOp, fieldAddrOp, arrayAtOp, buildP, buildSliceP, makeSliceP, placeF, fillP, setL, PK.agg, isZero, gt_iff_lt, Nat.reducePow, Nat.reduceGT, reps, seg, wkN, if_pos, if_neg, tf3, Try.ze3, tf5, Try.ze5, tf9, Try.ze9, tf27, Try.ze27, tf44, Try.ze44]
    | refine w_dec (fun _ => ?_) (fun _ => ?_)
    | refine w_eqc (fun _ => ?_) (fun _ => ?_)
    | refine w_neqc (fun _ => ?_) (fun _ => ?_)
    | refine w_nneqc (fun _ => ?_) (fun _ => ?_)
    | ((first | refine w_split (fun h => ?_) (fun h => ?_) | refine d_split (fun h => ?_) (fun h => ?_) | refine w_csplit (fun h => ?_) (fun h => ?_)) <;> (try simp only [wkS] at h) <;> (have h2 := h) <;> (try simp only [wkT, ne_eq] at h2) <;> (try simp only [h]))
  refine w_loopH (α := Nat) ph ph.ob ph.ty (fun i => [.undef, .str (exK.take i), .str (exB.take i), .undef, .undef, .undef, .int .i64 i, .undef, .undef, .undef, .undef, .undef, .undef, .undef, .undef, .undef, .undef, .undef, .undef, .undef, .undef, .undef, .undef, .undef, .undef, .undef, .undef, .undef, .undef, .undef, .undef, .undef, .undef, .undef, .undef, .undef, .undef, .undef, .undef, .undef, .undef, .undef, .undef]) (fun i => []) (fun i => i ≤ 16) (fun i => 16 - i) 0 (by simp) (fun _ _ => by simp) (.eq (by simp [FadeTo]) rfl) ?_
  intro i hi K hK
  rcases Nat.lt_or_ge i 16 with hlt | hge
  · have hlt' : (i : Int) < 16 := by omega
    obtain ⟨h1, h2⟩ := exK_at ⟨i, hlt⟩
    simp only at h1 h2
    have n1 := take_next h1
    have n2 := take_next h2
    obtain ⟨x, hx⟩ : ∃ x, x = UInt8.ofNat i := ⟨_, rfl⟩
    obtain ⟨y, hy⟩ : ∃ y, y = UInt8.ofNat (17 * i) := ⟨_, rfl⟩
    rw [← hx] at n1
    rw [← hy] at n2
    have w1 : IntKind.wrap .u8 (i : Int) = (x.toNat : Int) := by rw [wrap_u8n, hx]
    have w3 : (17 : Int) * (i : Int) = ((17 * i : Nat) : Int) := by omega
    have w2 : IntKind.wrap .u8 ((17 * i : Nat) : Int) = (y.toNat : Int) := by rw [wrap_u8n, hy]
    have bx : ∀ b : UInt8, bytesX [PV.int .u8 (b.toNat : Int)] = some [b] := fun b => bytesX_bytesPV [b]
    have l1 : (exK.take i).length = i := by rw [List.length_take]; simp [exK]; omega
    have l2 : (exB.take i).length = i := by rw [List.length_take]; simp [exB]; omega
    repeat' first
      | simp -implicitDefEqProofs (maxSteps := 400000) (disch := first | with_reducible rfl | omega | (simp only [h_n, PH.n_push, PH.n_put, List.length_cons, List.length_nil] <;> omega) | decide) only [wkAll, wkL, popO, wantedP, if_true, if_false, reduceIte, ne_eq, Nat.reduceAdd, Nat.reduceSub, Nat.reduceMul, Nat.reduceLeDiff, Nat.reduceLT, ofCells, ofCell, reduceCtorEq, Int.reduceLE, Int.reduceLT, Int.reduceToNat, Int.reduceAdd, Int.reduceSub, Int.reduceMul, Int.reduceNeg, Int.reduceBEq, Int.reduceBNe, Int.reduceEq, eqCell, eqCells, binP, unP, convP, lenP, builtinP, sliceDataP, unsafeStringP, appendT, appendS, appendP, copyP, srcP, mmsP, mmP, indexOp, indexAddrOp, sliceOp, bndsP, bndP, capw, capCut, loadOp, storeOp, loadP, fieldOp, fieldAddrOp, arrayAtOp, buildP, buildSliceP, makeSliceP, placeF, fillP, setL, PK.agg, isZero, gt_iff_lt, Nat.reducePow, Nat.reduceGT, reps, seg, wkN, if_pos, if_neg, tf3, Try.ze3, tf5, Try.ze5, tf9, Try.ze9, tf27, Try.ze27, tf44, Try.ze44, hlt', w1, w2, w3, bx, l1, l2]
      | refine w_dec (fun _ => ?_) (fun _ => ?_)
      | refine w_eqc (fun _ => ?_) (fun _ => ?_)
      | refine w_neqc (fun _ => ?_) (fun _ => ?_)
      | refine w_nneqc (fun _ => ?_) (fun _ => ?_)
      | ((first | refine w_split (fun h => ?_) (fun h => ?_) | refine d_split (fun h => ?_) (fun h => ?_) | refine w_csplit (fun h => ?_) (fun h => ?_)) <;> (try simp only [wkS] at h) <;> (have h2 := h) <;> (try simp only [wkT, ne_eq] at h2) <;> (try simp only [h]))
    refine hK (i + 1) _ _ (by omega) (by omega) (.cut [_, _] hW (by simp [FadeTo, n1, n2]) (by rfl) (by simp [scs_cons, scs_nil, sc_ptr, sc_fsl, sc_gsl, sc_sl, sc_agg, sc_func, sc_int, sc_bool, sc_str, sc_undef, sc_nilptr, sc_nilsl, sc_yield, sc_tuple, sc_fptr, scs_bytes, scs_append]) (by simp [scs_cons, scs_nil, sc_ptr, sc_fsl, sc_gsl, sc_sl, sc_agg, sc_func, sc_int, sc_bool, sc_str, sc_undef, sc_nilptr, sc_nilsl, sc_yield, sc_tuple, sc_fptr, scs_bytes, scs_append]))
  · have hge' : ¬ (i : Int) < 16 := by omega
    have : i = 16 := by omega
    subst this
    rw [show exK.take 16 = exK from rfl, show exB.take 16 = exB from rfl]
    repeat' first
      | simp -implicitDefEqProofs (maxSteps := 400000) (disch := first | with_reducible rfl | omega | (simp only [h_n, PH.n_push, PH.n_put, List.length_cons, List.length_nil] <;> omega) | decide) only [wkAll, wkL, popO, wantedP, if_true, if_false, reduceIte, ne_eq, Nat.reduceAdd, Nat.reduceSub, Nat.reduceMul, Nat.reduceLeDiff, Nat.reduceLT, ofCells, ofCell, reduceCtorEq, Int.reduceLE, Int.reduceLT, Int.reduceToNat, Int.reduceAdd, Int.reduceSub, Int.reduceMul, Int.reduceNeg, Int.reduceBEq, Int.reduceBNe, Int.reduceEq, eqCell, eqCells, binP, unP, convP, lenP, builtinP, sliceDataP, unsafeStringP, appendT, appendS, appendP, copyP, srcP, mmsP, mmP, indexOp, indexAddrOp, sliceOp, bndsP, bndP, capw, capCut, loadOp, storeOp, loadP, fieldOp, fieldAddrOp, arrayAtOp, buildP, buildSliceP, makeSliceP, placeF, fillP, setL, PK.agg, isZero, gt_iff_lt, Nat.reducePow, Nat.reduceGT, reps, seg, wkN, if_pos, if_neg, tf3, Try.ze3, tf5, Try.ze5, tf9, Try.ze9, tf27, Try.ze27, tf44, Try.ze44, hge']
      | refine w_pure (en) ?_
      | refine w_pure (su') ?_
      | refine w_pure (ti') ?_
      | refine w_dec (fun _ => ?_) (fun _ => ?_)
      | refine w_eqc (fun _ => ?_) (fun _ => ?_)
      | refine w_neqc (fun _ => ?_) (fun _ => ?_)
      | refine w_nneqc (fun _ => ?_) (fun _ => ?_)
      | ((first | refine w_split (fun h => ?_) (fun h => ?_) | refine d_split (fun h => ?_) (fun h => ?_) | refine w_csplit (fun h => ?_) (fun h => ?_)) <;> (try simp only [wkS] at h) <;> (have h2 := h) <;> (try simp only [wkT, ne_eq] at h2) <;> (try simp only [h]))
    refine hQ (by first | exact .inr rfl | exact .inl rfl) (by first | exact trivial | exact marks1) (by first | (simp -implicitDefEqProofs (maxSteps := 400000) (disch := first | with_reducible rfl | omega | (simp only [h_n, PH.n_push, PH.n_put, List.length_cons, List.length_nil] <;> omega) | decide) only [wkAll, wkL, popO, wantedP, if_true, if_false, reduceIte, ne_eq, Nat.reduceAdd, Nat.reduceSub, Nat.reduceMul, Nat.reduceLeDiff, Nat.reduceLT, ofCells, ofCell, reduceCtorEq, Int.reduceLE, Int.reduceLT, Int.reduceToNat, Int.reduceAdd, Int.reduceSub, Int.reduceMul, Int.reduceNeg, Int.reduceBEq, Int.reduceBNe, Int.reduceEq, eqCell, eqCells, binP, unP, convP, lenP, builtinP, sliceDataP, unsafeStringP, appendT, appendS, appendP, copyP, srcP, mmsP, mmP, indexOp, indexAddrOp, sliceOp, bndsP, bndP, capw, capCut, loadOp, storeOp, loadP, fieldOp, fieldAddrOp, arrayAtOp, buildP, buildSliceP, makeSliceP, placeF, fillP, setL, PK.agg, isZero, gt_iff_lt, Nat.reducePow, Nat.reduceGT, reps, seg, wkN, if_pos, if_neg, tf3, Try.ze3, tf5, Try.ze5, tf9, Try.ze9, tf27, Try.ze27, tf44, Try.ze44, resP, resPs, resP1]; rfl) | rfl) ⟨6, by repeat' first | exact frz_scalar rfl | apply frz_tuple | apply frz_agg | apply frz_fsl | apply frz_gsl (by omega) | exact frzs_nil | apply frzs_cons⟩ (by first | exact keepsH0 | exact keeps1 (by assumption) | exact keepsH (fun _ _ h => h) (fun p hp => by simp only [upF]; (repeat rw [if_neg (by omega)])) | exact keeps1t (by assumption) (fun p hp => by simp only [upF]; (repeat rw [if_neg (by omega)])) | (subst hT; exact keepsH (fun _ _ h => h) fun _ _ => rfl)) (nw_eq ?_)
    rfl

end Pv

namespace Pv
set_option maxRecDepth 20000
set_option maxHeartbeats 4000000
open Go Go.Proofs Go.RowKit
variable {w0 : World}

end Pv
