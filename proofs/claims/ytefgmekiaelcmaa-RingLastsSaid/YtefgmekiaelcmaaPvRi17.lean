/- Part of the proof: the layer of pure values, or walks through functions (PvRi17). -/
import Derived.Test.YtefgmekiaelcmaaPvRi15
import Derived.Test.YtefgmekiaelcmaaPvRi16
set_option linter.all false
namespace Pv
set_option maxRecDepth 20000
set_option maxHeartbeats 4000000
open Go Go.Proofs Go.RowKit
theorem RingLasts_ok (W : World) (c0 : List PV) (o0 : OkL [.sl [.int .u32, .str, .int .i64], .int .u32] c0) (key : List UInt8) (hkey : key.length < 2 ^ 47) (now : Int) (hn : (Lit.int .i64 now).wf = true) (old : List UInt8) (hold : old.length < 2 ^ 47) (cut : Int) (hcut : (Lit.int .i64 cut).wf = true) (window : Int) (hw : (Lit.int .i64 window).wf = true) :
    Fn (Cx W) 7 [.agg c0, .str key, .int .i64 now, .str old, .int .i64 cut, .int .i64 window] (.bool true) := by
  obtain ⟨L, nx, hL, hB, rfl⟩ := okL_ring o0
  have aw := awake24_ok (w0 := W)
  have hmx : maxLen = 9223372036854775807 := rfl
  have hkl : ∀ k ∈ L, k.key.length < 2 ^ 63 := fun k hk => by have := (hB k hk).1; omega
  have ft := refFit24_ok (w0 := W) L nx (by omega) hkl
  cases hf : fitG L nx
  · rw [hf] at ft
    simp only [rgC] at *
    refine fn_H ([Go.ResultVar.tmp 12]) Try.func7 rfl rfl (by decide) fun ph hW Q hQ => ?_
    simp only [start, List.length_cons, List.length_nil, List.cons_append, List.nil_append, Nat.reduceAdd, Nat.reduceSub, List.replicate_succ, List.replicate_zero, Try.ntmps7]
    repeat' first
      | simp -implicitDefEqProofs (maxSteps := 400000) (disch := first | with_reducible rfl | omega | (simp only [h_n, PH.n_push, PH.n_put, List.length_cons, List.length_nil] <;> omega) | decide) only [wkAll, wkL, popO, wantedP, if_true, if_false, reduceIte, ne_eq, Nat.reduceAdd, Nat.reduceSub, Nat.reduceMul, Nat.reduceLeDiff, Nat.reduceLT, ofCells, ofCell, reduceCtorEq, Int.reduceLE, Int.reduceLT, Int.reduceToNat, Int.reduceAdd, Int.reduceSub, Int.reduceMul, Int.reduceNeg, Int.reduceBEq, Int.reduceBNe, Int.reduceEq, eqCell, eqCells, binP, unP, convP, lenP, builtinP, sliceDataP, unsafeStringP, appendT, appendS, appendP, copyP, srcP, mmsP, mmP, indexOp, indexAddrOp, sliceOp, bndsP, bndP, capw, capCut, loadOp, storeOp, loadP, fieldOp, fieldAddrOp, arrayAtOp, buildP, buildSliceP, makeSliceP, placeF, fillP, setL, PK.agg, isZero, gt_iff_lt, Nat.reducePow, Nat.reduceGT, reps, seg, wkN, if_pos, if_neg, tf2, Try.ze2, tf3, Try.ze3, tf4, Try.ze4, tf9, Try.ze9, tf22, Try.ze22, tf23, Try.ze23, tf25, Try.ze25, tf27, Try.ze27, tf44, Try.ze44, tf52, Try.ze52]
      | refine w_pure (ft) ?_
      | refine w_pure (aw) ?_
      | refine w_dec (fun _ => ?_) (fun _ => ?_)
      | refine w_eqc (fun _ => ?_) (fun _ => ?_)
      | refine w_neqc (fun _ => ?_) (fun _ => ?_)
      | refine w_nneqc (fun _ => ?_) (fun _ => ?_)
      | ((first | refine w_split (fun h => ?_) (fun h => ?_) | refine d_split (fun h => ?_) (fun h => ?_) | refine w_csplit (fun h => ?_) (fun h => ?_)) <;> (try simp only [wkS] at h) <;> (have h2 := h) <;> (try simp only [wkT, ne_eq] at h2) <;> (try simp only [h]))
    refine hQ (by first | exact .inr rfl | exact .inl rfl) (by first | exact trivial | exact marks1) (by first | (simp -implicitDefEqProofs (maxSteps := 400000) (disch := first | with_reducible rfl | omega | (simp only [h_n, PH.n_push, PH.n_put, List.length_cons, List.length_nil] <;> omega) | decide) only [wkAll, wkL, popO, wantedP, if_true, if_false, reduceIte, ne_eq, Nat.reduceAdd, Nat.reduceSub, Nat.reduceMul, Nat.reduceLeDiff, Nat.reduceLT, ofCells, ofCell, reduceCtorEq, Int.reduceLE, Int.reduceLT, Int.reduceToNat, Int.reduceAdd, Int.reduceSub, Int.reduceMul, Int.reduceNeg, Int.reduceBEq, Int.reduceBNe, Int.reduceEq, eqCell, eqCells, binP, unP, convP, lenP, builtinP, sliceDataP, unsafeStringP, appendT, appendS, appendP, copyP, srcP, mmsP, mmP, indexOp, indexAddrOp, sliceOp, bndsP, bndP, capw, capCut, loadOp, storeOp, loadP, fieldOp, fieldAddrOp, arrayAtOp, buildP, buildSliceP, makeSliceP, placeF, fillP, setL, PK.agg, isZero, gt_iff_lt, Nat.reducePow, Nat.reduceGT, reps, seg, wkN, if_pos, if_neg, tf2, Try.ze2, tf3, Try.ze3, tf4, Try.ze4, tf9, Try.ze9, tf22, Try.ze22, tf23, Try.ze23, tf25, Try.ze25, tf27, Try.ze27, tf44, Try.ze44, tf52, Try.ze52, resP, resPs, resP1]; rfl) | rfl) ⟨6, by repeat' first | exact frz_scalar rfl | apply frz_tuple | apply frz_agg | apply frz_fsl | apply frz_gsl (by omega) | exact frzs_nil | apply frzs_cons⟩ (by first | exact keepsH0 | exact keeps1 (by assumption) | exact keepsH (fun _ _ h => h) (fun p hp => by simp only [upF]; (repeat rw [if_neg (by omega)])) | exact keeps1t (by assumption) (fun p hp => by simp only [upF]; (repeat rw [if_neg (by omega)])) | (subst hT; exact keepsH (fun _ _ h => h) fun _ _ => rfl)) (nw_eq ?_)
    rfl
  rw [hf] at ft
  by_cases g1 : 2000 < old.length
  · have q1 : (2000 : Int) < (old.length : Int) := by omega
    simp only [rgC] at *
    refine fn_H ([Go.ResultVar.tmp 12]) Try.func7 rfl rfl (by decide) fun ph hW Q hQ => ?_
    simp only [start, List.length_cons, List.length_nil, List.cons_append, List.nil_append, Nat.reduceAdd, Nat.reduceSub, List.replicate_succ, List.replicate_zero, Try.ntmps7]
    repeat' first
      | simp -implicitDefEqProofs (maxSteps := 400000) (disch := first | with_reducible rfl | omega | (simp only [h_n, PH.n_push, PH.n_put, List.length_cons, List.length_nil] <;> omega) | decide) only [wkAll, wkL, popO, wantedP, if_true, if_false, reduceIte, ne_eq, Nat.reduceAdd, Nat.reduceSub, Nat.reduceMul, Nat.reduceLeDiff, Nat.reduceLT, ofCells, ofCell, reduceCtorEq, Int.reduceLE, Int.reduceLT, Int.reduceToNat, Int.reduceAdd, Int.reduceSub, Int.reduceMul, Int.reduceNeg, Int.reduceBEq, Int.reduceBNe, Int.reduceEq, eqCell, eqCells, binP, unP, convP, lenP, builtinP, sliceDataP, unsafeStringP, appendT, appendS, appendP, copyP, srcP, mmsP, mmP, indexOp, indexAddrOp, sliceOp, bndsP, bndP, capw, capCut, loadOp, storeOp, loadP, fieldOp, fieldAddrOp, arrayAtOp, buildP, buildSliceP, makeSliceP, placeF, fillP, setL, PK.agg, isZero, gt_iff_lt, Nat.reducePow, Nat.reduceGT, reps, seg, wkN, if_pos, if_neg, tf2, Try.ze2, tf3, Try.ze3, tf4, Try.ze4, tf9, Try.ze9, tf22, Try.ze22, tf23, Try.ze23, tf25, Try.ze25, tf27, Try.ze27, tf44, Try.ze44, tf52, Try.ze52, gt_iff_lt, q1]
      | refine w_pure (ft) ?_
      | refine w_pure (aw) ?_
      | refine w_dec (fun _ => ?_) (fun _ => ?_)
      | refine w_eqc (fun _ => ?_) (fun _ => ?_)
      | refine w_neqc (fun _ => ?_) (fun _ => ?_)
      | refine w_nneqc (fun _ => ?_) (fun _ => ?_)
      | ((first | refine w_split (fun h => ?_) (fun h => ?_) | refine d_split (fun h => ?_) (fun h => ?_) | refine w_csplit (fun h => ?_) (fun h => ?_)) <;> (try simp only [wkS] at h) <;> (have h2 := h) <;> (try simp only [wkT, ne_eq] at h2) <;> (try simp only [h]))
    refine hQ (by first | exact .inr rfl | exact .inl rfl) (by first | exact trivial | exact marks1) (by first | (simp -implicitDefEqProofs (maxSteps := 400000) (disch := first | with_reducible rfl | omega | (simp only [h_n, PH.n_push, PH.n_put, List.length_cons, List.length_nil] <;> omega) | decide) only [wkAll, wkL, popO, wantedP, if_true, if_false, reduceIte, ne_eq, Nat.reduceAdd, Nat.reduceSub, Nat.reduceMul, Nat.reduceLeDiff, Nat.reduceLT, ofCells, ofCell, reduceCtorEq, Int.reduceLE, Int.reduceLT, Int.reduceToNat, Int.reduceAdd, Int.reduceSub, Int.reduceMul, Int.reduceNeg, Int.reduceBEq, Int.reduceBNe, Int.reduceEq, eqCell, eqCells, binP, unP, convP, lenP, builtinP, sliceDataP, unsafeStringP, appendT, appendS, appendP, copyP, srcP, mmsP, mmP, indexOp, indexAddrOp, sliceOp, bndsP, bndP, capw, capCut, loadOp, storeOp, loadP, fieldOp, fieldAddrOp, arrayAtOp, buildP, buildSliceP, makeSliceP, placeF, fillP, setL, PK.agg, isZero, gt_iff_lt, Nat.reducePow, Nat.reduceGT, reps, seg, wkN, if_pos, if_neg, tf2, Try.ze2, tf3, Try.ze3, tf4, Try.ze4, tf9, Try.ze9, tf22, Try.ze22, tf23, Try.ze23, tf25, Try.ze25, tf27, Try.ze27, tf44, Try.ze44, tf52, Try.ze52, resP, resPs, resP1]; rfl) | rfl) ⟨6, by repeat' first | exact frz_scalar rfl | apply frz_tuple | apply frz_agg | apply frz_fsl | apply frz_gsl (by omega) | exact frzs_nil | apply frzs_cons⟩ (by first | exact keepsH0 | exact keeps1 (by assumption) | exact keepsH (fun _ _ h => h) (fun p hp => by simp only [upF]; (repeat rw [if_neg (by omega)])) | exact keeps1t (by assumption) (fun p hp => by simp only [upF]; (repeat rw [if_neg (by omega)])) | (subst hT; exact keepsH (fun _ _ h => h) fun _ _ => rfl)) (nw_eq ?_)
    rfl
  have g1' : ¬ (2000 : Int) < (old.length : Int) := by omega
  obtain ⟨f1, f2, fP⟩ := (fitG_iffP L nx).1 hf
  have r1 := rotate_ok (w0 := W) L nx key now (by omega) f2
  have e1 := enc24_ok (w0 := W) L nx (by omega) hkl
  have eL : encG L nx = (encB L nx ++ shaOf (encB L nx), 0) := by rw [encG, if_pos hf]
  have dL := dec_enc hf fun k hk => (hB k hk).2
  obtain ⟨A, hA⟩ : ∃ A, A = encB L nx ++ shaOf (encB L nx) := ⟨_, rfl⟩
  have lA : A.length < 1000 := by rw [hA, List.length_append, encB_len fP.keys, of_len]; omega
  rw [← hA] at eL
  rw [eL] at e1 dL
  have rc := rotG_cases L nx key now
  obtain ⟨g, hg⟩ : ∃ g, rotG L nx key now = g := ⟨_, rfl⟩
  rw [hg] at r1 rc
  obtain ⟨⟨Q', ny⟩, e⟩ := g
  simp only at r1 rc
  rcases rc with ⟨he, heq⟩ | ⟨he, heq, hk, hmade⟩
  · simp only [Prod.mk.injEq] at heq
    obtain ⟨rfl, rfl⟩ := heq
    have q1 : (e != 0) = true := by rw [bne_iff_ne]; exact he
    simp only [rgC] at *
    refine fn_H ([Go.ResultVar.tmp 12]) Try.func7 rfl rfl (by decide) fun ph hW Q hQ => ?_
    simp only [start, List.length_cons, List.length_nil, List.cons_append, List.nil_append, Nat.reduceAdd, Nat.reduceSub, List.replicate_succ, List.replicate_zero, Try.ntmps7]
    repeat' first
      | simp -implicitDefEqProofs (maxSteps := 400000) (disch := first | with_reducible rfl | omega | (simp only [h_n, PH.n_push, PH.n_put, List.length_cons, List.length_nil] <;> omega) | decide) only [wkAll, wkL, popO, wantedP, if_true, if_false, reduceIte, ne_eq, Nat.reduceAdd, Nat.reduceSub, Nat.reduceMul, Nat.reduceLeDiff, Nat.reduceLT, ofCells, ofCell, reduceCtorEq, Int.reduceLE, Int.reduceLT, Int.reduceToNat, Int.reduceAdd, Int.reduceSub, Int.reduceMul, Int.reduceNeg, Int.reduceBEq, Int.reduceBNe, Int.reduceEq, eqCell, eqCells, binP, unP, convP, lenP, builtinP, sliceDataP, unsafeStringP, appendT, appendS, appendP, copyP, srcP, mmsP, mmP, indexOp, indexAddrOp, sliceOp, bndsP, bndP, capw, capCut, loadOp, storeOp, loadP, fieldOp, fieldAddrOp, arrayAtOp, buildP, buildSliceP, makeSliceP, placeF, fillP, setL, PK.agg, isZero, gt_iff_lt, Nat.reducePow, Nat.reduceGT, reps, seg, wkN, if_pos, if_neg, tf2, Try.ze2, tf3, Try.ze3, tf4, Try.ze4, tf9, Try.ze9, tf22, Try.ze22, tf23, Try.ze23, tf25, Try.ze25, tf27, Try.ze27, tf44, Try.ze44, tf52, Try.ze52, gt_iff_lt, g1', q1]
      | refine w_pure (ft) ?_
      | refine w_pure (r1) ?_
      | refine w_pure (e1) ?_
      | refine w_pure (aw) ?_
      | refine w_dec (fun _ => ?_) (fun _ => ?_)
      | refine w_eqc (fun _ => ?_) (fun _ => ?_)
      | refine w_neqc (fun _ => ?_) (fun _ => ?_)
      | refine w_nneqc (fun _ => ?_) (fun _ => ?_)
      | ((first | refine w_split (fun h => ?_) (fun h => ?_) | refine d_split (fun h => ?_) (fun h => ?_) | refine w_csplit (fun h => ?_) (fun h => ?_)) <;> (try simp only [wkS] at h) <;> (have h2 := h) <;> (try simp only [wkT, ne_eq] at h2) <;> (try simp only [h]))
    refine hQ (by first | exact .inr rfl | exact .inl rfl) (by first | exact trivial | exact marks1) (by first | (simp -implicitDefEqProofs (maxSteps := 400000) (disch := first | with_reducible rfl | omega | (simp only [h_n, PH.n_push, PH.n_put, List.length_cons, List.length_nil] <;> omega) | decide) only [wkAll, wkL, popO, wantedP, if_true, if_false, reduceIte, ne_eq, Nat.reduceAdd, Nat.reduceSub, Nat.reduceMul, Nat.reduceLeDiff, Nat.reduceLT, ofCells, ofCell, reduceCtorEq, Int.reduceLE, Int.reduceLT, Int.reduceToNat, Int.reduceAdd, Int.reduceSub, Int.reduceMul, Int.reduceNeg, Int.reduceBEq, Int.reduceBNe, Int.reduceEq, eqCell, eqCells, binP, unP, convP, lenP, builtinP, sliceDataP, unsafeStringP, appendT, appendS, appendP, copyP, srcP, mmsP, mmP, indexOp, indexAddrOp, sliceOp, bndsP, bndP, capw, capCut, loadOp, storeOp, loadP, fieldOp, fieldAddrOp, arrayAtOp, buildP, buildSliceP, makeSliceP, placeF, fillP, setL, PK.agg, isZero, gt_iff_lt, Nat.reducePow, Nat.reduceGT, reps, seg, wkN, if_pos, if_neg, tf2, Try.ze2, tf3, Try.ze3, tf4, Try.ze4, tf9, Try.ze9, tf22, Try.ze22, tf23, Try.ze23, tf25, Try.ze25, tf27, Try.ze27, tf44, Try.ze44, tf52, Try.ze52, resP, resPs, resP1]; rfl) | rfl) ⟨6, by repeat' first | exact frz_scalar rfl | apply frz_tuple | apply frz_agg | apply frz_fsl | apply frz_gsl (by omega) | exact frzs_nil | apply frzs_cons⟩ (by first | exact keepsH0 | exact keeps1 (by assumption) | exact keepsH (fun _ _ h => h) (fun p hp => by simp only [upF]; (repeat rw [if_neg (by omega)])) | exact keeps1t (by assumption) (fun p hp => by simp only [upF]; (repeat rw [if_neg (by omega)])) | (subst hT; exact keepsH (fun _ _ h => h) fun _ _ => rfl)) (nw_eq ?_)
    rfl
  simp only [Prod.mk.injEq] at heq
  obtain ⟨hQ', rfl⟩ := heq
  subst he
  obtain ⟨d, hd⟩ : ∃ d, d = L.length + 1 - 8 := ⟨_, rfl⟩
  rw [← hd] at hQ'
  have hQl : Q'.length = L.length + 1 - d := by rw [hQ', List.length_drop, List.length_append, List.length_singleton]
  have hQP : FitP Q' (nx + 1) := by rw [hQ']; exact (fP.snoc (by omega) hk hmade).drop d
  have hin : ∀ i k, d ≤ i → L[i]? = some k → Q'[i - d]? = some k := fun i k h1 h2 => by
    rw [hQ', List.getElem?_drop, show d + (i - d) = i by omega, List.getElem?_append_left (List.getElem?_eq_some_iff.1 h2).1]; exact h2
  have hQB : ∀ k ∈ Q', mB k := fun k hk => by
    rw [hQ'] at hk
    rcases List.mem_append.1 (List.mem_of_mem_drop hk) with h | h
    · exact (hB k h).2
    · rw [List.mem_singleton] at h; subst h; exact wf_i64b hn
  have hQf : fitG Q' (nx + 1) = true := (fitG_iffP Q' (nx + 1)).2 ⟨by omega, by omega, hQP⟩
  have hkq : ∀ k ∈ Q', k.key.length < 2 ^ 63 := fun k hk => by have := hQP.keys k hk; omega
  have eQ : encG Q' (nx + 1) = (encB Q' (nx + 1) ++ shaOf (encB Q' (nx + 1)), 0) := by rw [encG, if_pos hQf]
  have dQ := dec_enc hQf hQB
  obtain ⟨B, hB2⟩ : ∃ B, B = encB Q' (nx + 1) ++ shaOf (encB Q' (nx + 1)) := ⟨_, rfl⟩
  have lB : B.length < 1000 := by rw [hB2, List.length_append, encB_len hQP.keys, of_len]; omega
  rw [← hB2] at eQ
  rw [eQ] at dQ
  have rcQ : ∀ t, decG t = ((Q', nx + 1), 0) → recG A t = ((Q', nx + 1), 0) := fun t ht => by
    rw [recG, ht, dL, recX, if_pos ⟨rfl, .inr (by show (nx + 1 - nx).toNat < _; rw [next_sub]; decide)⟩]
  have rcL : ∀ t, (decG t).2 ≠ 0 → recG A t = ((L, nx), 0) := fun t ht => by
    rw [recG, dL, recX, if_neg fun h => ht h.1]
  obtain ⟨C, hC, hC2⟩ := wrap_u64_nat cut
  obtain ⟨k, hkk⟩ : ∃ k, k = C % (B.length + 1) := ⟨_, rfl⟩
  obtain ⟨torn, hto⟩ : ∃ torn, (k : Int) < old.length ∧ B.take k ++ old.drop k = torn ∨ ¬ (k : Int) < old.length ∧ B.take k = torn := by
    by_cases h : (k : Int) < old.length
    · exact ⟨_, .inl ⟨h, rfl⟩⟩
    · exact ⟨_, .inr ⟨h, rfl⟩⟩
  have R : RLast L nx key now old cut window Q' A B torn C k := ⟨wf_i64b hn, (wf_i64b hw).2, fun k hk => ⟨hkl k hk, (hB k hk).2⟩, hf, g1', hg, by omega, by omega, hkq, eL, eQ, lA, lB, hC, hkk, hto, rcQ B dQ⟩
  by_cases ht : torn = B
  · have a1 : ((decG torn).2 == 0) = true := by rw [ht, dQ]; rfl
    have a3 : (torn == B) = true := by rw [ht]; simp
    have a4 : (decide (nx + 1 = nx) && decide (Q' = L)) = false := by simp [next_ne]
    have a5 : (decide (nx + 1 = nx + 1) && decide (Q' = Q')) = true := by simp
    have a6 : recG A torn = ((Q', nx + 1), 0) := rcQ torn (by rw [ht]; exact dQ)
    rcases hto with ⟨k1, k2⟩ | ⟨k1, k2⟩
    · exact rl_11 W R k1 k2 Q' (nx + 1) a6 a1 a3 a4 a5 hQP (by omega) (by omega) hQB fun i k h0 h1 => ⟨i - d, hin i k (by omega) h1⟩
    · exact rl_01 W R k1 k2 Q' (nx + 1) a6 a1 a3 a4 a5 hQP (by omega) (by omega) hQB fun i k h0 h1 => ⟨i - d, hin i k (by omega) h1⟩
  · by_cases hz : (decG torn).2 = 0
    · exact rl_torn W R hz ht
    · have a1 : ((decG torn).2 == 0) = false := beq_eq_false_iff_ne.2 hz
      have a3 : (torn == B) = false := beq_eq_false_iff_ne.2 ht
      have a4 : (decide (nx = nx) && decide (L = L)) = true := by simp
      rcases hto with ⟨k1, k2⟩ | ⟨k1, k2⟩
      · exact rl_12 W R k1 k2 L nx (rcL torn hz) a1 a3 a4 fP (by omega) (by omega) (fun k hk => (hB k hk).2) fun i k h0 h1 => ⟨i, h1⟩
      · exact rl_02 W R k1 k2 L nx (rcL torn hz) a1 a3 a4 fP (by omega) (by omega) (fun k hk => (hB k hk).2) fun i k h0 h1 => ⟨i, h1⟩
end Pv
