/- Part of the proof: the layer of pure values, or walks through functions (PvSv8, PvGd2, PvSd3). -/
import Derived.Test.YtbocckencbkdeaaGreatPvEntry
import Derived.Test.YtbocckencbkdeaaGreatPvAe21
import Derived.Test.YtbocckencbkdeaaGreatPvSd2
set_option linter.all false
--nosplit
--keep2
namespace Pv
set_option maxRecDepth 20000
set_option maxHeartbeats 4000000
open Go Go.Proofs Go.RowKit
variable {w0 : World}

theorem few10_2 {a b : List UInt8} (h : few10 [a, b] = true) : a.length ≤ 600 ∧ b.length ≤ 600 := by
  rw [few10, Bool.and_eq_true] at h
  simpa using h.1
theorem few10_le {L : List (List UInt8)} (h : few10 L = true) : ∀ s ∈ L, s.length ≤ 600 := by
  rw [few10, Bool.and_eq_true, List.all_eq_true] at h
  intro s hs
  simpa using h.1 s hs
theorem few10_n {L : List (List UInt8)} (h : few10 L = true) : L.length < 200 := by
  rw [few10, Bool.and_eq_true] at h
  have := h.2
  simp at this
  omega
end Pv

--nosplit
--keep2
namespace Pv
set_option maxRecDepth 20000
set_option maxHeartbeats 4000000
open Go Go.Proofs Go.RowKit
variable {w0 : World}

theorem wrap_u64_ex (n : Int) : ∃ c : Nat, IntKind.wrap .u64 n = (c : Int) ∧ c < 2 ^ 64 := by
  have : 0 ≤ IntKind.wrap .u64 n ∧ IntKind.wrap .u64 n < 18446744073709551616 := by simp [IntKind.wrap, IntKind.bits, IntKind.signed]; omega
  exact ⟨(IntKind.wrap .u64 n).toNat, by omega, by omega⟩
end Pv

--nosplit
--keep2
namespace Pv
set_option maxRecDepth 20000
set_option maxHeartbeats 4000000
open Go Go.Proofs Go.RowKit
variable {w0 : World}

theorem sivTurned_ok (W : World) (key : List UInt8) (ad : List (List UInt8)) (had0 : ad.length ≤ 9223372036854775807) (s : List UInt8) (at_ : Int) (bb : UInt8) : Fn (Cx W) 7 [.str key, .fsl 1 ad.length (ad.map PV.str), .str s, .int .i64 at_, .int .u8 (bb.toNat : Int)] (.bool true) := by
  have aw := awake10_ok (w0 := W)
  have hsh := short10_ok (w0 := W) [key, s] (by simp)
  have hsh2 := short10_ok (w0 := W) ad had0
  cases hv : few10 [key, s]
  · rw [hv] at hsh
    refine fn_H ([Go.ResultVar.tmp 10]) Tryz.func7 rfl rfl (by decide) fun ph hW Q hQ => ?_
    simp only [start, List.length_cons, List.length_nil, List.cons_append, List.nil_append, Nat.reduceAdd, Nat.reduceSub, List.replicate_succ, List.replicate_zero, Tryz.ntmps7]
    repeat' first | simp -implicitDefEqProofs (maxSteps := 400000) (disch := first | with_reducible rfl | omega | (simp only [wkH] <;> omega) | decide) only [wkAll, wkL, popO, wantedP, if_true, if_false, reduceIte, ne_eq, Nat.reduceAdd, Nat.reduceSub, Nat.reduceMul, Nat.reduceLeDiff, Nat.reduceLT, ofCells, ofCell, reduceCtorEq, Int.reduceLE, Int.reduceLT, Int.reduceToNat, Int.reduceAdd, Int.reduceSub, Int.reduceMul, Int.reduceNeg, Int.reduceBEq, Int.reduceBNe, Int.reduceEq, eqCell, eqCells, binP, unP, convP, lenP, builtinP, sliceDataP, unsafeStringP, appendT, appendS, appendP, copyP, srcP, mmsP, mmP, indexOp, indexAddrOp, sliceOp, bndsP, bndP, capw, capCut, loadOp, storeOp, loadP, fieldOp, fieldAddrOp, arrayAtOp, buildP, buildSliceP, makeSliceP, placeF, fillP, setL, PK.agg, isZero, gt_iff_lt, Nat.reducePow, Nat.reduceGT, reps, seg, wkN, if_pos, if_neg, tf3, Tryz.ze3, tf4, Tryz.ze4, tf5, Tryz.ze5, tf9, Tryz.ze9, tf24, Tryz.ze24, tf30, Tryz.ze30, tf31, Tryz.ze31, tf33, Tryz.ze33]
    refine w_frz (p := ph.n) (cells := [.str key, .str s]) (args' := [.fsl 1 2 [.str key, .str s]]) (by rw [h_get0]; rfl) ⟨.inr ⟨0, 1, 2, some 2, rfl, rfl, by simp⟩, trivial⟩ ?_
    refine w_pure hsh ?_
    repeat' first | simp -implicitDefEqProofs (maxSteps := 400000) (disch := first | with_reducible rfl | omega | (simp only [wkH] <;> omega) | decide) only [wkAll, wkL, popO, wantedP, if_true, if_false, reduceIte, ne_eq, Nat.reduceAdd, Nat.reduceSub, Nat.reduceMul, Nat.reduceLeDiff, Nat.reduceLT, ofCells, ofCell, reduceCtorEq, Int.reduceLE, Int.reduceLT, Int.reduceToNat, Int.reduceAdd, Int.reduceSub, Int.reduceMul, Int.reduceNeg, Int.reduceBEq, Int.reduceBNe, Int.reduceEq, eqCell, eqCells, binP, unP, convP, lenP, builtinP, sliceDataP, unsafeStringP, appendT, appendS, appendP, copyP, srcP, mmsP, mmP, indexOp, indexAddrOp, sliceOp, bndsP, bndP, capw, capCut, loadOp, storeOp, loadP, fieldOp, fieldAddrOp, arrayAtOp, buildP, buildSliceP, makeSliceP, placeF, fillP, setL, PK.agg, isZero, gt_iff_lt, Nat.reducePow, Nat.reduceGT, reps, seg, wkN, if_pos, if_neg, tf3, Tryz.ze3, tf4, Tryz.ze4, tf5, Tryz.ze5, tf9, Tryz.ze9, tf24, Tryz.ze24, tf30, Tryz.ze30, tf31, Tryz.ze31, tf33, Tryz.ze33] | refine w_pure (aw) ?_
    refine hQ (by first | exact .inr rfl | exact .inl rfl) (by first | exact trivial | exact marks1) (by first | (simp -implicitDefEqProofs (maxSteps := 400000) (disch := first | with_reducible rfl | omega | (simp only [wkH] <;> omega) | decide) only [wkAll, wkL, popO, wantedP, if_true, if_false, reduceIte, ne_eq, Nat.reduceAdd, Nat.reduceSub, Nat.reduceMul, Nat.reduceLeDiff, Nat.reduceLT, ofCells, ofCell, reduceCtorEq, Int.reduceLE, Int.reduceLT, Int.reduceToNat, Int.reduceAdd, Int.reduceSub, Int.reduceMul, Int.reduceNeg, Int.reduceBEq, Int.reduceBNe, Int.reduceEq, eqCell, eqCells, loadOp, storeOp, loadP, setL, PK.agg, isZero, gt_iff_lt, Nat.reducePow, Nat.reduceGT, reps, seg, wkN, if_pos, if_neg, tf3, Tryz.ze3, tf4, Tryz.ze4, tf5, Tryz.ze5, tf9, Tryz.ze9, tf24, Tryz.ze24, tf30, Tryz.ze30, tf31, Tryz.ze31, tf33, Tryz.ze33, resP, resPs, resP1]; rfl) | rfl) ⟨6, by repeat' first | exact frz_scalar rfl | apply frz_tuple | apply frz_agg | apply frz_fsl | apply frz_gsl (by omega) | exact frzs_nil | apply frzs_cons⟩ (by first | exact keepsH0 | exact keeps1 (by assumption)) (nw_eq ?_)
    rfl
  · rw [hv] at hsh
    cases hv2 : few10 ad
    · rw [hv2] at hsh2
      refine fn_H ([Go.ResultVar.tmp 10]) Tryz.func7 rfl rfl (by decide) fun ph hW Q hQ => ?_
      simp only [start, List.length_cons, List.length_nil, List.cons_append, List.nil_append, Nat.reduceAdd, Nat.reduceSub, List.replicate_succ, List.replicate_zero, Tryz.ntmps7]
      repeat' first | simp -implicitDefEqProofs (maxSteps := 400000) (disch := first | with_reducible rfl | omega | (simp only [wkH] <;> omega) | decide) only [wkAll, wkL, popO, wantedP, if_true, if_false, reduceIte, ne_eq, Nat.reduceAdd, Nat.reduceSub, Nat.reduceMul, Nat.reduceLeDiff, Nat.reduceLT, ofCells, ofCell, reduceCtorEq, Int.reduceLE, Int.reduceLT, Int.reduceToNat, Int.reduceAdd, Int.reduceSub, Int.reduceMul, Int.reduceNeg, Int.reduceBEq, Int.reduceBNe, Int.reduceEq, eqCell, eqCells, binP, unP, convP, lenP, builtinP, sliceDataP, unsafeStringP, appendT, appendS, appendP, copyP, srcP, mmsP, mmP, indexOp, indexAddrOp, sliceOp, bndsP, bndP, capw, capCut, loadOp, storeOp, loadP, fieldOp, fieldAddrOp, arrayAtOp, buildP, buildSliceP, makeSliceP, placeF, fillP, setL, PK.agg, isZero, gt_iff_lt, Nat.reducePow, Nat.reduceGT, reps, seg, wkN, if_pos, if_neg, tf3, Tryz.ze3, tf4, Tryz.ze4, tf5, Tryz.ze5, tf9, Tryz.ze9, tf24, Tryz.ze24, tf30, Tryz.ze30, tf31, Tryz.ze31, tf33, Tryz.ze33]
      refine w_frz (p := ph.n) (cells := [.str key, .str s]) (args' := [.fsl 1 2 [.str key, .str s]]) (by rw [h_get0]; rfl) ⟨.inr ⟨0, 1, 2, some 2, rfl, rfl, by simp⟩, trivial⟩ ?_
      refine w_pure hsh ?_
      repeat' first | simp -implicitDefEqProofs (maxSteps := 400000) (disch := first | with_reducible rfl | omega | (simp only [wkH] <;> omega) | decide) only [wkAll, wkL, popO, wantedP, if_true, if_false, reduceIte, ne_eq, Nat.reduceAdd, Nat.reduceSub, Nat.reduceMul, Nat.reduceLeDiff, Nat.reduceLT, ofCells, ofCell, reduceCtorEq, Int.reduceLE, Int.reduceLT, Int.reduceToNat, Int.reduceAdd, Int.reduceSub, Int.reduceMul, Int.reduceNeg, Int.reduceBEq, Int.reduceBNe, Int.reduceEq, eqCell, eqCells, binP, unP, convP, lenP, builtinP, sliceDataP, unsafeStringP, appendT, appendS, appendP, copyP, srcP, mmsP, mmP, indexOp, indexAddrOp, sliceOp, bndsP, bndP, capw, capCut, loadOp, storeOp, loadP, fieldOp, fieldAddrOp, arrayAtOp, buildP, buildSliceP, makeSliceP, placeF, fillP, setL, PK.agg, isZero, gt_iff_lt, Nat.reducePow, Nat.reduceGT, reps, seg, wkN, if_pos, if_neg, tf3, Tryz.ze3, tf4, Tryz.ze4, tf5, Tryz.ze5, tf9, Tryz.ze9, tf24, Tryz.ze24, tf30, Tryz.ze30, tf31, Tryz.ze31, tf33, Tryz.ze33] | refine w_pure (hsh2) ?_ | refine w_pure (aw) ?_
      refine hQ (by first | exact .inr rfl | exact .inl rfl) (by first | exact trivial | exact marks1) (by first | (simp -implicitDefEqProofs (maxSteps := 400000) (disch := first | with_reducible rfl | omega | (simp only [wkH] <;> omega) | decide) only [wkAll, wkL, popO, wantedP, if_true, if_false, reduceIte, ne_eq, Nat.reduceAdd, Nat.reduceSub, Nat.reduceMul, Nat.reduceLeDiff, Nat.reduceLT, ofCells, ofCell, reduceCtorEq, Int.reduceLE, Int.reduceLT, Int.reduceToNat, Int.reduceAdd, Int.reduceSub, Int.reduceMul, Int.reduceNeg, Int.reduceBEq, Int.reduceBNe, Int.reduceEq, eqCell, eqCells, loadOp, storeOp, loadP, setL, PK.agg, isZero, gt_iff_lt, Nat.reducePow, Nat.reduceGT, reps, seg, wkN, if_pos, if_neg, tf3, Tryz.ze3, tf4, Tryz.ze4, tf5, Tryz.ze5, tf9, Tryz.ze9, tf24, Tryz.ze24, tf30, Tryz.ze30, tf31, Tryz.ze31, tf33, Tryz.ze33, resP, resPs, resP1]; rfl) | rfl) ⟨6, by repeat' first | exact frz_scalar rfl | apply frz_tuple | apply frz_agg | apply frz_fsl | apply frz_gsl (by omega) | exact frzs_nil | apply frzs_cons⟩ (by first | exact keepsH0 | exact keeps1 (by assumption)) (nw_eq ?_)
      rfl
    · rw [hv2] at hsh2
      obtain ⟨h1, h2⟩ := few10_2 hv
      have h3 := few10_le hv2
      have hadn := few10_n hv2
      have had : ad.length < 2 ^ 40 := by omega
      have h3' : ∀ t ∈ ad, t.length < 2 ^ 39 := fun t ht => by have := h3 t ht; omega

      have e1 := sivSeal_ok (w0 := W) key ad s h3' had (by omega)
      have hse := sealS_e key ad s
      by_cases hg : goodS key ∧ ad.length ≤ 126
      · obtain ⟨hk, hn⟩ := hg
        obtain ⟨hos, hol⟩ := openS_sealS hk hn (s := s) (by omega)
        have hs0 : (sealS key ad s).2 = 0 := hse.2 ⟨hk, hn, by omega⟩
        obtain ⟨c, hc, hcl⟩ := wrap_u64_ex at_
        generalize hS : sealS key ad s = r at *
        obtain ⟨u, e⟩ := r
        simp only at hs0 hos hol e1
        subst hs0
        obtain ⟨n, hn0⟩ : ∃ n, n = u.length := ⟨_, rfl⟩
        have hn1 : 16 ≤ n := by omega
        have hn2 : n ≤ 1016 := by omega
        have w1 : IntKind.wrap .u64 (n : Int) = n := IntWalk.u64_in _ (by omega)
        have w2 : Int.tmod (c : Int) (n : Int) = ((c % n : Nat) : Int) := tmodN c n (by omega)
        obtain ⟨k, hkk⟩ : ∃ k, k = c % n := ⟨_, rfl⟩
        have hkn : k < n := by rw [hkk]; exact Nat.mod_lt _ (by omega)
        rw [← hkk] at w2
        have w3 : IntKind.wrap .i64 (k : Int) = k := IntWalk.i64_in _ (by omega)
        have w4 : ¬ (n : Int) = 0 := by omega
        have w5 : (k : Int) < (n : Int) := by omega
        have w6 : ¬ (n : Int) < 16 := by omega
        obtain ⟨x, hx⟩ := get_someW (show k < u.length by omega)
        have hu'l : (u.set k (x ^^^ bb)).length = n := by rw [List.length_set, hn0]
        have e2 := sivOpen_ok (w0 := W) key ad (u.set k (x ^^^ bb)) h3' had (by omega)
        have e3 := refOpen10_ok (w0 := W) key ad (u.set k (x ^^^ bb)) h3' (by omega)
        have hb0 : bb = 0 → openS key ad (u.set k (x ^^^ bb)) = (s, 0) := by
          rintro rfl
          rw [UInt8.xor_zero, show u.set k x = u by
            apply List.ext_getElem?; intro t; rw [List.getElem?_set]; split
            · rename_i e; subst e; rw [hx, if_pos (by omega)]
            · rfl, hos]
        have qb := ne0_u8 bb
        rw [show strsC ad = ad.map PV.str from rfl] at e1 e2 e3
        generalize ad.map PV.str = C at *
        generalize openS key ad (u.set k (x ^^^ bb)) = r at *
        generalize hU : u.set k (x ^^^ bb) = u' at *
        have k4 : List.take n (bytesPV u') = bytesPV u' := List.take_of_length_le (by rw [bytesPV_len]; omega)
        clear hS hos hse
        by_cases hbb : bb = 0
        · rw [hb0 hbb] at e2 e3
          rw [decide_eq_false (by simpa using hbb)] at qb
          refine fn_H ([Go.ResultVar.tmp 10]) Tryz.func7 rfl rfl (by decide) fun ph hW Q hQ => ?_
          simp only [start, List.length_cons, List.length_nil, List.cons_append, List.nil_append, Nat.reduceAdd, Nat.reduceSub, List.replicate_succ, List.replicate_zero, Tryz.ntmps7]
          repeat' first | simp -implicitDefEqProofs (maxSteps := 400000) (disch := first | with_reducible rfl | omega | (simp only [wkH] <;> omega) | decide) only [wkAll, wkL, popO, wantedP, if_true, if_false, reduceIte, ne_eq, Nat.reduceAdd, Nat.reduceSub, Nat.reduceMul, Nat.reduceLeDiff, Nat.reduceLT, ofCells, ofCell, reduceCtorEq, Int.reduceLE, Int.reduceLT, Int.reduceToNat, Int.reduceAdd, Int.reduceSub, Int.reduceMul, Int.reduceNeg, Int.reduceBEq, Int.reduceBNe, Int.reduceEq, eqCell, eqCells, binP, unP, convP, lenP, builtinP, sliceDataP, unsafeStringP, appendT, appendS, appendP, copyP, srcP, mmsP, mmP, indexOp, indexAddrOp, sliceOp, bndsP, bndP, capw, capCut, loadOp, storeOp, loadP, fieldOp, fieldAddrOp, arrayAtOp, buildP, buildSliceP, makeSliceP, placeF, fillP, setL, PK.agg, isZero, gt_iff_lt, Nat.reducePow, Nat.reduceGT, reps, seg, wkN, if_pos, if_neg, tf3, Tryz.ze3, tf4, Tryz.ze4, tf5, Tryz.ze5, tf9, Tryz.ze9, tf24, Tryz.ze24, tf30, Tryz.ze30, tf31, Tryz.ze31, tf33, Tryz.ze33]
          refine w_frz (p := ph.n) (cells := [.str key, .str s]) (args' := [.fsl 1 2 [.str key, .str s]]) (by rw [h_get0]; rfl) ⟨.inr ⟨0, 1, 2, some 2, rfl, rfl, by simp⟩, trivial⟩ ?_
          refine w_pure hsh ?_
          repeat' first | simp -implicitDefEqProofs (maxSteps := 400000) (disch := first | with_reducible rfl | omega | (simp only [wkH] <;> omega) | decide) only [wkAll, wkL, popO, wantedP, if_true, if_false, reduceIte, ne_eq, Nat.reduceAdd, Nat.reduceSub, Nat.reduceMul, Nat.reduceLeDiff, Nat.reduceLT, ofCells, ofCell, reduceCtorEq, Int.reduceLE, Int.reduceLT, Int.reduceToNat, Int.reduceAdd, Int.reduceSub, Int.reduceMul, Int.reduceNeg, Int.reduceBEq, Int.reduceBNe, Int.reduceEq, eqCell, eqCells, binP, unP, convP, lenP, builtinP, sliceDataP, unsafeStringP, appendT, appendS, appendP, copyP, srcP, mmsP, mmP, indexOp, indexAddrOp, sliceOp, bndsP, bndP, capw, capCut, loadOp, storeOp, loadP, fieldOp, fieldAddrOp, arrayAtOp, buildP, buildSliceP, makeSliceP, placeF, fillP, setL, PK.agg, isZero, gt_iff_lt, Nat.reducePow, Nat.reduceGT, reps, seg, wkN, if_pos, if_neg, tf3, Tryz.ze3, tf4, Tryz.ze4, tf5, Tryz.ze5, tf9, Tryz.ze9, tf24, Tryz.ze24, tf30, Tryz.ze30, tf31, Tryz.ze31, tf33, Tryz.ze33, beq_self_eq_true, ← hn0, hc, w1, w2, w3, w4, w5, w6, hx, xor_u8, bytesPV_set, hU, k4, hu'l, bytesX_bytesPV, qb] | refine w_pure (hsh2) ?_ | refine w_pure (e1) ?_ | refine w_pure (e2) ?_ | refine w_pure (e3) ?_ | refine w_pure (aw) ?_
          refine hQ (by first | exact .inr rfl | exact .inl rfl) (by first | exact trivial | exact marks1) (by first | (simp -implicitDefEqProofs (maxSteps := 400000) (disch := first | with_reducible rfl | omega | (simp only [wkH] <;> omega) | decide) only [wkAll, wkL, popO, wantedP, if_true, if_false, reduceIte, ne_eq, Nat.reduceAdd, Nat.reduceSub, Nat.reduceMul, Nat.reduceLeDiff, Nat.reduceLT, ofCells, ofCell, reduceCtorEq, Int.reduceLE, Int.reduceLT, Int.reduceToNat, Int.reduceAdd, Int.reduceSub, Int.reduceMul, Int.reduceNeg, Int.reduceBEq, Int.reduceBNe, Int.reduceEq, eqCell, eqCells, loadOp, storeOp, loadP, setL, PK.agg, isZero, gt_iff_lt, Nat.reducePow, Nat.reduceGT, reps, seg, wkN, if_pos, if_neg, tf3, Tryz.ze3, tf4, Tryz.ze4, tf5, Tryz.ze5, tf9, Tryz.ze9, tf24, Tryz.ze24, tf30, Tryz.ze30, tf31, Tryz.ze31, tf33, Tryz.ze33, resP, resPs, resP1]; rfl) | rfl) ⟨6, by repeat' first | exact frz_scalar rfl | apply frz_tuple | apply frz_agg | apply frz_fsl | apply frz_gsl (by omega) | exact frzs_nil | apply frzs_cons⟩ (by first | exact keepsH0 | exact keeps1 (by assumption)) (nw_eq ?_)
          rfl
        · obtain ⟨v, f⟩ := r
          rw [decide_eq_true hbb] at qb
          refine fn_H ([Go.ResultVar.tmp 10]) Tryz.func7 rfl rfl (by decide) fun ph hW Q hQ => ?_
          simp only [start, List.length_cons, List.length_nil, List.cons_append, List.nil_append, Nat.reduceAdd, Nat.reduceSub, List.replicate_succ, List.replicate_zero, Tryz.ntmps7]
          repeat' first | simp -implicitDefEqProofs (maxSteps := 400000) (disch := first | with_reducible rfl | omega | (simp only [wkH] <;> omega) | decide) only [wkAll, wkL, popO, wantedP, if_true, if_false, reduceIte, ne_eq, Nat.reduceAdd, Nat.reduceSub, Nat.reduceMul, Nat.reduceLeDiff, Nat.reduceLT, ofCells, ofCell, reduceCtorEq, Int.reduceLE, Int.reduceLT, Int.reduceToNat, Int.reduceAdd, Int.reduceSub, Int.reduceMul, Int.reduceNeg, Int.reduceBEq, Int.reduceBNe, Int.reduceEq, eqCell, eqCells, binP, unP, convP, lenP, builtinP, sliceDataP, unsafeStringP, appendT, appendS, appendP, copyP, srcP, mmsP, mmP, indexOp, indexAddrOp, sliceOp, bndsP, bndP, capw, capCut, loadOp, storeOp, loadP, fieldOp, fieldAddrOp, arrayAtOp, buildP, buildSliceP, makeSliceP, placeF, fillP, setL, PK.agg, isZero, gt_iff_lt, Nat.reducePow, Nat.reduceGT, reps, seg, wkN, if_pos, if_neg, tf3, Tryz.ze3, tf4, Tryz.ze4, tf5, Tryz.ze5, tf9, Tryz.ze9, tf24, Tryz.ze24, tf30, Tryz.ze30, tf31, Tryz.ze31, tf33, Tryz.ze33]
          refine w_frz (p := ph.n) (cells := [.str key, .str s]) (args' := [.fsl 1 2 [.str key, .str s]]) (by rw [h_get0]; rfl) ⟨.inr ⟨0, 1, 2, some 2, rfl, rfl, by simp⟩, trivial⟩ ?_
          refine w_pure hsh ?_
          repeat' first | simp -implicitDefEqProofs (maxSteps := 400000) (disch := first | with_reducible rfl | omega | (simp only [wkH] <;> omega) | decide) only [wkAll, wkL, popO, wantedP, if_true, if_false, reduceIte, ne_eq, Nat.reduceAdd, Nat.reduceSub, Nat.reduceMul, Nat.reduceLeDiff, Nat.reduceLT, ofCells, ofCell, reduceCtorEq, Int.reduceLE, Int.reduceLT, Int.reduceToNat, Int.reduceAdd, Int.reduceSub, Int.reduceMul, Int.reduceNeg, Int.reduceBEq, Int.reduceBNe, Int.reduceEq, eqCell, eqCells, binP, unP, convP, lenP, builtinP, sliceDataP, unsafeStringP, appendT, appendS, appendP, copyP, srcP, mmsP, mmP, indexOp, indexAddrOp, sliceOp, bndsP, bndP, capw, capCut, loadOp, storeOp, loadP, fieldOp, fieldAddrOp, arrayAtOp, buildP, buildSliceP, makeSliceP, placeF, fillP, setL, PK.agg, isZero, gt_iff_lt, Nat.reducePow, Nat.reduceGT, reps, seg, wkN, if_pos, if_neg, tf3, Tryz.ze3, tf4, Tryz.ze4, tf5, Tryz.ze5, tf9, Tryz.ze9, tf24, Tryz.ze24, tf30, Tryz.ze30, tf31, Tryz.ze31, tf33, Tryz.ze33, beq_self_eq_true, ← hn0, hc, w1, w2, w3, w4, w5, w6, hx, xor_u8, bytesPV_set, hU, k4, hu'l, bytesX_bytesPV, qb] | refine w_pure (hsh2) ?_ | refine w_pure (e1) ?_ | refine w_pure (e2) ?_ | refine w_pure (e3) ?_ | refine w_pure (aw) ?_
          refine hQ (by first | exact .inr rfl | exact .inl rfl) (by first | exact trivial | exact marks1) (by first | (simp -implicitDefEqProofs (maxSteps := 400000) (disch := first | with_reducible rfl | omega | (simp only [wkH] <;> omega) | decide) only [wkAll, wkL, popO, wantedP, if_true, if_false, reduceIte, ne_eq, Nat.reduceAdd, Nat.reduceSub, Nat.reduceMul, Nat.reduceLeDiff, Nat.reduceLT, ofCells, ofCell, reduceCtorEq, Int.reduceLE, Int.reduceLT, Int.reduceToNat, Int.reduceAdd, Int.reduceSub, Int.reduceMul, Int.reduceNeg, Int.reduceBEq, Int.reduceBNe, Int.reduceEq, eqCell, eqCells, loadOp, storeOp, loadP, setL, PK.agg, isZero, gt_iff_lt, Nat.reducePow, Nat.reduceGT, reps, seg, wkN, if_pos, if_neg, tf3, Tryz.ze3, tf4, Tryz.ze4, tf5, Tryz.ze5, tf9, Tryz.ze9, tf24, Tryz.ze24, tf30, Tryz.ze30, tf31, Tryz.ze31, tf33, Tryz.ze33, resP, resPs, resP1]; rfl) | rfl) ⟨6, by repeat' first | exact frz_scalar rfl | apply frz_tuple | apply frz_agg | apply frz_fsl | apply frz_gsl (by omega) | exact frzs_nil | apply frzs_cons⟩ (by first | exact keepsH0 | exact keeps1 (by assumption)) (nw_eq ?_)
          rfl
      · have hs0 : (sealS key ad s).2 ≠ 0 := fun h => hg ⟨(hse.1 h).1, (hse.1 h).2.1⟩
        have qs : ((sealS key ad s).2 != 0) = true := by rw [bne_iff_ne]; exact hs0
        rw [show strsC ad = ad.map PV.str from rfl] at e1
        generalize ad.map PV.str = C at *
        generalize sealS key ad s = r at *
        obtain ⟨u, e⟩ := r
        simp only at hs0 qs
        refine fn_H ([Go.ResultVar.tmp 10]) Tryz.func7 rfl rfl (by decide) fun ph hW Q hQ => ?_
        simp only [start, List.length_cons, List.length_nil, List.cons_append, List.nil_append, Nat.reduceAdd, Nat.reduceSub, List.replicate_succ, List.replicate_zero, Tryz.ntmps7]
        repeat' first | simp -implicitDefEqProofs (maxSteps := 400000) (disch := first | with_reducible rfl | omega | (simp only [wkH] <;> omega) | decide) only [wkAll, wkL, popO, wantedP, if_true, if_false, reduceIte, ne_eq, Nat.reduceAdd, Nat.reduceSub, Nat.reduceMul, Nat.reduceLeDiff, Nat.reduceLT, ofCells, ofCell, reduceCtorEq, Int.reduceLE, Int.reduceLT, Int.reduceToNat, Int.reduceAdd, Int.reduceSub, Int.reduceMul, Int.reduceNeg, Int.reduceBEq, Int.reduceBNe, Int.reduceEq, eqCell, eqCells, binP, unP, convP, lenP, builtinP, sliceDataP, unsafeStringP, appendT, appendS, appendP, copyP, srcP, mmsP, mmP, indexOp, indexAddrOp, sliceOp, bndsP, bndP, capw, capCut, loadOp, storeOp, loadP, fieldOp, fieldAddrOp, arrayAtOp, buildP, buildSliceP, makeSliceP, placeF, fillP, setL, PK.agg, isZero, gt_iff_lt, Nat.reducePow, Nat.reduceGT, reps, seg, wkN, if_pos, if_neg, tf3, Tryz.ze3, tf4, Tryz.ze4, tf5, Tryz.ze5, tf9, Tryz.ze9, tf24, Tryz.ze24, tf30, Tryz.ze30, tf31, Tryz.ze31, tf33, Tryz.ze33]
        refine w_frz (p := ph.n) (cells := [.str key, .str s]) (args' := [.fsl 1 2 [.str key, .str s]]) (by rw [h_get0]; rfl) ⟨.inr ⟨0, 1, 2, some 2, rfl, rfl, by simp⟩, trivial⟩ ?_
        refine w_pure hsh ?_
        repeat' first | simp -implicitDefEqProofs (maxSteps := 400000) (disch := first | with_reducible rfl | omega | (simp only [wkH] <;> omega) | decide) only [wkAll, wkL, popO, wantedP, if_true, if_false, reduceIte, ne_eq, Nat.reduceAdd, Nat.reduceSub, Nat.reduceMul, Nat.reduceLeDiff, Nat.reduceLT, ofCells, ofCell, reduceCtorEq, Int.reduceLE, Int.reduceLT, Int.reduceToNat, Int.reduceAdd, Int.reduceSub, Int.reduceMul, Int.reduceNeg, Int.reduceBEq, Int.reduceBNe, Int.reduceEq, eqCell, eqCells, binP, unP, convP, lenP, builtinP, sliceDataP, unsafeStringP, appendT, appendS, appendP, copyP, srcP, mmsP, mmP, indexOp, indexAddrOp, sliceOp, bndsP, bndP, capw, capCut, loadOp, storeOp, loadP, fieldOp, fieldAddrOp, arrayAtOp, buildP, buildSliceP, makeSliceP, placeF, fillP, setL, PK.agg, isZero, gt_iff_lt, Nat.reducePow, Nat.reduceGT, reps, seg, wkN, if_pos, if_neg, tf3, Tryz.ze3, tf4, Tryz.ze4, tf5, Tryz.ze5, tf9, Tryz.ze9, tf24, Tryz.ze24, tf30, Tryz.ze30, tf31, Tryz.ze31, tf33, Tryz.ze33, qs] | refine w_pure (hsh2) ?_ | refine w_pure (e1) ?_ | refine w_pure (aw) ?_
        refine hQ (by first | exact .inr rfl | exact .inl rfl) (by first | exact trivial | exact marks1) (by first | (simp -implicitDefEqProofs (maxSteps := 400000) (disch := first | with_reducible rfl | omega | (simp only [wkH] <;> omega) | decide) only [wkAll, wkL, popO, wantedP, if_true, if_false, reduceIte, ne_eq, Nat.reduceAdd, Nat.reduceSub, Nat.reduceMul, Nat.reduceLeDiff, Nat.reduceLT, ofCells, ofCell, reduceCtorEq, Int.reduceLE, Int.reduceLT, Int.reduceToNat, Int.reduceAdd, Int.reduceSub, Int.reduceMul, Int.reduceNeg, Int.reduceBEq, Int.reduceBNe, Int.reduceEq, eqCell, eqCells, loadOp, storeOp, loadP, setL, PK.agg, isZero, gt_iff_lt, Nat.reducePow, Nat.reduceGT, reps, seg, wkN, if_pos, if_neg, tf3, Tryz.ze3, tf4, Tryz.ze4, tf5, Tryz.ze5, tf9, Tryz.ze9, tf24, Tryz.ze24, tf30, Tryz.ze30, tf31, Tryz.ze31, tf33, Tryz.ze33, resP, resPs, resP1]; rfl) | rfl) ⟨6, by repeat' first | exact frz_scalar rfl | apply frz_tuple | apply frz_agg | apply frz_fsl | apply frz_gsl (by omega) | exact frzs_nil | apply frzs_cons⟩ (by first | exact keepsH0 | exact keeps1 (by assumption)) (nw_eq ?_)
        rfl
theorem SivTurned_ok (W : World) (key : List UInt8) (hkey : key.length < 2 ^ 47) (n1 : Nat) (c1 : List PV) (l1 : n1 ≤ maxLen) (o1 : OkR [.str] n1 c1) (s : List UInt8) (hs : s.length < 2 ^ 47) (at_ : Int) (hat : (Lit.int .i64 at_).wf = true) (by0 : Int) (hby : (Lit.int .u8 by0).wf = true) : Fn (Cx W) 7 [.str key, .fsl 1 n1 c1, .str s, .int .i64 at_, .int .u8 by0] (.bool true) := by
  obtain ⟨L, hLl, -, rfl⟩ := okL_strs o1
  subst hLl
  obtain ⟨bb, rfl⟩ := wf_u8 hby
  exact sivTurned_ok W key L l1 s at_ bb
end Pv
