/- Part of the proof: the layer of pure values, or walks through functions (PvAe17). -/
import Derived.Test.YtbocckencbkdeaaGreatPvAe16
set_option linter.all false
--nosplit
--keep2
namespace Pv
set_option maxRecDepth 20000
set_option maxHeartbeats 4000000
open Go Go.Proofs Go.RowKit
def tb83_11Ae17 : Tab := [[], [], [1], [], [1, 2, 3], [], [], [6], [], [6, 7, 8], [5, 6, 7, 8, 9], [5, 6, 7, 8, 9, 10], [], [], [13], [], [], [15, 16], [15, 16, 17], [13, 14, 15, 16, 17, 18], [12, 13, 14, 15, 16, 17, 18, 19], [12, 13, 14, 15, 16, 17, 18, 19, 20], [], [], [22, 23], [22, 23, 24], [12, 13, 14, 15, 16, 17, 18, 19, 20, 21, 22, 23, 24, 25], [5, 6, 7, 8, 9, 10, 11, 12, 13, 14, 15, 16, 17, 18, 19, 20, 21, 22, 23, 24, 25, 26], [0, 1, 2, 3, 4, 5, 6, 7, 8, 9, 10, 11, 12, 13, 14, 15, 16, 17, 18, 19, 20, 21, 22, 23, 24, 25, 26, 27], [0, 1, 2, 3, 4, 5, 6, 7, 8, 9, 10, 11, 12, 13, 14, 15, 16, 17, 18, 19, 20, 21, 22, 23, 24, 25, 26, 27, 28]]
def pl83_11Ae17 : Plan := [(0, true, []), (1, true, []), (2, true, []), (3, true, []), (4, true, []), (5, true, []), (6, true, []), (7, true, []), (8, true, []), (9, true, []), (10, true, []), (11, true, []), (12, true, []), (13, true, []), (14, true, []), (15, true, []), (16, true, []), (17, true, []), (18, true, []), (19, true, []), (20, true, []), (21, true, []), (22, true, []), (23, true, []), (24, true, []), (25, true, []), (26, false, [0, 1, 2, 3, 4, 5, 6, 7, 8, 9, 10, 11]), (27, true, []), (28, true, []), (29, false, [])]
variable {w0 : World}

theorem refMixed_ok (ph : PH) (p q : Nat) (cp cq : Option Nat) (b m : List UInt8) (hb : b.length = 16) (hm4 : m.length = 4) (h : ph.get p = some (bytesPV b)) (hq : ph.get q = some (bytesPV m)) :
    EffA (Cx w0) 83 [.sl p 0 1 16 cp, .sl q 0 1 4 cq] ph (.sl ph.n 0 1 16 (some 16)) [some (.own (bytesPV (mixL m b)))] := by
  intro Kf hKf
  have hp := PH.get_lt h
  have hqn := PH.get_lt hq
  have hx : (mixL m b).length = 16 := mix_len m b
  obtain ⟨Z, hZ⟩ : ∃ Z : List UInt8, Z = List.replicate 16 0 := ⟨_, rfl⟩
  have hZl : Z.length = 16 := by rw [hZ]; rfl
  have hZ0 : ∀ i, i < 16 → Z[i]? = some 0 := fun i hi => by rw [hZ, List.getElem?_replicate, if_pos hi]
  rw [show ph = H ph [] ph.ob ph.ty from (h_start ph).symm]
  refine w_inl ([Go.ResultVar.tmp 4]) Tryz.func83 rfl rfl (by decide) fun _ hI => ?_
  simp only [start, List.length_cons, List.length_nil, List.cons_append, List.nil_append, Nat.reduceAdd, Nat.reduceSub, List.replicate_succ, List.replicate_zero, Tryz.ntmps83]
  repeat' first | simp -implicitDefEqProofs (maxSteps := 400000) (disch := first | with_reducible rfl | omega | (simp only [wkH] <;> omega) | decide) only [wkAll, wkL, popO, wantedP, if_true, if_false, reduceIte, ne_eq, Nat.reduceAdd, Nat.reduceSub, Nat.reduceMul, Nat.reduceLeDiff, Nat.reduceLT, ofCells, ofCell, reduceCtorEq, Int.reduceLE, Int.reduceLT, Int.reduceToNat, Int.reduceAdd, Int.reduceSub, Int.reduceMul, Int.reduceNeg, Int.reduceBEq, Int.reduceBNe, Int.reduceEq, eqCell, eqCells, binP, unP, convP, lenP, builtinP, sliceDataP, unsafeStringP, appendT, appendS, appendP, copyP, srcP, mmsP, mmP, indexOp, indexAddrOp, sliceOp, bndsP, bndP, capw, capCut, loadOp, storeOp, loadP, fieldOp, fieldAddrOp, arrayAtOp, buildP, buildSliceP, makeSliceP, placeF, fillP, setL, PK.agg, isZero, gt_iff_lt, Nat.reducePow, Nat.reduceGT, reps, seg, wkN, if_pos, if_neg, tf3, Tryz.ze3, tf5, Tryz.ze5, tf30, Tryz.ze30, pl83_11Ae17] | refine w_drawnF (id := 11) tb83_11Ae17 pl83_11Ae17 51 (by kernel_rfl) (by kernel_rfl) (by simp) ?_
  refine w_loopH (α := Nat) ph ph.ob ph.ty (fun c => [.sl p 0 1 16 cp, .sl q 0 1 4 cq, .undef, .undef, .undef, .sl ph.n 0 1 16 (some 16), .int .i64 c, .undef, .undef, .undef, .undef, .undef, .undef, .undef, .undef, .undef, .undef, .undef, .undef, .undef, .undef, .undef, .undef, .undef, .undef, .undef, .undef, .undef, .undef, .undef, .undef, .undef, .undef, .undef, .undef, .undef, .undef, .undef, .undef, .undef, .undef, .undef, .undef, .undef, .undef, .undef, .undef, .undef, .undef, .undef, .undef, .undef]) (fun c => [some (.own (bytesPV (midB (mixL m b) Z (4 * c))))]) (fun c => c ≤ 4) (fun c => 4 - c) 0 (by simp) (fun _ _ => by simp [h_n]) (.eq (by simp [FadeTo]) (by rw [Nat.mul_zero, midB_0, hZ]; rfl)) ?_
  intro c hc K hK
  rcases Nat.lt_or_ge c 4 with hlt | hge
  · have hlt' : (c : Int) < 4 := by omega
    repeat' first | simp -implicitDefEqProofs (maxSteps := 400000) (disch := first | with_reducible rfl | omega | (simp only [wkH] <;> omega) | decide) only [wkAll, wkL, popO, wantedP, if_true, if_false, reduceIte, ne_eq, Nat.reduceAdd, Nat.reduceSub, Nat.reduceMul, Nat.reduceLeDiff, Nat.reduceLT, ofCells, ofCell, reduceCtorEq, Int.reduceLE, Int.reduceLT, Int.reduceToNat, Int.reduceAdd, Int.reduceSub, Int.reduceMul, Int.reduceNeg, Int.reduceBEq, Int.reduceBNe, Int.reduceEq, eqCell, eqCells, binP, unP, convP, lenP, builtinP, sliceDataP, unsafeStringP, appendT, appendS, appendP, copyP, srcP, mmsP, mmP, indexOp, indexAddrOp, sliceOp, bndsP, bndP, capw, capCut, loadOp, storeOp, loadP, fieldOp, fieldAddrOp, arrayAtOp, buildP, buildSliceP, makeSliceP, placeF, fillP, setL, PK.agg, isZero, gt_iff_lt, Nat.reducePow, Nat.reduceGT, reps, seg, wkN, if_pos, if_neg, tf3, Tryz.ze3, tf5, Tryz.ze5, tf30, Tryz.ze30, pl83_11Ae17, hlt'] | refine w_drawnF (id := 11) tb83_11Ae17 pl83_11Ae17 51 (by kernel_rfl) (by kernel_rfl) (by simp) ?_
    refine w_loopH (α := Nat) ph ph.ob ph.ty (fun r => [.sl p 0 1 16 cp, .sl q 0 1 4 cq, .undef, .undef, .undef, .sl ph.n 0 1 16 (some 16), .int .i64 c, .int .i64 r, .undef, .undef, .undef, .undef, .undef, .undef, .undef, .undef, .undef, .undef, .undef, .undef, .undef, .undef, .undef, .undef, .undef, .undef, .undef, .undef, .undef, .undef, .undef, .undef, .undef, .undef, .undef, .undef, .undef, .undef, .undef, .undef, .undef, .undef, .undef, .undef, .undef, .undef, .undef, .undef, .undef, .undef, .undef, .undef]) (fun r => [some (.own (bytesPV (midB (mixL m b) Z (4 * c + r))))]) (fun r => r ≤ 4) (fun r => 4 - r) 0 (by simp) (fun _ _ => by simp [h_n]) (.eq (by simp [FadeTo]) rfl) ?_
    intro r hr K2 hK2
    rcases Nat.lt_or_ge r 4 with hlt4 | hge4
    · have hr' : (r : Int) < 4 := by omega
      obtain ⟨i, hi⟩ : ∃ i, i = 4 * c + r := ⟨_, rfl⟩
      have hi16 : i < 16 := by omega
      have hm := mix_at m b i hi16
      have hl := midB_len (m := mixL m b) (l := Z) (by omega) i
      have hs := midB_set (m := mixL m b) (l := Z) (by omega) hm
      have h0 := midB_at (m := mixL m b) (l := Z) (by omega) (i := i) (by omega)
      rw [hZ0 i hi16] at h0
      have hK3 := fun tm ph' => hK2 (r + 1) tm ph' (by omega) (by omega)
      rw [show 4 * c + (r + 1) = i + 1 by omega, ← hs] at hK3
      rw [← hi]
      clear hK hK2 hs
      generalize hcur : midB (mixL m b) Z i = cur at *
      have hc0 : cur.set i (mixP m b i 0) = cur := by
        rw [mixP]; apply List.ext_getElem?; intro t
        rw [List.getElem?_set]; split
        · rename_i e; subst e; rw [h0, if_pos (by omega)]
        · rfl
      have d5 : 4 * (c : Int) = ((4 * c : Nat) : Int) := by omega
      have d6 : ((4 * c : Nat) : Int) + (r : Int) = (i : Int) := by omega
      have d7 : (i : Int) < 16 := by omega
      repeat' first | simp -implicitDefEqProofs (maxSteps := 400000) (disch := first | with_reducible rfl | omega | (simp only [wkH] <;> omega) | decide) only [wkAll, wkL, popO, wantedP, if_true, if_false, reduceIte, ne_eq, Nat.reduceAdd, Nat.reduceSub, Nat.reduceMul, Nat.reduceLeDiff, Nat.reduceLT, ofCells, ofCell, reduceCtorEq, Int.reduceLE, Int.reduceLT, Int.reduceToNat, Int.reduceAdd, Int.reduceSub, Int.reduceMul, Int.reduceNeg, Int.reduceBEq, Int.reduceBNe, Int.reduceEq, eqCell, eqCells, binP, unP, convP, lenP, builtinP, sliceDataP, unsafeStringP, appendT, appendS, appendP, copyP, srcP, mmsP, mmP, indexOp, indexAddrOp, sliceOp, bndsP, bndP, capw, capCut, loadOp, storeOp, loadP, fieldOp, fieldAddrOp, arrayAtOp, buildP, buildSliceP, makeSliceP, placeF, fillP, setL, PK.agg, isZero, gt_iff_lt, Nat.reducePow, Nat.reduceGT, reps, seg, wkN, if_pos, if_neg, tf3, Tryz.ze3, tf5, Tryz.ze5, tf30, Tryz.ze30, pl83_11Ae17, hr'] | refine w_drawnF (id := 11) tb83_11Ae17 pl83_11Ae17 51 (by kernel_rfl) (by kernel_rfl) (by simp) ?_
      refine w_loopH (α := Nat) ph ph.ob ph.ty (fun k => [.sl p 0 1 16 cp, .sl q 0 1 4 cq, .undef, .undef, .undef, .sl ph.n 0 1 16 (some 16), .int .i64 c, .int .i64 r, .int .i64 k, .undef, .undef, .undef, .undef, .undef, .undef, .undef, .undef, .undef, .undef, .undef, .undef, .undef, .undef, .undef, .undef, .undef, .undef, .undef, .undef, .undef, .undef, .undef, .undef, .undef, .undef, .undef, .undef, .undef, .undef, .undef, .undef, .undef, .undef, .undef, .undef, .undef, .undef, .undef, .undef, .undef, .undef, .undef]) (fun k => [some (.own (bytesPV (cur.set i (mixP m b i k))))]) (fun k => k ≤ 4) (fun k => 4 - k) 0 (by simp) (fun _ _ => by simp [h_n]) (.eq (by simp [FadeTo]) (by rw [hc0])) ?_
      intro k hk K4 hK4
      rcases Nat.lt_or_ge k 4 with hk4 | hk4
      · have hk' : (k : Int) < 4 := by omega
        obtain ⟨x, hx4⟩ := get_someW (show k < m.length by omega)
        have d1 : (r : Int) + (k : Int) = ((r + k : Nat) : Int) := by omega
        have d2 : Int.tmod ((r + k : Nat) : Int) 4 = (((r + k) % 4 : Nat) : Int) := by rw [Int.tmod_eq_emod_of_nonneg (by omega)]; rfl
        obtain ⟨j, hj⟩ : ∃ j, j = i / 4 * 4 + (i + k) % 4 := ⟨_, rfl⟩
        have hj2 : j = 4 * c + (r + k) % 4 := by omega
        have hj16 : j < 16 := by omega
        have d3 : ((4 * c : Nat) : Int) + (((r + k) % 4 : Nat) : Int) = (j : Int) := by omega
        have d8 : (j : Int) < 16 := by omega
        obtain ⟨v, hv⟩ := get_someW (show j < b.length by omega)
        have hg : (cur.set i (mixP m b i k))[i]? = some (mixP m b i k) := by rw [List.getElem?_set_self (by omega)]
        have hl3 : (cur.set i (mixP m b i k)).length = 16 := by rw [List.length_set]; omega
        have hnx : mixP m b i (k + 1) = mixP m b i k ^^^ gm v x := by
          rw [mixP, ← hj, List.getD_eq_getElem?_getD, hv, List.getD_eq_getElem?_getD, hx4]; rfl
        have hss : (cur.set i (mixP m b i k)).set i (mixP m b i k ^^^ gm v x) = cur.set i (mixP m b i (k + 1)) := by rw [List.set_set, hnx]
        generalize mixP m b i k = mk at *
        generalize hcs : cur.set i mk = cs at *
        repeat' first | simp -implicitDefEqProofs (maxSteps := 400000) (disch := first | with_reducible rfl | omega | (simp only [wkH] <;> omega) | decide) only [wkAll, wkL, popO, wantedP, if_true, if_false, reduceIte, ne_eq, Nat.reduceAdd, Nat.reduceSub, Nat.reduceMul, Nat.reduceLeDiff, Nat.reduceLT, ofCells, ofCell, reduceCtorEq, Int.reduceLE, Int.reduceLT, Int.reduceToNat, Int.reduceAdd, Int.reduceSub, Int.reduceMul, Int.reduceNeg, Int.reduceBEq, Int.reduceBNe, Int.reduceEq, eqCell, eqCells, binP, unP, convP, lenP, builtinP, sliceDataP, unsafeStringP, appendT, appendS, appendP, copyP, srcP, mmsP, mmP, indexOp, indexAddrOp, sliceOp, bndsP, bndP, capw, capCut, loadOp, storeOp, loadP, fieldOp, fieldAddrOp, arrayAtOp, buildP, buildSliceP, makeSliceP, placeF, fillP, setL, PK.agg, isZero, gt_iff_lt, Nat.reducePow, Nat.reduceGT, reps, seg, wkN, if_pos, if_neg, tf3, Tryz.ze3, tf5, Tryz.ze5, tf30, Tryz.ze30, pl83_11Ae17, hk', d1, d2, d3, d5, d6, d7, d8, h_getlt hp, h_getlt hqn, h, hq, hb, hm4, hl3, hg, hv, hx4, xor_u8, bytesPV_set, hss] | refine w_pure (refTimes8_ok v x) ?_ | refine w_drawnF (id := 11) tb83_11Ae17 pl83_11Ae17 51 (by kernel_rfl) (by kernel_rfl) (by simp) ?_
        refine hK4 (k + 1) _ _ (by omega) (by omega) (.eq (by simp [FadeTo]) rfl)
      · have hk' : ¬ (k : Int) < 4 := by omega
        have : k = 4 := by omega
        subst this
        rw [mixP_4] at *
        repeat' first | simp -implicitDefEqProofs (maxSteps := 400000) (disch := first | with_reducible rfl | omega | (simp only [wkH] <;> omega) | decide) only [wkAll, wkL, popO, wantedP, if_true, if_false, reduceIte, ne_eq, Nat.reduceAdd, Nat.reduceSub, Nat.reduceMul, Nat.reduceLeDiff, Nat.reduceLT, ofCells, ofCell, reduceCtorEq, Int.reduceLE, Int.reduceLT, Int.reduceToNat, Int.reduceAdd, Int.reduceSub, Int.reduceMul, Int.reduceNeg, Int.reduceBEq, Int.reduceBNe, Int.reduceEq, eqCell, eqCells, binP, unP, convP, lenP, builtinP, sliceDataP, unsafeStringP, appendT, appendS, appendP, copyP, srcP, mmsP, mmP, indexOp, indexAddrOp, sliceOp, bndsP, bndP, capw, capCut, loadOp, storeOp, loadP, fieldOp, fieldAddrOp, arrayAtOp, buildP, buildSliceP, makeSliceP, placeF, fillP, setL, PK.agg, isZero, gt_iff_lt, Nat.reducePow, Nat.reduceGT, reps, seg, wkN, if_pos, if_neg, tf3, Tryz.ze3, tf5, Tryz.ze5, tf30, Tryz.ze30, pl83_11Ae17, hk'] | refine w_drawnF (id := 11) tb83_11Ae17 pl83_11Ae17 51 (by kernel_rfl) (by kernel_rfl) (by simp) ?_
        exact hK3 _ _ (.eq (by simp [FadeTo]) rfl)
    · have hr' : ¬ (r : Int) < 4 := by omega
      have : r = 4 := by omega
      subst this
      repeat' first | simp -implicitDefEqProofs (maxSteps := 400000) (disch := first | with_reducible rfl | omega | (simp only [wkH] <;> omega) | decide) only [wkAll, wkL, popO, wantedP, if_true, if_false, reduceIte, ne_eq, Nat.reduceAdd, Nat.reduceSub, Nat.reduceMul, Nat.reduceLeDiff, Nat.reduceLT, ofCells, ofCell, reduceCtorEq, Int.reduceLE, Int.reduceLT, Int.reduceToNat, Int.reduceAdd, Int.reduceSub, Int.reduceMul, Int.reduceNeg, Int.reduceBEq, Int.reduceBNe, Int.reduceEq, eqCell, eqCells, binP, unP, convP, lenP, builtinP, sliceDataP, unsafeStringP, appendT, appendS, appendP, copyP, srcP, mmsP, mmP, indexOp, indexAddrOp, sliceOp, bndsP, bndP, capw, capCut, loadOp, storeOp, loadP, fieldOp, fieldAddrOp, arrayAtOp, buildP, buildSliceP, makeSliceP, placeF, fillP, setL, PK.agg, isZero, gt_iff_lt, Nat.reducePow, Nat.reduceGT, reps, seg, wkN, if_pos, if_neg, tf3, Tryz.ze3, tf5, Tryz.ze5, tf30, Tryz.ze30, pl83_11Ae17, hr'] | refine w_drawnF (id := 11) tb83_11Ae17 pl83_11Ae17 51 (by kernel_rfl) (by kernel_rfl) (by simp) ?_
      refine hK (c + 1) _ _ (by omega) (by omega) (.eq (by simp [FadeTo]) rfl)
  · have hge' : ¬ (c : Int) < 4 := by omega
    have : c = 4 := by omega
    subst this
    rw [midB_all (by omega) (by omega)]
    repeat' first | simp -implicitDefEqProofs (maxSteps := 400000) (disch := first | with_reducible rfl | omega | (simp only [wkH] <;> omega) | decide) only [wkAll, wkL, popO, wantedP, if_true, if_false, reduceIte, ne_eq, Nat.reduceAdd, Nat.reduceSub, Nat.reduceMul, Nat.reduceLeDiff, Nat.reduceLT, ofCells, ofCell, reduceCtorEq, Int.reduceLE, Int.reduceLT, Int.reduceToNat, Int.reduceAdd, Int.reduceSub, Int.reduceMul, Int.reduceNeg, Int.reduceBEq, Int.reduceBNe, Int.reduceEq, eqCell, eqCells, binP, unP, convP, lenP, builtinP, sliceDataP, unsafeStringP, appendT, appendS, appendP, copyP, srcP, mmsP, mmP, indexOp, indexAddrOp, sliceOp, bndsP, bndP, capw, capCut, loadOp, storeOp, loadP, fieldOp, fieldAddrOp, arrayAtOp, buildP, buildSliceP, makeSliceP, placeF, fillP, setL, PK.agg, isZero, gt_iff_lt, Nat.reducePow, Nat.reduceGT, reps, seg, wkN, if_pos, if_neg, tf3, Tryz.ze3, tf5, Tryz.ze5, tf30, Tryz.ze30, pl83_11Ae17, hge'] | refine w_drawnF (id := 11) tb83_11Ae17 pl83_11Ae17 51 (by kernel_rfl) (by kernel_rfl) (by simp) ?_
    refine hI (by first | exact .inr rfl | exact .inl rfl) trivial (by first | (simp -implicitDefEqProofs (maxSteps := 400000) (disch := first | with_reducible rfl | omega | (simp only [wkH] <;> omega) | decide) only [wkAll, wkL, popO, wantedP, if_true, if_false, reduceIte, ne_eq, Nat.reduceAdd, Nat.reduceSub, Nat.reduceMul, Nat.reduceLeDiff, Nat.reduceLT, ofCells, ofCell, reduceCtorEq, Int.reduceLE, Int.reduceLT, Int.reduceToNat, Int.reduceAdd, Int.reduceSub, Int.reduceMul, Int.reduceNeg, Int.reduceBEq, Int.reduceBNe, Int.reduceEq, eqCell, eqCells, loadOp, storeOp, loadP, setL, PK.agg, isZero, gt_iff_lt, Nat.reducePow, Nat.reduceGT, reps, seg, wkN, if_pos, if_neg, tf3, Tryz.ze3, tf5, Tryz.ze5, tf30, Tryz.ze30, pl83_11Ae17, resP, resPs, resP1]; rfl) | rfl) ?_
    exact hKf
end Pv
