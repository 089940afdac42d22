/- Part of the proof: the layer of pure values, or walks through functions (PvAe18). -/
import Derived.Test.YtbocckencbkdeaaGreatPvAe17
set_option linter.all false
--nosplit
--keep2
namespace Pv
set_option maxRecDepth 20000
set_option maxHeartbeats 4000000
open Go Go.Proofs Go.RowKit
def tb57_12Ae18 : Tab := [[], [0], [0, 1], [0, 1, 2], [], [4], [4, 5], [0, 1, 2, 3, 4, 5, 6], [], [8], [8, 9], [0, 1, 2, 3, 4, 5, 6, 7, 8, 9, 10], [], [12], [12, 13], [0, 1, 2, 3, 4, 5, 6, 7, 8, 9, 10, 11, 12, 13, 14], [0, 1, 2, 3, 4, 5, 6, 7, 8, 9, 10, 11, 12, 13, 14, 15], [0, 1, 2, 3, 4, 5, 6, 7, 8, 9, 10, 11, 12, 13, 14, 15, 16]]
def pl57_12Ae18 : Plan := [(0, true, []), (1, true, []), (2, true, []), (4, true, []), (5, true, []), (6, true, []), (8, true, []), (9, true, []), (10, true, []), (12, true, []), (13, true, []), (14, true, []), (3, false, [4, 5, 6, 8, 9, 10, 12, 13, 14]), (7, false, [8, 9, 10, 12, 13, 14]), (11, false, [12, 13, 14]), (15, false, []), (16, false, []), (17, false, [])]
def tb57_16Ae18 : Tab := [[], [], [], [], [2, 3], [2, 3, 4], [], [2, 3, 4, 5, 6], [1, 2, 3, 4, 5, 6, 7], [1, 2, 3, 4, 5, 6, 7, 8], [], [], [10, 11], [10, 11, 12], [1, 2, 3, 4, 5, 6, 7, 8, 9, 10, 11, 12, 13], [1, 2, 3, 4, 5, 6, 7, 8, 9, 10, 11, 12, 13, 14], [0, 1, 2, 3, 4, 5, 6, 7, 8, 9, 10, 11, 12, 13, 14, 15], [0, 1, 2, 3, 4, 5, 6, 7, 8, 9, 10, 11, 12, 13, 14, 15, 16]]
def pl57_16Ae18 : Plan := [(0, true, []), (1, true, []), (2, true, []), (3, true, []), (4, true, []), (5, true, []), (6, true, []), (7, true, []), (8, true, []), (9, true, []), (10, true, []), (11, true, []), (12, true, []), (13, true, []), (14, true, []), (15, false, [0]), (16, false, []), (17, false, [])]
def tb57_7Ae18 : Tab := [[], [], [1], [1, 2], [0, 1, 2, 3], [0, 1, 2, 3, 4], [], [], [7], [7, 8], [6, 7, 8, 9], [6, 7, 8, 9, 10], [], [], [13], [13, 14], [12, 13, 14, 15], [12, 13, 14, 15, 16], [], [], [19], [19, 20], [18, 19, 20, 21], [18, 19, 20, 21, 22], [0, 1, 2, 3, 4, 5, 6, 7, 8, 9, 10, 11, 12, 13, 14, 15, 16, 17, 18, 19, 20, 21, 22, 23], [0, 1, 2, 3, 4, 5, 6, 7, 8, 9, 10, 11, 12, 13, 14, 15, 16, 17, 18, 19, 20, 21, 22, 23, 24]]
def pl57_7Ae18 : Plan := [(0, true, []), (1, true, []), (2, true, []), (3, true, []), (4, true, []), (5, true, []), (6, true, []), (7, true, []), (8, true, []), (9, true, []), (10, true, []), (11, true, []), (12, true, []), (13, true, []), (14, true, []), (15, true, []), (16, true, []), (17, true, []), (18, true, []), (19, true, []), (20, true, []), (21, true, []), (22, true, []), (23, true, []), (24, false, []), (25, false, [])]
def tb57_9Ae18 : Tab := [[], [0], [0, 1], [0, 1, 2], [], [0, 1, 2, 3, 4], [], [6], [6, 7], [0, 1, 2, 3, 6, 7, 8], [], [10], [10, 11], [0, 1, 2, 3, 6, 7, 8, 9, 10, 11, 12], [], [14], [14, 15], [0, 1, 2, 3, 6, 7, 8, 9, 10, 11, 12, 13, 14, 15, 16], [0, 1, 2, 3, 4, 5, 6, 7, 8, 9, 10, 11, 12, 13, 14, 15, 16, 17], [0, 1, 2, 3, 4, 5, 6, 7, 8, 9, 10, 11, 12, 13, 14, 15, 16, 17, 18]]
def pl57_9Ae18 : Plan := [(0, true, []), (1, true, []), (2, true, []), (4, true, []), (6, true, []), (7, true, []), (8, true, []), (10, true, []), (11, true, []), (12, true, []), (14, true, []), (15, true, []), (16, true, []), (3, false, [4, 6, 7, 8, 10, 11, 12, 14, 15, 16]), (5, true, []), (9, false, [4, 10, 11, 12, 14, 15, 16, 5]), (13, false, [4, 14, 15, 16, 5]), (17, false, [4, 5]), (18, false, []), (19, false, [])]
variable {w0 : World}

def cxB (x : UInt8) : Option Blk := some (.own [.int .u8 (x.toNat : Int)])
/-- The blocks of a round after k words' bytes: T the row that is added. -/
def wBl (T : List (Option Blk)) (x0 x1 x2 x3 : UInt8) (V : List UInt8) : Nat → List (Option Blk)
  | 0 => some (.own (bytesPV V)) :: T
  | 1 => none :: (T ++ [cxB x0, some (.own (bytesPV V))])
  | 2 => none :: (T ++ [cxB x0, none, cxB x1, some (.own (bytesPV V))])
  | 3 => none :: (T ++ [cxB x0, none, cxB x1, none, cxB x2, some (.own (bytesPV V))])
  | _ => none :: (T ++ [cxB x0, none, cxB x1, none, cxB x2, none, cxB x3, some (.own (bytesPV V))])
def wIx (t : Nat) : Nat → Nat
  | 0 => 0
  | 1 => t + 2
  | 2 => t + 4
  | 3 => t + 6
  | _ => t + 8
theorem refWords_ok (key : List UInt8) (hk : goodK key) : Fn (Cx w0) 57 [.str key] (.fsl 1 (wordsL key).length (bytesPV (wordsL key))) := by
  obtain ⟨nk, hnk⟩ : ∃ nk, nk = key.length / 4 := ⟨_, rfl⟩
  have hkl : key.length = 4 * nk := by rcases hk with e | e <;> omega
  have hnk2 : nk = 4 ∨ nk = 8 := by rcases hk with e | e <;> omega
  have d1 : Int.tdiv (key.length : Int) 4 = (nk : Int) := by rw [Int.tdiv_eq_ediv_of_nonneg (by omega)]; omega
  refine fn_H ([Go.ResultVar.tmp 2]) Tryz.func57 rfl rfl (by decide) fun ph hW Q hQ => ?_
  simp only [start, List.length_cons, List.length_nil, List.cons_append, List.nil_append, Nat.reduceAdd, Nat.reduceSub, List.replicate_succ, List.replicate_zero, Tryz.ntmps57]
  repeat' first | simp -implicitDefEqProofs (maxSteps := 400000) (disch := first | with_reducible rfl | omega | (simp only [wkH] <;> omega) | decide) only [wkAll, wkL, popO, wantedP, if_true, if_false, reduceIte, ne_eq, Nat.reduceAdd, Nat.reduceSub, Nat.reduceMul, Nat.reduceLeDiff, Nat.reduceLT, ofCells, ofCell, reduceCtorEq, Int.reduceLE, Int.reduceLT, Int.reduceToNat, Int.reduceAdd, Int.reduceSub, Int.reduceMul, Int.reduceNeg, Int.reduceBEq, Int.reduceBNe, Int.reduceEq, eqCell, eqCells, binP, unP, convP, lenP, builtinP, sliceDataP, unsafeStringP, appendT, appendS, appendP, copyP, srcP, mmsP, mmP, indexOp, indexAddrOp, sliceOp, bndsP, bndP, capw, capCut, loadOp, storeOp, loadP, fieldOp, fieldAddrOp, arrayAtOp, buildP, buildSliceP, makeSliceP, placeF, fillP, setL, PK.agg, isZero, gt_iff_lt, Nat.reducePow, Nat.reduceGT, reps, seg, wkN, if_pos, if_neg, tf3, Tryz.ze3, tf5, Tryz.ze5, tf9, Tryz.ze9, tf30, Tryz.ze30, pl57_7Ae18, pl57_9Ae18, pl57_12Ae18, pl57_16Ae18, d1] | refine w_drawnF (id := 7) tb57_7Ae18 pl57_7Ae18 47 (by kernel_rfl) (by kernel_rfl) (by simp) ?_ | refine w_drawnF (id := 9) tb57_9Ae18 pl57_9Ae18 70 (by kernel_rfl) (by kernel_rfl) (by simp) ?_ | refine w_drawnF (id := 12) tb57_12Ae18 pl57_12Ae18 96 (by kernel_rfl) (by kernel_rfl) (by simp) ?_ | refine w_drawnF (id := 16) tb57_16Ae18 pl57_16Ae18 117 (by kernel_rfl) (by kernel_rfl) (by simp) ?_
  refine w_loopJ (α := Nat × List (Option Blk)) ph.ob ph.ty (fun a => H ph a.2 ph.ob ph.ty) (fun B a => [.undef, .undef, .undef, .int .i64 nk, .sl B.n 0 1 (4 * (nk + a.1)) none, .int .u8 (kI key nk a.1).2.toNat, .int .i64 ((nk + a.1 : Nat) : Int), .undef, .undef, .undef, .undef, .undef, .undef, .undef, .undef, .undef, .undef, .undef, .undef, .undef, .undef, .undef, .undef, .undef, .undef, .undef, .undef, .undef, .undef, .undef, .undef, .undef, .undef, .undef, .undef, .undef, .undef, .undef, .undef, .undef, .undef, .undef, .undef, .undef, .undef, .undef, .undef, .undef, .undef, .undef, .undef, .undef, .undef, .undef, .undef, .undef, .undef, .undef, .undef, .undef, .undef, .undef, .undef, .undef, .undef, .undef, .undef, .undef, .undef, .undef, .undef, .undef, .undef, .undef, .undef, .undef, .undef, .undef, .undef, .undef, .undef, .undef, .undef, .undef, .undef, .undef, .undef, .undef, .undef, .undef, .undef, .undef, .undef, .undef, .undef, .undef, .undef, .undef, .undef, .undef, .undef, .undef, .undef, .undef, .undef, .undef, .undef, .undef, .undef, .undef, .undef, .undef, .undef, .undef, .undef, .undef, .undef, .undef]) (fun a => [some (.own (bytesPV (kI key nk a.1).1))]) (fun a => a.1 ≤ 3 * nk + 28) (fun a => 3 * nk + 28 - a.1) (0, []) (by simp) (fun a _ => by simp [h_n]; omega) (.eq (by simp [FadeTo, kI_0, hkl, h_n]) (by simp [h_app, kI_0])) ?_
  rintro ⟨j, J⟩ hj B hB K hK
  simp only at hj hB ⊢
  have e28 : 4 * ((nk : Int) + 7) = ((4 * nk + 28 : Nat) : Int) := by omega
  have hWl : (kI key nk j).1.length = 4 * (nk + j) := kI_len hkl (by omega) j
  rcases Nat.lt_or_ge j (3 * nk + 28) with hlt | hge
  · have hlt' : ((nk + j : Nat) : Int) < ((4 * nk + 28 : Nat) : Int) := by omega
    obtain ⟨c, hc⟩ : ∃ c, c = (kI key nk j).2 := ⟨_, rfl⟩
    obtain ⟨W, hWd⟩ : ∃ W, W = (kI key nk j).1 := ⟨_, rfl⟩
    have hnx := kI_next key nk j
    have hK1 := fun J' tm ph' => hK (j + 1, J') tm ph' (by show j + 1 ≤ _; omega) (by show _ - (j + 1) < _ - j; omega)
    simp only [hnx] at hK1
    clear hK hnx
    rw [← hc, ← hWd] at hK1 ⊢
    rw [← hWd] at hWl
    obtain ⟨M, hM⟩ : ∃ M, M = 4 * (nk + j) := ⟨_, rfl⟩
    rw [← hM] at hWl ⊢
    obtain ⟨a0, a1, a2, a3, hT⟩ := four (b := (W.drop (4 * (nk + j) - 4)).take 4) (by rw [List.length_take, List.length_drop]; omega)
    obtain ⟨P, hP⟩ : ∃ P, P = (W.drop (4 * j)).take 4 := ⟨_, rfl⟩
    have hPl : P.length = 4 := by rw [hP, List.length_take, List.length_drop]; omega
    obtain ⟨u0, u1, u2, u3, c', hkT, hcc, hcase⟩ := kT_cases nk (nk + j) a0 a1 a2 a3 c
    simp only [hT, hkT, hcc, ← hP] at hK1
    obtain ⟨U, hU⟩ : ∃ U, U = [u0, u1, u2, u3] := ⟨_, rfl⟩
    have hUl : U.length = 4 := by rw [hU]; rfl
    have hUb : ([.int .u8 (u0.toNat : Int), .int .u8 (u1.toNat : Int), .int .u8 (u2.toNat : Int), .int .u8 (u3.toNat : Int)] : List PV) = bytesPV U := by rw [hU]; rfl
    rw [← hU] at hK1
    obtain ⟨X, hX⟩ : ∃ X, X = xorB P U := ⟨_, rfl⟩
    have hXl : X.length = 4 := by rw [hX, xorB_len, hUl, hPl]; rfl
    rw [← hX] at hK1
    obtain ⟨x0, x1, x2, x3, hX4⟩ := four hXl
    have g : ∀ r, r < 4 → W[M - 4 + r]? = [a0, a1, a2, a3][r]? := by
      intro r hr; rw [← hT, List.getElem?_take, if_pos hr, List.getElem?_drop, hM]
    have g0 : W[M - 4]? = some a0 := g 0 (by omega)
    have g1 : W[M - 3]? = some a1 := by have := g 1 (by omega); rwa [show M - 4 + 1 = M - 3 by omega] at this
    have g2 : W[M - 2]? = some a2 := by have := g 2 (by omega); rwa [show M - 4 + 2 = M - 2 by omega] at this
    have g3 : W[M - 1]? = some a3 := by have := g 3 (by omega); rwa [show M - 4 + 3 = M - 1 by omega] at this
    have f : 4 * ((nk + j : Nat) : Int) = (M : Int) := by omega
    have f0 : (M : Int) - 4 = ((M - 4 : Nat) : Int) := by omega
    have f1 : (M : Int) - 3 = ((M - 3 : Nat) : Int) := by omega
    have f2 : (M : Int) - 2 = ((M - 2 : Nat) : Int) := by omega
    have f3 : (M : Int) - 1 = ((M - 1 : Nat) : Int) := by omega
    have l0 : ((M - 4 : Nat) : Int) < (M : Int) := by omega
    have l1 : ((M - 3 : Nat) : Int) < (M : Int) := by omega
    have l2 : ((M - 2 : Nat) : Int) < (M : Int) := by omega
    have l3 : ((M - 1 : Nat) : Int) < (M : Int) := by omega
    have m1 : Int.tmod ((nk + j : Nat) : Int) (nk : Int) = (((nk + j) % nk : Nat) : Int) := by rw [Int.tmod_eq_emod_of_nonneg (by omega)]; rfl
    have m2 : Int.tmod ((nk + j : Nat) : Int) 8 = (((nk + j) % 8 : Nat) : Int) := by rw [Int.tmod_eq_emod_of_nonneg (by omega)]; rfl
    have m0 : ¬ (nk : Int) = 0 := by omega
    have j1 : ((nk + j : Nat) : Int) - (nk : Int) = (j : Int) := by omega
    have j2 : 4 * (j : Int) = ((4 * j : Nat) : Int) := by omega
    have tm := refTimes8_ok (w0 := w0) c 2
    have z3 : ((nk + j : Nat) : Int) + 1 = ((nk + (j + 1) : Nat) : Int) := by omega
    have hn4 : M + 4 = 4 * (nk + (j + 1)) := by omega
    have V0 : W ++ X.take 0 = W := by simp
    have V4 : W ++ X.take 4 = W ++ X := by rw [List.take_of_length_le (by omega)]
    rcases hcase with ⟨k1, b0, b1, b2, b3, b4⟩ | ⟨k1, k2, k3, b0, b1, b2, b3, b4⟩ | ⟨k1, k2, b0, b1, b2, b3, b4⟩ | ⟨k1, k2, k3, b0, b1, b2, b3, b4⟩
    · have q1 : ((((nk + j) % nk : Nat) : Int) == 0) = true := by rw [beq_iff_eq]; omega
      rw [b4] at tm
      repeat' first | simp -implicitDefEqProofs (maxSteps := 400000) (disch := first | with_reducible rfl | omega | (simp only [wkH] <;> omega) | decide) only [wkAll, wkL, popO, wantedP, if_true, if_false, reduceIte, ne_eq, Nat.reduceAdd, Nat.reduceSub, Nat.reduceMul, Nat.reduceLeDiff, Nat.reduceLT, ofCells, ofCell, reduceCtorEq, Int.reduceLE, Int.reduceLT, Int.reduceToNat, Int.reduceAdd, Int.reduceSub, Int.reduceMul, Int.reduceNeg, Int.reduceBEq, Int.reduceBNe, Int.reduceEq, eqCell, eqCells, binP, unP, convP, lenP, builtinP, sliceDataP, unsafeStringP, appendT, appendS, appendP, copyP, srcP, mmsP, mmP, indexOp, indexAddrOp, sliceOp, bndsP, bndP, capw, capCut, loadOp, storeOp, loadP, fieldOp, fieldAddrOp, arrayAtOp, buildP, buildSliceP, makeSliceP, placeF, fillP, setL, PK.agg, isZero, gt_iff_lt, Nat.reducePow, Nat.reduceGT, reps, seg, wkN, if_pos, if_neg, tf3, Tryz.ze3, tf5, Tryz.ze5, tf9, Tryz.ze9, tf30, Tryz.ze30, pl57_7Ae18, pl57_9Ae18, pl57_12Ae18, pl57_16Ae18, e28, hlt', f, f0, f1, f2, f3, l0, l1, l2, l3, g0, g1, g2, g3, hWl, m0, m1, q1, xor_u8, b0, b1, b2, b3] | refine w_pure (refSub8_ok a0) ?_ | refine w_pure (refSub8_ok a1) ?_ | refine w_pure (refSub8_ok a2) ?_ | refine w_pure (refSub8_ok a3) ?_ | refine w_pure (tm) ?_ | refine w_drawnF (id := 7) tb57_7Ae18 pl57_7Ae18 47 (by kernel_rfl) (by kernel_rfl) (by simp) ?_ | refine w_drawnF (id := 9) tb57_9Ae18 pl57_9Ae18 70 (by kernel_rfl) (by kernel_rfl) (by simp) ?_ | refine w_drawnF (id := 12) tb57_12Ae18 pl57_12Ae18 96 (by kernel_rfl) (by kernel_rfl) (by simp) ?_ | refine w_drawnF (id := 16) tb57_16Ae18 pl57_16Ae18 117 (by kernel_rfl) (by kernel_rfl) (by simp) ?_
      refine w_loopH (α := Nat) B ph.ob ph.ty (fun k => [.undef, .undef, .undef, .int .i64 nk, .sl (B.n + wIx 2 k) 0 1 (M + k) none, .int .u8 c'.toNat, .int .i64 ((nk + j : Nat) : Int), .sl (B.n + 2) 0 1 4 (some 4), .int .i64 k, .undef, .undef, .undef, .undef, .undef, .undef, .undef, .undef, .undef, .undef, .undef, .undef, .undef, .undef, .undef, .undef, .undef, .undef, .undef, .undef, .undef, .undef, .undef, .undef, .undef, .undef, .undef, .undef, .undef, .undef, .undef, .undef, .undef, .undef, .undef, .undef, .undef, .undef, .undef, .undef, .undef, .undef, .undef, .undef, .undef, .undef, .undef, .undef, .undef, .undef, .undef, .undef, .undef, .undef, .undef, .undef, .undef, .undef, .undef, .undef, .undef, .undef, .undef, .undef, .undef, .undef, .undef, .undef, .undef, .undef, .undef, .undef, .undef, .undef, .undef, .undef, .undef, .undef, .undef, .undef, .undef, .undef, .undef, .undef, .undef, .undef, .undef, .undef, .undef, .undef, .undef, .undef, .undef, .undef, .undef, .undef, .undef, .undef, .undef, .undef, .undef, .undef, .undef, .undef, .undef, .undef, .undef, .undef, .undef]) (fun k => wBl [some (.own [.int .u8 (a0.toNat : Int), .int .u8 (a1.toNat : Int), .int .u8 (a2.toNat : Int), .int .u8 (a3.toNat : Int)]), some (.own (bytesPV U))] x0 x1 x2 x3 (W ++ X.take k) k) (fun k => k ≤ 4) (fun k => 4 - k) 0 (by simp) (fun k hk => by
        subst hB; simp [h_n]; omega) (.eq (by simp [FadeTo, wIx]) (by simp [wBl, V0, ← hUb])) ?_
      intro k hk K2 hK2
      rcases Nat.lt_or_ge k 4 with hlt4 | hge4
      · have hk' : (k : Int) < 4 := by omega
        obtain ⟨V, hV⟩ : ∃ V, V = W ++ X.take k := ⟨_, rfl⟩
        have hVl : V.length = M + k := by rw [hV, List.length_append, List.length_take, hWl, hXl, Nat.min_eq_left (by omega)]
        obtain ⟨u, hu⟩ := get_someW (show k < U.length by omega)
        obtain ⟨p, hp⟩ := get_someW (show k < P.length by omega)
        obtain ⟨v, hv⟩ : ∃ v, p ^^^ u = v := ⟨_, rfl⟩
        have hz : X[k]? = some v := by rw [hX, xorB, List.getElem?_zipWith, hp, hu, ← hv]
        have j3 : V[4 * j + k]? = some p := by
          rw [hP, List.getElem?_take, if_pos hlt4, List.getElem?_drop] at hp
          rw [hV, List.getElem?_append_left (by omega)]; exact hp
        have j4 : ((4 * j : Nat) : Int) + (k : Int) = ((4 * j + k : Nat) : Int) := by omega
        have j5 : ((4 * j + k : Nat) : Int) < ((M + k : Nat) : Int) := by omega
        have hVn : bytesPV V ++ [.int .u8 (v.toNat : Int)] = bytesPV (W ++ X.take (k + 1)) := by
          rw [List.take_add_one, hz, ← List.append_assoc, ← hV, bytesPV_append]; rfl
        have hK3 := fun tm ph' => hK2 (k + 1) tm ph' (by omega) (by omega)
        have hmx : (M + k ≤ 140737488355327) = True := by simp; omega
        rw [← hV]
        clear hK1 hK2
        obtain ⟨k2, hk2⟩ : ∃ k2, k2 = k := ⟨_, rfl⟩
        rw [show wBl [some (.own [.int .u8 (a0.toNat : Int), .int .u8 (a1.toNat : Int), .int .u8 (a2.toNat : Int), .int .u8 (a3.toNat : Int)]), some (.own (bytesPV U))] x0 x1 x2 x3 V k = wBl [some (.own [.int .u8 (a0.toNat : Int), .int .u8 (a1.toNat : Int), .int .u8 (a2.toNat : Int), .int .u8 (a3.toNat : Int)]), some (.own (bytesPV U))] x0 x1 x2 x3 V k2 by rw [hk2], show wIx 2 k = wIx 2 k2 by rw [hk2]]
        rw [hX4] at hz
        have hcs : k2 = 0 ∨ k2 = 1 ∨ k2 = 2 ∨ k2 = 3 := by omega
        rcases hcs with rfl | rfl | rfl | rfl
        all_goals
          rw [← hk2] at hz
          simp only [List.getElem?_cons_zero, List.getElem?_cons_succ, Option.some.injEq] at hz
          simp only [wBl, wIx, cxB, List.cons_append, List.nil_append, Nat.reduceAdd, Nat.add_zero]
          repeat' first | simp -implicitDefEqProofs (maxSteps := 400000) (disch := first | with_reducible rfl | omega | (simp only [wkH] <;> omega) | decide) only [wkAll, wkL, popO, wantedP, if_true, if_false, reduceIte, ne_eq, Nat.reduceAdd, Nat.reduceSub, Nat.reduceMul, Nat.reduceLeDiff, Nat.reduceLT, ofCells, ofCell, reduceCtorEq, Int.reduceLE, Int.reduceLT, Int.reduceToNat, Int.reduceAdd, Int.reduceSub, Int.reduceMul, Int.reduceNeg, Int.reduceBEq, Int.reduceBNe, Int.reduceEq, eqCell, eqCells, binP, unP, convP, lenP, builtinP, sliceDataP, unsafeStringP, appendT, appendS, appendP, copyP, srcP, mmsP, mmP, indexOp, indexAddrOp, sliceOp, bndsP, bndP, capw, capCut, loadOp, storeOp, loadP, fieldOp, fieldAddrOp, arrayAtOp, buildP, buildSliceP, makeSliceP, placeF, fillP, setL, PK.agg, isZero, gt_iff_lt, Nat.reducePow, Nat.reduceGT, reps, seg, wkN, if_pos, if_neg, tf3, Tryz.ze3, tf5, Tryz.ze5, tf9, Tryz.ze9, tf30, Tryz.ze30, pl57_7Ae18, pl57_9Ae18, pl57_12Ae18, pl57_16Ae18, hk', j1, j2, j3, j4, j5, hVl, hUl, hu, xor_u8, hv, hVn, hmx, bytesPV_cok] | refine w_drawnF (id := 7) tb57_7Ae18 pl57_7Ae18 47 (by kernel_rfl) (by kernel_rfl) (by simp) ?_ | refine w_drawnF (id := 9) tb57_9Ae18 pl57_9Ae18 70 (by kernel_rfl) (by kernel_rfl) (by simp) ?_ | refine w_drawnF (id := 12) tb57_12Ae18 pl57_12Ae18 96 (by kernel_rfl) (by kernel_rfl) (by simp) ?_ | refine w_drawnF (id := 16) tb57_16Ae18 pl57_16Ae18 117 (by kernel_rfl) (by kernel_rfl) (by simp) ?_
          refine hK3 _ _ (.eq (by rw [← hk2]; simp [FadeTo, wIx, Nat.add_assoc]) (by rw [← hk2, hz]; simp [wBl, cxB]))
      · have hk' : ¬ (k : Int) < 4 := by omega
        have : k = 4 := by omega
        subst this
        rw [V4]
        repeat' first | simp -implicitDefEqProofs (maxSteps := 400000) (disch := first | with_reducible rfl | omega | (simp only [wkH] <;> omega) | decide) only [wkAll, wkL, popO, wantedP, if_true, if_false, reduceIte, ne_eq, Nat.reduceAdd, Nat.reduceSub, Nat.reduceMul, Nat.reduceLeDiff, Nat.reduceLT, ofCells, ofCell, reduceCtorEq, Int.reduceLE, Int.reduceLT, Int.reduceToNat, Int.reduceAdd, Int.reduceSub, Int.reduceMul, Int.reduceNeg, Int.reduceBEq, Int.reduceBNe, Int.reduceEq, eqCell, eqCells, binP, unP, convP, lenP, builtinP, sliceDataP, unsafeStringP, appendT, appendS, appendP, copyP, srcP, mmsP, mmP, indexOp, indexAddrOp, sliceOp, bndsP, bndP, capw, capCut, loadOp, storeOp, loadP, fieldOp, fieldAddrOp, arrayAtOp, buildP, buildSliceP, makeSliceP, placeF, fillP, setL, PK.agg, isZero, gt_iff_lt, Nat.reducePow, Nat.reduceGT, reps, seg, wkN, if_pos, if_neg, tf3, Tryz.ze3, tf5, Tryz.ze5, tf9, Tryz.ze9, tf30, Tryz.ze30, pl57_7Ae18, pl57_9Ae18, pl57_12Ae18, pl57_16Ae18, hk', z3, hn4] | refine w_drawnF (id := 7) tb57_7Ae18 pl57_7Ae18 47 (by kernel_rfl) (by kernel_rfl) (by simp) ?_ | refine w_drawnF (id := 9) tb57_9Ae18 pl57_9Ae18 70 (by kernel_rfl) (by kernel_rfl) (by simp) ?_ | refine w_drawnF (id := 12) tb57_12Ae18 pl57_12Ae18 96 (by kernel_rfl) (by kernel_rfl) (by simp) ?_ | refine w_drawnF (id := 16) tb57_16Ae18 pl57_16Ae18 117 (by kernel_rfl) (by kernel_rfl) (by simp) ?_
        refine hK1 (J ++ none :: ([some (.own [.int .u8 (a0.toNat : Int), .int .u8 (a1.toNat : Int), .int .u8 (a2.toNat : Int), .int .u8 (a3.toNat : Int)]), some (.own (bytesPV U))] ++ [cxB x0, none, cxB x1, none, cxB x2, none, cxB x3])) _ _ (.eq (by subst hB; simp [FadeTo, wIx, h_n, hn4, Nat.add_assoc] <;> omega) (by subst hB; simp [wBl, h_app]))
    · have q1 : ((((nk + j) % nk : Nat) : Int) == 0) = false := by rw [beq_eq_false_iff_ne]; omega
      have q2 : ((nk : Int) == 8) = true := by rw [beq_iff_eq]; omega
      have q3 : ((((nk + j) % 8 : Nat) : Int) == 4) = true := by rw [beq_iff_eq]; omega
      subst b4
      repeat' first | simp -implicitDefEqProofs (maxSteps := 400000) (disch := first | with_reducible rfl | omega | (simp only [wkH] <;> omega) | decide) only [wkAll, wkL, popO, wantedP, if_true, if_false, reduceIte, ne_eq, Nat.reduceAdd, Nat.reduceSub, Nat.reduceMul, Nat.reduceLeDiff, Nat.reduceLT, ofCells, ofCell, reduceCtorEq, Int.reduceLE, Int.reduceLT, Int.reduceToNat, Int.reduceAdd, Int.reduceSub, Int.reduceMul, Int.reduceNeg, Int.reduceBEq, Int.reduceBNe, Int.reduceEq, eqCell, eqCells, binP, unP, convP, lenP, builtinP, sliceDataP, unsafeStringP, appendT, appendS, appendP, copyP, srcP, mmsP, mmP, indexOp, indexAddrOp, sliceOp, bndsP, bndP, capw, capCut, loadOp, storeOp, loadP, fieldOp, fieldAddrOp, arrayAtOp, buildP, buildSliceP, makeSliceP, placeF, fillP, setL, PK.agg, isZero, gt_iff_lt, Nat.reducePow, Nat.reduceGT, reps, seg, wkN, if_pos, if_neg, tf3, Tryz.ze3, tf5, Tryz.ze5, tf9, Tryz.ze9, tf30, Tryz.ze30, pl57_7Ae18, pl57_9Ae18, pl57_12Ae18, pl57_16Ae18, e28, hlt', f, f0, f1, f2, f3, l0, l1, l2, l3, g0, g1, g2, g3, hWl, m0, m1, m2, q1, q2, q3, b0, b1, b2, b3] | refine w_pure (refSub8_ok a0) ?_ | refine w_pure (refSub8_ok a1) ?_ | refine w_pure (refSub8_ok a2) ?_ | refine w_pure (refSub8_ok a3) ?_ | refine w_drawnF (id := 7) tb57_7Ae18 pl57_7Ae18 47 (by kernel_rfl) (by kernel_rfl) (by simp) ?_ | refine w_drawnF (id := 9) tb57_9Ae18 pl57_9Ae18 70 (by kernel_rfl) (by kernel_rfl) (by simp) ?_ | refine w_drawnF (id := 12) tb57_12Ae18 pl57_12Ae18 96 (by kernel_rfl) (by kernel_rfl) (by simp) ?_ | refine w_drawnF (id := 16) tb57_16Ae18 pl57_16Ae18 117 (by kernel_rfl) (by kernel_rfl) (by simp) ?_
      refine w_loopH (α := Nat) B ph.ob ph.ty (fun k => [.undef, .undef, .undef, .int .i64 nk, .sl (B.n + wIx 2 k) 0 1 (M + k) none, .int .u8 c.toNat, .int .i64 ((nk + j : Nat) : Int), .sl (B.n + 2) 0 1 4 (some 4), .int .i64 k, .undef, .undef, .undef, .undef, .undef, .undef, .undef, .undef, .undef, .undef, .undef, .undef, .undef, .undef, .undef, .undef, .undef, .undef, .undef, .undef, .undef, .undef, .undef, .undef, .undef, .undef, .undef, .undef, .undef, .undef, .undef, .undef, .undef, .undef, .undef, .undef, .undef, .undef, .undef, .undef, .undef, .undef, .undef, .undef, .undef, .undef, .undef, .undef, .undef, .undef, .undef, .undef, .undef, .undef, .undef, .undef, .undef, .undef, .undef, .undef, .undef, .undef, .undef, .undef, .undef, .undef, .undef, .undef, .undef, .undef, .undef, .undef, .undef, .undef, .undef, .undef, .undef, .undef, .undef, .undef, .undef, .undef, .undef, .undef, .undef, .undef, .undef, .undef, .undef, .undef, .undef, .undef, .undef, .undef, .undef, .undef, .undef, .undef, .undef, .undef, .undef, .undef, .undef, .undef, .undef, .undef, .undef, .undef, .undef]) (fun k => wBl [some (.own [.int .u8 (a0.toNat : Int), .int .u8 (a1.toNat : Int), .int .u8 (a2.toNat : Int), .int .u8 (a3.toNat : Int)]), some (.own (bytesPV U))] x0 x1 x2 x3 (W ++ X.take k) k) (fun k => k ≤ 4) (fun k => 4 - k) 0 (by simp) (fun k hk => by
        subst hB; simp [h_n]; omega) (.eq (by simp [FadeTo, wIx]) (by simp [wBl, V0, ← hUb])) ?_
      intro k hk K2 hK2
      rcases Nat.lt_or_ge k 4 with hlt4 | hge4
      · have hk' : (k : Int) < 4 := by omega
        obtain ⟨V, hV⟩ : ∃ V, V = W ++ X.take k := ⟨_, rfl⟩
        have hVl : V.length = M + k := by rw [hV, List.length_append, List.length_take, hWl, hXl, Nat.min_eq_left (by omega)]
        obtain ⟨u, hu⟩ := get_someW (show k < U.length by omega)
        obtain ⟨p, hp⟩ := get_someW (show k < P.length by omega)
        obtain ⟨v, hv⟩ : ∃ v, p ^^^ u = v := ⟨_, rfl⟩
        have hz : X[k]? = some v := by rw [hX, xorB, List.getElem?_zipWith, hp, hu, ← hv]
        have j3 : V[4 * j + k]? = some p := by
          rw [hP, List.getElem?_take, if_pos hlt4, List.getElem?_drop] at hp
          rw [hV, List.getElem?_append_left (by omega)]; exact hp
        have j4 : ((4 * j : Nat) : Int) + (k : Int) = ((4 * j + k : Nat) : Int) := by omega
        have j5 : ((4 * j + k : Nat) : Int) < ((M + k : Nat) : Int) := by omega
        have hVn : bytesPV V ++ [.int .u8 (v.toNat : Int)] = bytesPV (W ++ X.take (k + 1)) := by
          rw [List.take_add_one, hz, ← List.append_assoc, ← hV, bytesPV_append]; rfl
        have hK3 := fun tm ph' => hK2 (k + 1) tm ph' (by omega) (by omega)
        have hmx : (M + k ≤ 140737488355327) = True := by simp; omega
        rw [← hV]
        clear hK1 hK2
        obtain ⟨k2, hk2⟩ : ∃ k2, k2 = k := ⟨_, rfl⟩
        rw [show wBl [some (.own [.int .u8 (a0.toNat : Int), .int .u8 (a1.toNat : Int), .int .u8 (a2.toNat : Int), .int .u8 (a3.toNat : Int)]), some (.own (bytesPV U))] x0 x1 x2 x3 V k = wBl [some (.own [.int .u8 (a0.toNat : Int), .int .u8 (a1.toNat : Int), .int .u8 (a2.toNat : Int), .int .u8 (a3.toNat : Int)]), some (.own (bytesPV U))] x0 x1 x2 x3 V k2 by rw [hk2], show wIx 2 k = wIx 2 k2 by rw [hk2]]
        rw [hX4] at hz
        have hcs : k2 = 0 ∨ k2 = 1 ∨ k2 = 2 ∨ k2 = 3 := by omega
        rcases hcs with rfl | rfl | rfl | rfl
        all_goals
          rw [← hk2] at hz
          simp only [List.getElem?_cons_zero, List.getElem?_cons_succ, Option.some.injEq] at hz
          simp only [wBl, wIx, cxB, List.cons_append, List.nil_append, Nat.reduceAdd, Nat.add_zero]
          repeat' first | simp -implicitDefEqProofs (maxSteps := 400000) (disch := first | with_reducible rfl | omega | (simp only [wkH] <;> omega) | decide) only [wkAll, wkL, popO, wantedP, if_true, if_false, reduceIte, ne_eq, Nat.reduceAdd, Nat.reduceSub, Nat.reduceMul, Nat.reduceLeDiff, Nat.reduceLT, ofCells, ofCell, reduceCtorEq, Int.reduceLE, Int.reduceLT, Int.reduceToNat, Int.reduceAdd, Int.reduceSub, Int.reduceMul, Int.reduceNeg, Int.reduceBEq, Int.reduceBNe, Int.reduceEq, eqCell, eqCells, binP, unP, convP, lenP, builtinP, sliceDataP, unsafeStringP, appendT, appendS, appendP, copyP, srcP, mmsP, mmP, indexOp, indexAddrOp, sliceOp, bndsP, bndP, capw, capCut, loadOp, storeOp, loadP, fieldOp, fieldAddrOp, arrayAtOp, buildP, buildSliceP, makeSliceP, placeF, fillP, setL, PK.agg, isZero, gt_iff_lt, Nat.reducePow, Nat.reduceGT, reps, seg, wkN, if_pos, if_neg, tf3, Tryz.ze3, tf5, Tryz.ze5, tf9, Tryz.ze9, tf30, Tryz.ze30, pl57_7Ae18, pl57_9Ae18, pl57_12Ae18, pl57_16Ae18, hk', j1, j2, j3, j4, j5, hVl, hUl, hu, xor_u8, hv, hVn, hmx, bytesPV_cok] | refine w_drawnF (id := 7) tb57_7Ae18 pl57_7Ae18 47 (by kernel_rfl) (by kernel_rfl) (by simp) ?_ | refine w_drawnF (id := 9) tb57_9Ae18 pl57_9Ae18 70 (by kernel_rfl) (by kernel_rfl) (by simp) ?_ | refine w_drawnF (id := 12) tb57_12Ae18 pl57_12Ae18 96 (by kernel_rfl) (by kernel_rfl) (by simp) ?_ | refine w_drawnF (id := 16) tb57_16Ae18 pl57_16Ae18 117 (by kernel_rfl) (by kernel_rfl) (by simp) ?_
          refine hK3 _ _ (.eq (by rw [← hk2]; simp [FadeTo, wIx, Nat.add_assoc]) (by rw [← hk2, hz]; simp [wBl, cxB]))
      · have hk' : ¬ (k : Int) < 4 := by omega
        have : k = 4 := by omega
        subst this
        rw [V4]
        repeat' first | simp -implicitDefEqProofs (maxSteps := 400000) (disch := first | with_reducible rfl | omega | (simp only [wkH] <;> omega) | decide) only [wkAll, wkL, popO, wantedP, if_true, if_false, reduceIte, ne_eq, Nat.reduceAdd, Nat.reduceSub, Nat.reduceMul, Nat.reduceLeDiff, Nat.reduceLT, ofCells, ofCell, reduceCtorEq, Int.reduceLE, Int.reduceLT, Int.reduceToNat, Int.reduceAdd, Int.reduceSub, Int.reduceMul, Int.reduceNeg, Int.reduceBEq, Int.reduceBNe, Int.reduceEq, eqCell, eqCells, binP, unP, convP, lenP, builtinP, sliceDataP, unsafeStringP, appendT, appendS, appendP, copyP, srcP, mmsP, mmP, indexOp, indexAddrOp, sliceOp, bndsP, bndP, capw, capCut, loadOp, storeOp, loadP, fieldOp, fieldAddrOp, arrayAtOp, buildP, buildSliceP, makeSliceP, placeF, fillP, setL, PK.agg, isZero, gt_iff_lt, Nat.reducePow, Nat.reduceGT, reps, seg, wkN, if_pos, if_neg, tf3, Tryz.ze3, tf5, Tryz.ze5, tf9, Tryz.ze9, tf30, Tryz.ze30, pl57_7Ae18, pl57_9Ae18, pl57_12Ae18, pl57_16Ae18, hk', z3, hn4] | refine w_drawnF (id := 7) tb57_7Ae18 pl57_7Ae18 47 (by kernel_rfl) (by kernel_rfl) (by simp) ?_ | refine w_drawnF (id := 9) tb57_9Ae18 pl57_9Ae18 70 (by kernel_rfl) (by kernel_rfl) (by simp) ?_ | refine w_drawnF (id := 12) tb57_12Ae18 pl57_12Ae18 96 (by kernel_rfl) (by kernel_rfl) (by simp) ?_ | refine w_drawnF (id := 16) tb57_16Ae18 pl57_16Ae18 117 (by kernel_rfl) (by kernel_rfl) (by simp) ?_
        refine hK1 (J ++ none :: ([some (.own [.int .u8 (a0.toNat : Int), .int .u8 (a1.toNat : Int), .int .u8 (a2.toNat : Int), .int .u8 (a3.toNat : Int)]), some (.own (bytesPV U))] ++ [cxB x0, none, cxB x1, none, cxB x2, none, cxB x3])) _ _ (.eq (by subst hB; simp [FadeTo, wIx, h_n, hn4, Nat.add_assoc] <;> omega) (by subst hB; simp [wBl, h_app]))
    · have q1 : ((((nk + j) % nk : Nat) : Int) == 0) = false := by rw [beq_eq_false_iff_ne]; omega
      have q2 : ((nk : Int) == 8) = false := by rw [beq_eq_false_iff_ne]; omega
      subst b0 b1 b2 b3 b4
      repeat' first | simp -implicitDefEqProofs (maxSteps := 400000) (disch := first | with_reducible rfl | omega | (simp only [wkH] <;> omega) | decide) only [wkAll, wkL, popO, wantedP, if_true, if_false, reduceIte, ne_eq, Nat.reduceAdd, Nat.reduceSub, Nat.reduceMul, Nat.reduceLeDiff, Nat.reduceLT, ofCells, ofCell, reduceCtorEq, Int.reduceLE, Int.reduceLT, Int.reduceToNat, Int.reduceAdd, Int.reduceSub, Int.reduceMul, Int.reduceNeg, Int.reduceBEq, Int.reduceBNe, Int.reduceEq, eqCell, eqCells, binP, unP, convP, lenP, builtinP, sliceDataP, unsafeStringP, appendT, appendS, appendP, copyP, srcP, mmsP, mmP, indexOp, indexAddrOp, sliceOp, bndsP, bndP, capw, capCut, loadOp, storeOp, loadP, fieldOp, fieldAddrOp, arrayAtOp, buildP, buildSliceP, makeSliceP, placeF, fillP, setL, PK.agg, isZero, gt_iff_lt, Nat.reducePow, Nat.reduceGT, reps, seg, wkN, if_pos, if_neg, tf3, Tryz.ze3, tf5, Tryz.ze5, tf9, Tryz.ze9, tf30, Tryz.ze30, pl57_7Ae18, pl57_9Ae18, pl57_12Ae18, pl57_16Ae18, e28, hlt', f, f0, f1, f2, f3, l0, l1, l2, l3, g0, g1, g2, g3, hWl, m0, m1, m2, q1, q2] | refine w_drawnF (id := 7) tb57_7Ae18 pl57_7Ae18 47 (by kernel_rfl) (by kernel_rfl) (by simp) ?_ | refine w_drawnF (id := 9) tb57_9Ae18 pl57_9Ae18 70 (by kernel_rfl) (by kernel_rfl) (by simp) ?_ | refine w_drawnF (id := 12) tb57_12Ae18 pl57_12Ae18 96 (by kernel_rfl) (by kernel_rfl) (by simp) ?_ | refine w_drawnF (id := 16) tb57_16Ae18 pl57_16Ae18 117 (by kernel_rfl) (by kernel_rfl) (by simp) ?_
      refine w_loopH (α := Nat) B ph.ob ph.ty (fun k => [.undef, .undef, .undef, .int .i64 nk, .sl (B.n + wIx 1 k) 0 1 (M + k) none, .int .u8 c.toNat, .int .i64 ((nk + j : Nat) : Int), .sl (B.n + 1) 0 1 4 (some 4), .int .i64 k, .undef, .undef, .undef, .undef, .undef, .undef, .undef, .undef, .undef, .undef, .undef, .undef, .undef, .undef, .undef, .undef, .undef, .undef, .undef, .undef, .undef, .undef, .undef, .undef, .undef, .undef, .undef, .undef, .undef, .undef, .undef, .undef, .undef, .undef, .undef, .undef, .undef, .undef, .undef, .undef, .undef, .undef, .undef, .undef, .undef, .undef, .undef, .undef, .undef, .undef, .undef, .undef, .undef, .undef, .undef, .undef, .undef, .undef, .undef, .undef, .undef, .undef, .undef, .undef, .undef, .undef, .undef, .undef, .undef, .undef, .undef, .undef, .undef, .undef, .undef, .undef, .undef, .undef, .undef, .undef, .undef, .undef, .undef, .undef, .undef, .undef, .undef, .undef, .undef, .undef, .undef, .undef, .undef, .undef, .undef, .undef, .undef, .undef, .undef, .undef, .undef, .undef, .undef, .undef, .undef, .undef, .undef, .undef, .undef]) (fun k => wBl [some (.own (bytesPV U))] x0 x1 x2 x3 (W ++ X.take k) k) (fun k => k ≤ 4) (fun k => 4 - k) 0 (by simp) (fun k hk => by
        subst hB; simp [h_n]; omega) (.eq (by simp [FadeTo, wIx]) (by simp [wBl, V0, ← hUb])) ?_
      intro k hk K2 hK2
      rcases Nat.lt_or_ge k 4 with hlt4 | hge4
      · have hk' : (k : Int) < 4 := by omega
        obtain ⟨V, hV⟩ : ∃ V, V = W ++ X.take k := ⟨_, rfl⟩
        have hVl : V.length = M + k := by rw [hV, List.length_append, List.length_take, hWl, hXl, Nat.min_eq_left (by omega)]
        obtain ⟨u, hu⟩ := get_someW (show k < U.length by omega)
        obtain ⟨p, hp⟩ := get_someW (show k < P.length by omega)
        obtain ⟨v, hv⟩ : ∃ v, p ^^^ u = v := ⟨_, rfl⟩
        have hz : X[k]? = some v := by rw [hX, xorB, List.getElem?_zipWith, hp, hu, ← hv]
        have j3 : V[4 * j + k]? = some p := by
          rw [hP, List.getElem?_take, if_pos hlt4, List.getElem?_drop] at hp
          rw [hV, List.getElem?_append_left (by omega)]; exact hp
        have j4 : ((4 * j : Nat) : Int) + (k : Int) = ((4 * j + k : Nat) : Int) := by omega
        have j5 : ((4 * j + k : Nat) : Int) < ((M + k : Nat) : Int) := by omega
        have hVn : bytesPV V ++ [.int .u8 (v.toNat : Int)] = bytesPV (W ++ X.take (k + 1)) := by
          rw [List.take_add_one, hz, ← List.append_assoc, ← hV, bytesPV_append]; rfl
        have hK3 := fun tm ph' => hK2 (k + 1) tm ph' (by omega) (by omega)
        have hmx : (M + k ≤ 140737488355327) = True := by simp; omega
        rw [← hV]
        clear hK1 hK2
        obtain ⟨k2, hk2⟩ : ∃ k2, k2 = k := ⟨_, rfl⟩
        rw [show wBl [some (.own (bytesPV U))] x0 x1 x2 x3 V k = wBl [some (.own (bytesPV U))] x0 x1 x2 x3 V k2 by rw [hk2], show wIx 1 k = wIx 1 k2 by rw [hk2]]
        rw [hX4] at hz
        have hcs : k2 = 0 ∨ k2 = 1 ∨ k2 = 2 ∨ k2 = 3 := by omega
        rcases hcs with rfl | rfl | rfl | rfl
        all_goals
          rw [← hk2] at hz
          simp only [List.getElem?_cons_zero, List.getElem?_cons_succ, Option.some.injEq] at hz
          simp only [wBl, wIx, cxB, List.cons_append, List.nil_append, Nat.reduceAdd, Nat.add_zero]
          repeat' first | simp -implicitDefEqProofs (maxSteps := 400000) (disch := first | with_reducible rfl | omega | (simp only [wkH] <;> omega) | decide) only [wkAll, wkL, popO, wantedP, if_true, if_false, reduceIte, ne_eq, Nat.reduceAdd, Nat.reduceSub, Nat.reduceMul, Nat.reduceLeDiff, Nat.reduceLT, ofCells, ofCell, reduceCtorEq, Int.reduceLE, Int.reduceLT, Int.reduceToNat, Int.reduceAdd, Int.reduceSub, Int.reduceMul, Int.reduceNeg, Int.reduceBEq, Int.reduceBNe, Int.reduceEq, eqCell, eqCells, binP, unP, convP, lenP, builtinP, sliceDataP, unsafeStringP, appendT, appendS, appendP, copyP, srcP, mmsP, mmP, indexOp, indexAddrOp, sliceOp, bndsP, bndP, capw, capCut, loadOp, storeOp, loadP, fieldOp, fieldAddrOp, arrayAtOp, buildP, buildSliceP, makeSliceP, placeF, fillP, setL, PK.agg, isZero, gt_iff_lt, Nat.reducePow, Nat.reduceGT, reps, seg, wkN, if_pos, if_neg, tf3, Tryz.ze3, tf5, Tryz.ze5, tf9, Tryz.ze9, tf30, Tryz.ze30, pl57_7Ae18, pl57_9Ae18, pl57_12Ae18, pl57_16Ae18, hk', j1, j2, j3, j4, j5, hVl, hUl, hu, xor_u8, hv, hVn, hmx, bytesPV_cok] | refine w_drawnF (id := 7) tb57_7Ae18 pl57_7Ae18 47 (by kernel_rfl) (by kernel_rfl) (by simp) ?_ | refine w_drawnF (id := 9) tb57_9Ae18 pl57_9Ae18 70 (by kernel_rfl) (by kernel_rfl) (by simp) ?_ | refine w_drawnF (id := 12) tb57_12Ae18 pl57_12Ae18 96 (by kernel_rfl) (by kernel_rfl) (by simp) ?_ | refine w_drawnF (id := 16) tb57_16Ae18 pl57_16Ae18 117 (by kernel_rfl) (by kernel_rfl) (by simp) ?_
          refine hK3 _ _ (.eq (by rw [← hk2]; simp [FadeTo, wIx, Nat.add_assoc]) (by rw [← hk2, hz]; simp [wBl, cxB]))
      · have hk' : ¬ (k : Int) < 4 := by omega
        have : k = 4 := by omega
        subst this
        rw [V4]
        repeat' first | simp -implicitDefEqProofs (maxSteps := 400000) (disch := first | with_reducible rfl | omega | (simp only [wkH] <;> omega) | decide) only [wkAll, wkL, popO, wantedP, if_true, if_false, reduceIte, ne_eq, Nat.reduceAdd, Nat.reduceSub, Nat.reduceMul, Nat.reduceLeDiff, Nat.reduceLT, ofCells, ofCell, reduceCtorEq, Int.reduceLE, Int.reduceLT, Int.reduceToNat, Int.reduceAdd, Int.reduceSub, Int.reduceMul, Int.reduceNeg, Int.reduceBEq, Int.reduceBNe, Int.reduceEq, eqCell, eqCells, binP, unP, convP, lenP, builtinP, sliceDataP, unsafeStringP, appendT, appendS, appendP, copyP, srcP, mmsP, mmP, indexOp, indexAddrOp, sliceOp, bndsP, bndP, capw, capCut, loadOp, storeOp, loadP, fieldOp, fieldAddrOp, arrayAtOp, buildP, buildSliceP, makeSliceP, placeF, fillP, setL, PK.agg, isZero, gt_iff_lt, Nat.reducePow, Nat.reduceGT, reps, seg, wkN, if_pos, if_neg, tf3, Tryz.ze3, tf5, Tryz.ze5, tf9, Tryz.ze9, tf30, Tryz.ze30, pl57_7Ae18, pl57_9Ae18, pl57_12Ae18, pl57_16Ae18, hk', z3, hn4] | refine w_drawnF (id := 7) tb57_7Ae18 pl57_7Ae18 47 (by kernel_rfl) (by kernel_rfl) (by simp) ?_ | refine w_drawnF (id := 9) tb57_9Ae18 pl57_9Ae18 70 (by kernel_rfl) (by kernel_rfl) (by simp) ?_ | refine w_drawnF (id := 12) tb57_12Ae18 pl57_12Ae18 96 (by kernel_rfl) (by kernel_rfl) (by simp) ?_ | refine w_drawnF (id := 16) tb57_16Ae18 pl57_16Ae18 117 (by kernel_rfl) (by kernel_rfl) (by simp) ?_
        refine hK1 (J ++ none :: ([some (.own (bytesPV U))] ++ [cxB x0, none, cxB x1, none, cxB x2, none, cxB x3])) _ _ (.eq (by subst hB; simp [FadeTo, wIx, h_n, hn4, Nat.add_assoc] <;> omega) (by subst hB; simp [wBl, h_app]))
    · have q1 : ((((nk + j) % nk : Nat) : Int) == 0) = false := by rw [beq_eq_false_iff_ne]; omega
      have q2 : ((nk : Int) == 8) = true := by rw [beq_iff_eq]; omega
      have q3 : ((((nk + j) % 8 : Nat) : Int) == 4) = false := by rw [beq_eq_false_iff_ne]; omega
      subst b0 b1 b2 b3 b4
      repeat' first | simp -implicitDefEqProofs (maxSteps := 400000) (disch := first | with_reducible rfl | omega | (simp only [wkH] <;> omega) | decide) only [wkAll, wkL, popO, wantedP, if_true, if_false, reduceIte, ne_eq, Nat.reduceAdd, Nat.reduceSub, Nat.reduceMul, Nat.reduceLeDiff, Nat.reduceLT, ofCells, ofCell, reduceCtorEq, Int.reduceLE, Int.reduceLT, Int.reduceToNat, Int.reduceAdd, Int.reduceSub, Int.reduceMul, Int.reduceNeg, Int.reduceBEq, Int.reduceBNe, Int.reduceEq, eqCell, eqCells, binP, unP, convP, lenP, builtinP, sliceDataP, unsafeStringP, appendT, appendS, appendP, copyP, srcP, mmsP, mmP, indexOp, indexAddrOp, sliceOp, bndsP, bndP, capw, capCut, loadOp, storeOp, loadP, fieldOp, fieldAddrOp, arrayAtOp, buildP, buildSliceP, makeSliceP, placeF, fillP, setL, PK.agg, isZero, gt_iff_lt, Nat.reducePow, Nat.reduceGT, reps, seg, wkN, if_pos, if_neg, tf3, Tryz.ze3, tf5, Tryz.ze5, tf9, Tryz.ze9, tf30, Tryz.ze30, pl57_7Ae18, pl57_9Ae18, pl57_12Ae18, pl57_16Ae18, e28, hlt', f, f0, f1, f2, f3, l0, l1, l2, l3, g0, g1, g2, g3, hWl, m0, m1, m2, q1, q2, q3] | refine w_drawnF (id := 7) tb57_7Ae18 pl57_7Ae18 47 (by kernel_rfl) (by kernel_rfl) (by simp) ?_ | refine w_drawnF (id := 9) tb57_9Ae18 pl57_9Ae18 70 (by kernel_rfl) (by kernel_rfl) (by simp) ?_ | refine w_drawnF (id := 12) tb57_12Ae18 pl57_12Ae18 96 (by kernel_rfl) (by kernel_rfl) (by simp) ?_ | refine w_drawnF (id := 16) tb57_16Ae18 pl57_16Ae18 117 (by kernel_rfl) (by kernel_rfl) (by simp) ?_
      refine w_loopH (α := Nat) B ph.ob ph.ty (fun k => [.undef, .undef, .undef, .int .i64 nk, .sl (B.n + wIx 1 k) 0 1 (M + k) none, .int .u8 c.toNat, .int .i64 ((nk + j : Nat) : Int), .sl (B.n + 1) 0 1 4 (some 4), .int .i64 k, .undef, .undef, .undef, .undef, .undef, .undef, .undef, .undef, .undef, .undef, .undef, .undef, .undef, .undef, .undef, .undef, .undef, .undef, .undef, .undef, .undef, .undef, .undef, .undef, .undef, .undef, .undef, .undef, .undef, .undef, .undef, .undef, .undef, .undef, .undef, .undef, .undef, .undef, .undef, .undef, .undef, .undef, .undef, .undef, .undef, .undef, .undef, .undef, .undef, .undef, .undef, .undef, .undef, .undef, .undef, .undef, .undef, .undef, .undef, .undef, .undef, .undef, .undef, .undef, .undef, .undef, .undef, .undef, .undef, .undef, .undef, .undef, .undef, .undef, .undef, .undef, .undef, .undef, .undef, .undef, .undef, .undef, .undef, .undef, .undef, .undef, .undef, .undef, .undef, .undef, .undef, .undef, .undef, .undef, .undef, .undef, .undef, .undef, .undef, .undef, .undef, .undef, .undef, .undef, .undef, .undef, .undef, .undef, .undef]) (fun k => wBl [some (.own (bytesPV U))] x0 x1 x2 x3 (W ++ X.take k) k) (fun k => k ≤ 4) (fun k => 4 - k) 0 (by simp) (fun k hk => by
        subst hB; simp [h_n]; omega) (.eq (by simp [FadeTo, wIx]) (by simp [wBl, V0, ← hUb])) ?_
      intro k hk K2 hK2
      rcases Nat.lt_or_ge k 4 with hlt4 | hge4
      · have hk' : (k : Int) < 4 := by omega
        obtain ⟨V, hV⟩ : ∃ V, V = W ++ X.take k := ⟨_, rfl⟩
        have hVl : V.length = M + k := by rw [hV, List.length_append, List.length_take, hWl, hXl, Nat.min_eq_left (by omega)]
        obtain ⟨u, hu⟩ := get_someW (show k < U.length by omega)
        obtain ⟨p, hp⟩ := get_someW (show k < P.length by omega)
        obtain ⟨v, hv⟩ : ∃ v, p ^^^ u = v := ⟨_, rfl⟩
        have hz : X[k]? = some v := by rw [hX, xorB, List.getElem?_zipWith, hp, hu, ← hv]
        have j3 : V[4 * j + k]? = some p := by
          rw [hP, List.getElem?_take, if_pos hlt4, List.getElem?_drop] at hp
          rw [hV, List.getElem?_append_left (by omega)]; exact hp
        have j4 : ((4 * j : Nat) : Int) + (k : Int) = ((4 * j + k : Nat) : Int) := by omega
        have j5 : ((4 * j + k : Nat) : Int) < ((M + k : Nat) : Int) := by omega
        have hVn : bytesPV V ++ [.int .u8 (v.toNat : Int)] = bytesPV (W ++ X.take (k + 1)) := by
          rw [List.take_add_one, hz, ← List.append_assoc, ← hV, bytesPV_append]; rfl
        have hK3 := fun tm ph' => hK2 (k + 1) tm ph' (by omega) (by omega)
        have hmx : (M + k ≤ 140737488355327) = True := by simp; omega
        rw [← hV]
        clear hK1 hK2
        obtain ⟨k2, hk2⟩ : ∃ k2, k2 = k := ⟨_, rfl⟩
        rw [show wBl [some (.own (bytesPV U))] x0 x1 x2 x3 V k = wBl [some (.own (bytesPV U))] x0 x1 x2 x3 V k2 by rw [hk2], show wIx 1 k = wIx 1 k2 by rw [hk2]]
        rw [hX4] at hz
        have hcs : k2 = 0 ∨ k2 = 1 ∨ k2 = 2 ∨ k2 = 3 := by omega
        rcases hcs with rfl | rfl | rfl | rfl
        all_goals
          rw [← hk2] at hz
          simp only [List.getElem?_cons_zero, List.getElem?_cons_succ, Option.some.injEq] at hz
          simp only [wBl, wIx, cxB, List.cons_append, List.nil_append, Nat.reduceAdd, Nat.add_zero]
          repeat' first | simp -implicitDefEqProofs (maxSteps := 400000) (disch := first | with_reducible rfl | omega | (simp only [wkH] <;> omega) | decide) only [wkAll, wkL, popO, wantedP, if_true, if_false, reduceIte, ne_eq, Nat.reduceAdd, Nat.reduceSub, Nat.reduceMul, Nat.reduceLeDiff, Nat.reduceLT, ofCells, ofCell, reduceCtorEq, Int.reduceLE, Int.reduceLT, Int.reduceToNat, Int.reduceAdd, Int.reduceSub, Int.reduceMul, Int.reduceNeg, Int.reduceBEq, Int.reduceBNe, Int.reduceEq, eqCell, eqCells, binP, unP, convP, lenP, builtinP, sliceDataP, unsafeStringP, appendT, appendS, appendP, copyP, srcP, mmsP, mmP, indexOp, indexAddrOp, sliceOp, bndsP, bndP, capw, capCut, loadOp, storeOp, loadP, fieldOp, fieldAddrOp, arrayAtOp, buildP, buildSliceP, makeSliceP, placeF, fillP, setL, PK.agg, isZero, gt_iff_lt, Nat.reducePow, Nat.reduceGT, reps, seg, wkN, if_pos, if_neg, tf3, Tryz.ze3, tf5, Tryz.ze5, tf9, Tryz.ze9, tf30, Tryz.ze30, pl57_7Ae18, pl57_9Ae18, pl57_12Ae18, pl57_16Ae18, hk', j1, j2, j3, j4, j5, hVl, hUl, hu, xor_u8, hv, hVn, hmx, bytesPV_cok] | refine w_drawnF (id := 7) tb57_7Ae18 pl57_7Ae18 47 (by kernel_rfl) (by kernel_rfl) (by simp) ?_ | refine w_drawnF (id := 9) tb57_9Ae18 pl57_9Ae18 70 (by kernel_rfl) (by kernel_rfl) (by simp) ?_ | refine w_drawnF (id := 12) tb57_12Ae18 pl57_12Ae18 96 (by kernel_rfl) (by kernel_rfl) (by simp) ?_ | refine w_drawnF (id := 16) tb57_16Ae18 pl57_16Ae18 117 (by kernel_rfl) (by kernel_rfl) (by simp) ?_
          refine hK3 _ _ (.eq (by rw [← hk2]; simp [FadeTo, wIx, Nat.add_assoc]) (by rw [← hk2, hz]; simp [wBl, cxB]))
      · have hk' : ¬ (k : Int) < 4 := by omega
        have : k = 4 := by omega
        subst this
        rw [V4]
        repeat' first | simp -implicitDefEqProofs (maxSteps := 400000) (disch := first | with_reducible rfl | omega | (simp only [wkH] <;> omega) | decide) only [wkAll, wkL, popO, wantedP, if_true, if_false, reduceIte, ne_eq, Nat.reduceAdd, Nat.reduceSub, Nat.reduceMul, Nat.reduceLeDiff, Nat.reduceLT, ofCells, ofCell, reduceCtorEq, Int.reduceLE, Int.reduceLT, Int.reduceToNat, Int.reduceAdd, Int.reduceSub, Int.reduceMul, Int.reduceNeg, Int.reduceBEq, Int.reduceBNe, Int.reduceEq, eqCell, eqCells, binP, unP, convP, lenP, builtinP, sliceDataP, unsafeStringP, appendT, appendS, appendP, copyP, srcP, mmsP, mmP, indexOp, indexAddrOp, sliceOp, bndsP, bndP, capw, capCut, loadOp, storeOp, loadP, fieldOp, fieldAddrOp, arrayAtOp, buildP, buildSliceP, makeSliceP, placeF, fillP, setL, PK.agg, isZero, gt_iff_lt, Nat.reducePow, Nat.reduceGT, reps, seg, wkN, if_pos, if_neg, tf3, Tryz.ze3, tf5, Tryz.ze5, tf9, Tryz.ze9, tf30, Tryz.ze30, pl57_7Ae18, pl57_9Ae18, pl57_12Ae18, pl57_16Ae18, hk', z3, hn4] | refine w_drawnF (id := 7) tb57_7Ae18 pl57_7Ae18 47 (by kernel_rfl) (by kernel_rfl) (by simp) ?_ | refine w_drawnF (id := 9) tb57_9Ae18 pl57_9Ae18 70 (by kernel_rfl) (by kernel_rfl) (by simp) ?_ | refine w_drawnF (id := 12) tb57_12Ae18 pl57_12Ae18 96 (by kernel_rfl) (by kernel_rfl) (by simp) ?_ | refine w_drawnF (id := 16) tb57_16Ae18 pl57_16Ae18 117 (by kernel_rfl) (by kernel_rfl) (by simp) ?_
        refine hK1 (J ++ none :: ([some (.own (bytesPV U))] ++ [cxB x0, none, cxB x1, none, cxB x2, none, cxB x3])) _ _ (.eq (by subst hB; simp [FadeTo, wIx, h_n, hn4, Nat.add_assoc] <;> omega) (by subst hB; simp [wBl, h_app]))
  · have hge' : ¬ ((nk + j : Nat) : Int) < ((4 * nk + 28 : Nat) : Int) := by omega
    have : j = 3 * nk + 28 := by omega
    rw [this] at hWl ⊢
    rw [hnk] at hWl ⊢
    rw [← words_eq] at hWl ⊢
    rw [← hnk] at hWl ⊢
    clear hK
    generalize wordsL key = w at *
    rw [← hWl]
    subst hB
    rw [h_app]
    have hg : ((H ph (J ++ [some (Blk.own (bytesPV w))]) ph.ob ph.ty).shut []).get (ph.n + J.length) = some (bytesPV w) := by
      rw [h_shut0, h_get, List.getElem?_append_right (by simp)]; simp [blk_own]
    have hsg : seg (bytesPV w) 0 (w.length * 1) = bytesPV w := by
      simp only [seg, List.drop_zero, Nat.mul_one]; exact List.take_of_length_le (by rw [bytesPV_len]; exact Nat.le_refl _)
    have hfz : ∀ q m d, frzs q m (d + 1) (seg (bytesPV w) 0 (w.length * 1)) = some (bytesPV w) := fun q m d => by rw [hsg]; exact frzs_scalars (bytesPV_scalar _)
    rw [this] at hge'
    repeat' first | simp -implicitDefEqProofs (maxSteps := 400000) (disch := first | with_reducible rfl | omega | (simp only [wkH] <;> omega) | decide) only [wkAll, wkL, popO, wantedP, if_true, if_false, reduceIte, ne_eq, Nat.reduceAdd, Nat.reduceSub, Nat.reduceMul, Nat.reduceLeDiff, Nat.reduceLT, ofCells, ofCell, reduceCtorEq, Int.reduceLE, Int.reduceLT, Int.reduceToNat, Int.reduceAdd, Int.reduceSub, Int.reduceMul, Int.reduceNeg, Int.reduceBEq, Int.reduceBNe, Int.reduceEq, eqCell, eqCells, binP, unP, convP, lenP, builtinP, sliceDataP, unsafeStringP, appendT, appendS, appendP, copyP, srcP, mmsP, mmP, indexOp, indexAddrOp, sliceOp, bndsP, bndP, capw, capCut, loadOp, storeOp, loadP, fieldOp, fieldAddrOp, arrayAtOp, buildP, buildSliceP, makeSliceP, placeF, fillP, setL, PK.agg, isZero, gt_iff_lt, Nat.reducePow, Nat.reduceGT, reps, seg, wkN, if_pos, if_neg, tf3, Tryz.ze3, tf5, Tryz.ze5, tf9, Tryz.ze9, tf30, Tryz.ze30, pl57_7Ae18, pl57_9Ae18, pl57_12Ae18, pl57_16Ae18, e28, hge', h_n] | refine w_drawnF (id := 7) tb57_7Ae18 pl57_7Ae18 47 (by kernel_rfl) (by kernel_rfl) (by simp) ?_ | refine w_drawnF (id := 9) tb57_9Ae18 pl57_9Ae18 70 (by kernel_rfl) (by kernel_rfl) (by simp) ?_ | refine w_drawnF (id := 12) tb57_12Ae18 pl57_12Ae18 96 (by kernel_rfl) (by kernel_rfl) (by simp) ?_ | refine w_drawnF (id := 16) tb57_16Ae18 pl57_16Ae18 117 (by kernel_rfl) (by kernel_rfl) (by simp) ?_
    refine hQ (by first | exact .inr rfl | exact .inl rfl) (by first | exact trivial | exact marks1) (by first | (simp -implicitDefEqProofs (maxSteps := 400000) (disch := first | with_reducible rfl | omega | (simp only [wkH] <;> omega) | decide) only [wkAll, wkL, popO, wantedP, if_true, if_false, reduceIte, ne_eq, Nat.reduceAdd, Nat.reduceSub, Nat.reduceMul, Nat.reduceLeDiff, Nat.reduceLT, ofCells, ofCell, reduceCtorEq, Int.reduceLE, Int.reduceLT, Int.reduceToNat, Int.reduceAdd, Int.reduceSub, Int.reduceMul, Int.reduceNeg, Int.reduceBEq, Int.reduceBNe, Int.reduceEq, eqCell, eqCells, loadOp, storeOp, loadP, setL, PK.agg, isZero, gt_iff_lt, Nat.reducePow, Nat.reduceGT, reps, seg, wkN, if_pos, if_neg, tf3, Tryz.ze3, tf5, Tryz.ze5, tf9, Tryz.ze9, tf30, Tryz.ze30, pl57_7Ae18, pl57_9Ae18, pl57_12Ae18, pl57_16Ae18, resP, resPs, resP1]; rfl) | rfl) ⟨6, by repeat' first | exact frz_scalar rfl | apply frz_tuple | apply frz_agg | apply frz_fsl | apply frz_gsl (by omega) | exact frzs_nil | apply frzs_cons | exact frz_sl (by omega) hg (by rw [bytesPV_len]; omega) (hfz _ _ _)⟩ (by first | exact keepsH0 | exact keeps1 (by assumption)) (nw_eq ?_)
    rfl
end Pv
