/- Part of the proof: the layer of pure values, or walks through functions (PvAe7). -/
import Derived.Test.YtbocckencbkdeaaGreatPvAeT
import Derived.Test.YtbocckencbkdeaaGreatPvH5
set_option linter.all false
--nosplit
--keep2
namespace Pv
set_option maxRecDepth 20000
set_option maxHeartbeats 4000000
open Go Go.Proofs Go.RowKit
def tb102_12Ae7 : Tab := [[], [], [1], [0], [0, 3], [0, 1, 2, 3, 4], [0, 1, 2, 3, 4, 5], [], [0, 1, 2, 3, 4, 5, 6, 7], [], [], [10], [9], [9, 12], [9, 10, 11, 12, 13], [9, 10, 11, 12, 13, 14], [], [], [17], [16], [16, 19], [16, 17, 18, 19, 20], [16, 17, 18, 19, 20, 21], [], [], [24], [23], [23, 26], [23, 24, 25, 26, 27], [23, 24, 25, 26, 27, 28], [0, 1, 2, 3, 4, 5, 6, 7, 8, 9, 10, 11, 12, 13, 14, 15, 16, 17, 18, 19, 20, 21, 22, 23, 24, 25, 26, 27, 28, 29], [0, 1, 2, 3, 4, 5, 6, 7, 8, 9, 10, 11, 12, 13, 14, 15, 16, 17, 18, 19, 20, 21, 22, 23, 24, 25, 26, 27, 28, 29, 30]]
def pl102_12Ae7 : Plan := [(0, true, []), (1, true, []), (2, true, []), (3, true, []), (4, true, []), (5, true, []), (6, true, []), (7, true, []), (8, true, []), (9, true, []), (10, true, []), (11, true, []), (12, true, []), (13, true, []), (14, true, []), (15, true, []), (16, true, []), (17, true, []), (18, true, []), (19, true, []), (20, true, []), (21, true, []), (22, true, []), (23, true, []), (24, true, []), (25, true, []), (26, true, []), (27, true, []), (28, true, []), (29, true, []), (30, true, []), (31, false, [])]
def tb102_15Ae7 : Tab := [[], [], [1], [0], [0, 3], [0, 1, 2, 3, 4], [0, 1, 2, 3, 4, 5], [], [], [8], [7], [7, 10], [7, 8, 9, 10, 11], [7, 8, 9, 10, 11, 12], [], [], [15], [14], [14, 17], [14, 15, 16, 17, 18], [14, 15, 16, 17, 18, 19], [], [], [22], [21], [21, 24], [21, 22, 23, 24, 25], [21, 22, 23, 24, 25, 26], [0, 1, 2, 3, 4, 5, 6, 7, 8, 9, 10, 11, 12, 13, 14, 15, 16, 17, 18, 19, 20, 21, 22, 23, 24, 25, 26, 27], [0, 1, 2, 3, 4, 5, 6, 7, 8, 9, 10, 11, 12, 13, 14, 15, 16, 17, 18, 19, 20, 21, 22, 23, 24, 25, 26, 27, 28]]
def pl102_15Ae7 : Plan := [(0, true, []), (1, true, []), (2, true, []), (3, true, []), (4, true, []), (5, true, []), (6, true, []), (7, true, []), (8, true, []), (9, true, []), (10, true, []), (11, true, []), (12, true, []), (13, true, []), (14, true, []), (15, true, []), (16, true, []), (17, true, []), (18, true, []), (19, true, []), (20, true, []), (21, true, []), (22, true, []), (23, true, []), (24, true, []), (25, true, []), (26, true, []), (27, true, []), (28, true, []), (29, false, [])]
def tb102_19Ae7 : Tab := [[], [0], [0, 1], [], [], [], [4, 5], [], [3, 4, 5, 6], [3, 4, 5, 6, 7, 8], [3, 4, 5, 6, 7, 8, 9], [0, 1, 2, 3, 4, 5, 6, 7, 8, 9, 10], [0, 1, 2, 3, 4, 5, 6, 7, 8, 9, 10, 11], [0, 1, 2, 3, 4, 5, 6, 7, 8, 9, 10, 11, 12]]
def pl102_19Ae7 : Plan := [(0, true, []), (1, true, []), (2, true, []), (3, true, []), (4, true, []), (5, true, []), (6, true, []), (7, true, []), (8, true, []), (9, true, []), (10, true, []), (11, true, []), (12, true, []), (13, false, [])]
def tb102_24Ae7 : Tab := [[], [], [1], [1, 2], [1, 2, 3], [], [5], [5, 6], [], [8], [8, 9], [], [11], [11, 12], [], [14], [14, 15], [5, 6, 7, 8, 9, 10, 11, 12, 13, 14, 15, 16], [5, 6, 7, 8, 9, 10, 11, 12, 13, 14, 15, 16, 17], [5, 6, 7, 8, 9, 10, 11, 12, 13, 14, 15, 16, 17, 18], [5, 6, 7, 8, 9, 10, 11, 12, 13, 14, 15, 16, 17, 18, 19], [5, 6, 7, 8, 9, 10, 11, 12, 13, 14, 15, 16, 17, 18, 19, 20], [1, 2, 3, 4, 5, 6, 7, 8, 9, 10, 11, 12, 13, 14, 15, 16, 17, 18, 19, 20, 21], [0, 1, 2, 3, 4, 5, 6, 7, 8, 9, 10, 11, 12, 13, 14, 15, 16, 17, 18, 19, 20, 21, 22], [0, 1, 2, 3, 4, 5, 6, 7, 8, 9, 10, 11, 12, 13, 14, 15, 16, 17, 18, 19, 20, 21, 22, 23], [0, 1, 2, 3, 4, 5, 6, 7, 8, 9, 10, 11, 12, 13, 14, 15, 16, 17, 18, 19, 20, 21, 22, 23, 24]]
def pl102_24Ae7 : Plan := [(0, true, []), (1, true, []), (2, true, []), (3, true, []), (4, true, []), (5, true, []), (6, true, []), (7, true, []), (8, true, []), (9, true, []), (10, true, []), (11, true, []), (12, true, []), (13, true, []), (14, true, []), (15, true, []), (16, true, []), (17, false, [0, 1, 2, 3, 4]), (18, false, [0, 1, 2, 3, 4]), (19, true, []), (20, true, []), (21, false, [0, 1, 2, 3, 4]), (22, false, [0]), (23, true, []), (24, true, []), (25, false, [])]
def tb102_5Ae7 : Tab := [[], [], [1], [1, 2], [1, 2, 3], [0, 1, 2, 3, 4], [0, 1, 2, 3, 4, 5]]
def pl102_5Ae7 : Plan := [(0, true, []), (1, true, []), (2, true, []), (3, true, []), (4, false, [0]), (5, false, []), (6, false, [])]
def tb119_3Ae7 : Tab := [[], [], [], [1, 2], [1, 2, 3], [0, 1, 2, 3, 4], [0, 1, 2, 3, 4, 5]]
def pl119_3Ae7 : Plan := [(0, true, []), (1, true, []), (2, true, []), (3, true, []), (4, true, []), (5, true, []), (6, false, [])]
def tb120_3Ae7 : Tab := [[], [], [], [1, 2], [1, 2, 3], [0, 1, 2, 3, 4], [0, 1, 2, 3, 4, 5]]
def pl120_3Ae7 : Plan := [(0, true, []), (1, true, []), (2, true, []), (3, true, []), (4, true, []), (5, true, []), (6, false, [])]
variable {w0 : World}

theorem bytes_td (S : List UInt8) (a m : Nat) : (List.drop a (bytesPV S)).take m = bytesPV ((S.drop a).take m) := seg_bytes S a m
theorem slice1 {P : Program} {t e : TypeId} {esz len lo : Nat} {cells : List PV} {p : PH} (hu : P.underlying t = some (.slice e)) (hs : szP P e = some esz) (h1 : lo ≤ len) : sliceOp P t (.fsl esz len cells) (some (.int .i64 (lo : Int))) none none p = some (.fsl esz (len - lo) (seg cells (lo * esz) ((len - lo) * esz))) := by
  have b : bndsP len len (some (.int .i64 (lo : Int))) none none = some (lo, len, none) := by
    simp only [bndsP, bndP, Option.bind_some]
    rw [if_pos (by omega)]; simp
  simp only [sliceOp, hu, hs, if_true, b, Option.map_some]
theorem slice3 {P : Program} {t e : TypeId} {esz len lo hi : Nat} {cells : List PV} {p : PH} (hu : P.underlying t = some (.slice e)) (hs : szP P e = some esz) (h1 : lo ≤ hi) (h2 : hi ≤ len) (h0 : 0 < hi) : sliceOp P t (.fsl esz len cells) (some (.int .i64 (lo : Int))) (some (.int .i64 (hi : Int))) (some (.int .i64 (hi : Int))) p = some (.fsl esz (hi - lo) (seg cells (lo * esz) ((hi - lo) * esz))) := by
  have b : bndsP len len (some (.int .i64 (lo : Int))) (some (.int .i64 (hi : Int))) (some (.int .i64 (hi : Int))) = some (lo, hi, some hi) := by
    simp only [bndsP, bndP, Option.bind_some]
    rw [if_pos (by omega)]; simp only [Option.bind_some, Int.toNat_natCast]
    rw [if_pos (by omega)]; simp only [Option.bind_some, Int.toNat_natCast]
    rw [if_pos (by omega)]; simp
  unfold sliceOp
  rw [hu]
  simp only [hs, if_true]
  split
  · rename_i e; cases e
  · rename_i e; simp at e; omega
  · rename_i e; cases e; rw [b]; rfl
theorem slice_farr {P : Program} {t e : TypeId} {esz n : Nat} {cells : List PV} {p : PH} (hu : P.underlying t = some (.array n e)) (hs : szP P e = some esz) (h1 : n * esz ≤ cells.length) : sliceOp P t (.fptr cells) none none none p = some (.fsl esz n (cells.take (n * esz))) := by
  simp only [sliceOp, hu, hs, bndsP, bndP, Option.bind_some, Option.map_some, if_pos h1, seg, Nat.sub_zero, Nat.zero_mul, List.drop_zero]
theorem xorB_comm : ∀ (a b : List UInt8), xorB a b = xorB b a
  | [], [] => rfl
  | [], _ :: _ => rfl
  | _ :: _, [] => rfl
  | x :: a, y :: b => by
    have := xorB_comm a b
    simp only [xorB, List.zipWith_cons_cons] at this ⊢
    rw [this, UInt8.xor_comm]
theorem four {b : List UInt8} (h : b.length = 4) : ∃ b0 b1 b2 b3, b = [b0, b1, b2, b3] := by
  match b, h with
  | [b0, b1, b2, b3], _ => exact ⟨_, _, _, _, rfl⟩
theorem kT_cases (nk i : Nat) (a0 a1 a2 a3 c : UInt8) : ∃ u0 u1 u2 u3 c', kT nk [a0, a1, a2, a3] c i = [u0, u1, u2, u3] ∧ (if i % nk = 0 then gm c 2 else c) = c' ∧
    ((i % nk = 0 ∧ sbox a1 ^^^ c = u0 ∧ sbox a2 = u1 ∧ sbox a3 = u2 ∧ sbox a0 = u3 ∧ gm c 2 = c') ∨
     (i % nk ≠ 0 ∧ nk = 8 ∧ i % 8 = 4 ∧ sbox a0 = u0 ∧ sbox a1 = u1 ∧ sbox a2 = u2 ∧ sbox a3 = u3 ∧ c = c') ∨
     (i % nk ≠ 0 ∧ nk ≠ 8 ∧ a0 = u0 ∧ a1 = u1 ∧ a2 = u2 ∧ a3 = u3 ∧ c = c') ∨
     (i % nk ≠ 0 ∧ nk = 8 ∧ i % 8 ≠ 4 ∧ a0 = u0 ∧ a1 = u1 ∧ a2 = u2 ∧ a3 = u3 ∧ c = c')) := by
  by_cases h1 : i % nk = 0
  · exact ⟨_, _, _, _, _, by rw [kT, if_pos h1]; rfl, by rw [if_pos h1], .inl ⟨h1, rfl, rfl, rfl, rfl, rfl⟩⟩
  · by_cases h2 : nk = 8
    · by_cases h3 : i % 8 = 4
      · exact ⟨_, _, _, _, _, by rw [kT, if_neg h1, if_pos ⟨h2, h3⟩]; rfl, by rw [if_neg h1], .inr (.inl ⟨h1, h2, h3, rfl, rfl, rfl, rfl, rfl⟩)⟩
      · exact ⟨_, _, _, _, _, by rw [kT, if_neg h1, if_neg (fun h => h3 h.2)]; rfl, by rw [if_neg h1], .inr (.inr (.inr ⟨h1, h2, h3, rfl, rfl, rfl, rfl, rfl⟩))⟩
    · exact ⟨_, _, _, _, _, by rw [kT, if_neg h1, if_neg (fun h => h2 h.1)]; rfl, by rw [if_neg h1], .inr (.inr (.inl ⟨h1, h2, rfl, rfl, rfl, rfl, rfl⟩))⟩
theorem kI_next (key : List UInt8) (nk j : Nat) : kI key nk (j + 1) = ((kI key nk j).1 ++ xorB (((kI key nk j).1.drop (4 * j)).take 4) (kT nk (((kI key nk j).1.drop (4 * (nk + j) - 4)).take 4) (kI key nk j).2 (nk + j)),
      if (nk + j) % nk = 0 then gm (kI key nk j).2 2 else (kI key nk j).2) := rfl
theorem kI_0 (key : List UInt8) (nk : Nat) : kI key nk 0 = (key, 1) := rfl
theorem schedule8_ok (ph : PH) (q : Nat) (key : List UInt8) (d s : Int) (hk : goodK key) (h : ph.get q = some (cC key d s tabL .nilsl)) :
    Eff (Cx w0) 102 [.ptr q 0] ph (.tuple []) (ph.put q (cC key d s tabL (.fsl 16 (key.length / 4 + 7) (bytesPV (wordsL key))))) := by
  have hq := PH.get_lt h
  obtain ⟨nk, hnk⟩ : ∃ nk, nk = key.length / 4 := ⟨_, rfl⟩
  have hkl : key.length = 4 * nk := by rcases hk with e | e <;> omega
  have hnk2 : nk = 4 ∨ nk = 8 := by rcases hk with e | e <;> omega
  rw [← hnk]
  have hsc : ∀ n, Scs n (cC key d s tabL (.fsl 16 (nk + 7) (bytesPV (wordsL key)))) := fun n => cC_scs (scs_scalars (bytesPV_scalar _))
  refine eff_of ([]) Tryz.func102 rfl rfl (by decide) (PH.n_put ..) (fun hW => hW.put hq (hsc _)) fun hW Q hQ => ?_
  simp only [start, List.length_cons, List.length_nil, List.cons_append, List.nil_append, Nat.reduceAdd, Nat.reduceSub, List.replicate_succ, List.replicate_zero, Tryz.ntmps102]
  have d1 : Int.tdiv (key.length : Int) 4 = (nk : Int) := by rw [Int.tdiv_eq_ediv_of_nonneg (by omega)]; omega
  obtain ⟨C, hC⟩ : ∃ C, C = cC key d s tabL .nilsl := ⟨_, rfl⟩
  have c0 : C[0]? = some (.str key) := by rw [hC]; exact cC_0
  rw [← hC] at h
  repeat' first
  | simp -implicitDefEqProofs (maxSteps := 400000) (disch := first | with_reducible rfl | omega | (simp only [h_n, PH.n_push, PH.n_put, List.length_cons, List.length_nil] <;> omega) | decide) only [wkAll, wkL, popO, wantedP, if_true, if_false, reduceIte, ne_eq, Nat.reduceAdd, Nat.reduceSub, Nat.reduceMul, Nat.reduceLeDiff, Nat.reduceLT, ofCells, ofCell, reduceCtorEq, Int.reduceLE, Int.reduceLT, Int.reduceToNat, Int.reduceAdd, Int.reduceSub, Int.reduceMul, Int.reduceNeg, Int.reduceBEq, Int.reduceBNe, Int.reduceEq, eqCell, eqCells, binP, unP, convP, lenP, builtinP, sliceDataP, unsafeStringP, appendT, appendS, appendP, copyP, srcP, mmsP, mmP, indexOp, indexAddrOp, sliceOp, bndsP, bndP, capw, capCut, loadOp, storeOp, loadP, fieldOp, fieldAddrOp, arrayAtOp, buildP, buildSliceP, makeSliceP, placeF, fillP, setL, PK.agg, isZero, gt_iff_lt, Nat.reducePow, Nat.reduceGT, reps, seg, wkN, if_pos, if_neg, tf3, Tryz.ze3, tf5, Tryz.ze5, tf9, Tryz.ze9, tf21, Tryz.ze21, tf30, Tryz.ze30, tf82, Tryz.ze82, tf86, Tryz.ze86, tf116, Tryz.ze116, tf118, Tryz.ze118, tf120, Tryz.ze120, tf122, Tryz.ze122, tf124, Tryz.ze124, tf125, Tryz.ze125, tf126, Tryz.ze126, tf127, Tryz.ze127, tf129, Tryz.ze129, tf138, Tryz.ze138, tf151, Tryz.ze151, tf166, Tryz.ze166, pl102_5Ae7, pl102_12Ae7, pl102_15Ae7, pl102_19Ae7, pl102_24Ae7, h_getlt hq, h, c0, d1]
  | refine w_drawnF (id := 5) tb102_5Ae7 pl102_5Ae7 29 (by kernel_rfl) (by kernel_rfl) (by simp) ?_
  | refine w_drawnF (id := 12) tb102_12Ae7 pl102_12Ae7 77 (by kernel_rfl) (by kernel_rfl) (by simp) ?_
  | refine w_drawnF (id := 15) tb102_15Ae7 pl102_15Ae7 115 (by kernel_rfl) (by kernel_rfl) (by simp) ?_
  | refine w_drawnF (id := 19) tb102_19Ae7 pl102_19Ae7 131 (by kernel_rfl) (by kernel_rfl) (by simp) ?_
  | refine w_drawnF (id := 24) tb102_24Ae7 pl102_24Ae7 164 (by kernel_rfl) (by kernel_rfl) (by simp) ?_
  refine w_inl ([Go.ResultVar.tmp 4]) Tryz.func110 rfl rfl (by decide) fun _ hI => ?_
  simp only [start, List.length_cons, List.length_nil, List.cons_append, List.nil_append, Nat.reduceAdd, Nat.reduceSub, List.replicate_succ, List.replicate_zero, Tryz.ntmps110]
  repeat' first
  | simp -implicitDefEqProofs (maxSteps := 400000) (disch := first | with_reducible rfl | omega | (simp only [h_n, PH.n_push, PH.n_put, List.length_cons, List.length_nil] <;> omega) | decide) only [wkAll, wkL, popO, wantedP, if_true, if_false, reduceIte, ne_eq, Nat.reduceAdd, Nat.reduceSub, Nat.reduceMul, Nat.reduceLeDiff, Nat.reduceLT, ofCells, ofCell, reduceCtorEq, Int.reduceLE, Int.reduceLT, Int.reduceToNat, Int.reduceAdd, Int.reduceSub, Int.reduceMul, Int.reduceNeg, Int.reduceBEq, Int.reduceBNe, Int.reduceEq, eqCell, eqCells, binP, unP, convP, lenP, builtinP, sliceDataP, unsafeStringP, appendT, appendS, appendP, copyP, srcP, mmsP, mmP, indexOp, indexAddrOp, sliceOp, bndsP, bndP, capw, capCut, loadOp, storeOp, loadP, fieldOp, fieldAddrOp, arrayAtOp, buildP, buildSliceP, makeSliceP, placeF, fillP, setL, PK.agg, isZero, gt_iff_lt, Nat.reducePow, Nat.reduceGT, reps, seg, wkN, if_pos, if_neg, tf3, Tryz.ze3, tf5, Tryz.ze5, tf30, Tryz.ze30]
  refine hI (by first | exact .inr rfl | exact .inl rfl) trivial (by first | (simp -implicitDefEqProofs (maxSteps := 400000) (disch := first | with_reducible rfl | omega | (simp only [h_n, PH.n_push, PH.n_put, List.length_cons, List.length_nil] <;> omega) | decide) only [wkAll, wkL, popO, wantedP, if_true, if_false, reduceIte, ne_eq, Nat.reduceAdd, Nat.reduceSub, Nat.reduceMul, Nat.reduceLeDiff, Nat.reduceLT, ofCells, ofCell, reduceCtorEq, Int.reduceLE, Int.reduceLT, Int.reduceToNat, Int.reduceAdd, Int.reduceSub, Int.reduceMul, Int.reduceNeg, Int.reduceBEq, Int.reduceBNe, Int.reduceEq, eqCell, eqCells, binP, unP, convP, lenP, builtinP, sliceDataP, unsafeStringP, appendT, appendS, appendP, copyP, srcP, mmsP, mmP, indexOp, indexAddrOp, sliceOp, bndsP, bndP, capw, capCut, loadOp, storeOp, loadP, fieldOp, fieldAddrOp, arrayAtOp, buildP, buildSliceP, makeSliceP, placeF, fillP, setL, PK.agg, isZero, gt_iff_lt, Nat.reducePow, Nat.reduceGT, reps, seg, wkN, if_pos, if_neg, tf3, Tryz.ze3, tf5, Tryz.ze5, tf30, Tryz.ze30, resP, resPs, resP1]; rfl) | rfl) ?_
  repeat' first
  | simp -implicitDefEqProofs (maxSteps := 400000) (disch := first | with_reducible rfl | omega | (simp only [h_n, PH.n_push, PH.n_put, List.length_cons, List.length_nil] <;> omega) | decide) only [wkAll, wkL, popO, wantedP, if_true, if_false, reduceIte, ne_eq, Nat.reduceAdd, Nat.reduceSub, Nat.reduceMul, Nat.reduceLeDiff, Nat.reduceLT, ofCells, ofCell, reduceCtorEq, Int.reduceLE, Int.reduceLT, Int.reduceToNat, Int.reduceAdd, Int.reduceSub, Int.reduceMul, Int.reduceNeg, Int.reduceBEq, Int.reduceBNe, Int.reduceEq, eqCell, eqCells, binP, unP, convP, lenP, builtinP, sliceDataP, unsafeStringP, appendT, appendS, appendP, copyP, srcP, mmsP, mmP, indexOp, indexAddrOp, sliceOp, bndsP, bndP, capw, capCut, loadOp, storeOp, loadP, fieldOp, fieldAddrOp, arrayAtOp, buildP, buildSliceP, makeSliceP, placeF, fillP, setL, PK.agg, isZero, gt_iff_lt, Nat.reducePow, Nat.reduceGT, reps, seg, wkN, if_pos, if_neg, tf3, Tryz.ze3, tf5, Tryz.ze5, tf9, Tryz.ze9, tf21, Tryz.ze21, tf30, Tryz.ze30, tf82, Tryz.ze82, tf86, Tryz.ze86, tf116, Tryz.ze116, tf118, Tryz.ze118, tf120, Tryz.ze120, tf122, Tryz.ze122, tf124, Tryz.ze124, tf125, Tryz.ze125, tf126, Tryz.ze126, tf127, Tryz.ze127, tf129, Tryz.ze129, tf138, Tryz.ze138, tf151, Tryz.ze151, tf166, Tryz.ze166, pl102_5Ae7, pl102_12Ae7, pl102_15Ae7, pl102_19Ae7, pl102_24Ae7]
  | refine w_drawnF (id := 5) tb102_5Ae7 pl102_5Ae7 29 (by kernel_rfl) (by kernel_rfl) (by simp) ?_
  | refine w_drawnF (id := 12) tb102_12Ae7 pl102_12Ae7 77 (by kernel_rfl) (by kernel_rfl) (by simp) ?_
  | refine w_drawnF (id := 15) tb102_15Ae7 pl102_15Ae7 115 (by kernel_rfl) (by kernel_rfl) (by simp) ?_
  | refine w_drawnF (id := 19) tb102_19Ae7 pl102_19Ae7 131 (by kernel_rfl) (by kernel_rfl) (by simp) ?_
  | refine w_drawnF (id := 24) tb102_24Ae7 pl102_24Ae7 164 (by kernel_rfl) (by kernel_rfl) (by simp) ?_
  refine w_growR0 4 138 [some (.own [.ptr q 0]), some (.own [.gsl (ph.n + 5) 4 0 []]), some (.own (bytesPV key)), some (.own [.sl (ph.n + 2) 0 1 key.length none]), some (.own [.int .i64 4])] (by simp) (by simp [NilB, NilL]) ?_
  refine w_range ([]) rfl Tryz.func119 rfl rfl (by decide) ?_
  intro r l fnid hr hl hne Q' hQ'
  simp only [start, List.length_cons, List.length_nil, List.cons_append, List.nil_append, Nat.reduceAdd, Nat.reduceSub, List.replicate_succ, List.replicate_zero, Tryz.ntmps119]
  have hl' : ph.ob l = none := hl
  have hr' : ph.ob r = none := hr
  repeat' first
  | simp -implicitDefEqProofs (maxSteps := 400000) (disch := first | with_reducible rfl | omega | (simp only [h_n, PH.n_push, PH.n_put, List.length_cons, List.length_nil] <;> omega) | decide) only [wkAll, wkL, popO, wantedP, if_true, if_false, reduceIte, ne_eq, Nat.reduceAdd, Nat.reduceSub, Nat.reduceMul, Nat.reduceLeDiff, Nat.reduceLT, ofCells, ofCell, reduceCtorEq, Int.reduceLE, Int.reduceLT, Int.reduceToNat, Int.reduceAdd, Int.reduceSub, Int.reduceMul, Int.reduceNeg, Int.reduceBEq, Int.reduceBNe, Int.reduceEq, eqCell, eqCells, binP, unP, convP, lenP, builtinP, sliceDataP, unsafeStringP, appendT, appendS, appendP, copyP, srcP, mmsP, mmP, indexOp, indexAddrOp, sliceOp, bndsP, bndP, capw, capCut, loadOp, storeOp, loadP, fieldOp, fieldAddrOp, arrayAtOp, buildP, buildSliceP, makeSliceP, placeF, fillP, setL, PK.agg, isZero, gt_iff_lt, Nat.reducePow, Nat.reduceGT, reps, seg, wkN, if_pos, if_neg, tf3, Tryz.ze3, tf4, Tryz.ze4, tf5, Tryz.ze5, tf30, Tryz.ze30, pl119_3Ae7]
  | refine w_drawnF (id := 3) tb119_3Ae7 pl119_3Ae7 19 (by kernel_rfl) (by kernel_rfl) (by simp) ?_
  refine w_loopH (α := Nat) ph _ ph.ty (fun i => [.yield l, .ptr (ph.n + 3) 0, .ptr (ph.n + 4) 0, .undef, .int .i64 ((4 * i : Nat) : Int), .undef, .undef, .undef, .undef, .undef, .undef, .undef, .undef, .undef, .undef, .undef, .undef, .undef, .undef, .undef, .undef, .undef, .undef, .undef, .undef, .undef, .undef, .undef, .undef, .undef, .undef]) (fun i => [some (.own [.ptr q 0]), some (.own [.gsl (ph.n + 5) 4 i (bytesPV (key.take (4 * i)))]), some (.own (bytesPV key)), some (.own [.sl (ph.n + 2) 0 1 key.length none]), some (.own [.int .i64 4]), some (.grow 4 i 138)]) (fun i => i ≤ nk) (fun i => nk - i) 0 (by simp) (fun _ _ => by simp) (.eq (by simp [FadeTo]) rfl) ?_
  intro i hi K hK
  rcases Nat.lt_or_ge i nk with hlt | hge
  · have hlt' : ((4 * i : Nat) : Int) < (key.length : Int) := by omega
    have e1 : ((4 * i : Nat) : Int) + 4 = ((4 * i + 4 : Nat) : Int) := by omega
    have e3 : (if ((key.length - 4 * i : Nat) : Int) < 4 then ((key.length - 4 * i : Nat) : Int) else 4) = 4 := by split <;> omega
    have e4 : 4 * i + 4 - 4 * i = 4 := by omega
    have e7 : ((4 * i : Nat) : Int) + 4 = ((4 * (i + 1) : Nat) : Int) := by omega
    have e8 : key.take (4 * (i + 1)) = key.take (4 * i) ++ (key.drop (4 * i)).take 4 := by rw [Nat.mul_succ, List.take_add]
    have e9 : ((key.drop (4 * i)).take 4).length = 4 := by rw [List.length_take, List.length_drop]; omega
    have e10 : ∀ c : List PV, c.length = 4 → setL c 0 (bytesPV ((key.drop (4 * i)).take 4)) = bytesPV ((key.drop (4 * i)).take 4) := fun c hc => setL_all _ _ (by rw [hc, bytesPV_len, e9])
    have e11 : (bytesPV ((key.drop (4 * i)).take 4)).take 4 = bytesPV ((key.drop (4 * i)).take 4) := List.take_of_length_le (by rw [bytesPV_len]; omega)
    repeat' first
    | simp -implicitDefEqProofs (maxSteps := 400000) (disch := first | with_reducible rfl | omega | (simp only [h_n, PH.n_push, PH.n_put, List.length_cons, List.length_nil] <;> omega) | decide) only [wkAll, wkL, popO, wantedP, if_true, if_false, reduceIte, ne_eq, Nat.reduceAdd, Nat.reduceSub, Nat.reduceMul, Nat.reduceLeDiff, Nat.reduceLT, ofCells, ofCell, reduceCtorEq, Int.reduceLE, Int.reduceLT, Int.reduceToNat, Int.reduceAdd, Int.reduceSub, Int.reduceMul, Int.reduceNeg, Int.reduceBEq, Int.reduceBNe, Int.reduceEq, eqCell, eqCells, binP, unP, convP, lenP, builtinP, sliceDataP, unsafeStringP, appendT, appendS, appendP, copyP, srcP, mmsP, mmP, indexOp, indexAddrOp, sliceOp, bndsP, bndP, capw, capCut, loadOp, storeOp, loadP, fieldOp, fieldAddrOp, arrayAtOp, buildP, buildSliceP, makeSliceP, placeF, fillP, setL, PK.agg, isZero, gt_iff_lt, Nat.reducePow, Nat.reduceGT, reps, seg, wkN, if_pos, if_neg, tf3, Tryz.ze3, tf4, Tryz.ze4, tf5, Tryz.ze5, tf30, Tryz.ze30, pl119_3Ae7, hlt', e1, e3, e4]
    | refine w_drawnF (id := 3) tb119_3Ae7 pl119_3Ae7 19 (by kernel_rfl) (by kernel_rfl) (by simp) ?_
    refine w_round (by rw [h_ob]; exact up_same) rfl rfl ?_
    simp only [mkLoop, setPs, List.set_cons_zero, List.set_cons_succ, List.toList_toArray]
    repeat' first
    | simp -implicitDefEqProofs (maxSteps := 400000) (disch := first | with_reducible rfl | omega | (simp only [h_n, PH.n_push, PH.n_put, List.length_cons, List.length_nil] <;> omega) | decide) only [wkAll, wkL, popO, wantedP, if_true, if_false, reduceIte, ne_eq, Nat.reduceAdd, Nat.reduceSub, Nat.reduceMul, Nat.reduceLeDiff, Nat.reduceLT, ofCells, ofCell, reduceCtorEq, Int.reduceLE, Int.reduceLT, Int.reduceToNat, Int.reduceAdd, Int.reduceSub, Int.reduceMul, Int.reduceNeg, Int.reduceBEq, Int.reduceBNe, Int.reduceEq, eqCell, eqCells, binP, unP, convP, lenP, builtinP, sliceDataP, unsafeStringP, appendT, appendS, appendP, copyP, srcP, mmsP, mmP, indexOp, indexAddrOp, sliceOp, bndsP, bndP, capw, capCut, loadOp, storeOp, loadP, fieldOp, fieldAddrOp, arrayAtOp, buildP, buildSliceP, makeSliceP, placeF, fillP, setL, PK.agg, isZero, gt_iff_lt, Nat.reducePow, Nat.reduceGT, reps, seg, wkN, if_pos, if_neg, tf3, Tryz.ze3, tf5, Tryz.ze5, tf9, Tryz.ze9, tf21, Tryz.ze21, tf30, Tryz.ze30, tf82, Tryz.ze82, tf86, Tryz.ze86, tf116, Tryz.ze116, tf118, Tryz.ze118, tf120, Tryz.ze120, tf122, Tryz.ze122, tf124, Tryz.ze124, tf125, Tryz.ze125, tf126, Tryz.ze126, tf127, Tryz.ze127, tf129, Tryz.ze129, tf138, Tryz.ze138, tf151, Tryz.ze151, tf166, Tryz.ze166, pl102_5Ae7, pl102_12Ae7, pl102_15Ae7, pl102_19Ae7, pl102_24Ae7]
    | refine w_drawnF (id := 5) tb102_5Ae7 pl102_5Ae7 29 (by kernel_rfl) (by kernel_rfl) (by simp) ?_
    | refine w_drawnF (id := 12) tb102_12Ae7 pl102_12Ae7 77 (by kernel_rfl) (by kernel_rfl) (by simp) ?_
    | refine w_drawnF (id := 15) tb102_15Ae7 pl102_15Ae7 115 (by kernel_rfl) (by kernel_rfl) (by simp) ?_
    | refine w_drawnF (id := 19) tb102_19Ae7 pl102_19Ae7 131 (by kernel_rfl) (by kernel_rfl) (by simp) ?_
    | refine w_drawnF (id := 24) tb102_24Ae7 pl102_24Ae7 164 (by kernel_rfl) (by kernel_rfl) (by simp) ?_
    first | refine ⟨_, rfl, rfl, ?_⟩ | refine ⟨_, by rw [h_ob]; exact up_same, rfl, ?_⟩
    repeat' first
    | simp -implicitDefEqProofs (maxSteps := 400000) (disch := first | with_reducible rfl | omega | (simp only [h_n, PH.n_push, PH.n_put, List.length_cons, List.length_nil] <;> omega) | decide) only [wkAll, wkL, popO, wantedP, if_true, if_false, reduceIte, ne_eq, Nat.reduceAdd, Nat.reduceSub, Nat.reduceMul, Nat.reduceLeDiff, Nat.reduceLT, ofCells, ofCell, reduceCtorEq, Int.reduceLE, Int.reduceLT, Int.reduceToNat, Int.reduceAdd, Int.reduceSub, Int.reduceMul, Int.reduceNeg, Int.reduceBEq, Int.reduceBNe, Int.reduceEq, eqCell, eqCells, binP, unP, convP, lenP, builtinP, sliceDataP, unsafeStringP, appendT, appendS, appendP, copyP, srcP, mmsP, mmP, indexOp, indexAddrOp, sliceOp, bndsP, bndP, capw, capCut, loadOp, storeOp, loadP, fieldOp, fieldAddrOp, arrayAtOp, buildP, buildSliceP, makeSliceP, placeF, fillP, setL, PK.agg, isZero, gt_iff_lt, Nat.reducePow, Nat.reduceGT, reps, seg, wkN, if_pos, if_neg, tf3, Tryz.ze3, tf5, Tryz.ze5, tf9, Tryz.ze9, tf21, Tryz.ze21, tf30, Tryz.ze30, tf82, Tryz.ze82, tf86, Tryz.ze86, tf116, Tryz.ze116, tf118, Tryz.ze118, tf120, Tryz.ze120, tf122, Tryz.ze122, tf124, Tryz.ze124, tf125, Tryz.ze125, tf126, Tryz.ze126, tf127, Tryz.ze127, tf129, Tryz.ze129, tf138, Tryz.ze138, tf151, Tryz.ze151, tf166, Tryz.ze166, pl102_5Ae7, pl102_12Ae7, pl102_15Ae7, pl102_19Ae7, pl102_24Ae7, app_g, bytes_td, e9, e10, e11, bytesPV_cok]
    | refine w_drawnF (id := 5) tb102_5Ae7 pl102_5Ae7 29 (by kernel_rfl) (by kernel_rfl) (by simp) ?_
    | refine w_drawnF (id := 12) tb102_12Ae7 pl102_12Ae7 77 (by kernel_rfl) (by kernel_rfl) (by simp) ?_
    | refine w_drawnF (id := 15) tb102_15Ae7 pl102_15Ae7 115 (by kernel_rfl) (by kernel_rfl) (by simp) ?_
    | refine w_drawnF (id := 19) tb102_19Ae7 pl102_19Ae7 131 (by kernel_rfl) (by kernel_rfl) (by simp) ?_
    | refine w_drawnF (id := 24) tb102_24Ae7 pl102_24Ae7 164 (by kernel_rfl) (by kernel_rfl) (by simp) ?_
    refine ⟨_, by rw [h_ob]; exact up_same, ?_⟩
    repeat' first
    | simp -implicitDefEqProofs (maxSteps := 400000) (disch := first | with_reducible rfl | omega | (simp only [h_n, PH.n_push, PH.n_put, List.length_cons, List.length_nil] <;> omega) | decide) only [wkAll, wkL, popO, wantedP, if_true, if_false, reduceIte, ne_eq, Nat.reduceAdd, Nat.reduceSub, Nat.reduceMul, Nat.reduceLeDiff, Nat.reduceLT, ofCells, ofCell, reduceCtorEq, Int.reduceLE, Int.reduceLT, Int.reduceToNat, Int.reduceAdd, Int.reduceSub, Int.reduceMul, Int.reduceNeg, Int.reduceBEq, Int.reduceBNe, Int.reduceEq, eqCell, eqCells, binP, unP, convP, lenP, builtinP, sliceDataP, unsafeStringP, appendT, appendS, appendP, copyP, srcP, mmsP, mmP, indexOp, indexAddrOp, sliceOp, bndsP, bndP, capw, capCut, loadOp, storeOp, loadP, fieldOp, fieldAddrOp, arrayAtOp, buildP, buildSliceP, makeSliceP, placeF, fillP, setL, PK.agg, isZero, gt_iff_lt, Nat.reducePow, Nat.reduceGT, reps, seg, wkN, if_pos, if_neg, tf3, Tryz.ze3, tf4, Tryz.ze4, tf5, Tryz.ze5, tf30, Tryz.ze30, pl119_3Ae7, e7]
    | refine w_drawnF (id := 3) tb119_3Ae7 pl119_3Ae7 19 (by kernel_rfl) (by kernel_rfl) (by simp) ?_
    have hq6 : q < ph.n + 6 := by omega
    refine hK (i + 1) _ _ (by omega) (by omega) (.cut [_] hW (by simp [FadeTo]) (by first | rfl | (simp [e8, bytesPV_append]; rfl) | simp [e8, bytesPV_append]) (by simp [scs_cons, scs_nil, sc_ptr, sc_fsl, sc_gsl, sc_sl, sc_agg, sc_func, sc_int, sc_bool, sc_str, sc_undef, sc_nilptr, sc_nilsl, sc_yield, sc_tuple, sc_fptr, scs_bytes, scs_append, scs_bytes, hq6]) (by simp [scs_cons, scs_nil, sc_ptr, sc_fsl, sc_gsl, sc_sl, sc_agg, sc_func, sc_int, sc_bool, sc_str, sc_undef, sc_nilptr, sc_nilsl, sc_yield, sc_tuple, sc_fptr, scs_bytes, scs_append, scs_bytes, hq6]) (h3 := .inr (obsc2 hW (by omega) (by simp [mkLoop, scs_cons, scs_nil, sc_ptr, sc_fsl, sc_gsl, sc_sl, sc_agg, sc_func, sc_int, sc_bool, sc_str, sc_undef, sc_nilptr, sc_nilsl, sc_yield, sc_tuple, sc_fptr, scs_bytes, scs_append, scs_bytes, hq6]))))
  · have hge' : ¬ ((4 * i : Nat) : Int) < (key.length : Int) := by omega
    have : nk = i := by omega
    subst this
    repeat' first
    | simp -implicitDefEqProofs (maxSteps := 400000) (disch := first | with_reducible rfl | omega | (simp only [h_n, PH.n_push, PH.n_put, List.length_cons, List.length_nil] <;> omega) | decide) only [wkAll, wkL, popO, wantedP, if_true, if_false, reduceIte, ne_eq, Nat.reduceAdd, Nat.reduceSub, Nat.reduceMul, Nat.reduceLeDiff, Nat.reduceLT, ofCells, ofCell, reduceCtorEq, Int.reduceLE, Int.reduceLT, Int.reduceToNat, Int.reduceAdd, Int.reduceSub, Int.reduceMul, Int.reduceNeg, Int.reduceBEq, Int.reduceBNe, Int.reduceEq, eqCell, eqCells, binP, unP, convP, lenP, builtinP, sliceDataP, unsafeStringP, appendT, appendS, appendP, copyP, srcP, mmsP, mmP, indexOp, indexAddrOp, sliceOp, bndsP, bndP, capw, capCut, loadOp, storeOp, loadP, fieldOp, fieldAddrOp, arrayAtOp, buildP, buildSliceP, makeSliceP, placeF, fillP, setL, PK.agg, isZero, gt_iff_lt, Nat.reducePow, Nat.reduceGT, reps, seg, wkN, if_pos, if_neg, tf3, Tryz.ze3, tf4, Tryz.ze4, tf5, Tryz.ze5, tf30, Tryz.ze30, pl119_3Ae7, hge']
    | refine w_drawnF (id := 3) tb119_3Ae7 pl119_3Ae7 19 (by kernel_rfl) (by kernel_rfl) (by simp) ?_
    refine hQ' (by first | exact .inr rfl | exact .inl rfl) trivial (by first | (simp -implicitDefEqProofs (maxSteps := 400000) (disch := first | with_reducible rfl | omega | (simp only [h_n, PH.n_push, PH.n_put, List.length_cons, List.length_nil] <;> omega) | decide) only [wkAll, wkL, popO, wantedP, if_true, if_false, reduceIte, ne_eq, Nat.reduceAdd, Nat.reduceSub, Nat.reduceMul, Nat.reduceLeDiff, Nat.reduceLT, ofCells, ofCell, reduceCtorEq, Int.reduceLE, Int.reduceLT, Int.reduceToNat, Int.reduceAdd, Int.reduceSub, Int.reduceMul, Int.reduceNeg, Int.reduceBEq, Int.reduceBNe, Int.reduceEq, eqCell, eqCells, binP, unP, convP, lenP, builtinP, sliceDataP, unsafeStringP, appendT, appendS, appendP, copyP, srcP, mmsP, mmP, indexOp, indexAddrOp, sliceOp, bndsP, bndP, capw, capCut, loadOp, storeOp, loadP, fieldOp, fieldAddrOp, arrayAtOp, buildP, buildSliceP, makeSliceP, placeF, fillP, setL, PK.agg, isZero, gt_iff_lt, Nat.reducePow, Nat.reduceGT, reps, seg, wkN, if_pos, if_neg, tf3, Tryz.ze3, tf4, Tryz.ze4, tf5, Tryz.ze5, tf30, Tryz.ze30, pl119_3Ae7, resP, resPs, resP1]; rfl) | rfl) (re_normal (by rw [h_shut0, h_ob]; exact up_same) rfl rfl ?_)
    repeat' first
    | simp -implicitDefEqProofs (maxSteps := 400000) (disch := first | with_reducible rfl | omega | (simp only [h_n, PH.n_push, PH.n_put, List.length_cons, List.length_nil] <;> omega) | decide) only [wkAll, wkL, popO, wantedP, if_true, if_false, reduceIte, ne_eq, Nat.reduceAdd, Nat.reduceSub, Nat.reduceMul, Nat.reduceLeDiff, Nat.reduceLT, ofCells, ofCell, reduceCtorEq, Int.reduceLE, Int.reduceLT, Int.reduceToNat, Int.reduceAdd, Int.reduceSub, Int.reduceMul, Int.reduceNeg, Int.reduceBEq, Int.reduceBNe, Int.reduceEq, eqCell, eqCells, binP, unP, convP, lenP, builtinP, sliceDataP, unsafeStringP, appendT, appendS, appendP, copyP, srcP, mmsP, mmP, indexOp, indexAddrOp, sliceOp, bndsP, bndP, capw, capCut, loadOp, storeOp, loadP, fieldOp, fieldAddrOp, arrayAtOp, buildP, buildSliceP, makeSliceP, placeF, fillP, setL, PK.agg, isZero, gt_iff_lt, Nat.reducePow, Nat.reduceGT, reps, seg, wkN, if_pos, if_neg, tf3, Tryz.ze3, tf5, Tryz.ze5, tf9, Tryz.ze9, tf21, Tryz.ze21, tf30, Tryz.ze30, tf82, Tryz.ze82, tf86, Tryz.ze86, tf116, Tryz.ze116, tf118, Tryz.ze118, tf120, Tryz.ze120, tf122, Tryz.ze122, tf124, Tryz.ze124, tf125, Tryz.ze125, tf126, Tryz.ze126, tf127, Tryz.ze127, tf129, Tryz.ze129, tf138, Tryz.ze138, tf151, Tryz.ze151, tf166, Tryz.ze166, pl102_5Ae7, pl102_12Ae7, pl102_15Ae7, pl102_19Ae7, pl102_24Ae7, up_none2 hl' hne]
    | refine w_drawnF (id := 5) tb102_5Ae7 pl102_5Ae7 29 (by kernel_rfl) (by kernel_rfl) (by simp) ?_
    | refine w_drawnF (id := 12) tb102_12Ae7 pl102_12Ae7 77 (by kernel_rfl) (by kernel_rfl) (by simp) ?_
    | refine w_drawnF (id := 15) tb102_15Ae7 pl102_15Ae7 115 (by kernel_rfl) (by kernel_rfl) (by simp) ?_
    | refine w_drawnF (id := 19) tb102_19Ae7 pl102_19Ae7 131 (by kernel_rfl) (by kernel_rfl) (by simp) ?_
    | refine w_drawnF (id := 24) tb102_24Ae7 pl102_24Ae7 164 (by kernel_rfl) (by kernel_rfl) (by simp) ?_
    have cs : ∀ v : UInt8, C[4 + v.toNat]? = some (.int .u8 ((sbox v).toNat : Int)) := fun v => by
      rw [hC, cC_get (by rw [tabL_len]; have := v.toNat_lt; omega), tab_sub]; rfl
    have v256 : ∀ v : UInt8, (v.toNat : Int) < 256 := fun v => by have := v.toNat_lt; omega
    clear hK hge hge'
    refine w_loopH (α := Nat) ph (upF ph.ob r (some .defd)) ph.ty (fun j => [.undef, .ptr ph.n 0, .int .i64 nk, .ptr (ph.n + 1) 0, .undef, .int .u8 (kI key nk j).2.toNat, .int .i64 ((nk + j : Nat) : Int), .undef, .undef, .undef, .undef, .undef, .undef, .undef, .undef, .undef, .undef, .undef, .undef, .undef, .undef, .undef, .undef, .undef, .undef, .undef, .undef, .undef, .undef, .undef, .undef, .undef, .undef, .undef, .undef, .undef, .undef, .undef, .undef, .undef, .undef, .undef, .undef, .undef, .undef, .undef, .undef, .undef, .undef, .undef, .undef, .undef, .undef, .undef, .undef, .undef, .undef, .undef, .undef, .undef, .undef, .undef, .undef, .undef, .undef, .undef, .undef, .undef, .undef, .undef, .undef, .undef, .undef, .undef, .undef, .undef, .undef, .undef, .undef, .undef, .undef, .undef, .undef, .undef, .undef, .undef, .undef, .undef, .undef, .undef, .undef, .undef, .undef, .undef, .undef, .undef, .undef, .undef, .undef, .undef, .undef, .undef, .undef, .undef, .undef, .undef, .undef, .undef, .undef, .undef, .undef, .undef, .undef, .undef, .undef, .undef, .undef, .undef, .undef, .undef, .undef, .undef, .undef, .undef, .undef, .undef, .undef, .undef, .undef, .undef, .undef, .undef, .undef, .undef, .undef, .undef, .undef, .undef, .undef, .undef, .undef, .undef, .undef, .undef, .undef, .undef, .undef, .undef, .undef, .undef, .undef, .undef, .undef, .undef, .undef, .undef, .undef, .undef, .undef, .undef, .undef, .undef, .undef, .undef]) (fun j => [some (.own [.ptr q 0]), some (.own [.gsl (ph.n + 5) 4 (nk + j) (bytesPV (kI key nk j).1)]), some (.own (bytesPV key)), some (.own [.sl (ph.n + 2) 0 1 key.length none]), some (.own [.int .i64 4]), some (.grow 4 (nk + j) 138)]) (fun j => j ≤ 3 * nk + 28) (fun j => 3 * nk + 28 - j) 0 (by simp) (fun _ _ => by simp) (.eq (by simp [FadeTo, kI_0]) (by rw [kI_0, ← hkl, List.take_length]; rfl)) ?_
    intro j hj K hK
    have e28 : 4 * ((nk : Int) + 7) = ((4 * nk + 28 : Nat) : Int) := by omega
    have hWl : (kI key nk j).1.length = 4 * (nk + j) := kI_len hkl (by omega) j
    rcases Nat.lt_or_ge j (3 * nk + 28) with hlt | hge
    · have hlt' : ((nk + j : Nat) : Int) < ((4 * nk + 28 : Nat) : Int) := by omega
      obtain ⟨c, hc⟩ : ∃ c, c = (kI key nk j).2 := ⟨_, rfl⟩
      obtain ⟨W, hWd⟩ : ∃ W, W = (kI key nk j).1 := ⟨_, rfl⟩
      have hnx := kI_next key nk j
      have hK1 := fun tm ph' => hK (j + 1) tm ph' (by omega) (by omega)
      rw [hnx] at hK1
      clear hK hnx
      rw [← hc, ← hWd] at hK1 ⊢
      rw [← hWd] at hWl
      obtain ⟨a0, a1, a2, a3, hT⟩ := four (b := (W.drop (4 * (nk + j) - 4)).take 4) (by rw [List.length_take, List.length_drop]; omega)
      obtain ⟨P, hP⟩ : ∃ P, P = (W.drop (4 * j)).take 4 := ⟨_, rfl⟩
      have hPl : P.length = 4 := by rw [hP, List.length_take, List.length_drop]; omega
      obtain ⟨u0, u1, u2, u3, c', hkT, hcc, hcase⟩ := kT_cases nk (nk + j) a0 a1 a2 a3 c
      simp only [hT, hkT, hcc, ← hP] at hK1
      obtain ⟨U, hU⟩ : ∃ U, U = [u0, u1, u2, u3] := ⟨_, rfl⟩
      have hUl : U.length = 4 := by rw [hU]; rfl
      rw [← hU, xorB_comm] at hK1
      obtain ⟨Z, hZ⟩ : ∃ Z, Z = xorB U P := ⟨_, rfl⟩
      have hZl : Z.length = 4 := by rw [hZ, xorB_len, hUl, hPl]; rfl
      rw [← hZ] at hK1
      have i1 : ((nk + j : Nat) : Int) - 1 = ((nk + j - 1 : Nat) : Int) := by omega
      have i2 : ((nk + j - 1 : Nat) : Int) < ((nk + j : Nat) : Int) := by omega
      have i3 : ((bytesPV W).drop ((nk + j - 1) * 4)).take 4 = [.int .u8 (a0.toNat : Int), .int .u8 (a1.toNat : Int), .int .u8 (a2.toNat : Int), .int .u8 (a3.toNat : Int)] := by
        rw [bytes_td, show (nk + j - 1) * 4 = 4 * (nk + j) - 4 by omega, hT]; rfl
      have i4 : 4 ≤ (List.drop ((nk + j - 1) * 4) (bytesPV W)).length := by rw [List.length_drop, bytesPV_len]; omega
      have m1 : Int.tmod ((nk + j : Nat) : Int) (nk : Int) = (((nk + j) % nk : Nat) : Int) := by rw [Int.tmod_eq_emod_of_nonneg (by omega)]; rfl
      have m2 : Int.tmod ((nk + j : Nat) : Int) 8 = (((nk + j) % 8 : Nat) : Int) := by rw [Int.tmod_eq_emod_of_nonneg (by omega)]; rfl
      have m0 : ¬ (nk : Int) = 0 := by omega
      have tm := times8_ok (w0 := w0) c 2
      rcases hcase with ⟨k1, b0, b1, b2, b3, b4⟩ | ⟨k1, k2, k3, b0, b1, b2, b3, b4⟩ | ⟨k1, k2, b0, b1, b2, b3, b4⟩ | ⟨k1, k2, k3, b0, b1, b2, b3, b4⟩
      · have q1 : ((((nk + j) % nk : Nat) : Int) == 0) = true := by rw [beq_iff_eq]; omega
        rw [b4] at tm
        repeat' first
        | simp -implicitDefEqProofs (maxSteps := 400000) (disch := first | with_reducible rfl | omega | (simp only [h_n, PH.n_push, PH.n_put, List.length_cons, List.length_nil] <;> omega) | decide) only [wkAll, wkL, popO, wantedP, if_true, if_false, reduceIte, ne_eq, Nat.reduceAdd, Nat.reduceSub, Nat.reduceMul, Nat.reduceLeDiff, Nat.reduceLT, ofCells, ofCell, reduceCtorEq, Int.reduceLE, Int.reduceLT, Int.reduceToNat, Int.reduceAdd, Int.reduceSub, Int.reduceMul, Int.reduceNeg, Int.reduceBEq, Int.reduceBNe, Int.reduceEq, eqCell, eqCells, binP, unP, convP, lenP, builtinP, sliceDataP, unsafeStringP, appendT, appendS, appendP, copyP, srcP, mmsP, mmP, indexOp, indexAddrOp, sliceOp, bndsP, bndP, capw, capCut, loadOp, storeOp, loadP, fieldOp, fieldAddrOp, arrayAtOp, buildP, buildSliceP, makeSliceP, placeF, fillP, setL, PK.agg, isZero, gt_iff_lt, Nat.reducePow, Nat.reduceGT, reps, seg, wkN, if_pos, if_neg, tf3, Tryz.ze3, tf5, Tryz.ze5, tf9, Tryz.ze9, tf21, Tryz.ze21, tf30, Tryz.ze30, tf82, Tryz.ze82, tf86, Tryz.ze86, tf116, Tryz.ze116, tf118, Tryz.ze118, tf120, Tryz.ze120, tf122, Tryz.ze122, tf124, Tryz.ze124, tf125, Tryz.ze125, tf126, Tryz.ze126, tf127, Tryz.ze127, tf129, Tryz.ze129, tf138, Tryz.ze138, tf151, Tryz.ze151, tf166, Tryz.ze166, pl102_5Ae7, pl102_12Ae7, pl102_15Ae7, pl102_19Ae7, pl102_24Ae7, e28, hlt', i1, i2, i3, i4, hWl, m0, m1, q1, h_getlt hq, h, cs, v256, xor_u8, b0, b1, b2, b3]
        | refine w_pure (tm) ?_
        | refine w_drawnF (id := 5) tb102_5Ae7 pl102_5Ae7 29 (by kernel_rfl) (by kernel_rfl) (by simp) ?_
        | refine w_drawnF (id := 12) tb102_12Ae7 pl102_12Ae7 77 (by kernel_rfl) (by kernel_rfl) (by simp) ?_
        | refine w_drawnF (id := 15) tb102_15Ae7 pl102_15Ae7 115 (by kernel_rfl) (by kernel_rfl) (by simp) ?_
        | refine w_drawnF (id := 19) tb102_19Ae7 pl102_19Ae7 131 (by kernel_rfl) (by kernel_rfl) (by simp) ?_
        | refine w_drawnF (id := 24) tb102_24Ae7 pl102_24Ae7 164 (by kernel_rfl) (by kernel_rfl) (by simp) ?_
        refine w_loopH (α := Nat) ph (upF ph.ob r (some .defd)) ph.ty (fun k => [.undef, .ptr ph.n 0, .int .i64 nk, .ptr (ph.n + 1) 0, .undef, .int .u8 c'.toNat, .int .i64 ((nk + j : Nat) : Int), .ptr (ph.n + 6) 0, .undef, .undef, .undef, .undef, .undef, .undef, .undef, .undef, .undef, .undef, .undef, .undef, .undef, .undef, .undef, .undef, .undef, .undef, .undef, .undef, .undef, .undef, .undef, .undef, .undef, .undef, .undef, .undef, .undef, .undef, .undef, .undef, .undef, .undef, .undef, .undef, .undef, .undef, .undef, .undef, .undef, .undef, .undef, .undef, .undef, .undef, .undef, .undef, .undef, .undef, .undef, .undef, .undef, .undef, .undef, .undef, .undef, .undef, .undef, .undef, .undef, .undef, .undef, .undef, .undef, .undef, .undef, .undef, .undef, .undef, .undef, .undef, .undef, .undef, .undef, .undef, .undef, .undef, .undef, .undef, .undef, .undef, .undef, .undef, .undef, .undef, .undef, .undef, .undef, .undef, .undef, .undef, .undef, .undef, .undef, .undef, .undef, .undef, .undef, .undef, .undef, .undef, .undef, .undef, .undef, .undef, .undef, .int .i64 k, .undef, .undef, .undef, .undef, .undef, .undef, .undef, .undef, .undef, .undef, .undef, .undef, .undef, .undef, .undef, .undef, .undef, .undef, .undef, .undef, .undef, .undef, .undef, .undef, .undef, .undef, .undef, .undef, .undef, .undef, .undef, .undef, .undef, .undef, .undef, .undef, .undef, .undef, .undef, .undef, .undef, .undef, .undef, .undef, .undef, .undef, .undef, .undef]) (fun k => [some (.own [.ptr q 0]), some (.own [.gsl (ph.n + 5) 4 (nk + j) (bytesPV W)]), some (.own (bytesPV key)), some (.own [.sl (ph.n + 2) 0 1 key.length none]), some (.own [.int .i64 4]), some (.grow 4 (nk + j) 138), some (.own (bytesPV (midB Z U k)))]) (fun k => k ≤ 4) (fun k => 4 - k) 0 (by simp) (fun _ _ => by simp) (.eq (by simp [FadeTo]) (by rw [midB_0, hU]; rfl)) ?_
        intro k hk K2 hK2
        have j1 : ((nk + j : Nat) : Int) - (nk : Int) = (j : Int) := by omega
        rcases Nat.lt_or_ge k 4 with hlt4 | hge4
        · have hk' : (k : Int) < 4 := by omega
          obtain ⟨u, hu⟩ := get_someW (show k < U.length by omega)
          obtain ⟨p, hp⟩ := get_someW (show k < P.length by omega)
          have hz : Z[k]? = some (u ^^^ p) := by rw [hZ, xorB, List.getElem?_zipWith, hu, hp]
          have hmk := midB_at (m := Z) (l := U) (by omega) (i := k) (by omega)
          rw [hu] at hmk
          have hms := midB_set (m := Z) (l := U) (by omega) hz
          have hml := midB_len (m := Z) (l := U) (by omega) k
          have j2 : (j : Int) < ((nk + j : Nat) : Int) := by omega
          have j3 : W[j * 4 + k]? = some p := by
            rw [hP, List.getElem?_take, if_pos hlt4, List.getElem?_drop] at hp
            rw [Nat.mul_comm]; exact hp
          have j4 : (List.drop (j * 4 + k) (bytesPV W))[0]? = some (.int .u8 (p.toNat : Int)) := by rw [List.getElem?_drop, Nat.add_zero, bytesPV_get, j3]; rfl
          have j5 : (List.drop k (List.drop (j * 4) (bytesPV W)))[0]? = some (.int .u8 (p.toNat : Int)) := by rw [List.drop_drop]; exact j4
          repeat' first
          | simp -implicitDefEqProofs (maxSteps := 400000) (disch := first | with_reducible rfl | omega | (simp only [h_n, PH.n_push, PH.n_put, List.length_cons, List.length_nil] <;> omega) | decide) only [wkAll, wkL, popO, wantedP, if_true, if_false, reduceIte, ne_eq, Nat.reduceAdd, Nat.reduceSub, Nat.reduceMul, Nat.reduceLeDiff, Nat.reduceLT, ofCells, ofCell, reduceCtorEq, Int.reduceLE, Int.reduceLT, Int.reduceToNat, Int.reduceAdd, Int.reduceSub, Int.reduceMul, Int.reduceNeg, Int.reduceBEq, Int.reduceBNe, Int.reduceEq, eqCell, eqCells, binP, unP, convP, lenP, builtinP, sliceDataP, unsafeStringP, appendT, appendS, appendP, copyP, srcP, mmsP, mmP, indexOp, indexAddrOp, sliceOp, bndsP, bndP, capw, capCut, loadOp, storeOp, loadP, fieldOp, fieldAddrOp, arrayAtOp, buildP, buildSliceP, makeSliceP, placeF, fillP, setL, PK.agg, isZero, gt_iff_lt, Nat.reducePow, Nat.reduceGT, reps, seg, wkN, if_pos, if_neg, tf3, Tryz.ze3, tf5, Tryz.ze5, tf9, Tryz.ze9, tf21, Tryz.ze21, tf30, Tryz.ze30, tf82, Tryz.ze82, tf86, Tryz.ze86, tf116, Tryz.ze116, tf118, Tryz.ze118, tf120, Tryz.ze120, tf122, Tryz.ze122, tf124, Tryz.ze124, tf125, Tryz.ze125, tf126, Tryz.ze126, tf127, Tryz.ze127, tf129, Tryz.ze129, tf138, Tryz.ze138, tf151, Tryz.ze151, tf166, Tryz.ze166, pl102_5Ae7, pl102_12Ae7, pl102_15Ae7, pl102_19Ae7, pl102_24Ae7, hk', j1, j2, j4, j5, hWl, hUl, hml, hmk, xor_u8, bytesPV_set, hms]
          | refine w_drawnF (id := 5) tb102_5Ae7 pl102_5Ae7 29 (by kernel_rfl) (by kernel_rfl) (by simp) ?_
          | refine w_drawnF (id := 12) tb102_12Ae7 pl102_12Ae7 77 (by kernel_rfl) (by kernel_rfl) (by simp) ?_
          | refine w_drawnF (id := 15) tb102_15Ae7 pl102_15Ae7 115 (by kernel_rfl) (by kernel_rfl) (by simp) ?_
          | refine w_drawnF (id := 19) tb102_19Ae7 pl102_19Ae7 131 (by kernel_rfl) (by kernel_rfl) (by simp) ?_
          | refine w_drawnF (id := 24) tb102_24Ae7 pl102_24Ae7 164 (by kernel_rfl) (by kernel_rfl) (by simp) ?_
          refine hK2 (k + 1) _ _ (by omega) (by omega) (.eq (by simp [FadeTo]) rfl)
        · have hk' : ¬ (k : Int) < 4 := by omega
          have hz4 : midB Z U k = Z := midB_all (by omega) (by omega)
          rw [hz4]
          have z1 : (bytesPV Z).take 4 = bytesPV Z := List.take_of_length_le (by rw [bytesPV_len]; omega)
          have z2 : ∀ c : List PV, c.length = 4 → setL c 0 (bytesPV Z) = bytesPV Z := fun c hc => setL_all _ _ (by rw [hc, bytesPV_len, hZl])
          have z3 : ((nk + j : Nat) : Int) + 1 = ((nk + (j + 1) : Nat) : Int) := by omega
          repeat' first
          | simp -implicitDefEqProofs (maxSteps := 400000) (disch := first | with_reducible rfl | omega | (simp only [h_n, PH.n_push, PH.n_put, List.length_cons, List.length_nil] <;> omega) | decide) only [wkAll, wkL, popO, wantedP, if_true, if_false, reduceIte, ne_eq, Nat.reduceAdd, Nat.reduceSub, Nat.reduceMul, Nat.reduceLeDiff, Nat.reduceLT, ofCells, ofCell, reduceCtorEq, Int.reduceLE, Int.reduceLT, Int.reduceToNat, Int.reduceAdd, Int.reduceSub, Int.reduceMul, Int.reduceNeg, Int.reduceBEq, Int.reduceBNe, Int.reduceEq, eqCell, eqCells, binP, unP, convP, lenP, builtinP, sliceDataP, unsafeStringP, appendT, appendS, appendP, copyP, srcP, mmsP, mmP, indexOp, indexAddrOp, sliceOp, bndsP, bndP, capw, capCut, loadOp, storeOp, loadP, fieldOp, fieldAddrOp, arrayAtOp, buildP, buildSliceP, makeSliceP, placeF, fillP, setL, PK.agg, isZero, gt_iff_lt, Nat.reducePow, Nat.reduceGT, reps, seg, wkN, if_pos, if_neg, tf3, Tryz.ze3, tf5, Tryz.ze5, tf9, Tryz.ze9, tf21, Tryz.ze21, tf30, Tryz.ze30, tf82, Tryz.ze82, tf86, Tryz.ze86, tf116, Tryz.ze116, tf118, Tryz.ze118, tf120, Tryz.ze120, tf122, Tryz.ze122, tf124, Tryz.ze124, tf125, Tryz.ze125, tf126, Tryz.ze126, tf127, Tryz.ze127, tf129, Tryz.ze129, tf138, Tryz.ze138, tf151, Tryz.ze151, tf166, Tryz.ze166, pl102_5Ae7, pl102_12Ae7, pl102_15Ae7, pl102_19Ae7, pl102_24Ae7, hk', app_g, z1, z2, z3, hZl, bytesPV_cok]
          | refine w_drawnF (id := 5) tb102_5Ae7 pl102_5Ae7 29 (by kernel_rfl) (by kernel_rfl) (by simp) ?_
          | refine w_drawnF (id := 12) tb102_12Ae7 pl102_12Ae7 77 (by kernel_rfl) (by kernel_rfl) (by simp) ?_
          | refine w_drawnF (id := 15) tb102_15Ae7 pl102_15Ae7 115 (by kernel_rfl) (by kernel_rfl) (by simp) ?_
          | refine w_drawnF (id := 19) tb102_19Ae7 pl102_19Ae7 131 (by kernel_rfl) (by kernel_rfl) (by simp) ?_
          | refine w_drawnF (id := 24) tb102_24Ae7 pl102_24Ae7 164 (by kernel_rfl) (by kernel_rfl) (by simp) ?_
          have hq6 : q < ph.n + 6 := by omega
          refine hK1 _ _ (.cut [_, _] hW (by simp [FadeTo]) (by first | rfl | (simp [bytesPV_append]; rfl) | simp [bytesPV_append]) (by simp [scs_cons, scs_nil, sc_ptr, sc_fsl, sc_gsl, sc_sl, sc_agg, sc_func, sc_int, sc_bool, sc_str, sc_undef, sc_nilptr, sc_nilsl, sc_yield, sc_tuple, sc_fptr, scs_bytes, scs_append, scs_bytes, hq6]) (by simp [scs_cons, scs_nil, sc_ptr, sc_fsl, sc_gsl, sc_sl, sc_agg, sc_func, sc_int, sc_bool, sc_str, sc_undef, sc_nilptr, sc_nilsl, sc_yield, sc_tuple, sc_fptr, scs_bytes, scs_append, scs_bytes, hq6]) (h3 := .inr (obsc1 hW (by omega))))
      · have q1 : ((((nk + j) % nk : Nat) : Int) == 0) = false := by rw [beq_eq_false_iff_ne]; omega
        have q2 : ((nk : Int) == 8) = true := by rw [beq_iff_eq]; omega
        have q3 : ((((nk + j) % 8 : Nat) : Int) == 4) = true := by rw [beq_iff_eq]; omega
        subst b4
        repeat' first
        | simp -implicitDefEqProofs (maxSteps := 400000) (disch := first | with_reducible rfl | omega | (simp only [h_n, PH.n_push, PH.n_put, List.length_cons, List.length_nil] <;> omega) | decide) only [wkAll, wkL, popO, wantedP, if_true, if_false, reduceIte, ne_eq, Nat.reduceAdd, Nat.reduceSub, Nat.reduceMul, Nat.reduceLeDiff, Nat.reduceLT, ofCells, ofCell, reduceCtorEq, Int.reduceLE, Int.reduceLT, Int.reduceToNat, Int.reduceAdd, Int.reduceSub, Int.reduceMul, Int.reduceNeg, Int.reduceBEq, Int.reduceBNe, Int.reduceEq, eqCell, eqCells, binP, unP, convP, lenP, builtinP, sliceDataP, unsafeStringP, appendT, appendS, appendP, copyP, srcP, mmsP, mmP, indexOp, indexAddrOp, sliceOp, bndsP, bndP, capw, capCut, loadOp, storeOp, loadP, fieldOp, fieldAddrOp, arrayAtOp, buildP, buildSliceP, makeSliceP, placeF, fillP, setL, PK.agg, isZero, gt_iff_lt, Nat.reducePow, Nat.reduceGT, reps, seg, wkN, if_pos, if_neg, tf3, Tryz.ze3, tf5, Tryz.ze5, tf9, Tryz.ze9, tf21, Tryz.ze21, tf30, Tryz.ze30, tf82, Tryz.ze82, tf86, Tryz.ze86, tf116, Tryz.ze116, tf118, Tryz.ze118, tf120, Tryz.ze120, tf122, Tryz.ze122, tf124, Tryz.ze124, tf125, Tryz.ze125, tf126, Tryz.ze126, tf127, Tryz.ze127, tf129, Tryz.ze129, tf138, Tryz.ze138, tf151, Tryz.ze151, tf166, Tryz.ze166, pl102_5Ae7, pl102_12Ae7, pl102_15Ae7, pl102_19Ae7, pl102_24Ae7, e28, hlt', i1, i2, i3, i4, hWl, m0, m1, m2, q1, q2, q3, h_getlt hq, h, cs, v256, xor_u8, b0, b1, b2, b3]
        | refine w_drawnF (id := 5) tb102_5Ae7 pl102_5Ae7 29 (by kernel_rfl) (by kernel_rfl) (by simp) ?_
        | refine w_drawnF (id := 12) tb102_12Ae7 pl102_12Ae7 77 (by kernel_rfl) (by kernel_rfl) (by simp) ?_
        | refine w_drawnF (id := 15) tb102_15Ae7 pl102_15Ae7 115 (by kernel_rfl) (by kernel_rfl) (by simp) ?_
        | refine w_drawnF (id := 19) tb102_19Ae7 pl102_19Ae7 131 (by kernel_rfl) (by kernel_rfl) (by simp) ?_
        | refine w_drawnF (id := 24) tb102_24Ae7 pl102_24Ae7 164 (by kernel_rfl) (by kernel_rfl) (by simp) ?_
        refine w_loopH (α := Nat) ph (upF ph.ob r (some .defd)) ph.ty (fun k => [.undef, .ptr ph.n 0, .int .i64 nk, .ptr (ph.n + 1) 0, .undef, .int .u8 c.toNat, .int .i64 ((nk + j : Nat) : Int), .ptr (ph.n + 6) 0, .undef, .undef, .undef, .undef, .undef, .undef, .undef, .undef, .undef, .undef, .undef, .undef, .undef, .undef, .undef, .undef, .undef, .undef, .undef, .undef, .undef, .undef, .undef, .undef, .undef, .undef, .undef, .undef, .undef, .undef, .undef, .undef, .undef, .undef, .undef, .undef, .undef, .undef, .undef, .undef, .undef, .undef, .undef, .undef, .undef, .undef, .undef, .undef, .undef, .undef, .undef, .undef, .undef, .undef, .undef, .undef, .undef, .undef, .undef, .undef, .undef, .undef, .undef, .undef, .undef, .undef, .undef, .undef, .undef, .undef, .undef, .undef, .undef, .undef, .undef, .undef, .undef, .undef, .undef, .undef, .undef, .undef, .undef, .undef, .undef, .undef, .undef, .undef, .undef, .undef, .undef, .undef, .undef, .undef, .undef, .undef, .undef, .undef, .undef, .undef, .undef, .undef, .undef, .undef, .undef, .undef, .undef, .int .i64 k, .undef, .undef, .undef, .undef, .undef, .undef, .undef, .undef, .undef, .undef, .undef, .undef, .undef, .undef, .undef, .undef, .undef, .undef, .undef, .undef, .undef, .undef, .undef, .undef, .undef, .undef, .undef, .undef, .undef, .undef, .undef, .undef, .undef, .undef, .undef, .undef, .undef, .undef, .undef, .undef, .undef, .undef, .undef, .undef, .undef, .undef, .undef, .undef]) (fun k => [some (.own [.ptr q 0]), some (.own [.gsl (ph.n + 5) 4 (nk + j) (bytesPV W)]), some (.own (bytesPV key)), some (.own [.sl (ph.n + 2) 0 1 key.length none]), some (.own [.int .i64 4]), some (.grow 4 (nk + j) 138), some (.own (bytesPV (midB Z U k)))]) (fun k => k ≤ 4) (fun k => 4 - k) 0 (by simp) (fun _ _ => by simp) (.eq (by simp [FadeTo]) (by rw [midB_0, hU]; rfl)) ?_
        intro k hk K2 hK2
        have j1 : ((nk + j : Nat) : Int) - (nk : Int) = (j : Int) := by omega
        rcases Nat.lt_or_ge k 4 with hlt4 | hge4
        · have hk' : (k : Int) < 4 := by omega
          obtain ⟨u, hu⟩ := get_someW (show k < U.length by omega)
          obtain ⟨p, hp⟩ := get_someW (show k < P.length by omega)
          have hz : Z[k]? = some (u ^^^ p) := by rw [hZ, xorB, List.getElem?_zipWith, hu, hp]
          have hmk := midB_at (m := Z) (l := U) (by omega) (i := k) (by omega)
          rw [hu] at hmk
          have hms := midB_set (m := Z) (l := U) (by omega) hz
          have hml := midB_len (m := Z) (l := U) (by omega) k
          have j2 : (j : Int) < ((nk + j : Nat) : Int) := by omega
          have j3 : W[j * 4 + k]? = some p := by
            rw [hP, List.getElem?_take, if_pos hlt4, List.getElem?_drop] at hp
            rw [Nat.mul_comm]; exact hp
          have j4 : (List.drop (j * 4 + k) (bytesPV W))[0]? = some (.int .u8 (p.toNat : Int)) := by rw [List.getElem?_drop, Nat.add_zero, bytesPV_get, j3]; rfl
          have j5 : (List.drop k (List.drop (j * 4) (bytesPV W)))[0]? = some (.int .u8 (p.toNat : Int)) := by rw [List.drop_drop]; exact j4
          repeat' first
          | simp -implicitDefEqProofs (maxSteps := 400000) (disch := first | with_reducible rfl | omega | (simp only [h_n, PH.n_push, PH.n_put, List.length_cons, List.length_nil] <;> omega) | decide) only [wkAll, wkL, popO, wantedP, if_true, if_false, reduceIte, ne_eq, Nat.reduceAdd, Nat.reduceSub, Nat.reduceMul, Nat.reduceLeDiff, Nat.reduceLT, ofCells, ofCell, reduceCtorEq, Int.reduceLE, Int.reduceLT, Int.reduceToNat, Int.reduceAdd, Int.reduceSub, Int.reduceMul, Int.reduceNeg, Int.reduceBEq, Int.reduceBNe, Int.reduceEq, eqCell, eqCells, binP, unP, convP, lenP, builtinP, sliceDataP, unsafeStringP, appendT, appendS, appendP, copyP, srcP, mmsP, mmP, indexOp, indexAddrOp, sliceOp, bndsP, bndP, capw, capCut, loadOp, storeOp, loadP, fieldOp, fieldAddrOp, arrayAtOp, buildP, buildSliceP, makeSliceP, placeF, fillP, setL, PK.agg, isZero, gt_iff_lt, Nat.reducePow, Nat.reduceGT, reps, seg, wkN, if_pos, if_neg, tf3, Tryz.ze3, tf5, Tryz.ze5, tf9, Tryz.ze9, tf21, Tryz.ze21, tf30, Tryz.ze30, tf82, Tryz.ze82, tf86, Tryz.ze86, tf116, Tryz.ze116, tf118, Tryz.ze118, tf120, Tryz.ze120, tf122, Tryz.ze122, tf124, Tryz.ze124, tf125, Tryz.ze125, tf126, Tryz.ze126, tf127, Tryz.ze127, tf129, Tryz.ze129, tf138, Tryz.ze138, tf151, Tryz.ze151, tf166, Tryz.ze166, pl102_5Ae7, pl102_12Ae7, pl102_15Ae7, pl102_19Ae7, pl102_24Ae7, hk', j1, j2, j4, j5, hWl, hUl, hml, hmk, xor_u8, bytesPV_set, hms]
          | refine w_drawnF (id := 5) tb102_5Ae7 pl102_5Ae7 29 (by kernel_rfl) (by kernel_rfl) (by simp) ?_
          | refine w_drawnF (id := 12) tb102_12Ae7 pl102_12Ae7 77 (by kernel_rfl) (by kernel_rfl) (by simp) ?_
          | refine w_drawnF (id := 15) tb102_15Ae7 pl102_15Ae7 115 (by kernel_rfl) (by kernel_rfl) (by simp) ?_
          | refine w_drawnF (id := 19) tb102_19Ae7 pl102_19Ae7 131 (by kernel_rfl) (by kernel_rfl) (by simp) ?_
          | refine w_drawnF (id := 24) tb102_24Ae7 pl102_24Ae7 164 (by kernel_rfl) (by kernel_rfl) (by simp) ?_
          refine hK2 (k + 1) _ _ (by omega) (by omega) (.eq (by simp [FadeTo]) rfl)
        · have hk' : ¬ (k : Int) < 4 := by omega
          have hz4 : midB Z U k = Z := midB_all (by omega) (by omega)
          rw [hz4]
          have z1 : (bytesPV Z).take 4 = bytesPV Z := List.take_of_length_le (by rw [bytesPV_len]; omega)
          have z2 : ∀ c : List PV, c.length = 4 → setL c 0 (bytesPV Z) = bytesPV Z := fun c hc => setL_all _ _ (by rw [hc, bytesPV_len, hZl])
          have z3 : ((nk + j : Nat) : Int) + 1 = ((nk + (j + 1) : Nat) : Int) := by omega
          repeat' first
          | simp -implicitDefEqProofs (maxSteps := 400000) (disch := first | with_reducible rfl | omega | (simp only [h_n, PH.n_push, PH.n_put, List.length_cons, List.length_nil] <;> omega) | decide) only [wkAll, wkL, popO, wantedP, if_true, if_false, reduceIte, ne_eq, Nat.reduceAdd, Nat.reduceSub, Nat.reduceMul, Nat.reduceLeDiff, Nat.reduceLT, ofCells, ofCell, reduceCtorEq, Int.reduceLE, Int.reduceLT, Int.reduceToNat, Int.reduceAdd, Int.reduceSub, Int.reduceMul, Int.reduceNeg, Int.reduceBEq, Int.reduceBNe, Int.reduceEq, eqCell, eqCells, binP, unP, convP, lenP, builtinP, sliceDataP, unsafeStringP, appendT, appendS, appendP, copyP, srcP, mmsP, mmP, indexOp, indexAddrOp, sliceOp, bndsP, bndP, capw, capCut, loadOp, storeOp, loadP, fieldOp, fieldAddrOp, arrayAtOp, buildP, buildSliceP, makeSliceP, placeF, fillP, setL, PK.agg, isZero, gt_iff_lt, Nat.reducePow, Nat.reduceGT, reps, seg, wkN, if_pos, if_neg, tf3, Tryz.ze3, tf5, Tryz.ze5, tf9, Tryz.ze9, tf21, Tryz.ze21, tf30, Tryz.ze30, tf82, Tryz.ze82, tf86, Tryz.ze86, tf116, Tryz.ze116, tf118, Tryz.ze118, tf120, Tryz.ze120, tf122, Tryz.ze122, tf124, Tryz.ze124, tf125, Tryz.ze125, tf126, Tryz.ze126, tf127, Tryz.ze127, tf129, Tryz.ze129, tf138, Tryz.ze138, tf151, Tryz.ze151, tf166, Tryz.ze166, pl102_5Ae7, pl102_12Ae7, pl102_15Ae7, pl102_19Ae7, pl102_24Ae7, hk', app_g, z1, z2, z3, hZl, bytesPV_cok]
          | refine w_drawnF (id := 5) tb102_5Ae7 pl102_5Ae7 29 (by kernel_rfl) (by kernel_rfl) (by simp) ?_
          | refine w_drawnF (id := 12) tb102_12Ae7 pl102_12Ae7 77 (by kernel_rfl) (by kernel_rfl) (by simp) ?_
          | refine w_drawnF (id := 15) tb102_15Ae7 pl102_15Ae7 115 (by kernel_rfl) (by kernel_rfl) (by simp) ?_
          | refine w_drawnF (id := 19) tb102_19Ae7 pl102_19Ae7 131 (by kernel_rfl) (by kernel_rfl) (by simp) ?_
          | refine w_drawnF (id := 24) tb102_24Ae7 pl102_24Ae7 164 (by kernel_rfl) (by kernel_rfl) (by simp) ?_
          have hq6 : q < ph.n + 6 := by omega
          refine hK1 _ _ (.cut [_, _] hW (by simp [FadeTo]) (by first | rfl | (simp [bytesPV_append]; rfl) | simp [bytesPV_append]) (by simp [scs_cons, scs_nil, sc_ptr, sc_fsl, sc_gsl, sc_sl, sc_agg, sc_func, sc_int, sc_bool, sc_str, sc_undef, sc_nilptr, sc_nilsl, sc_yield, sc_tuple, sc_fptr, scs_bytes, scs_append, scs_bytes, hq6]) (by simp [scs_cons, scs_nil, sc_ptr, sc_fsl, sc_gsl, sc_sl, sc_agg, sc_func, sc_int, sc_bool, sc_str, sc_undef, sc_nilptr, sc_nilsl, sc_yield, sc_tuple, sc_fptr, scs_bytes, scs_append, scs_bytes, hq6]) (h3 := .inr (obsc1 hW (by omega))))
      · have q1 : ((((nk + j) % nk : Nat) : Int) == 0) = false := by rw [beq_eq_false_iff_ne]; omega
        have q2 : ((nk : Int) == 8) = false := by rw [beq_eq_false_iff_ne]; omega
        subst b0 b1 b2 b3 b4
        repeat' first
        | simp -implicitDefEqProofs (maxSteps := 400000) (disch := first | with_reducible rfl | omega | (simp only [h_n, PH.n_push, PH.n_put, List.length_cons, List.length_nil] <;> omega) | decide) only [wkAll, wkL, popO, wantedP, if_true, if_false, reduceIte, ne_eq, Nat.reduceAdd, Nat.reduceSub, Nat.reduceMul, Nat.reduceLeDiff, Nat.reduceLT, ofCells, ofCell, reduceCtorEq, Int.reduceLE, Int.reduceLT, Int.reduceToNat, Int.reduceAdd, Int.reduceSub, Int.reduceMul, Int.reduceNeg, Int.reduceBEq, Int.reduceBNe, Int.reduceEq, eqCell, eqCells, binP, unP, convP, lenP, builtinP, sliceDataP, unsafeStringP, appendT, appendS, appendP, copyP, srcP, mmsP, mmP, indexOp, indexAddrOp, sliceOp, bndsP, bndP, capw, capCut, loadOp, storeOp, loadP, fieldOp, fieldAddrOp, arrayAtOp, buildP, buildSliceP, makeSliceP, placeF, fillP, setL, PK.agg, isZero, gt_iff_lt, Nat.reducePow, Nat.reduceGT, reps, seg, wkN, if_pos, if_neg, tf3, Tryz.ze3, tf5, Tryz.ze5, tf9, Tryz.ze9, tf21, Tryz.ze21, tf30, Tryz.ze30, tf82, Tryz.ze82, tf86, Tryz.ze86, tf116, Tryz.ze116, tf118, Tryz.ze118, tf120, Tryz.ze120, tf122, Tryz.ze122, tf124, Tryz.ze124, tf125, Tryz.ze125, tf126, Tryz.ze126, tf127, Tryz.ze127, tf129, Tryz.ze129, tf138, Tryz.ze138, tf151, Tryz.ze151, tf166, Tryz.ze166, pl102_5Ae7, pl102_12Ae7, pl102_15Ae7, pl102_19Ae7, pl102_24Ae7, e28, hlt', i1, i2, i3, i4, hWl, m0, m1, m2, q1, q2, h_getlt hq, h]
        | refine w_drawnF (id := 5) tb102_5Ae7 pl102_5Ae7 29 (by kernel_rfl) (by kernel_rfl) (by simp) ?_
        | refine w_drawnF (id := 12) tb102_12Ae7 pl102_12Ae7 77 (by kernel_rfl) (by kernel_rfl) (by simp) ?_
        | refine w_drawnF (id := 15) tb102_15Ae7 pl102_15Ae7 115 (by kernel_rfl) (by kernel_rfl) (by simp) ?_
        | refine w_drawnF (id := 19) tb102_19Ae7 pl102_19Ae7 131 (by kernel_rfl) (by kernel_rfl) (by simp) ?_
        | refine w_drawnF (id := 24) tb102_24Ae7 pl102_24Ae7 164 (by kernel_rfl) (by kernel_rfl) (by simp) ?_
        refine w_loopH (α := Nat) ph (upF ph.ob r (some .defd)) ph.ty (fun k => [.undef, .ptr ph.n 0, .int .i64 nk, .ptr (ph.n + 1) 0, .undef, .int .u8 c.toNat, .int .i64 ((nk + j : Nat) : Int), .ptr (ph.n + 6) 0, .undef, .undef, .undef, .undef, .undef, .undef, .undef, .undef, .undef, .undef, .undef, .undef, .undef, .undef, .undef, .undef, .undef, .undef, .undef, .undef, .undef, .undef, .undef, .undef, .undef, .undef, .undef, .undef, .undef, .undef, .undef, .undef, .undef, .undef, .undef, .undef, .undef, .undef, .undef, .undef, .undef, .undef, .undef, .undef, .undef, .undef, .undef, .undef, .undef, .undef, .undef, .undef, .undef, .undef, .undef, .undef, .undef, .undef, .undef, .undef, .undef, .undef, .undef, .undef, .undef, .undef, .undef, .undef, .undef, .undef, .undef, .undef, .undef, .undef, .undef, .undef, .undef, .undef, .undef, .undef, .undef, .undef, .undef, .undef, .undef, .undef, .undef, .undef, .undef, .undef, .undef, .undef, .undef, .undef, .undef, .undef, .undef, .undef, .undef, .undef, .undef, .undef, .undef, .undef, .undef, .undef, .undef, .int .i64 k, .undef, .undef, .undef, .undef, .undef, .undef, .undef, .undef, .undef, .undef, .undef, .undef, .undef, .undef, .undef, .undef, .undef, .undef, .undef, .undef, .undef, .undef, .undef, .undef, .undef, .undef, .undef, .undef, .undef, .undef, .undef, .undef, .undef, .undef, .undef, .undef, .undef, .undef, .undef, .undef, .undef, .undef, .undef, .undef, .undef, .undef, .undef, .undef]) (fun k => [some (.own [.ptr q 0]), some (.own [.gsl (ph.n + 5) 4 (nk + j) (bytesPV W)]), some (.own (bytesPV key)), some (.own [.sl (ph.n + 2) 0 1 key.length none]), some (.own [.int .i64 4]), some (.grow 4 (nk + j) 138), some (.own (bytesPV (midB Z U k)))]) (fun k => k ≤ 4) (fun k => 4 - k) 0 (by simp) (fun _ _ => by simp) (.eq (by simp [FadeTo]) (by rw [midB_0, hU]; rfl)) ?_
        intro k hk K2 hK2
        have j1 : ((nk + j : Nat) : Int) - (nk : Int) = (j : Int) := by omega
        rcases Nat.lt_or_ge k 4 with hlt4 | hge4
        · have hk' : (k : Int) < 4 := by omega
          obtain ⟨u, hu⟩ := get_someW (show k < U.length by omega)
          obtain ⟨p, hp⟩ := get_someW (show k < P.length by omega)
          have hz : Z[k]? = some (u ^^^ p) := by rw [hZ, xorB, List.getElem?_zipWith, hu, hp]
          have hmk := midB_at (m := Z) (l := U) (by omega) (i := k) (by omega)
          rw [hu] at hmk
          have hms := midB_set (m := Z) (l := U) (by omega) hz
          have hml := midB_len (m := Z) (l := U) (by omega) k
          have j2 : (j : Int) < ((nk + j : Nat) : Int) := by omega
          have j3 : W[j * 4 + k]? = some p := by
            rw [hP, List.getElem?_take, if_pos hlt4, List.getElem?_drop] at hp
            rw [Nat.mul_comm]; exact hp
          have j4 : (List.drop (j * 4 + k) (bytesPV W))[0]? = some (.int .u8 (p.toNat : Int)) := by rw [List.getElem?_drop, Nat.add_zero, bytesPV_get, j3]; rfl
          have j5 : (List.drop k (List.drop (j * 4) (bytesPV W)))[0]? = some (.int .u8 (p.toNat : Int)) := by rw [List.drop_drop]; exact j4
          repeat' first
          | simp -implicitDefEqProofs (maxSteps := 400000) (disch := first | with_reducible rfl | omega | (simp only [h_n, PH.n_push, PH.n_put, List.length_cons, List.length_nil] <;> omega) | decide) only [wkAll, wkL, popO, wantedP, if_true, if_false, reduceIte, ne_eq, Nat.reduceAdd, Nat.reduceSub, Nat.reduceMul, Nat.reduceLeDiff, Nat.reduceLT, ofCells, ofCell, reduceCtorEq, Int.reduceLE, Int.reduceLT, Int.reduceToNat, Int.reduceAdd, Int.reduceSub, Int.reduceMul, Int.reduceNeg, Int.reduceBEq, Int.reduceBNe, Int.reduceEq, eqCell, eqCells, binP, unP, convP, lenP, builtinP, sliceDataP, unsafeStringP, appendT, appendS, appendP, copyP, srcP, mmsP, mmP, indexOp, indexAddrOp, sliceOp, bndsP, bndP, capw, capCut, loadOp, storeOp, loadP, fieldOp, fieldAddrOp, arrayAtOp, buildP, buildSliceP, makeSliceP, placeF, fillP, setL, PK.agg, isZero, gt_iff_lt, Nat.reducePow, Nat.reduceGT, reps, seg, wkN, if_pos, if_neg, tf3, Tryz.ze3, tf5, Tryz.ze5, tf9, Tryz.ze9, tf21, Tryz.ze21, tf30, Tryz.ze30, tf82, Tryz.ze82, tf86, Tryz.ze86, tf116, Tryz.ze116, tf118, Tryz.ze118, tf120, Tryz.ze120, tf122, Tryz.ze122, tf124, Tryz.ze124, tf125, Tryz.ze125, tf126, Tryz.ze126, tf127, Tryz.ze127, tf129, Tryz.ze129, tf138, Tryz.ze138, tf151, Tryz.ze151, tf166, Tryz.ze166, pl102_5Ae7, pl102_12Ae7, pl102_15Ae7, pl102_19Ae7, pl102_24Ae7, hk', j1, j2, j4, j5, hWl, hUl, hml, hmk, xor_u8, bytesPV_set, hms]
          | refine w_drawnF (id := 5) tb102_5Ae7 pl102_5Ae7 29 (by kernel_rfl) (by kernel_rfl) (by simp) ?_
          | refine w_drawnF (id := 12) tb102_12Ae7 pl102_12Ae7 77 (by kernel_rfl) (by kernel_rfl) (by simp) ?_
          | refine w_drawnF (id := 15) tb102_15Ae7 pl102_15Ae7 115 (by kernel_rfl) (by kernel_rfl) (by simp) ?_
          | refine w_drawnF (id := 19) tb102_19Ae7 pl102_19Ae7 131 (by kernel_rfl) (by kernel_rfl) (by simp) ?_
          | refine w_drawnF (id := 24) tb102_24Ae7 pl102_24Ae7 164 (by kernel_rfl) (by kernel_rfl) (by simp) ?_
          refine hK2 (k + 1) _ _ (by omega) (by omega) (.eq (by simp [FadeTo]) rfl)
        · have hk' : ¬ (k : Int) < 4 := by omega
          have hz4 : midB Z U k = Z := midB_all (by omega) (by omega)
          rw [hz4]
          have z1 : (bytesPV Z).take 4 = bytesPV Z := List.take_of_length_le (by rw [bytesPV_len]; omega)
          have z2 : ∀ c : List PV, c.length = 4 → setL c 0 (bytesPV Z) = bytesPV Z := fun c hc => setL_all _ _ (by rw [hc, bytesPV_len, hZl])
          have z3 : ((nk + j : Nat) : Int) + 1 = ((nk + (j + 1) : Nat) : Int) := by omega
          repeat' first
          | simp -implicitDefEqProofs (maxSteps := 400000) (disch := first | with_reducible rfl | omega | (simp only [h_n, PH.n_push, PH.n_put, List.length_cons, List.length_nil] <;> omega) | decide) only [wkAll, wkL, popO, wantedP, if_true, if_false, reduceIte, ne_eq, Nat.reduceAdd, Nat.reduceSub, Nat.reduceMul, Nat.reduceLeDiff, Nat.reduceLT, ofCells, ofCell, reduceCtorEq, Int.reduceLE, Int.reduceLT, Int.reduceToNat, Int.reduceAdd, Int.reduceSub, Int.reduceMul, Int.reduceNeg, Int.reduceBEq, Int.reduceBNe, Int.reduceEq, eqCell, eqCells, binP, unP, convP, lenP, builtinP, sliceDataP, unsafeStringP, appendT, appendS, appendP, copyP, srcP, mmsP, mmP, indexOp, indexAddrOp, sliceOp, bndsP, bndP, capw, capCut, loadOp, storeOp, loadP, fieldOp, fieldAddrOp, arrayAtOp, buildP, buildSliceP, makeSliceP, placeF, fillP, setL, PK.agg, isZero, gt_iff_lt, Nat.reducePow, Nat.reduceGT, reps, seg, wkN, if_pos, if_neg, tf3, Tryz.ze3, tf5, Tryz.ze5, tf9, Tryz.ze9, tf21, Tryz.ze21, tf30, Tryz.ze30, tf82, Tryz.ze82, tf86, Tryz.ze86, tf116, Tryz.ze116, tf118, Tryz.ze118, tf120, Tryz.ze120, tf122, Tryz.ze122, tf124, Tryz.ze124, tf125, Tryz.ze125, tf126, Tryz.ze126, tf127, Tryz.ze127, tf129, Tryz.ze129, tf138, Tryz.ze138, tf151, Tryz.ze151, tf166, Tryz.ze166, pl102_5Ae7, pl102_12Ae7, pl102_15Ae7, pl102_19Ae7, pl102_24Ae7, hk', app_g, z1, z2, z3, hZl, bytesPV_cok]
          | refine w_drawnF (id := 5) tb102_5Ae7 pl102_5Ae7 29 (by kernel_rfl) (by kernel_rfl) (by simp) ?_
          | refine w_drawnF (id := 12) tb102_12Ae7 pl102_12Ae7 77 (by kernel_rfl) (by kernel_rfl) (by simp) ?_
          | refine w_drawnF (id := 15) tb102_15Ae7 pl102_15Ae7 115 (by kernel_rfl) (by kernel_rfl) (by simp) ?_
          | refine w_drawnF (id := 19) tb102_19Ae7 pl102_19Ae7 131 (by kernel_rfl) (by kernel_rfl) (by simp) ?_
          | refine w_drawnF (id := 24) tb102_24Ae7 pl102_24Ae7 164 (by kernel_rfl) (by kernel_rfl) (by simp) ?_
          have hq6 : q < ph.n + 6 := by omega
          refine hK1 _ _ (.cut [_, _] hW (by simp [FadeTo]) (by first | rfl | (simp [bytesPV_append]; rfl) | simp [bytesPV_append]) (by simp [scs_cons, scs_nil, sc_ptr, sc_fsl, sc_gsl, sc_sl, sc_agg, sc_func, sc_int, sc_bool, sc_str, sc_undef, sc_nilptr, sc_nilsl, sc_yield, sc_tuple, sc_fptr, scs_bytes, scs_append, scs_bytes, hq6]) (by simp [scs_cons, scs_nil, sc_ptr, sc_fsl, sc_gsl, sc_sl, sc_agg, sc_func, sc_int, sc_bool, sc_str, sc_undef, sc_nilptr, sc_nilsl, sc_yield, sc_tuple, sc_fptr, scs_bytes, scs_append, scs_bytes, hq6]) (h3 := .inr (obsc1 hW (by omega))))
      · have q1 : ((((nk + j) % nk : Nat) : Int) == 0) = false := by rw [beq_eq_false_iff_ne]; omega
        have q2 : ((nk : Int) == 8) = true := by rw [beq_iff_eq]; omega
        have q3 : ((((nk + j) % 8 : Nat) : Int) == 4) = false := by rw [beq_eq_false_iff_ne]; omega
        subst b0 b1 b2 b3 b4
        repeat' first
        | simp -implicitDefEqProofs (maxSteps := 400000) (disch := first | with_reducible rfl | omega | (simp only [h_n, PH.n_push, PH.n_put, List.length_cons, List.length_nil] <;> omega) | decide) only [wkAll, wkL, popO, wantedP, if_true, if_false, reduceIte, ne_eq, Nat.reduceAdd, Nat.reduceSub, Nat.reduceMul, Nat.reduceLeDiff, Nat.reduceLT, ofCells, ofCell, reduceCtorEq, Int.reduceLE, Int.reduceLT, Int.reduceToNat, Int.reduceAdd, Int.reduceSub, Int.reduceMul, Int.reduceNeg, Int.reduceBEq, Int.reduceBNe, Int.reduceEq, eqCell, eqCells, binP, unP, convP, lenP, builtinP, sliceDataP, unsafeStringP, appendT, appendS, appendP, copyP, srcP, mmsP, mmP, indexOp, indexAddrOp, sliceOp, bndsP, bndP, capw, capCut, loadOp, storeOp, loadP, fieldOp, fieldAddrOp, arrayAtOp, buildP, buildSliceP, makeSliceP, placeF, fillP, setL, PK.agg, isZero, gt_iff_lt, Nat.reducePow, Nat.reduceGT, reps, seg, wkN, if_pos, if_neg, tf3, Tryz.ze3, tf5, Tryz.ze5, tf9, Tryz.ze9, tf21, Tryz.ze21, tf30, Tryz.ze30, tf82, Tryz.ze82, tf86, Tryz.ze86, tf116, Tryz.ze116, tf118, Tryz.ze118, tf120, Tryz.ze120, tf122, Tryz.ze122, tf124, Tryz.ze124, tf125, Tryz.ze125, tf126, Tryz.ze126, tf127, Tryz.ze127, tf129, Tryz.ze129, tf138, Tryz.ze138, tf151, Tryz.ze151, tf166, Tryz.ze166, pl102_5Ae7, pl102_12Ae7, pl102_15Ae7, pl102_19Ae7, pl102_24Ae7, e28, hlt', i1, i2, i3, i4, hWl, m0, m1, m2, q1, q2, q3, h_getlt hq, h]
        | refine w_drawnF (id := 5) tb102_5Ae7 pl102_5Ae7 29 (by kernel_rfl) (by kernel_rfl) (by simp) ?_
        | refine w_drawnF (id := 12) tb102_12Ae7 pl102_12Ae7 77 (by kernel_rfl) (by kernel_rfl) (by simp) ?_
        | refine w_drawnF (id := 15) tb102_15Ae7 pl102_15Ae7 115 (by kernel_rfl) (by kernel_rfl) (by simp) ?_
        | refine w_drawnF (id := 19) tb102_19Ae7 pl102_19Ae7 131 (by kernel_rfl) (by kernel_rfl) (by simp) ?_
        | refine w_drawnF (id := 24) tb102_24Ae7 pl102_24Ae7 164 (by kernel_rfl) (by kernel_rfl) (by simp) ?_
        refine w_loopH (α := Nat) ph (upF ph.ob r (some .defd)) ph.ty (fun k => [.undef, .ptr ph.n 0, .int .i64 nk, .ptr (ph.n + 1) 0, .undef, .int .u8 c.toNat, .int .i64 ((nk + j : Nat) : Int), .ptr (ph.n + 6) 0, .undef, .undef, .undef, .undef, .undef, .undef, .undef, .undef, .undef, .undef, .undef, .undef, .undef, .undef, .undef, .undef, .undef, .undef, .undef, .undef, .undef, .undef, .undef, .undef, .undef, .undef, .undef, .undef, .undef, .undef, .undef, .undef, .undef, .undef, .undef, .undef, .undef, .undef, .undef, .undef, .undef, .undef, .undef, .undef, .undef, .undef, .undef, .undef, .undef, .undef, .undef, .undef, .undef, .undef, .undef, .undef, .undef, .undef, .undef, .undef, .undef, .undef, .undef, .undef, .undef, .undef, .undef, .undef, .undef, .undef, .undef, .undef, .undef, .undef, .undef, .undef, .undef, .undef, .undef, .undef, .undef, .undef, .undef, .undef, .undef, .undef, .undef, .undef, .undef, .undef, .undef, .undef, .undef, .undef, .undef, .undef, .undef, .undef, .undef, .undef, .undef, .undef, .undef, .undef, .undef, .undef, .undef, .int .i64 k, .undef, .undef, .undef, .undef, .undef, .undef, .undef, .undef, .undef, .undef, .undef, .undef, .undef, .undef, .undef, .undef, .undef, .undef, .undef, .undef, .undef, .undef, .undef, .undef, .undef, .undef, .undef, .undef, .undef, .undef, .undef, .undef, .undef, .undef, .undef, .undef, .undef, .undef, .undef, .undef, .undef, .undef, .undef, .undef, .undef, .undef, .undef, .undef]) (fun k => [some (.own [.ptr q 0]), some (.own [.gsl (ph.n + 5) 4 (nk + j) (bytesPV W)]), some (.own (bytesPV key)), some (.own [.sl (ph.n + 2) 0 1 key.length none]), some (.own [.int .i64 4]), some (.grow 4 (nk + j) 138), some (.own (bytesPV (midB Z U k)))]) (fun k => k ≤ 4) (fun k => 4 - k) 0 (by simp) (fun _ _ => by simp) (.eq (by simp [FadeTo]) (by rw [midB_0, hU]; rfl)) ?_
        intro k hk K2 hK2
        have j1 : ((nk + j : Nat) : Int) - (nk : Int) = (j : Int) := by omega
        rcases Nat.lt_or_ge k 4 with hlt4 | hge4
        · have hk' : (k : Int) < 4 := by omega
          obtain ⟨u, hu⟩ := get_someW (show k < U.length by omega)
          obtain ⟨p, hp⟩ := get_someW (show k < P.length by omega)
          have hz : Z[k]? = some (u ^^^ p) := by rw [hZ, xorB, List.getElem?_zipWith, hu, hp]
          have hmk := midB_at (m := Z) (l := U) (by omega) (i := k) (by omega)
          rw [hu] at hmk
          have hms := midB_set (m := Z) (l := U) (by omega) hz
          have hml := midB_len (m := Z) (l := U) (by omega) k
          have j2 : (j : Int) < ((nk + j : Nat) : Int) := by omega
          have j3 : W[j * 4 + k]? = some p := by
            rw [hP, List.getElem?_take, if_pos hlt4, List.getElem?_drop] at hp
            rw [Nat.mul_comm]; exact hp
          have j4 : (List.drop (j * 4 + k) (bytesPV W))[0]? = some (.int .u8 (p.toNat : Int)) := by rw [List.getElem?_drop, Nat.add_zero, bytesPV_get, j3]; rfl
          have j5 : (List.drop k (List.drop (j * 4) (bytesPV W)))[0]? = some (.int .u8 (p.toNat : Int)) := by rw [List.drop_drop]; exact j4
          repeat' first
          | simp -implicitDefEqProofs (maxSteps := 400000) (disch := first | with_reducible rfl | omega | (simp only [h_n, PH.n_push, PH.n_put, List.length_cons, List.length_nil] <;> omega) | decide) only [wkAll, wkL, popO, wantedP, if_true, if_false, reduceIte, ne_eq, Nat.reduceAdd, Nat.reduceSub, Nat.reduceMul, Nat.reduceLeDiff, Nat.reduceLT, ofCells, ofCell, reduceCtorEq, Int.reduceLE, Int.reduceLT, Int.reduceToNat, Int.reduceAdd, Int.reduceSub, Int.reduceMul, Int.reduceNeg, Int.reduceBEq, Int.reduceBNe, Int.reduceEq, eqCell, eqCells, binP, unP, convP, lenP, builtinP, sliceDataP, unsafeStringP, appendT, appendS, appendP, copyP, srcP, mmsP, mmP, indexOp, indexAddrOp, sliceOp, bndsP, bndP, capw, capCut, loadOp, storeOp, loadP, fieldOp, fieldAddrOp, arrayAtOp, buildP, buildSliceP, makeSliceP, placeF, fillP, setL, PK.agg, isZero, gt_iff_lt, Nat.reducePow, Nat.reduceGT, reps, seg, wkN, if_pos, if_neg, tf3, Tryz.ze3, tf5, Tryz.ze5, tf9, Tryz.ze9, tf21, Tryz.ze21, tf30, Tryz.ze30, tf82, Tryz.ze82, tf86, Tryz.ze86, tf116, Tryz.ze116, tf118, Tryz.ze118, tf120, Tryz.ze120, tf122, Tryz.ze122, tf124, Tryz.ze124, tf125, Tryz.ze125, tf126, Tryz.ze126, tf127, Tryz.ze127, tf129, Tryz.ze129, tf138, Tryz.ze138, tf151, Tryz.ze151, tf166, Tryz.ze166, pl102_5Ae7, pl102_12Ae7, pl102_15Ae7, pl102_19Ae7, pl102_24Ae7, hk', j1, j2, j4, j5, hWl, hUl, hml, hmk, xor_u8, bytesPV_set, hms]
          | refine w_drawnF (id := 5) tb102_5Ae7 pl102_5Ae7 29 (by kernel_rfl) (by kernel_rfl) (by simp) ?_
          | refine w_drawnF (id := 12) tb102_12Ae7 pl102_12Ae7 77 (by kernel_rfl) (by kernel_rfl) (by simp) ?_
          | refine w_drawnF (id := 15) tb102_15Ae7 pl102_15Ae7 115 (by kernel_rfl) (by kernel_rfl) (by simp) ?_
          | refine w_drawnF (id := 19) tb102_19Ae7 pl102_19Ae7 131 (by kernel_rfl) (by kernel_rfl) (by simp) ?_
          | refine w_drawnF (id := 24) tb102_24Ae7 pl102_24Ae7 164 (by kernel_rfl) (by kernel_rfl) (by simp) ?_
          refine hK2 (k + 1) _ _ (by omega) (by omega) (.eq (by simp [FadeTo]) rfl)
        · have hk' : ¬ (k : Int) < 4 := by omega
          have hz4 : midB Z U k = Z := midB_all (by omega) (by omega)
          rw [hz4]
          have z1 : (bytesPV Z).take 4 = bytesPV Z := List.take_of_length_le (by rw [bytesPV_len]; omega)
          have z2 : ∀ c : List PV, c.length = 4 → setL c 0 (bytesPV Z) = bytesPV Z := fun c hc => setL_all _ _ (by rw [hc, bytesPV_len, hZl])
          have z3 : ((nk + j : Nat) : Int) + 1 = ((nk + (j + 1) : Nat) : Int) := by omega
          repeat' first
          | simp -implicitDefEqProofs (maxSteps := 400000) (disch := first | with_reducible rfl | omega | (simp only [h_n, PH.n_push, PH.n_put, List.length_cons, List.length_nil] <;> omega) | decide) only [wkAll, wkL, popO, wantedP, if_true, if_false, reduceIte, ne_eq, Nat.reduceAdd, Nat.reduceSub, Nat.reduceMul, Nat.reduceLeDiff, Nat.reduceLT, ofCells, ofCell, reduceCtorEq, Int.reduceLE, Int.reduceLT, Int.reduceToNat, Int.reduceAdd, Int.reduceSub, Int.reduceMul, Int.reduceNeg, Int.reduceBEq, Int.reduceBNe, Int.reduceEq, eqCell, eqCells, binP, unP, convP, lenP, builtinP, sliceDataP, unsafeStringP, appendT, appendS, appendP, copyP, srcP, mmsP, mmP, indexOp, indexAddrOp, sliceOp, bndsP, bndP, capw, capCut, loadOp, storeOp, loadP, fieldOp, fieldAddrOp, arrayAtOp, buildP, buildSliceP, makeSliceP, placeF, fillP, setL, PK.agg, isZero, gt_iff_lt, Nat.reducePow, Nat.reduceGT, reps, seg, wkN, if_pos, if_neg, tf3, Tryz.ze3, tf5, Tryz.ze5, tf9, Tryz.ze9, tf21, Tryz.ze21, tf30, Tryz.ze30, tf82, Tryz.ze82, tf86, Tryz.ze86, tf116, Tryz.ze116, tf118, Tryz.ze118, tf120, Tryz.ze120, tf122, Tryz.ze122, tf124, Tryz.ze124, tf125, Tryz.ze125, tf126, Tryz.ze126, tf127, Tryz.ze127, tf129, Tryz.ze129, tf138, Tryz.ze138, tf151, Tryz.ze151, tf166, Tryz.ze166, pl102_5Ae7, pl102_12Ae7, pl102_15Ae7, pl102_19Ae7, pl102_24Ae7, hk', app_g, z1, z2, z3, hZl, bytesPV_cok]
          | refine w_drawnF (id := 5) tb102_5Ae7 pl102_5Ae7 29 (by kernel_rfl) (by kernel_rfl) (by simp) ?_
          | refine w_drawnF (id := 12) tb102_12Ae7 pl102_12Ae7 77 (by kernel_rfl) (by kernel_rfl) (by simp) ?_
          | refine w_drawnF (id := 15) tb102_15Ae7 pl102_15Ae7 115 (by kernel_rfl) (by kernel_rfl) (by simp) ?_
          | refine w_drawnF (id := 19) tb102_19Ae7 pl102_19Ae7 131 (by kernel_rfl) (by kernel_rfl) (by simp) ?_
          | refine w_drawnF (id := 24) tb102_24Ae7 pl102_24Ae7 164 (by kernel_rfl) (by kernel_rfl) (by simp) ?_
          have hq6 : q < ph.n + 6 := by omega
          refine hK1 _ _ (.cut [_, _] hW (by simp [FadeTo]) (by first | rfl | (simp [bytesPV_append]; rfl) | simp [bytesPV_append]) (by simp [scs_cons, scs_nil, sc_ptr, sc_fsl, sc_gsl, sc_sl, sc_agg, sc_func, sc_int, sc_bool, sc_str, sc_undef, sc_nilptr, sc_nilsl, sc_yield, sc_tuple, sc_fptr, scs_bytes, scs_append, scs_bytes, hq6]) (by simp [scs_cons, scs_nil, sc_ptr, sc_fsl, sc_gsl, sc_sl, sc_agg, sc_func, sc_int, sc_bool, sc_str, sc_undef, sc_nilptr, sc_nilsl, sc_yield, sc_tuple, sc_fptr, scs_bytes, scs_append, scs_bytes, hq6]) (h3 := .inr (obsc1 hW (by omega))))
    · have : j = 3 * nk + 28 := by omega
      subst this
      have hn4 : nk + (3 * nk + 28) = 4 * nk + 28 := by omega
      have hge' : ¬ ((4 * nk + 28 : Nat) : Int) < ((4 * nk + 28 : Nat) : Int) := by omega
      have hWw : (kI key nk (3 * nk + 28)).1 = wordsL key := by rw [words_eq, ← hnk]
      generalize (kI key nk (3 * nk + 28)).2 = cc
      rw [hWw] at hWl ⊢
      rw [hn4] at hWl ⊢
      obtain ⟨W, hWd⟩ : ∃ W, W = wordsL key := ⟨_, rfl⟩
      rw [← hWd] at hWl hsc hQ ⊢
      clear hK hWw hge hj
      repeat' first
      | simp -implicitDefEqProofs (maxSteps := 400000) (disch := first | with_reducible rfl | omega | (simp only [h_n, PH.n_push, PH.n_put, List.length_cons, List.length_nil] <;> omega) | decide) only [wkAll, wkL, popO, wantedP, if_true, if_false, reduceIte, ne_eq, Nat.reduceAdd, Nat.reduceSub, Nat.reduceMul, Nat.reduceLeDiff, Nat.reduceLT, ofCells, ofCell, reduceCtorEq, Int.reduceLE, Int.reduceLT, Int.reduceToNat, Int.reduceAdd, Int.reduceSub, Int.reduceMul, Int.reduceNeg, Int.reduceBEq, Int.reduceBNe, Int.reduceEq, eqCell, eqCells, binP, unP, convP, lenP, builtinP, sliceDataP, unsafeStringP, appendT, appendS, appendP, copyP, srcP, mmsP, mmP, indexOp, indexAddrOp, sliceOp, bndsP, bndP, capw, capCut, loadOp, storeOp, loadP, fieldOp, fieldAddrOp, arrayAtOp, buildP, buildSliceP, makeSliceP, placeF, fillP, setL, PK.agg, isZero, gt_iff_lt, Nat.reducePow, Nat.reduceGT, reps, seg, wkN, if_pos, if_neg, tf3, Tryz.ze3, tf5, Tryz.ze5, tf9, Tryz.ze9, tf21, Tryz.ze21, tf30, Tryz.ze30, tf82, Tryz.ze82, tf86, Tryz.ze86, tf116, Tryz.ze116, tf118, Tryz.ze118, tf120, Tryz.ze120, tf122, Tryz.ze122, tf124, Tryz.ze124, tf125, Tryz.ze125, tf126, Tryz.ze126, tf127, Tryz.ze127, tf129, Tryz.ze129, tf138, Tryz.ze138, tf151, Tryz.ze151, tf166, Tryz.ze166, pl102_5Ae7, pl102_12Ae7, pl102_15Ae7, pl102_19Ae7, pl102_24Ae7, e28, hge']
      | refine w_drawnF (id := 5) tb102_5Ae7 pl102_5Ae7 29 (by kernel_rfl) (by kernel_rfl) (by simp) ?_
      | refine w_drawnF (id := 12) tb102_12Ae7 pl102_12Ae7 77 (by kernel_rfl) (by kernel_rfl) (by simp) ?_
      | refine w_drawnF (id := 15) tb102_15Ae7 pl102_15Ae7 115 (by kernel_rfl) (by kernel_rfl) (by simp) ?_
      | refine w_drawnF (id := 19) tb102_19Ae7 pl102_19Ae7 131 (by kernel_rfl) (by kernel_rfl) (by simp) ?_
      | refine w_drawnF (id := 24) tb102_24Ae7 pl102_24Ae7 164 (by kernel_rfl) (by kernel_rfl) (by simp) ?_
      refine w_inl ([Go.ResultVar.tmp 4]) Tryz.func111 rfl rfl (by decide) fun _ hI => ?_
      simp only [start, List.length_cons, List.length_nil, List.cons_append, List.nil_append, Nat.reduceAdd, Nat.reduceSub, List.replicate_succ, List.replicate_zero, Tryz.ntmps111]
      repeat' first
      | simp -implicitDefEqProofs (maxSteps := 400000) (disch := first | with_reducible rfl | omega | (simp only [h_n, PH.n_push, PH.n_put, List.length_cons, List.length_nil] <;> omega) | decide) only [wkAll, wkL, popO, wantedP, if_true, if_false, reduceIte, ne_eq, Nat.reduceAdd, Nat.reduceSub, Nat.reduceMul, Nat.reduceLeDiff, Nat.reduceLT, ofCells, ofCell, reduceCtorEq, Int.reduceLE, Int.reduceLT, Int.reduceToNat, Int.reduceAdd, Int.reduceSub, Int.reduceMul, Int.reduceNeg, Int.reduceBEq, Int.reduceBNe, Int.reduceEq, eqCell, eqCells, binP, unP, convP, lenP, builtinP, sliceDataP, unsafeStringP, appendT, appendS, appendP, copyP, srcP, mmsP, mmP, indexOp, indexAddrOp, sliceOp, bndsP, bndP, capw, capCut, loadOp, storeOp, loadP, fieldOp, fieldAddrOp, arrayAtOp, buildP, buildSliceP, makeSliceP, placeF, fillP, setL, PK.agg, isZero, gt_iff_lt, Nat.reducePow, Nat.reduceGT, reps, seg, wkN, if_pos, if_neg, tf3, Tryz.ze3, tf5, Tryz.ze5, tf138, Tryz.ze138, tf151, Tryz.ze151]
      refine hI (by first | exact .inr rfl | exact .inl rfl) trivial (by first | (simp -implicitDefEqProofs (maxSteps := 400000) (disch := first | with_reducible rfl | omega | (simp only [h_n, PH.n_push, PH.n_put, List.length_cons, List.length_nil] <;> omega) | decide) only [wkAll, wkL, popO, wantedP, if_true, if_false, reduceIte, ne_eq, Nat.reduceAdd, Nat.reduceSub, Nat.reduceMul, Nat.reduceLeDiff, Nat.reduceLT, ofCells, ofCell, reduceCtorEq, Int.reduceLE, Int.reduceLT, Int.reduceToNat, Int.reduceAdd, Int.reduceSub, Int.reduceMul, Int.reduceNeg, Int.reduceBEq, Int.reduceBNe, Int.reduceEq, eqCell, eqCells, binP, unP, convP, lenP, builtinP, sliceDataP, unsafeStringP, appendT, appendS, appendP, copyP, srcP, mmsP, mmP, indexOp, indexAddrOp, sliceOp, bndsP, bndP, capw, capCut, loadOp, storeOp, loadP, fieldOp, fieldAddrOp, arrayAtOp, buildP, buildSliceP, makeSliceP, placeF, fillP, setL, PK.agg, isZero, gt_iff_lt, Nat.reducePow, Nat.reduceGT, reps, seg, wkN, if_pos, if_neg, tf3, Tryz.ze3, tf5, Tryz.ze5, tf138, Tryz.ze138, tf151, Tryz.ze151, resP, resPs, resP1]; rfl) | rfl) ?_
      repeat' first
      | simp -implicitDefEqProofs (maxSteps := 400000) (disch := first | with_reducible rfl | omega | (simp only [h_n, PH.n_push, PH.n_put, List.length_cons, List.length_nil] <;> omega) | decide) only [wkAll, wkL, popO, wantedP, if_true, if_false, reduceIte, ne_eq, Nat.reduceAdd, Nat.reduceSub, Nat.reduceMul, Nat.reduceLeDiff, Nat.reduceLT, ofCells, ofCell, reduceCtorEq, Int.reduceLE, Int.reduceLT, Int.reduceToNat, Int.reduceAdd, Int.reduceSub, Int.reduceMul, Int.reduceNeg, Int.reduceBEq, Int.reduceBNe, Int.reduceEq, eqCell, eqCells, binP, unP, convP, lenP, builtinP, sliceDataP, unsafeStringP, appendT, appendS, appendP, copyP, srcP, mmsP, mmP, indexOp, indexAddrOp, sliceOp, bndsP, bndP, capw, capCut, loadOp, storeOp, loadP, fieldOp, fieldAddrOp, arrayAtOp, buildP, buildSliceP, makeSliceP, placeF, fillP, setL, PK.agg, isZero, gt_iff_lt, Nat.reducePow, Nat.reduceGT, reps, seg, wkN, if_pos, if_neg, tf3, Tryz.ze3, tf5, Tryz.ze5, tf9, Tryz.ze9, tf21, Tryz.ze21, tf30, Tryz.ze30, tf82, Tryz.ze82, tf86, Tryz.ze86, tf116, Tryz.ze116, tf118, Tryz.ze118, tf120, Tryz.ze120, tf122, Tryz.ze122, tf124, Tryz.ze124, tf125, Tryz.ze125, tf126, Tryz.ze126, tf127, Tryz.ze127, tf129, Tryz.ze129, tf138, Tryz.ze138, tf151, Tryz.ze151, tf166, Tryz.ze166, pl102_5Ae7, pl102_12Ae7, pl102_15Ae7, pl102_19Ae7, pl102_24Ae7]
      | refine w_drawnF (id := 5) tb102_5Ae7 pl102_5Ae7 29 (by kernel_rfl) (by kernel_rfl) (by simp) ?_
      | refine w_drawnF (id := 12) tb102_12Ae7 pl102_12Ae7 77 (by kernel_rfl) (by kernel_rfl) (by simp) ?_
      | refine w_drawnF (id := 15) tb102_15Ae7 pl102_15Ae7 115 (by kernel_rfl) (by kernel_rfl) (by simp) ?_
      | refine w_drawnF (id := 19) tb102_19Ae7 pl102_19Ae7 131 (by kernel_rfl) (by kernel_rfl) (by simp) ?_
      | refine w_drawnF (id := 24) tb102_24Ae7 pl102_24Ae7 164 (by kernel_rfl) (by kernel_rfl) (by simp) ?_
      obtain ⟨C', hC'⟩ : ∃ C', C' = cC key d s tabL (.gsl (ph.n + 8) 16 0 []) := ⟨_, rfl⟩
      refine w_weakR (ph' := H (ph.put q C') ([some (.own [.ptr q 0]), some (.own [.gsl (ph.n + 5) 4 (4 * nk + 28) (bytesPV W)]), some (.own (bytesPV key)), some (.own [.sl (ph.n + 2) 0 1 key.length none]), some (.own [.int .i64 4]), some (.grow 4 (4 * nk + 28) 138), some (.own [.gsl (ph.n + 5) 4 (4 * nk + 28) (bytesPV W)]), some (.own [.int .i64 4])] ++ [some (.grow 16 0 86)]) (upF ph.ob r (some .defd)) ph.ty) (by rw [← hput_pushG hq]; exact Weak.growP (C := C) (by rw [h_getlt hq]; exact h) (by rw [hC, hC', h_n]; exact nil_cC _ _ _ _) (by rw [h_n]; omega)) ?_
      generalize r = ra at *
      have hra : ph.ob ra = none := hr'
      clear hl' hr' hne hl hr
      refine w_range ([]) rfl Tryz.func120 rfl rfl (by decide) ?_
      intro r l fnid hr hl hne Q' hQ'
      simp only [start, List.length_cons, List.length_nil, List.cons_append, List.nil_append, Nat.reduceAdd, Nat.reduceSub, List.replicate_succ, List.replicate_zero, Tryz.ntmps120]
      have hl' : upF ph.ob ra (some .defd) l = none := hl
      have hr' : upF ph.ob ra (some .defd) r = none := hr
      have hbn : (ph.put q C').n = ph.n := PH.n_put ..
      repeat' first
      | simp -implicitDefEqProofs (maxSteps := 400000) (disch := first | with_reducible rfl | omega | (simp only [h_n, PH.n_push, PH.n_put, List.length_cons, List.length_nil] <;> omega) | decide) only [wkAll, wkL, popO, wantedP, if_true, if_false, reduceIte, ne_eq, Nat.reduceAdd, Nat.reduceSub, Nat.reduceMul, Nat.reduceLeDiff, Nat.reduceLT, ofCells, ofCell, reduceCtorEq, Int.reduceLE, Int.reduceLT, Int.reduceToNat, Int.reduceAdd, Int.reduceSub, Int.reduceMul, Int.reduceNeg, Int.reduceBEq, Int.reduceBNe, Int.reduceEq, eqCell, eqCells, binP, unP, convP, lenP, builtinP, sliceDataP, unsafeStringP, appendT, appendS, appendP, copyP, srcP, mmsP, mmP, indexOp, indexAddrOp, sliceOp, bndsP, bndP, capw, capCut, loadOp, storeOp, loadP, fieldOp, fieldAddrOp, arrayAtOp, buildP, buildSliceP, makeSliceP, placeF, fillP, setL, PK.agg, isZero, gt_iff_lt, Nat.reducePow, Nat.reduceGT, reps, seg, wkN, if_pos, if_neg, tf3, Tryz.ze3, tf4, Tryz.ze4, tf5, Tryz.ze5, tf138, Tryz.ze138, tf151, Tryz.ze151, pl120_3Ae7]
      | refine w_drawnF (id := 3) tb120_3Ae7 pl120_3Ae7 19 (by kernel_rfl) (by kernel_rfl) (by simp) ?_
      obtain ⟨rV, hrV⟩ : ∃ rV : Nat → PV, rV = fun i => if i < nk + 7 then .gsl (ph.n + 8) 16 i (bytesPV (W.take (16 * i))) else .fsl 16 (nk + 7) (bytesPV W) := ⟨_, rfl⟩
      have hr0 : C' = cC key d s tabL (rV 0) := by rw [hC', hrV]; simp only [if_pos (show 0 < nk + 7 by omega)]; rfl
      refine w_loopW (α := Nat) ph.n _ ph.ty (fun i => ph.put q (cC key d s tabL (rV i))) (fun i => [.yield l, .ptr (ph.n + 6) 0, .ptr (ph.n + 7) 0, .undef, .int .i64 ((4 * i : Nat) : Int), .undef, .undef, .undef, .undef, .undef, .undef, .undef, .undef, .undef, .undef, .undef, .undef, .undef, .undef, .undef, .undef, .undef, .undef, .undef, .undef, .undef, .undef, .undef, .undef, .undef, .undef]) (fun i => [some (.own [.ptr q 0]), some (.own [.gsl (ph.n + 5) 4 (4 * nk + 28) (bytesPV W)]), some (.own (bytesPV key)), some (.own [.sl (ph.n + 2) 0 1 key.length none]), some (.own [.int .i64 4]), some (.grow 4 (4 * nk + 28) 138), some (.own [.gsl (ph.n + 5) 4 (4 * nk + 28) (bytesPV W)]), some (.own [.int .i64 4]), some (.grow 16 i 86)]) (fun i => i ≤ nk + 7) (fun i => nk + 7 - i) 0 (by simp) (fun _ _ => PH.n_put ..) (HTo.weak (.eq (by simp [FadeTo]) (by rw [← hr0])) (by rw [hbn, PH.n_put]; exact Nat.le_refl _)) ?_
      intro i hi B hB hn K hK
      have hqB : q < B.n := by rw [hn]; exact hq
      rcases Nat.lt_or_ge i (nk + 7) with hlt | hge
      · have hrVi : rV i = .gsl (B.n + 8) 16 i (bytesPV (W.take (16 * i))) := by rw [hrV, hn]; simp only [if_pos hlt]
        have e2 : B.get q = some (cC key d s tabL (.gsl (B.n + 8) 16 i (bytesPV (W.take (16 * i))))) := by rw [← hrVi, hB]; exact get_putS _ hq
        have hlt' : ((4 * i : Nat) : Int) < ((4 * nk + 28 : Nat) : Int) := by omega
        have g1 : ((4 * i : Nat) : Int) + 4 = ((4 * i + 4 : Nat) : Int) := by omega
        have g3 : (if ((4 * nk + 28 - 4 * i : Nat) : Int) < 4 then ((4 * nk + 28 - 4 * i : Nat) : Int) else 4) = 4 := by split <;> omega
        have g7 : ((4 * i : Nat) : Int) + 4 = ((4 * (i + 1) : Nat) : Int) := by omega
        obtain ⟨x0, x1, x2, x3, x4, x5, x6, x7, x8, x9, x10, x11, x12, x13, x14, x15, hX⟩ := sixteen (b := (W.drop (16 * i)).take 16) (by rw [List.length_take, List.length_drop]; omega)
        have g8 : W.take (16 * (i + 1)) = W.take (16 * i) ++ [x0, x1, x2, x3, x4, x5, x6, x7, x8, x9, x10, x11, x12, x13, x14, x15] := by rw [Nat.mul_succ, List.take_add, hX]
        have sl1 : ∀ p : PH, sliceOp Tryz.prog 151 (.fsl 4 (4 * nk + 28) (bytesPV W)) (some (.int .i64 ((4 * i : Nat) : Int))) none none p = some (.fsl 4 (4 * nk + 28 - 4 * i) (seg (bytesPV W) (4 * i * 4) ((4 * nk + 28 - 4 * i) * 4))) := fun p => slice1 Tryz.underlying151 Tryz.sz138 (by omega)
        have sl3 : ∀ p : PH, sliceOp Tryz.prog 151 (.fsl 4 (4 * nk + 28) (bytesPV W)) (some (.int .i64 ((4 * i : Nat) : Int))) (some (.int .i64 ((4 * i + 4 : Nat) : Int))) (some (.int .i64 ((4 * i + 4 : Nat) : Int))) p = some (.fsl 4 4 [.int .u8 (x0.toNat : Int), .int .u8 (x1.toNat : Int), .int .u8 (x2.toNat : Int), .int .u8 (x3.toNat : Int), .int .u8 (x4.toNat : Int), .int .u8 (x5.toNat : Int), .int .u8 (x6.toNat : Int), .int .u8 (x7.toNat : Int), .int .u8 (x8.toNat : Int), .int .u8 (x9.toNat : Int), .int .u8 (x10.toNat : Int), .int .u8 (x11.toNat : Int), .int .u8 (x12.toNat : Int), .int .u8 (x13.toNat : Int), .int .u8 (x14.toNat : Int), .int .u8 (x15.toNat : Int)]) := fun p => by
          rw [slice3 Tryz.underlying151 Tryz.sz138 (by omega) (by omega) (by omega), seg_bytes, show 4 * i * 4 = 16 * i by omega, show 4 * i + 4 - 4 * i = 4 by omega, hX]; rfl
        have sla : ∀ (c : List PV) (p : PH), 4 ≤ c.length → sliceOp Tryz.prog 138 (.fptr c) none none none p = some (.fsl 1 4 (c.take 4)) := fun c p hc => slice_farr Tryz.underlying138 Tryz.sz5 (by omega)
        rw [hbn]
        rw [← hn]
        repeat' first
        | simp -implicitDefEqProofs (maxSteps := 400000) (disch := first | with_reducible rfl | omega | (simp only [h_n, PH.n_push, PH.n_put, List.length_cons, List.length_nil] <;> omega) | decide) only [wkAll, wkL, popO, wantedP, if_true, if_false, reduceIte, ne_eq, Nat.reduceAdd, Nat.reduceSub, Nat.reduceMul, Nat.reduceLeDiff, Nat.reduceLT, ofCells, ofCell, reduceCtorEq, Int.reduceLE, Int.reduceLT, Int.reduceToNat, Int.reduceAdd, Int.reduceSub, Int.reduceMul, Int.reduceNeg, Int.reduceBEq, Int.reduceBNe, Int.reduceEq, eqCell, eqCells, binP, unP, convP, lenP, builtinP, sliceDataP, unsafeStringP, appendT, appendS, appendP, copyP, srcP, mmsP, mmP, indexOp, indexAddrOp, sliceOp, bndsP, bndP, capw, capCut, loadOp, storeOp, loadP, fieldOp, fieldAddrOp, arrayAtOp, buildP, buildSliceP, makeSliceP, placeF, fillP, setL, PK.agg, isZero, gt_iff_lt, Nat.reducePow, Nat.reduceGT, reps, seg, wkN, if_pos, if_neg, tf3, Tryz.ze3, tf4, Tryz.ze4, tf5, Tryz.ze5, tf138, Tryz.ze138, tf151, Tryz.ze151, pl120_3Ae7, -sliceOp, hlt', g1, g3, sl1, sl3]
        | refine w_drawnF (id := 3) tb120_3Ae7 pl120_3Ae7 19 (by kernel_rfl) (by kernel_rfl) (by simp) ?_
        refine w_round (by rw [h_ob]; exact up_same) rfl rfl ?_
        simp only [mkLoop, setPs, List.set_cons_zero, List.set_cons_succ, List.toList_toArray]
        repeat' first
        | simp -implicitDefEqProofs (maxSteps := 400000) (disch := first | with_reducible rfl | omega | (simp only [h_n, PH.n_push, PH.n_put, List.length_cons, List.length_nil] <;> omega) | decide) only [wkAll, wkL, popO, wantedP, if_true, if_false, reduceIte, ne_eq, Nat.reduceAdd, Nat.reduceSub, Nat.reduceMul, Nat.reduceLeDiff, Nat.reduceLT, ofCells, ofCell, reduceCtorEq, Int.reduceLE, Int.reduceLT, Int.reduceToNat, Int.reduceAdd, Int.reduceSub, Int.reduceMul, Int.reduceNeg, Int.reduceBEq, Int.reduceBNe, Int.reduceEq, eqCell, eqCells, binP, unP, convP, lenP, builtinP, sliceDataP, unsafeStringP, appendT, appendS, appendP, copyP, srcP, mmsP, mmP, indexOp, indexAddrOp, sliceOp, bndsP, bndP, capw, capCut, loadOp, storeOp, loadP, fieldOp, fieldAddrOp, arrayAtOp, buildP, buildSliceP, makeSliceP, placeF, fillP, setL, PK.agg, isZero, gt_iff_lt, Nat.reducePow, Nat.reduceGT, reps, seg, wkN, if_pos, if_neg, tf3, Tryz.ze3, tf5, Tryz.ze5, tf9, Tryz.ze9, tf21, Tryz.ze21, tf30, Tryz.ze30, tf82, Tryz.ze82, tf86, Tryz.ze86, tf116, Tryz.ze116, tf118, Tryz.ze118, tf120, Tryz.ze120, tf122, Tryz.ze122, tf124, Tryz.ze124, tf125, Tryz.ze125, tf126, Tryz.ze126, tf127, Tryz.ze127, tf129, Tryz.ze129, tf138, Tryz.ze138, tf151, Tryz.ze151, tf166, Tryz.ze166, pl102_5Ae7, pl102_12Ae7, pl102_15Ae7, pl102_19Ae7, pl102_24Ae7]
        | refine w_drawnF (id := 5) tb102_5Ae7 pl102_5Ae7 29 (by kernel_rfl) (by kernel_rfl) (by simp) ?_
        | refine w_drawnF (id := 12) tb102_12Ae7 pl102_12Ae7 77 (by kernel_rfl) (by kernel_rfl) (by simp) ?_
        | refine w_drawnF (id := 15) tb102_15Ae7 pl102_15Ae7 115 (by kernel_rfl) (by kernel_rfl) (by simp) ?_
        | refine w_drawnF (id := 19) tb102_19Ae7 pl102_19Ae7 131 (by kernel_rfl) (by kernel_rfl) (by simp) ?_
        | refine w_drawnF (id := 24) tb102_24Ae7 pl102_24Ae7 164 (by kernel_rfl) (by kernel_rfl) (by simp) ?_
        first | refine ⟨_, rfl, rfl, ?_⟩ | refine ⟨_, by rw [h_ob]; exact up_same, rfl, ?_⟩
        have cc8 : Fn (Cx w0) 112 [.fsl 1 4 [.fsl 1 4 [.int .u8 (x0.toNat : Int), .int .u8 (x1.toNat : Int), .int .u8 (x2.toNat : Int), .int .u8 (x3.toNat : Int)], .fsl 1 4 [.int .u8 (x4.toNat : Int), .int .u8 (x5.toNat : Int), .int .u8 (x6.toNat : Int), .int .u8 (x7.toNat : Int)], .fsl 1 4 [.int .u8 (x8.toNat : Int), .int .u8 (x9.toNat : Int), .int .u8 (x10.toNat : Int), .int .u8 (x11.toNat : Int)], .fsl 1 4 [.int .u8 (x12.toNat : Int), .int .u8 (x13.toNat : Int), .int .u8 (x14.toNat : Int), .int .u8 (x15.toNat : Int)]]] (.fsl 1 16 [.int .u8 (x0.toNat : Int), .int .u8 (x1.toNat : Int), .int .u8 (x2.toNat : Int), .int .u8 (x3.toNat : Int), .int .u8 (x4.toNat : Int), .int .u8 (x5.toNat : Int), .int .u8 (x6.toNat : Int), .int .u8 (x7.toNat : Int), .int .u8 (x8.toNat : Int), .int .u8 (x9.toNat : Int), .int .u8 (x10.toNat : Int), .int .u8 (x11.toNat : Int), .int .u8 (x12.toNat : Int), .int .u8 (x13.toNat : Int), .int .u8 (x14.toNat : Int), .int .u8 (x15.toNat : Int)]) := concat8_ok [[x0, x1, x2, x3], [x4, x5, x6, x7], [x8, x9, x10, x11], [x12, x13, x14, x15]] (by simp) (by simp) (by simp)
        have cg : ∀ v : PV, (cC key d s tabL v)[4612]? = some v := fun v => cC_r tabL_len
        have cst : ∀ v v' : PV, (cC key d s tabL v).set 4612 v' = cC key d s tabL v' := fun v v' => cC_setr tabL_len
        have cln : ∀ v : PV, (cC key d s tabL v).length = 4613 := fun v => by rw [cC_len, tabL_len]
        repeat' first
        | simp -implicitDefEqProofs (maxSteps := 400000) (disch := first | with_reducible rfl | omega | (simp only [h_n, PH.n_push, PH.n_put, List.length_cons, List.length_nil] <;> omega) | decide) only [wkAll, wkL, popO, wantedP, if_true, if_false, reduceIte, ne_eq, Nat.reduceAdd, Nat.reduceSub, Nat.reduceMul, Nat.reduceLeDiff, Nat.reduceLT, ofCells, ofCell, reduceCtorEq, Int.reduceLE, Int.reduceLT, Int.reduceToNat, Int.reduceAdd, Int.reduceSub, Int.reduceMul, Int.reduceNeg, Int.reduceBEq, Int.reduceBNe, Int.reduceEq, eqCell, eqCells, binP, unP, convP, lenP, builtinP, sliceDataP, unsafeStringP, appendT, appendS, appendP, copyP, srcP, mmsP, mmP, indexOp, indexAddrOp, sliceOp, bndsP, bndP, capw, capCut, loadOp, storeOp, loadP, fieldOp, fieldAddrOp, arrayAtOp, buildP, buildSliceP, makeSliceP, placeF, fillP, setL, PK.agg, isZero, gt_iff_lt, Nat.reducePow, Nat.reduceGT, reps, seg, wkN, if_pos, if_neg, tf3, Tryz.ze3, tf5, Tryz.ze5, tf9, Tryz.ze9, tf21, Tryz.ze21, tf30, Tryz.ze30, tf82, Tryz.ze82, tf86, Tryz.ze86, tf116, Tryz.ze116, tf118, Tryz.ze118, tf120, Tryz.ze120, tf122, Tryz.ze122, tf124, Tryz.ze124, tf125, Tryz.ze125, tf126, Tryz.ze126, tf127, Tryz.ze127, tf129, Tryz.ze129, tf138, Tryz.ze138, tf151, Tryz.ze151, tf166, Tryz.ze166, pl102_5Ae7, pl102_12Ae7, pl102_15Ae7, pl102_19Ae7, pl102_24Ae7, -sliceOp, app_g, sla, h_getlt hqB, h_putlt hqB, e2, cg, cst, cln ]
        | refine w_drawnF (id := 5) tb102_5Ae7 pl102_5Ae7 29 (by kernel_rfl) (by kernel_rfl) (by simp) ?_
        | refine w_drawnF (id := 12) tb102_12Ae7 pl102_12Ae7 77 (by kernel_rfl) (by kernel_rfl) (by simp) ?_
        | refine w_drawnF (id := 15) tb102_15Ae7 pl102_15Ae7 115 (by kernel_rfl) (by kernel_rfl) (by simp) ?_
        | refine w_drawnF (id := 19) tb102_19Ae7 pl102_19Ae7 131 (by kernel_rfl) (by kernel_rfl) (by simp) ?_
        | refine w_drawnF (id := 24) tb102_24Ae7 pl102_24Ae7 164 (by kernel_rfl) (by kernel_rfl) (by simp) ?_
        refine w_frz (p := B.n + 9) (cells := [.fsl 1 4 [.int .u8 (x0.toNat : Int), .int .u8 (x1.toNat : Int), .int .u8 (x2.toNat : Int), .int .u8 (x3.toNat : Int)], .fsl 1 4 [.int .u8 (x4.toNat : Int), .int .u8 (x5.toNat : Int), .int .u8 (x6.toNat : Int), .int .u8 (x7.toNat : Int)], .fsl 1 4 [.int .u8 (x8.toNat : Int), .int .u8 (x9.toNat : Int), .int .u8 (x10.toNat : Int), .int .u8 (x11.toNat : Int)], .fsl 1 4 [.int .u8 (x12.toNat : Int), .int .u8 (x13.toNat : Int), .int .u8 (x14.toNat : Int), .int .u8 (x15.toNat : Int)]]) (args' := [.fsl 1 4 [.fsl 1 4 [.int .u8 (x0.toNat : Int), .int .u8 (x1.toNat : Int), .int .u8 (x2.toNat : Int), .int .u8 (x3.toNat : Int)], .fsl 1 4 [.int .u8 (x4.toNat : Int), .int .u8 (x5.toNat : Int), .int .u8 (x6.toNat : Int), .int .u8 (x7.toNat : Int)], .fsl 1 4 [.int .u8 (x8.toNat : Int), .int .u8 (x9.toNat : Int), .int .u8 (x10.toNat : Int), .int .u8 (x11.toNat : Int)], .fsl 1 4 [.int .u8 (x12.toNat : Int), .int .u8 (x13.toNat : Int), .int .u8 (x14.toNat : Int), .int .u8 (x15.toNat : Int)]]]) (by rw [h_get]; rfl) ⟨.inr ⟨0, 1, 4, some 4, rfl, rfl, by simp⟩, trivial⟩ ?_
        repeat' first
        | simp -implicitDefEqProofs (maxSteps := 400000) (disch := first | with_reducible rfl | omega | (simp only [h_n, PH.n_push, PH.n_put, List.length_cons, List.length_nil] <;> omega) | decide) only [wkAll, wkL, popO, wantedP, if_true, if_false, reduceIte, ne_eq, Nat.reduceAdd, Nat.reduceSub, Nat.reduceMul, Nat.reduceLeDiff, Nat.reduceLT, ofCells, ofCell, reduceCtorEq, Int.reduceLE, Int.reduceLT, Int.reduceToNat, Int.reduceAdd, Int.reduceSub, Int.reduceMul, Int.reduceNeg, Int.reduceBEq, Int.reduceBNe, Int.reduceEq, eqCell, eqCells, binP, unP, convP, lenP, builtinP, sliceDataP, unsafeStringP, appendT, appendS, appendP, copyP, srcP, mmsP, mmP, indexOp, indexAddrOp, sliceOp, bndsP, bndP, capw, capCut, loadOp, storeOp, loadP, fieldOp, fieldAddrOp, arrayAtOp, buildP, buildSliceP, makeSliceP, placeF, fillP, setL, PK.agg, isZero, gt_iff_lt, Nat.reducePow, Nat.reduceGT, reps, seg, wkN, if_pos, if_neg, tf3, Tryz.ze3, tf5, Tryz.ze5, tf9, Tryz.ze9, tf21, Tryz.ze21, tf30, Tryz.ze30, tf82, Tryz.ze82, tf86, Tryz.ze86, tf116, Tryz.ze116, tf118, Tryz.ze118, tf120, Tryz.ze120, tf122, Tryz.ze122, tf124, Tryz.ze124, tf125, Tryz.ze125, tf126, Tryz.ze126, tf127, Tryz.ze127, tf129, Tryz.ze129, tf138, Tryz.ze138, tf151, Tryz.ze151, tf166, Tryz.ze166, pl102_5Ae7, pl102_12Ae7, pl102_15Ae7, pl102_19Ae7, pl102_24Ae7, -sliceOp, app_g, sla, h_getlt hqB, h_putlt hqB, e2, cg, cst, cln]
        | refine w_pure (cc8) ?_
        | refine w_drawnF (id := 5) tb102_5Ae7 pl102_5Ae7 29 (by kernel_rfl) (by kernel_rfl) (by simp) ?_
        | refine w_drawnF (id := 12) tb102_12Ae7 pl102_12Ae7 77 (by kernel_rfl) (by kernel_rfl) (by simp) ?_
        | refine w_drawnF (id := 15) tb102_15Ae7 pl102_15Ae7 115 (by kernel_rfl) (by kernel_rfl) (by simp) ?_
        | refine w_drawnF (id := 19) tb102_19Ae7 pl102_19Ae7 131 (by kernel_rfl) (by kernel_rfl) (by simp) ?_
        | refine w_drawnF (id := 24) tb102_24Ae7 pl102_24Ae7 164 (by kernel_rfl) (by kernel_rfl) (by simp) ?_
        refine ⟨_, by rw [h_ob]; exact up_same, ?_⟩
        repeat' first
        | simp -implicitDefEqProofs (maxSteps := 400000) (disch := first | with_reducible rfl | omega | (simp only [h_n, PH.n_push, PH.n_put, List.length_cons, List.length_nil] <;> omega) | decide) only [wkAll, wkL, popO, wantedP, if_true, if_false, reduceIte, ne_eq, Nat.reduceAdd, Nat.reduceSub, Nat.reduceMul, Nat.reduceLeDiff, Nat.reduceLT, ofCells, ofCell, reduceCtorEq, Int.reduceLE, Int.reduceLT, Int.reduceToNat, Int.reduceAdd, Int.reduceSub, Int.reduceMul, Int.reduceNeg, Int.reduceBEq, Int.reduceBNe, Int.reduceEq, eqCell, eqCells, binP, unP, convP, lenP, builtinP, sliceDataP, unsafeStringP, appendT, appendS, appendP, copyP, srcP, mmsP, mmP, indexOp, indexAddrOp, sliceOp, bndsP, bndP, capw, capCut, loadOp, storeOp, loadP, fieldOp, fieldAddrOp, arrayAtOp, buildP, buildSliceP, makeSliceP, placeF, fillP, setL, PK.agg, isZero, gt_iff_lt, Nat.reducePow, Nat.reduceGT, reps, seg, wkN, if_pos, if_neg, tf3, Tryz.ze3, tf4, Tryz.ze4, tf5, Tryz.ze5, tf138, Tryz.ze138, tf151, Tryz.ze151, pl120_3Ae7, g7, wkP]
        | refine w_drawnF (id := 3) tb120_3Ae7 pl120_3Ae7 19 (by kernel_rfl) (by kernel_rfl) (by simp) ?_
        have hq9 : q < ph.n + 9 := by omega
        obtain ⟨C1, hC1⟩ : ∃ C1, C1 = cC key d s tabL (.gsl (ph.n + 8) 16 (i + 1) (bytesPV (W.take (16 * (i + 1))))) := ⟨_, rfl⟩
        have hto := fun (tm : List PV) (ph' : PH) (ob : Nat → Option PObj) => HTo.cutP (b := ph) (q := q) (C := C1) (ob := ob) (tm := tm) (ph' := ph') (st := [.yield l, .ptr (ph.n + 6) 0, .ptr (ph.n + 7) 0, .undef, .int .i64 ((4 * (i + 1) : Nat) : Int), .undef, .undef, .undef, .undef, .undef, .undef, .undef, .undef, .undef, .undef, .undef, .undef, .undef, .undef, .undef, .undef, .undef, .undef, .undef, .undef, .undef, .undef, .undef, .undef, .undef, .undef]) (l := [some (.own [.ptr q 0]), some (.own [.gsl (ph.n + 5) 4 (4 * nk + 28) (bytesPV W)]), some (.own (bytesPV key)), some (.own [.sl (ph.n + 2) 0 1 key.length none]), some (.own [.int .i64 4]), some (.grow 4 (4 * nk + 28) 138), some (.own [.gsl (ph.n + 5) 4 (4 * nk + 28) (bytesPV W)]), some (.own [.int .i64 4]), some (.grow 16 (i + 1) 86)])
          [none, some (.own (bytesPV [x0, x1, x2, x3, x4, x5, x6, x7, x8, x9, x10, x11, x12, x13, x14, x15]))] hW hq (by rw [hC1]; exact cC_scs ⟨by show ph.n + 8 < ph.n + 9; omega, scs_scalars (bytesPV_scalar _)⟩)
        have fin : ∀ (tm : List PV) (ph' : PH) (ob : Nat → Option PObj) (l : List (Option Blk)) (st : List PV), HTo (ph.put q C1) l ob ph.ty st tm ph' → ph.n + 9 ≤ ph.n + l.length → Weak (Cx w0) (ph.n + 9) ph' tm (H (ph.put q (cC key d s tabL (rV (i + 1)))) l ob ph.ty) st := by
          intro tm ph' ob l st hh hle
          have h1 := hh.weak (X := Cx w0) (n0 := ph.n + 9) (by rw [PH.n_put]; exact hle)
          by_cases hlast : i + 1 < nk + 7
          · have : rV (i + 1) = .gsl (ph.n + 8) 16 (i + 1) (bytesPV (W.take (16 * (i + 1)))) := by rw [hrV]; simp only [if_pos hlast]
            rw [this, ← hC1]; exact h1
          · have : rV (i + 1) = .fsl 16 (nk + 7) (bytesPV W) := by rw [hrV]; simp only [if_neg hlast]
            rw [this]
            have hi7 : i + 1 = nk + 7 := by omega
            have ht : W.take (16 * (i + 1)) = W := List.take_of_length_le (by omega)
            rw [ht, hi7] at hC1
            have h2 : Weak (Cx w0) (ph.n + 9) (H (ph.put q C1) l ob ph.ty) st ((H (ph.put q C1) l ob ph.ty).put q (cC key d s tabL (.fsl 16 (nk + 7) (bytesPV W)))) st := Weak.tellP (C := C1) (by rw [h_getlt (by rw [PH.n_put]; exact hq)]; exact get_putS _ hq) (fun G vals hv => by rw [hC1] at hv; exact cC_tell _ _ _ _ _ hv)
            rw [h_putlt (by rw [PH.n_put]; exact hq), put_putS] at h2
            exact h1.trans h2
        refine hK (i + 1) _ _ (by omega) (by omega) ?_
        rw [hbn]
        refine fin _ _ _ _ _ (hto _ _ _ ?_ ?_ ?_ ?_ ?_) ?_
        · simp [FadeTo, hn]
        · rw [hC1, g8, bytesPV_append, hn, hB, put_putS]; rfl
        · simp [scs_cons, scs_nil, sc_ptr, sc_fsl, sc_gsl, sc_sl, sc_agg, sc_func, sc_int, sc_bool, sc_str, sc_undef, sc_nilptr, sc_nilsl, sc_yield, sc_tuple, sc_fptr, scs_bytes, scs_append, mkLoop, hq9]
        · simp [scs_cons, scs_nil, sc_ptr, sc_fsl, sc_gsl, sc_sl, sc_agg, sc_func, sc_int, sc_bool, sc_str, sc_undef, sc_nilptr, sc_nilsl, sc_yield, sc_tuple, sc_fptr, scs_bytes, scs_append, mkLoop, hq9]
        · refine obsc_up (obsc_up (obsc1 hW ?_) ?_) ?_
          · simp
          · trivial
          · show Scs _ _
            simp [hn, scs_cons, scs_nil, sc_ptr, sc_fsl, sc_gsl, sc_sl, sc_agg, sc_func, sc_int, sc_bool, sc_str, sc_undef, sc_nilptr, sc_nilsl, sc_yield, sc_tuple, sc_fptr, scs_bytes, scs_append, mkLoop, hq9]
        · simp
      · have : i = nk + 7 := by omega
        subst this
        have hge2 : ¬ ((4 * (nk + 7) : Nat) : Int) < ((4 * nk + 28 : Nat) : Int) := by omega
        have hrl : rV (nk + 7) = .fsl 16 (nk + 7) (bytesPV W) := by rw [hrV]; simp only [if_neg (Nat.lt_irrefl _)]
        rw [hrl] at hB
        rw [hbn, ← hn]
        repeat' first
        | simp -implicitDefEqProofs (maxSteps := 400000) (disch := first | with_reducible rfl | omega | (simp only [h_n, PH.n_push, PH.n_put, List.length_cons, List.length_nil] <;> omega) | decide) only [wkAll, wkL, popO, wantedP, if_true, if_false, reduceIte, ne_eq, Nat.reduceAdd, Nat.reduceSub, Nat.reduceMul, Nat.reduceLeDiff, Nat.reduceLT, ofCells, ofCell, reduceCtorEq, Int.reduceLE, Int.reduceLT, Int.reduceToNat, Int.reduceAdd, Int.reduceSub, Int.reduceMul, Int.reduceNeg, Int.reduceBEq, Int.reduceBNe, Int.reduceEq, eqCell, eqCells, binP, unP, convP, lenP, builtinP, sliceDataP, unsafeStringP, appendT, appendS, appendP, copyP, srcP, mmsP, mmP, indexOp, indexAddrOp, sliceOp, bndsP, bndP, capw, capCut, loadOp, storeOp, loadP, fieldOp, fieldAddrOp, arrayAtOp, buildP, buildSliceP, makeSliceP, placeF, fillP, setL, PK.agg, isZero, gt_iff_lt, Nat.reducePow, Nat.reduceGT, reps, seg, wkN, if_pos, if_neg, tf3, Tryz.ze3, tf4, Tryz.ze4, tf5, Tryz.ze5, tf138, Tryz.ze138, tf151, Tryz.ze151, pl120_3Ae7, hge2]
        | refine w_drawnF (id := 3) tb120_3Ae7 pl120_3Ae7 19 (by kernel_rfl) (by kernel_rfl) (by simp) ?_
        refine hQ' (by first | exact .inr rfl | exact .inl rfl) trivial (by first | (simp -implicitDefEqProofs (maxSteps := 400000) (disch := first | with_reducible rfl | omega | (simp only [h_n, PH.n_push, PH.n_put, List.length_cons, List.length_nil] <;> omega) | decide) only [wkAll, wkL, popO, wantedP, if_true, if_false, reduceIte, ne_eq, Nat.reduceAdd, Nat.reduceSub, Nat.reduceMul, Nat.reduceLeDiff, Nat.reduceLT, ofCells, ofCell, reduceCtorEq, Int.reduceLE, Int.reduceLT, Int.reduceToNat, Int.reduceAdd, Int.reduceSub, Int.reduceMul, Int.reduceNeg, Int.reduceBEq, Int.reduceBNe, Int.reduceEq, eqCell, eqCells, binP, unP, convP, lenP, builtinP, sliceDataP, unsafeStringP, appendT, appendS, appendP, copyP, srcP, mmsP, mmP, indexOp, indexAddrOp, sliceOp, bndsP, bndP, capw, capCut, loadOp, storeOp, loadP, fieldOp, fieldAddrOp, arrayAtOp, buildP, buildSliceP, makeSliceP, placeF, fillP, setL, PK.agg, isZero, gt_iff_lt, Nat.reducePow, Nat.reduceGT, reps, seg, wkN, if_pos, if_neg, tf3, Tryz.ze3, tf4, Tryz.ze4, tf5, Tryz.ze5, tf138, Tryz.ze138, tf151, Tryz.ze151, pl120_3Ae7, resP, resPs, resP1]; rfl) | rfl) (re_normal (by rw [h_shut0, h_ob]; exact up_same) rfl rfl ?_)
        repeat' first
        | simp -implicitDefEqProofs (maxSteps := 400000) (disch := first | with_reducible rfl | omega | (simp only [h_n, PH.n_push, PH.n_put, List.length_cons, List.length_nil] <;> omega) | decide) only [wkAll, wkL, popO, wantedP, if_true, if_false, reduceIte, ne_eq, Nat.reduceAdd, Nat.reduceSub, Nat.reduceMul, Nat.reduceLeDiff, Nat.reduceLT, ofCells, ofCell, reduceCtorEq, Int.reduceLE, Int.reduceLT, Int.reduceToNat, Int.reduceAdd, Int.reduceSub, Int.reduceMul, Int.reduceNeg, Int.reduceBEq, Int.reduceBNe, Int.reduceEq, eqCell, eqCells, binP, unP, convP, lenP, builtinP, sliceDataP, unsafeStringP, appendT, appendS, appendP, copyP, srcP, mmsP, mmP, indexOp, indexAddrOp, sliceOp, bndsP, bndP, capw, capCut, loadOp, storeOp, loadP, fieldOp, fieldAddrOp, arrayAtOp, buildP, buildSliceP, makeSliceP, placeF, fillP, setL, PK.agg, isZero, gt_iff_lt, Nat.reducePow, Nat.reduceGT, reps, seg, wkN, if_pos, if_neg, tf3, Tryz.ze3, tf5, Tryz.ze5, tf9, Tryz.ze9, tf21, Tryz.ze21, tf30, Tryz.ze30, tf82, Tryz.ze82, tf86, Tryz.ze86, tf116, Tryz.ze116, tf118, Tryz.ze118, tf120, Tryz.ze120, tf122, Tryz.ze122, tf124, Tryz.ze124, tf125, Tryz.ze125, tf126, Tryz.ze126, tf127, Tryz.ze127, tf129, Tryz.ze129, tf138, Tryz.ze138, tf151, Tryz.ze151, tf166, Tryz.ze166, pl102_5Ae7, pl102_12Ae7, pl102_15Ae7, pl102_19Ae7, pl102_24Ae7, up_none2 hl' hne]
        | refine w_drawnF (id := 5) tb102_5Ae7 pl102_5Ae7 29 (by kernel_rfl) (by kernel_rfl) (by simp) ?_
        | refine w_drawnF (id := 12) tb102_12Ae7 pl102_12Ae7 77 (by kernel_rfl) (by kernel_rfl) (by simp) ?_
        | refine w_drawnF (id := 15) tb102_15Ae7 pl102_15Ae7 115 (by kernel_rfl) (by kernel_rfl) (by simp) ?_
        | refine w_drawnF (id := 19) tb102_19Ae7 pl102_19Ae7 131 (by kernel_rfl) (by kernel_rfl) (by simp) ?_
        | refine w_drawnF (id := 24) tb102_24Ae7 pl102_24Ae7 164 (by kernel_rfl) (by kernel_rfl) (by simp) ?_
        have hrra : r ≠ ra := by
          rintro rfl
          rw [up_same] at hr'; cases hr'
        have hrp : ph.ob r = none := by rw [up_ne hrra] at hr'; exact hr'
        rw [← hrl] at hQ
        subst hB
        refine hQ (.inl rfl) ⟨by rw [h_ob]; exact up_same, by show upF (upF (upF ph.ob ra (some .defd)) r (some .defd)) r none ra = _; rw [up_ne hrra.symm, up_ne hrra.symm]; exact up_same, trivial⟩ rfl ⟨6, frz_tuple frzs_nil⟩ ?_ (nw_eq rfl)
        rw [hrl]
        refine keepsH (fun k o hk => ?_) (fun _ _ => rfl)
        have hk' : ph.ob k = some o := hk
        have k1 : k ≠ r := by rintro rfl; rw [hrp] at hk'; cases hk'
        have k2 : k ≠ ra := by rintro rfl; rw [hra] at hk'; cases hk'
        show upF (upF (upF (upF ph.ob ra _) r _) r none) ra none k = some o
        rw [up_ne k2, up_ne k1, up_ne k1, up_ne k2]; exact hk'
end Pv
