/- Part of the proof: the layer of pure values, or walks through functions (PvGc4, PvGc5). -/
import Derived.Test.YtbocckencbkdeaaGreatPvGc3
set_option linter.all false
--nosplit
--keep2
namespace Pv
set_option maxRecDepth 20000
set_option maxHeartbeats 4000000
open Go Go.Proofs Go.RowKit
def tb31_5Gc4 : Tab := [[], [], [], [], [2, 3], [], [], [5, 6], [2, 3, 4, 5, 6, 7], [0, 1, 2, 3, 4, 5, 6, 7, 8], [0, 1, 2, 3, 4, 5, 6, 7, 8, 9]]
def pl31_5Gc4 : Plan := [(0, true, []), (1, true, []), (2, true, []), (3, true, []), (4, true, []), (5, true, []), (6, true, []), (7, true, []), (8, true, []), (9, true, []), (10, false, [])]
variable {w0 : World}

theorem mkBm (ph : PH) (k : Nat) (h : k < 2 ^ 46) : makeSliceP Tryz.prog 30 (.int .i64 k) (.int .i64 k) ph = some (.sl ph.n 0 1 k (some k), ph.push (bytesPV (List.replicate k 0))) := by
  have e : reps k [PV.int .u8 0] = bytesPV (List.replicate k 0) := by
    clear h
    induction k with
    | zero => rfl
    | succ k ih =>
      show (List.replicate (k + 1) [PV.int .u8 0]).flatten = _
      rw [List.replicate_succ, List.flatten_cons, show (List.replicate k [PV.int .u8 0]).flatten = reps k [PV.int .u8 0] from rfl, ih]; rfl
  simp only [makeSliceP, Tryz.sl30, Tryz.sz5, Tryz.by5, Tryz.ze5, PV.cells, List.length_cons, List.length_nil]
  have h1 : (0 : Int) ≤ (k : Int) := by omega
  simp [e]
  omega
theorem refXor_ok (a b : List UInt8) (h : a.length ≤ b.length) (ha : a.length < 2 ^ 46) : Fn (Cx w0) 31 [.str a, .str b] (.str (xorB a b)) := by
  have hxl : (xorB a b).length = a.length := by rw [xorB_len]; omega
  obtain ⟨n, hn⟩ : ∃ n, n = a.length := ⟨_, rfl⟩
  obtain ⟨Z, hZ⟩ : ∃ Z : List UInt8, Z = List.replicate n 0 := ⟨_, rfl⟩
  have hZl : Z.length = n := by rw [hZ]; simp
  refine fn_H ([Go.ResultVar.tmp 4]) Tryz.func31 rfl rfl (by decide) fun ph hW Q hQ => ?_
  simp only [start, List.length_cons, List.length_nil, List.cons_append, List.nil_append, Nat.reduceAdd, Nat.reduceSub, List.replicate_succ, List.replicate_zero, Tryz.ntmps31]
  repeat' first
  | simp -implicitDefEqProofs (maxSteps := 400000) (disch := first | with_reducible rfl | omega | (simp only [h_n, PH.n_push, PH.n_put, List.length_cons, List.length_nil] <;> omega) | decide) only [wkAll, wkL, popO, wantedP, if_true, if_false, reduceIte, ne_eq, Nat.reduceAdd, Nat.reduceSub, Nat.reduceMul, Nat.reduceLeDiff, Nat.reduceLT, ofCells, ofCell, reduceCtorEq, Int.reduceLE, Int.reduceLT, Int.reduceToNat, Int.reduceAdd, Int.reduceSub, Int.reduceMul, Int.reduceNeg, Int.reduceBEq, Int.reduceBNe, Int.reduceEq, eqCell, eqCells, binP, unP, convP, lenP, builtinP, sliceDataP, unsafeStringP, appendT, appendS, appendP, copyP, srcP, mmsP, mmP, indexOp, indexAddrOp, sliceOp, bndsP, bndP, capw, capCut, loadOp, storeOp, loadP, fieldOp, fieldAddrOp, arrayAtOp, buildP, buildSliceP, makeSliceP, placeF, fillP, setL, PK.agg, isZero, gt_iff_lt, Nat.reducePow, Nat.reduceGT, reps, seg, wkN, if_pos, if_neg, tf3, Tryz.ze3, tf5, Tryz.ze5, tf9, Tryz.ze9, tf30, Tryz.ze30, pl31_5Gc4, -makeSliceP, mkBm, h_push, h_n, ← hn, ← hZ]
  | refine w_drawnF (id := 5) tb31_5Gc4 pl31_5Gc4 26 (by kernel_rfl) (by kernel_rfl) (by simp) ?_
  refine w_loopH (α := Nat) ph ph.ob ph.ty (fun i => [.str a, .str b, .undef, .undef, .undef, .sl ph.n 0 1 n (some n), .int .i64 i, .undef, .undef, .undef, .undef, .undef, .undef, .undef, .undef, .undef, .undef, .undef, .undef, .undef, .undef, .undef, .undef, .undef, .undef, .undef, .undef, .undef]) (fun i => [some (.own (bytesPV (midB (xorB a b) Z i)))]) (fun i => i ≤ n) (fun i => n - i) 0 (by simp) (fun _ _ => by simp) (.eq (by simp [FadeTo]) (by rw [midB_0])) ?_
  intro i hi K hK
  have hml := midB_len (m := xorB a b) (l := Z) (by omega) i
  rcases Nat.lt_or_ge i n with hlt | hge
  · have hlt' : (i : Int) < (n : Int) := by omega
    obtain ⟨x, hx⟩ := get_someW (show i < a.length by omega)
    obtain ⟨y, hy⟩ := get_someW (show i < b.length by omega)
    have hib : (i : Int) < (b.length : Int) := by omega
    have hm : (xorB a b)[i]? = some (x ^^^ y) := by rw [xorB, List.getElem?_zipWith, hx, hy]
    have hs := midB_set (m := xorB a b) (l := Z) (by omega) hm
    repeat' first
    | simp -implicitDefEqProofs (maxSteps := 400000) (disch := first | with_reducible rfl | omega | (simp only [h_n, PH.n_push, PH.n_put, List.length_cons, List.length_nil] <;> omega) | decide) only [wkAll, wkL, popO, wantedP, if_true, if_false, reduceIte, ne_eq, Nat.reduceAdd, Nat.reduceSub, Nat.reduceMul, Nat.reduceLeDiff, Nat.reduceLT, ofCells, ofCell, reduceCtorEq, Int.reduceLE, Int.reduceLT, Int.reduceToNat, Int.reduceAdd, Int.reduceSub, Int.reduceMul, Int.reduceNeg, Int.reduceBEq, Int.reduceBNe, Int.reduceEq, eqCell, eqCells, binP, unP, convP, lenP, builtinP, sliceDataP, unsafeStringP, appendT, appendS, appendP, copyP, srcP, mmsP, mmP, indexOp, indexAddrOp, sliceOp, bndsP, bndP, capw, capCut, loadOp, storeOp, loadP, fieldOp, fieldAddrOp, arrayAtOp, buildP, buildSliceP, makeSliceP, placeF, fillP, setL, PK.agg, isZero, gt_iff_lt, Nat.reducePow, Nat.reduceGT, reps, seg, wkN, if_pos, if_neg, tf3, Tryz.ze3, tf5, Tryz.ze5, tf9, Tryz.ze9, tf30, Tryz.ze30, pl31_5Gc4, ← hn, hlt', hib, hml, hZl, hx, hy, xor_u8, bytesPV_set, hs]
    | refine w_drawnF (id := 5) tb31_5Gc4 pl31_5Gc4 26 (by kernel_rfl) (by kernel_rfl) (by simp) ?_
    exact hK (i + 1) _ _ (by omega) (by omega) (.eq (by simp [FadeTo]) rfl)
  · have hge' : ¬ (i : Int) < (n : Int) := by omega
    have : i = n := by omega
    subst this
    rw [midB_all (by omega) (by omega)]
    have k4 : List.take i (bytesPV (xorB a b)) = bytesPV (xorB a b) := List.take_of_length_le (by rw [bytesPV_len]; omega)
    repeat' first
    | simp -implicitDefEqProofs (maxSteps := 400000) (disch := first | with_reducible rfl | omega | (simp only [h_n, PH.n_push, PH.n_put, List.length_cons, List.length_nil] <;> omega) | decide) only [wkAll, wkL, popO, wantedP, if_true, if_false, reduceIte, ne_eq, Nat.reduceAdd, Nat.reduceSub, Nat.reduceMul, Nat.reduceLeDiff, Nat.reduceLT, ofCells, ofCell, reduceCtorEq, Int.reduceLE, Int.reduceLT, Int.reduceToNat, Int.reduceAdd, Int.reduceSub, Int.reduceMul, Int.reduceNeg, Int.reduceBEq, Int.reduceBNe, Int.reduceEq, eqCell, eqCells, binP, unP, convP, lenP, builtinP, sliceDataP, unsafeStringP, appendT, appendS, appendP, copyP, srcP, mmsP, mmP, indexOp, indexAddrOp, sliceOp, bndsP, bndP, capw, capCut, loadOp, storeOp, loadP, fieldOp, fieldAddrOp, arrayAtOp, buildP, buildSliceP, makeSliceP, placeF, fillP, setL, PK.agg, isZero, gt_iff_lt, Nat.reducePow, Nat.reduceGT, reps, seg, wkN, if_pos, if_neg, tf3, Tryz.ze3, tf5, Tryz.ze5, tf9, Tryz.ze9, tf30, Tryz.ze30, pl31_5Gc4, ← hn, hge', k4, hxl, bytesX_bytesPV]
    | refine w_drawnF (id := 5) tb31_5Gc4 pl31_5Gc4 26 (by kernel_rfl) (by kernel_rfl) (by simp) ?_
    refine hQ (by first | exact .inr rfl | exact .inl rfl) (by first | exact trivial | exact marks1) (by first | (simp -implicitDefEqProofs (maxSteps := 400000) (disch := first | with_reducible rfl | omega | (simp only [h_n, PH.n_push, PH.n_put, List.length_cons, List.length_nil] <;> omega) | decide) only [wkAll, wkL, popO, wantedP, if_true, if_false, reduceIte, ne_eq, Nat.reduceAdd, Nat.reduceSub, Nat.reduceMul, Nat.reduceLeDiff, Nat.reduceLT, ofCells, ofCell, reduceCtorEq, Int.reduceLE, Int.reduceLT, Int.reduceToNat, Int.reduceAdd, Int.reduceSub, Int.reduceMul, Int.reduceNeg, Int.reduceBEq, Int.reduceBNe, Int.reduceEq, eqCell, eqCells, binP, unP, convP, lenP, builtinP, sliceDataP, unsafeStringP, appendT, appendS, appendP, copyP, srcP, mmsP, mmP, indexOp, indexAddrOp, sliceOp, bndsP, bndP, capw, capCut, loadOp, storeOp, loadP, fieldOp, fieldAddrOp, arrayAtOp, buildP, buildSliceP, makeSliceP, placeF, fillP, setL, PK.agg, isZero, gt_iff_lt, Nat.reducePow, Nat.reduceGT, reps, seg, wkN, if_pos, if_neg, tf3, Tryz.ze3, tf5, Tryz.ze5, tf9, Tryz.ze9, tf30, Tryz.ze30, pl31_5Gc4, resP, resPs, resP1]; rfl) | rfl) ⟨6, by repeat' first | exact frz_scalar rfl | apply frz_tuple | apply frz_agg | apply frz_fsl | apply frz_gsl (by omega) | exact frzs_nil | apply frzs_cons⟩ (by first | exact keepsH0 | exact keeps1 (by assumption)) (nw_eq ?_)
    rfl
theorem filled_ok (s : List UInt8) (hs : s.length < 2 ^ 50) : Fn (Cx w0) 60 [.str s] (.str (fil s)) := by
  obtain ⟨z, hz⟩ : ∃ z, z = (16 - s.length % 16) % 16 := ⟨_, rfl⟩
  rw [fil, ← hz]
  refine fn_H ([Go.ResultVar.tmp 2]) Tryz.func60 rfl rfl (by decide) fun ph hW Q hQ => ?_
  simp only [start, List.length_cons, List.length_nil, List.cons_append, List.nil_append, Nat.reduceAdd, Nat.reduceSub, List.replicate_succ, List.replicate_zero, Tryz.ntmps60]
  repeat' first
  | simp -implicitDefEqProofs (maxSteps := 400000) (disch := first | with_reducible rfl | omega | (simp only [h_n, PH.n_push, PH.n_put, List.length_cons, List.length_nil] <;> omega) | decide) only [wkAll, wkL, popO, wantedP, if_true, if_false, reduceIte, ne_eq, Nat.reduceAdd, Nat.reduceSub, Nat.reduceMul, Nat.reduceLeDiff, Nat.reduceLT, ofCells, ofCell, reduceCtorEq, Int.reduceLE, Int.reduceLT, Int.reduceToNat, Int.reduceAdd, Int.reduceSub, Int.reduceMul, Int.reduceNeg, Int.reduceBEq, Int.reduceBNe, Int.reduceEq, eqCell, eqCells, binP, unP, convP, lenP, builtinP, sliceDataP, unsafeStringP, appendT, appendS, appendP, copyP, srcP, mmsP, mmP, indexOp, indexAddrOp, sliceOp, bndsP, bndP, capw, capCut, loadOp, storeOp, loadP, fieldOp, fieldAddrOp, arrayAtOp, buildP, buildSliceP, makeSliceP, placeF, fillP, setL, PK.agg, isZero, gt_iff_lt, Nat.reducePow, Nat.reduceGT, reps, seg, wkN, if_pos, if_neg, tf3, Tryz.ze3, tf9, Tryz.ze9]
  refine w_loopH (α := Nat) ph ph.ob ph.ty (fun i => [.str (s ++ List.replicate i 0), .undef, .undef, .undef, .undef, .undef, .undef, .undef, .undef, .undef]) (fun i => []) (fun i => i ≤ z) (fun i => z - i) 0 (by simp) (fun _ _ => by simp) (.eq (by simp [FadeTo]) rfl) ?_
  intro i hi K hK
  have hl : (s ++ List.replicate i (0 : UInt8)).length = s.length + i := by simp
  have d1 : Int.tmod ((s.length + i : Nat) : Int) 16 = (((s.length + i) % 16 : Nat) : Int) := tmodN _ 16 (by decide)
  have hnx : s ++ List.replicate (i + 1) (0 : UInt8) = (s ++ List.replicate i 0) ++ [0] := by rw [List.replicate_succ', List.append_assoc]
  have hK1 := fun tm ph' => hK (i + 1) tm ph'
  rw [hnx] at hK1
  generalize hS : s ++ List.replicate i (0 : UInt8) = S at *
  rcases Nat.lt_or_ge i z with hlt | hge
  · have q : ((((s.length + i) % 16 : Nat) : Int) == 0) = false := by rw [beq_eq_false_iff_ne]; omega
    have q2 : ((((s.length + i) % 16 : Nat) : Int) != 0) = true := by rw [bne_iff_ne]; omega
    have hcat : (s.length + i + 1 ≤ 9223372036854775807) = True := by simp; omega
    repeat' first
    | simp -implicitDefEqProofs (maxSteps := 400000) (disch := first | with_reducible rfl | omega | (simp only [h_n, PH.n_push, PH.n_put, List.length_cons, List.length_nil] <;> omega) | decide) only [wkAll, wkL, popO, wantedP, if_true, if_false, reduceIte, ne_eq, Nat.reduceAdd, Nat.reduceSub, Nat.reduceMul, Nat.reduceLeDiff, Nat.reduceLT, ofCells, ofCell, reduceCtorEq, Int.reduceLE, Int.reduceLT, Int.reduceToNat, Int.reduceAdd, Int.reduceSub, Int.reduceMul, Int.reduceNeg, Int.reduceBEq, Int.reduceBNe, Int.reduceEq, eqCell, eqCells, binP, unP, convP, lenP, builtinP, sliceDataP, unsafeStringP, appendT, appendS, appendP, copyP, srcP, mmsP, mmP, indexOp, indexAddrOp, sliceOp, bndsP, bndP, capw, capCut, loadOp, storeOp, loadP, fieldOp, fieldAddrOp, arrayAtOp, buildP, buildSliceP, makeSliceP, placeF, fillP, setL, PK.agg, isZero, gt_iff_lt, Nat.reducePow, Nat.reduceGT, reps, seg, wkN, if_pos, if_neg, tf3, Tryz.ze3, tf9, Tryz.ze9, hl, d1, q, q2, hcat]
    exact hK1 _ _ (by omega) (by omega) (.eq (by simp [FadeTo]) rfl)
  · have : i = z := by omega
    subst this
    have q : ((((s.length + i) % 16 : Nat) : Int) == 0) = true := by rw [beq_iff_eq]; omega
    have q2 : ((((s.length + i) % 16 : Nat) : Int) != 0) = false := by rw [bne_eq_false_iff_eq]; omega
    repeat' first
    | simp -implicitDefEqProofs (maxSteps := 400000) (disch := first | with_reducible rfl | omega | (simp only [h_n, PH.n_push, PH.n_put, List.length_cons, List.length_nil] <;> omega) | decide) only [wkAll, wkL, popO, wantedP, if_true, if_false, reduceIte, ne_eq, Nat.reduceAdd, Nat.reduceSub, Nat.reduceMul, Nat.reduceLeDiff, Nat.reduceLT, ofCells, ofCell, reduceCtorEq, Int.reduceLE, Int.reduceLT, Int.reduceToNat, Int.reduceAdd, Int.reduceSub, Int.reduceMul, Int.reduceNeg, Int.reduceBEq, Int.reduceBNe, Int.reduceEq, eqCell, eqCells, binP, unP, convP, lenP, builtinP, sliceDataP, unsafeStringP, appendT, appendS, appendP, copyP, srcP, mmsP, mmP, indexOp, indexAddrOp, sliceOp, bndsP, bndP, capw, capCut, loadOp, storeOp, loadP, fieldOp, fieldAddrOp, arrayAtOp, buildP, buildSliceP, makeSliceP, placeF, fillP, setL, PK.agg, isZero, gt_iff_lt, Nat.reducePow, Nat.reduceGT, reps, seg, wkN, if_pos, if_neg, tf3, Tryz.ze3, tf9, Tryz.ze9, hl, d1, q, q2]
    refine hQ (by first | exact .inr rfl | exact .inl rfl) (by first | exact trivial | exact marks1) (by first | (simp -implicitDefEqProofs (maxSteps := 400000) (disch := first | with_reducible rfl | omega | (simp only [h_n, PH.n_push, PH.n_put, List.length_cons, List.length_nil] <;> omega) | decide) only [wkAll, wkL, popO, wantedP, if_true, if_false, reduceIte, ne_eq, Nat.reduceAdd, Nat.reduceSub, Nat.reduceMul, Nat.reduceLeDiff, Nat.reduceLT, ofCells, ofCell, reduceCtorEq, Int.reduceLE, Int.reduceLT, Int.reduceToNat, Int.reduceAdd, Int.reduceSub, Int.reduceMul, Int.reduceNeg, Int.reduceBEq, Int.reduceBNe, Int.reduceEq, eqCell, eqCells, binP, unP, convP, lenP, builtinP, sliceDataP, unsafeStringP, appendT, appendS, appendP, copyP, srcP, mmsP, mmP, indexOp, indexAddrOp, sliceOp, bndsP, bndP, capw, capCut, loadOp, storeOp, loadP, fieldOp, fieldAddrOp, arrayAtOp, buildP, buildSliceP, makeSliceP, placeF, fillP, setL, PK.agg, isZero, gt_iff_lt, Nat.reducePow, Nat.reduceGT, reps, seg, wkN, if_pos, if_neg, tf3, Tryz.ze3, tf9, Tryz.ze9, resP, resPs, resP1]; rfl) | rfl) ⟨6, by repeat' first | exact frz_scalar rfl | apply frz_tuple | apply frz_agg | apply frz_fsl | apply frz_gsl (by omega) | exact frzs_nil | apply frzs_cons⟩ (by first | exact keepsH0 | exact keeps1 (by assumption)) (nw_eq ?_)
    rw [hS]
theorem filled0_ok : Fn (Cx w0) 60 [.str [0]] (.str (zL 16)) := filled_ok [0] (by decide)
theorem bits_ok (n : Nat) (hn : n < 2 ^ 50) : Fn (Cx w0) 84 [.int .i64 n] (.str (bits8 n)) := by
  obtain ⟨Z, hZ⟩ : ∃ Z, Z = zL 8 := ⟨_, rfl⟩
  have hZl : Z.length = 8 := by rw [hZ]; rfl
  have hbl := bits8_len n
  have c0 : IntKind.wrap .u64 (n : Int) = n := IntWalk.u64_in _ (by omega)
  have c1 : IntKind.wrap .u64 ((n : Int) * 8) = ((UInt64.ofNat n * 8).toNat : Int) := by rw [Int.mul_comm, len8_64 n hn, UInt64.mul_comm]
  refine fn_H ([Go.ResultVar.tmp 2]) Tryz.func84 rfl rfl (by decide) fun ph hW Q hQ => ?_
  simp only [start, List.length_cons, List.length_nil, List.cons_append, List.nil_append, Nat.reduceAdd, Nat.reduceSub, List.replicate_succ, List.replicate_zero, Tryz.ntmps84]
  repeat' first
  | simp -implicitDefEqProofs (maxSteps := 400000) (disch := first | with_reducible rfl | omega | (simp only [h_n, PH.n_push, PH.n_put, List.length_cons, List.length_nil] <;> omega) | decide) only [wkAll, wkL, popO, wantedP, if_true, if_false, reduceIte, ne_eq, Nat.reduceAdd, Nat.reduceSub, Nat.reduceMul, Nat.reduceLeDiff, Nat.reduceLT, ofCells, ofCell, reduceCtorEq, Int.reduceLE, Int.reduceLT, Int.reduceToNat, Int.reduceAdd, Int.reduceSub, Int.reduceMul, Int.reduceNeg, Int.reduceBEq, Int.reduceBNe, Int.reduceEq, eqCell, eqCells, binP, unP, convP, lenP, builtinP, sliceDataP, unsafeStringP, appendT, appendS, appendP, copyP, srcP, mmsP, mmP, indexOp, indexAddrOp, sliceOp, bndsP, bndP, capw, capCut, loadOp, storeOp, loadP, fieldOp, fieldAddrOp, arrayAtOp, buildP, buildSliceP, makeSliceP, placeF, fillP, setL, PK.agg, isZero, gt_iff_lt, Nat.reducePow, Nat.reduceGT, reps, seg, wkN, if_pos, if_neg, tf3, Tryz.ze3, tf5, Tryz.ze5, tf9, Tryz.ze9, tf30, Tryz.ze30, tf31, Tryz.ze31]
  refine w_loopH (α := Nat) ph ph.ob ph.ty (fun i => [.int .i64 n, .undef, .undef, .sl ph.n 0 1 8 (some 8), .int .i64 i, .undef, .undef, .undef, .undef, .undef, .undef, .undef, .undef, .undef, .undef, .undef, .undef, .undef, .undef, .undef, .undef, .undef, .undef]) (fun i => [some (.own (bytesPV (midB (bits8 n) Z i)))]) (fun i => i ≤ 8) (fun i => 8 - i) 0 (by simp) (fun _ _ => by simp) (.eq (by simp [FadeTo]) (by rw [midB_0, hZ]; rfl)) ?_
  intro i hi K hK
  have hml := midB_len (m := bits8 n) (l := Z) (by omega) i
  rcases Nat.lt_or_ge i 8 with hlt | hge
  · have hlt' : (i : Int) < 8 := by omega
    have d3 : 8 * (i : Int) = ((8 * i : Nat) : Int) := by omega
    have d4 : (56 : Int) - ((8 * i : Nat) : Int) = ((56 - 8 * i : Nat) : Int) := by omega
    have d6 : (0 : Int) ≤ ((56 - 8 * i : Nat) : Int) := by omega
    have hm : (bits8 n)[i]? = some ((UInt64.ofNat n * 8) >>> UInt64.ofNat (56 - 8 * i)).toUInt8 := by simp [bits8, hlt]
    have hs := midB_set (m := bits8 n) (l := Z) (by omega) hm
    generalize UInt64.ofNat n * 8 = w at *
    have s1 := shr64 w (56 - 8 * i) (by omega)
    repeat' first
    | simp -implicitDefEqProofs (maxSteps := 400000) (disch := first | with_reducible rfl | omega | (simp only [h_n, PH.n_push, PH.n_put, List.length_cons, List.length_nil] <;> omega) | decide) only [wkAll, wkL, popO, wantedP, if_true, if_false, reduceIte, ne_eq, Nat.reduceAdd, Nat.reduceSub, Nat.reduceMul, Nat.reduceLeDiff, Nat.reduceLT, ofCells, ofCell, reduceCtorEq, Int.reduceLE, Int.reduceLT, Int.reduceToNat, Int.reduceAdd, Int.reduceSub, Int.reduceMul, Int.reduceNeg, Int.reduceBEq, Int.reduceBNe, Int.reduceEq, eqCell, eqCells, binP, unP, convP, lenP, builtinP, sliceDataP, unsafeStringP, appendT, appendS, appendP, copyP, srcP, mmsP, mmP, indexOp, indexAddrOp, sliceOp, bndsP, bndP, capw, capCut, loadOp, storeOp, loadP, fieldOp, fieldAddrOp, arrayAtOp, buildP, buildSliceP, makeSliceP, placeF, fillP, setL, PK.agg, isZero, gt_iff_lt, Nat.reducePow, Nat.reduceGT, reps, seg, wkN, if_pos, if_neg, tf3, Tryz.ze3, tf5, Tryz.ze5, tf9, Tryz.ze9, tf30, Tryz.ze30, tf31, Tryz.ze31, hlt', d3, d4, d6, c0, c1, s1, low64, hml, hZl, bytesPV_set, hs]
    exact hK (i + 1) _ _ (by omega) (by omega) (.eq (by simp [FadeTo]) rfl)
  · have hge' : ¬ (i : Int) < 8 := by omega
    have : i = 8 := by omega
    subst this
    rw [midB_all (by omega) (by omega)]
    generalize bits8 n = B at *
    have k4 : List.take 8 (bytesPV B) = bytesPV B := List.take_of_length_le (by rw [bytesPV_len]; omega)
    repeat' first
    | simp -implicitDefEqProofs (maxSteps := 400000) (disch := first | with_reducible rfl | omega | (simp only [h_n, PH.n_push, PH.n_put, List.length_cons, List.length_nil] <;> omega) | decide) only [wkAll, wkL, popO, wantedP, if_true, if_false, reduceIte, ne_eq, Nat.reduceAdd, Nat.reduceSub, Nat.reduceMul, Nat.reduceLeDiff, Nat.reduceLT, ofCells, ofCell, reduceCtorEq, Int.reduceLE, Int.reduceLT, Int.reduceToNat, Int.reduceAdd, Int.reduceSub, Int.reduceMul, Int.reduceNeg, Int.reduceBEq, Int.reduceBNe, Int.reduceEq, eqCell, eqCells, binP, unP, convP, lenP, builtinP, sliceDataP, unsafeStringP, appendT, appendS, appendP, copyP, srcP, mmsP, mmP, indexOp, indexAddrOp, sliceOp, bndsP, bndP, capw, capCut, loadOp, storeOp, loadP, fieldOp, fieldAddrOp, arrayAtOp, buildP, buildSliceP, makeSliceP, placeF, fillP, setL, PK.agg, isZero, gt_iff_lt, Nat.reducePow, Nat.reduceGT, reps, seg, wkN, if_pos, if_neg, tf3, Tryz.ze3, tf5, Tryz.ze5, tf9, Tryz.ze9, tf30, Tryz.ze30, tf31, Tryz.ze31, hge', k4, hbl, bytesX_bytesPV]
    refine hQ (by first | exact .inr rfl | exact .inl rfl) (by first | exact trivial | exact marks1) (by first | (simp -implicitDefEqProofs (maxSteps := 400000) (disch := first | with_reducible rfl | omega | (simp only [h_n, PH.n_push, PH.n_put, List.length_cons, List.length_nil] <;> omega) | decide) only [wkAll, wkL, popO, wantedP, if_true, if_false, reduceIte, ne_eq, Nat.reduceAdd, Nat.reduceSub, Nat.reduceMul, Nat.reduceLeDiff, Nat.reduceLT, ofCells, ofCell, reduceCtorEq, Int.reduceLE, Int.reduceLT, Int.reduceToNat, Int.reduceAdd, Int.reduceSub, Int.reduceMul, Int.reduceNeg, Int.reduceBEq, Int.reduceBNe, Int.reduceEq, eqCell, eqCells, binP, unP, convP, lenP, builtinP, sliceDataP, unsafeStringP, appendT, appendS, appendP, copyP, srcP, mmsP, mmP, indexOp, indexAddrOp, sliceOp, bndsP, bndP, capw, capCut, loadOp, storeOp, loadP, fieldOp, fieldAddrOp, arrayAtOp, buildP, buildSliceP, makeSliceP, placeF, fillP, setL, PK.agg, isZero, gt_iff_lt, Nat.reducePow, Nat.reduceGT, reps, seg, wkN, if_pos, if_neg, tf3, Tryz.ze3, tf5, Tryz.ze5, tf9, Tryz.ze9, tf30, Tryz.ze30, tf31, Tryz.ze31, resP, resPs, resP1]; rfl) | rfl) ⟨6, by repeat' first | exact frz_scalar rfl | apply frz_tuple | apply frz_agg | apply frz_fsl | apply frz_gsl (by omega) | exact frzs_nil | apply frzs_cons⟩ (by first | exact keepsH0 | exact keeps1 (by assumption)) (nw_eq ?_)
    rfl
end Pv

--nosplit
--keep2
namespace Pv
set_option maxRecDepth 20000
set_option maxHeartbeats 4000000
open Go Go.Proofs Go.RowKit
def tb61_11Gc5 : Tab := [[], [], [], [], [2, 3], [2, 3, 4], [], [], [], [7, 8], [6, 7, 8, 9], [2, 3, 4, 5, 6, 7, 8, 9, 10], [0, 1, 2, 3, 4, 5, 6, 7, 8, 9, 10, 11], [0, 1, 2, 3, 4, 5, 6, 7, 8, 9, 10, 11, 12]]
def pl61_11Gc5 : Plan := [(0, true, []), (1, true, []), (2, true, []), (3, true, []), (4, true, []), (5, true, []), (6, true, []), (7, true, []), (8, true, []), (9, true, []), (10, true, []), (11, true, []), (12, true, []), (13, false, [])]
variable {w0 : World}

/-- The last blocks that a call leaves are told no more. -/
theorem EffA.cut {X : Ctx} {f : FuncId} {args : List PV} {ph : PH} {v : PV} {bl : List (Option Blk)} (g : List (Option Blk)) (h : EffA X f args ph v (bl ++ g)) (h1 : Sc (ph.n + bl.length) v) (h2 : ∀ x ∈ bl, ∀ c, x = some (Blk.own c) → Scs (ph.n + bl.length) c) : EffA X f args ph v bl := by
  intro K hK G w rargs hr ha
  have hb := hr.wf
  have hto : HTo ph bl ph.ob ph.ty [v] [v] (H ph (bl ++ g) ph.ob ph.ty) := .cut g hb (by simp [FadeTo]) rfl ⟨h1, trivial⟩ h2
  have key : ∀ v' w', CPost X ph.n G (fun u ph' => u = v ∧ ph' = H ph (bl ++ g) ph.ob ph.ty) v' w' → CPost X ph.n G K v' w' := by
    rintro v' w' ⟨G2, pv, ph', k1, k2, k3, k4, rfl, rfl⟩
    obtain ⟨G3, m1, m2, m3⟩ := hto.weak (X := X) (n0 := ph.n) (by omega) G2 w' [v'] k2 (.cons _ _ _ _ k3 .nil)
    cases m3 with
    | cons _ _ _ _ m3 _ => exact ⟨G3, _, _, k1.trans m1, m2, m3, by rw [h_n]; omega, hK⟩
  rcases h (fun u ph' => u = v ∧ ph' = H ph (bl ++ g) ph.ob ph.ty) ⟨rfl, rfl⟩ G w rargs hr ha with ⟨v, w', e, hc⟩ | ⟨w', e, hc⟩
  · exact .inl ⟨v, w', e, key _ _ hc⟩
  · refine .inr ⟨w', e, Calls.mono hc ?_⟩
    intro e w he
    cases e with
    | returned v => exact key _ _ he
    | _ => exact he
theorem refTimes9c_ok (ph : PH) (p q : Nat) (cp cq : Option Nat) (a b : List UInt8) (ha : a.length = 16) (hb : b.length = 16) (h : ph.get p = some (bytesPV a)) (hq : ph.get q = some (bytesPV b)) :
    EffA (Cx w0) 85 [.sl p 0 1 16 cp, .sl q 0 1 16 cq] ph (.sl ph.n 0 1 16 (some 16)) [some (.own (bytesPV (gt a b)))] := by
  refine EffA.cut [some (.own (bytesPV (elT (El.pw (elB b) 128))))] (refTimes9_ok ph p q cp cq a b ha hb h hq) (by simp [scs_cons, scs_nil, sc_ptr, sc_fsl, sc_gsl, sc_sl, sc_agg, sc_func, sc_int, sc_bool, sc_str, sc_undef, sc_nilptr, sc_nilsl, sc_yield, sc_tuple, sc_fptr, scs_bytes, scs_append]) ?_
  intro x hx c hc
  simp only [List.mem_cons, List.not_mem_nil, or_false] at hx
  rw [hx] at hc
  cases hc
  exact scs_b16 _
theorem gt_step {x : El} {B h : List UInt8} (hB : B.length = 16) (hh : h.length = 16) : gt (xorB (elT x) B) h = elT (hstep (elB h) x (elB B)) := by
  rw [gt, elB_xor (elT_len _) hB, elB_elT]; rfl
theorem refHash_ok (g ad s : List UInt8) (had : ad.length < 2 ^ 40) (hs : s.length < 2 ^ 40) : Fn (Cx w0) 61 [.str g, .str ad, .str s] (.tuple [.str (ghashR g ad s).1, .int .i64 (ghashR g ad s).2]) := by
  by_cases hh : g.length = 16
  · have qa := ne16_f hh
    rw [show ghashR g ad s = (elT (ghs (elB g) ad s), 0) from if_pos hh]
    have f1 := filled_ok (w0 := w0) ad (by omega)
    have f2 := filled_ok (w0 := w0) s (by omega)
    have b1 := bits_ok (w0 := w0) ad.length (by omega)
    have b2 := bits_ok (w0 := w0) s.length (by omega)
    have hgs := ghs_all (elB g) ad s
    have l1 := fil_len ad
    have l2 := fil_len s
    have l3 := bits8_len ad.length
    have l4 := bits8_len s.length
    obtain ⟨N, hN⟩ : ∃ N, N = nb ad.length + nb s.length + 1 := ⟨_, rfl⟩
    have hNb : N < 2 ^ 40 := by rw [hN, nb, nb]; omega
    rw [← hN] at hgs
    obtain ⟨F, hF⟩ : ∃ F, F = fil ad ++ fil s ++ bits8 ad.length ++ bits8 s.length := ⟨_, rfl⟩
    have hFl : F.length = 16 * N := by rw [hF]; simp only [List.length_append]; omega
    rw [← hF] at hgs
    rw [hgs]
    have c1 : ((fil ad).length + (fil s).length ≤ 9223372036854775807) = True := by rw [eq_iff_iff, iff_true]; omega
    have c2 : ((fil ad).length + (fil s).length + (bits8 ad.length).length ≤ 9223372036854775807) = True := by rw [eq_iff_iff, iff_true]; omega
    have c3 : ((fil ad).length + (fil s).length + (bits8 ad.length).length + (bits8 s.length).length ≤ 9223372036854775807) = True := by rw [eq_iff_iff, iff_true]; omega
    refine fn_H ([Go.ResultVar.tmp 6, Go.ResultVar.tmp 7]) Tryz.func61 rfl rfl (by decide) fun ph hW Q hQ => ?_
    simp only [start, List.length_cons, List.length_nil, List.cons_append, List.nil_append, Nat.reduceAdd, Nat.reduceSub, List.replicate_succ, List.replicate_zero, Tryz.ntmps61]
    repeat' first
    | simp -implicitDefEqProofs (maxSteps := 400000) (disch := first | with_reducible rfl | omega | (simp only [h_n, PH.n_push, PH.n_put, List.length_cons, List.length_nil] <;> omega) | decide) only [wkAll, wkL, popO, wantedP, if_true, if_false, reduceIte, ne_eq, Nat.reduceAdd, Nat.reduceSub, Nat.reduceMul, Nat.reduceLeDiff, Nat.reduceLT, ofCells, ofCell, reduceCtorEq, Int.reduceLE, Int.reduceLT, Int.reduceToNat, Int.reduceAdd, Int.reduceSub, Int.reduceMul, Int.reduceNeg, Int.reduceBEq, Int.reduceBNe, Int.reduceEq, eqCell, eqCells, binP, unP, convP, lenP, builtinP, sliceDataP, unsafeStringP, appendT, appendS, appendP, copyP, srcP, mmsP, mmP, indexOp, indexAddrOp, sliceOp, bndsP, bndP, capw, capCut, loadOp, storeOp, loadP, fieldOp, fieldAddrOp, arrayAtOp, buildP, buildSliceP, makeSliceP, placeF, fillP, setL, PK.agg, isZero, gt_iff_lt, Nat.reducePow, Nat.reduceGT, reps, seg, wkN, if_pos, if_neg, tf3, Tryz.ze3, tf5, Tryz.ze5, tf9, Tryz.ze9, tf30, Tryz.ze30, pl61_11Gc5, qa, List.length_append, c1, c2, c3]
    | refine w_pure (f1) ?_
    | refine w_pure (f2) ?_
    | refine w_pure (b1) ?_
    | refine w_pure (b2) ?_
    | refine w_drawnF (id := 11) tb61_11Gc5 pl61_11Gc5 52 (by kernel_rfl) (by kernel_rfl) (by simp) ?_
    rw [← hF]
    have hz0 : bytesPV (elT (hsh (elB g) El.zero F 0)) = [.int .u8 0, .int .u8 0, .int .u8 0, .int .u8 0, .int .u8 0, .int .u8 0, .int .u8 0, .int .u8 0, .int .u8 0, .int .u8 0, .int .u8 0, .int .u8 0, .int .u8 0, .int .u8 0, .int .u8 0, .int .u8 0] := by rw [show hsh (elB g) El.zero F 0 = El.zero from rfl, elT_zero]; rfl
    refine w_loopJ (α := Nat × List (Option Blk)) ph.ob ph.ty (fun a => H ph a.2 ph.ob ph.ty) (fun B a => [.str g, .undef, .undef, .undef, .undef, .undef, .undef, .undef, .str F, .sl B.n 0 1 16 (some 16), .int .i64 ((16 * a.1 : Nat) : Int), .undef, .undef, .undef, .undef, .undef, .undef, .undef, .undef, .undef, .undef, .undef, .undef, .undef, .undef, .undef, .undef, .undef, .undef, .undef, .undef, .undef, .undef, .undef, .undef, .undef, .undef, .undef, .undef, .undef, .undef, .undef, .undef, .undef, .undef, .undef, .undef, .undef, .undef, .undef, .undef, .undef, .undef, .undef, .undef, .undef, .undef, .undef]) (fun a => [some (.own (bytesPV (elT (hsh (elB g) El.zero F a.1))))]) (fun a => a.1 ≤ N) (fun a => N - a.1) (0, []) (by simp) (fun a _ => by simp [h_n]; omega) (.eq (by simp [FadeTo, h_n]) (by rw [hz0]; simp [h_app])) ?_
    rintro ⟨j, J⟩ hj B hB K hK
    simp only at hj hB ⊢
    rcases Nat.lt_or_ge j N with hlt | hge
    · have hlt' : ((16 * j : Nat) : Int) < ((16 * N : Nat) : Int) := by omega
      have hK1 := fun J' tm ph' => hK (j + 1, J') tm ph' (by show j + 1 ≤ _; omega) (by show _ - (j + 1) < _ - j; omega)
      obtain ⟨x, hx⟩ : ∃ x, x = hsh (elB g) El.zero F j := ⟨_, rfl⟩
      obtain ⟨b, hb⟩ : ∃ b, b = (F.drop (16 * j)).take 16 := ⟨_, rfl⟩
      have hbl : b.length = 16 := by rw [hb, List.length_take, List.length_drop]; omega
      have hnx : hsh (elB g) El.zero F (j + 1) = hstep (elB g) x (elB b) := by rw [hx, hb]; rfl
      simp only [hnx] at hK1
      rw [← gt_step hbl hh] at hK1
      rw [← hx]
      have hXl := elT_len x
      generalize elT x = X at *
      have hxl : (xorB X b).length = X.length := by rw [xorB_len]; omega
      have hxl' : (xorB X b).length = 16 := by omega
      repeat' first
      | simp -implicitDefEqProofs (maxSteps := 400000) (disch := first | with_reducible rfl | omega | (simp only [h_n, PH.n_push, PH.n_put, List.length_cons, List.length_nil] <;> omega) | decide) only [wkAll, wkL, popO, wantedP, if_true, if_false, reduceIte, ne_eq, Nat.reduceAdd, Nat.reduceSub, Nat.reduceMul, Nat.reduceLeDiff, Nat.reduceLT, ofCells, ofCell, reduceCtorEq, Int.reduceLE, Int.reduceLT, Int.reduceToNat, Int.reduceAdd, Int.reduceSub, Int.reduceMul, Int.reduceNeg, Int.reduceBEq, Int.reduceBNe, Int.reduceEq, eqCell, eqCells, binP, unP, convP, lenP, builtinP, sliceDataP, unsafeStringP, appendT, appendS, appendP, copyP, srcP, mmsP, mmP, indexOp, indexAddrOp, sliceOp, bndsP, bndP, capw, capCut, loadOp, storeOp, loadP, fieldOp, fieldAddrOp, arrayAtOp, buildP, buildSliceP, makeSliceP, placeF, fillP, setL, PK.agg, isZero, gt_iff_lt, Nat.reducePow, Nat.reduceGT, reps, seg, wkN, if_pos, if_neg, tf3, Tryz.ze3, tf5, Tryz.ze5, tf9, Tryz.ze9, tf30, Tryz.ze30, pl61_11Gc5, hFl, hlt']
      | refine w_drawnF (id := 11) tb61_11Gc5 pl61_11Gc5 52 (by kernel_rfl) (by kernel_rfl) (by simp) ?_
      refine w_loopH (α := Nat) B ph.ob ph.ty (fun k => [.str g, .undef, .undef, .undef, .undef, .undef, .undef, .undef, .str F, .sl B.n 0 1 16 (some 16), .int .i64 ((16 * j : Nat) : Int), .int .i64 k, .undef, .undef, .undef, .undef, .undef, .undef, .undef, .undef, .undef, .undef, .undef, .undef, .undef, .undef, .undef, .undef, .undef, .undef, .undef, .undef, .undef, .undef, .undef, .undef, .undef, .undef, .undef, .undef, .undef, .undef, .undef, .undef, .undef, .undef, .undef, .undef, .undef, .undef, .undef, .undef, .undef, .undef, .undef, .undef, .undef, .undef]) (fun k => [some (.own (bytesPV (midB (xorB X b) X k)))]) (fun k => k ≤ 16) (fun k => 16 - k) 0 (by simp) (fun _ _ => by rw [hB]; simp [h_n]; omega) (.eq (by simp [FadeTo]) (by rw [midB_0])) ?_
      intro k hk K2 hK2
      have hml := midB_len hxl k
      rcases Nat.lt_or_ge k 16 with hk1 | hk1
      · have hk' : (k : Int) < 16 := by omega
        obtain ⟨u, hu⟩ := get_someW (show k < X.length by omega)
        obtain ⟨y, hy⟩ := get_someW (show k < b.length by omega)
        have hyF : F[16 * j + k]? = some y := by
          rw [hb, List.getElem?_take, if_pos hk1, List.getElem?_drop] at hy; exact hy
        have m1 : ((16 * j : Nat) : Int) + (k : Int) = ((16 * j + k : Nat) : Int) := by omega
        have m2 : ((16 * j + k : Nat) : Int) < ((16 * N : Nat) : Int) := by omega
        have hm : (xorB X b)[k]? = some (u ^^^ y) := by rw [xorB, List.getElem?_zipWith, hu, hy]
        have hma := midB_at hxl (i := k) (by omega)
        rw [hu] at hma
        have hms := midB_set (m := xorB X b) (l := X) (by omega) hm
        repeat' first
        | simp -implicitDefEqProofs (maxSteps := 400000) (disch := first | with_reducible rfl | omega | (simp only [h_n, PH.n_push, PH.n_put, List.length_cons, List.length_nil] <;> omega) | decide) only [wkAll, wkL, popO, wantedP, if_true, if_false, reduceIte, ne_eq, Nat.reduceAdd, Nat.reduceSub, Nat.reduceMul, Nat.reduceLeDiff, Nat.reduceLT, ofCells, ofCell, reduceCtorEq, Int.reduceLE, Int.reduceLT, Int.reduceToNat, Int.reduceAdd, Int.reduceSub, Int.reduceMul, Int.reduceNeg, Int.reduceBEq, Int.reduceBNe, Int.reduceEq, eqCell, eqCells, binP, unP, convP, lenP, builtinP, sliceDataP, unsafeStringP, appendT, appendS, appendP, copyP, srcP, mmsP, mmP, indexOp, indexAddrOp, sliceOp, bndsP, bndP, capw, capCut, loadOp, storeOp, loadP, fieldOp, fieldAddrOp, arrayAtOp, buildP, buildSliceP, makeSliceP, placeF, fillP, setL, PK.agg, isZero, gt_iff_lt, Nat.reducePow, Nat.reduceGT, reps, seg, wkN, if_pos, if_neg, tf3, Tryz.ze3, tf5, Tryz.ze5, tf9, Tryz.ze9, tf30, Tryz.ze30, pl61_11Gc5, hk', m1, m2, hFl, hyF, hml, hXl, hma, xor_u8, bytesPV_set, hms]
        | refine w_drawnF (id := 11) tb61_11Gc5 pl61_11Gc5 52 (by kernel_rfl) (by kernel_rfl) (by simp) ?_
        exact hK2 (k + 1) _ _ (by omega) (by omega) (.eq (by simp [FadeTo]) rfl)
      · have hk' : ¬ (k : Int) < 16 := by omega
        have : k = 16 := by omega
        subst this
        rw [midB_all (by omega) (by omega)]
        have m3 : ((16 * j : Nat) : Int) + 16 = ((16 * (j + 1) : Nat) : Int) := by omega
        repeat' first
        | simp -implicitDefEqProofs (maxSteps := 400000) (disch := first | with_reducible rfl | omega | (simp only [h_n, PH.n_push, PH.n_put, List.length_cons, List.length_nil] <;> omega) | decide) only [wkAll, wkL, popO, wantedP, if_true, if_false, reduceIte, ne_eq, Nat.reduceAdd, Nat.reduceSub, Nat.reduceMul, Nat.reduceLeDiff, Nat.reduceLT, ofCells, ofCell, reduceCtorEq, Int.reduceLE, Int.reduceLT, Int.reduceToNat, Int.reduceAdd, Int.reduceSub, Int.reduceMul, Int.reduceNeg, Int.reduceBEq, Int.reduceBNe, Int.reduceEq, eqCell, eqCells, binP, unP, convP, lenP, builtinP, sliceDataP, unsafeStringP, appendT, appendS, appendP, copyP, srcP, mmsP, mmP, indexOp, indexAddrOp, sliceOp, bndsP, bndP, capw, capCut, loadOp, storeOp, loadP, fieldOp, fieldAddrOp, arrayAtOp, buildP, buildSliceP, makeSliceP, placeF, fillP, setL, PK.agg, isZero, gt_iff_lt, Nat.reducePow, Nat.reduceGT, reps, seg, wkN, if_pos, if_neg, tf3, Tryz.ze3, tf5, Tryz.ze5, tf9, Tryz.ze9, tf30, Tryz.ze30, pl61_11Gc5, hk', hh, m3]
        | refine w_effA (refTimes9c_ok _ _ _ _ _ (xorB X b) g hxl' hh (by rw [h_get0]; rfl) (by rw [h_get]; rfl)) ?_
        | refine w_drawnF (id := 11) tb61_11Gc5 pl61_11Gc5 52 (by kernel_rfl) (by kernel_rfl) (by simp) ?_
        refine hK1 (J ++ [some (.own (bytesPV (xorB X b))), some (.own (bytesPV g))]) _ _ (.eq (by subst hB; simp [FadeTo, h_n, Nat.add_assoc] <;> omega) (by subst hB; simp [h_app]))
    · have : j = N := by omega
      subst this
      have hge' : ¬ ((16 * j : Nat) : Int) < ((16 * j : Nat) : Int) := by omega
      have hXl := elT_len (hsh (elB g) El.zero F j)
      generalize elT (hsh (elB g) El.zero F j) = X at *
      have k4 : List.take 16 (bytesPV X) = bytesPV X := List.take_of_length_le (by rw [bytesPV_len]; omega)
      repeat' first
      | simp -implicitDefEqProofs (maxSteps := 400000) (disch := first | with_reducible rfl | omega | (simp only [h_n, PH.n_push, PH.n_put, List.length_cons, List.length_nil] <;> omega) | decide) only [wkAll, wkL, popO, wantedP, if_true, if_false, reduceIte, ne_eq, Nat.reduceAdd, Nat.reduceSub, Nat.reduceMul, Nat.reduceLeDiff, Nat.reduceLT, ofCells, ofCell, reduceCtorEq, Int.reduceLE, Int.reduceLT, Int.reduceToNat, Int.reduceAdd, Int.reduceSub, Int.reduceMul, Int.reduceNeg, Int.reduceBEq, Int.reduceBNe, Int.reduceEq, eqCell, eqCells, binP, unP, convP, lenP, builtinP, sliceDataP, unsafeStringP, appendT, appendS, appendP, copyP, srcP, mmsP, mmP, indexOp, indexAddrOp, sliceOp, bndsP, bndP, capw, capCut, loadOp, storeOp, loadP, fieldOp, fieldAddrOp, arrayAtOp, buildP, buildSliceP, makeSliceP, placeF, fillP, setL, PK.agg, isZero, gt_iff_lt, Nat.reducePow, Nat.reduceGT, reps, seg, wkN, if_pos, if_neg, tf3, Tryz.ze3, tf5, Tryz.ze5, tf9, Tryz.ze9, tf30, Tryz.ze30, pl61_11Gc5, hFl, hge', k4, hXl, bytesX_bytesPV]
      | refine w_drawnF (id := 11) tb61_11Gc5 pl61_11Gc5 52 (by kernel_rfl) (by kernel_rfl) (by simp) ?_
      subst hB
      rw [h_app]
      refine hQ (by first | exact .inr rfl | exact .inl rfl) (by first | exact trivial | exact marks1) (by first | (simp -implicitDefEqProofs (maxSteps := 400000) (disch := first | with_reducible rfl | omega | (simp only [h_n, PH.n_push, PH.n_put, List.length_cons, List.length_nil] <;> omega) | decide) only [wkAll, wkL, popO, wantedP, if_true, if_false, reduceIte, ne_eq, Nat.reduceAdd, Nat.reduceSub, Nat.reduceMul, Nat.reduceLeDiff, Nat.reduceLT, ofCells, ofCell, reduceCtorEq, Int.reduceLE, Int.reduceLT, Int.reduceToNat, Int.reduceAdd, Int.reduceSub, Int.reduceMul, Int.reduceNeg, Int.reduceBEq, Int.reduceBNe, Int.reduceEq, eqCell, eqCells, binP, unP, convP, lenP, builtinP, sliceDataP, unsafeStringP, appendT, appendS, appendP, copyP, srcP, mmsP, mmP, indexOp, indexAddrOp, sliceOp, bndsP, bndP, capw, capCut, loadOp, storeOp, loadP, fieldOp, fieldAddrOp, arrayAtOp, buildP, buildSliceP, makeSliceP, placeF, fillP, setL, PK.agg, isZero, gt_iff_lt, Nat.reducePow, Nat.reduceGT, reps, seg, wkN, if_pos, if_neg, tf3, Tryz.ze3, tf5, Tryz.ze5, tf9, Tryz.ze9, tf30, Tryz.ze30, pl61_11Gc5, resP, resPs, resP1]; rfl) | rfl) ⟨6, by repeat' first | exact frz_scalar rfl | apply frz_tuple | apply frz_agg | apply frz_fsl | apply frz_gsl (by omega) | exact frzs_nil | apply frzs_cons⟩ (by first | exact keepsH0 | exact keeps1 (by assumption)) (nw_eq ?_)
      rfl
  · have qa := ne16_t hh
    rw [show ghashR g ad s = ([], 10) from if_neg hh]
    refine fn_H ([Go.ResultVar.tmp 6, Go.ResultVar.tmp 7]) Tryz.func61 rfl rfl (by decide) fun ph hW Q hQ => ?_
    simp only [start, List.length_cons, List.length_nil, List.cons_append, List.nil_append, Nat.reduceAdd, Nat.reduceSub, List.replicate_succ, List.replicate_zero, Tryz.ntmps61]
    repeat' first
    | simp -implicitDefEqProofs (maxSteps := 400000) (disch := first | with_reducible rfl | omega | (simp only [h_n, PH.n_push, PH.n_put, List.length_cons, List.length_nil] <;> omega) | decide) only [wkAll, wkL, popO, wantedP, if_true, if_false, reduceIte, ne_eq, Nat.reduceAdd, Nat.reduceSub, Nat.reduceMul, Nat.reduceLeDiff, Nat.reduceLT, ofCells, ofCell, reduceCtorEq, Int.reduceLE, Int.reduceLT, Int.reduceToNat, Int.reduceAdd, Int.reduceSub, Int.reduceMul, Int.reduceNeg, Int.reduceBEq, Int.reduceBNe, Int.reduceEq, eqCell, eqCells, binP, unP, convP, lenP, builtinP, sliceDataP, unsafeStringP, appendT, appendS, appendP, copyP, srcP, mmsP, mmP, indexOp, indexAddrOp, sliceOp, bndsP, bndP, capw, capCut, loadOp, storeOp, loadP, fieldOp, fieldAddrOp, arrayAtOp, buildP, buildSliceP, makeSliceP, placeF, fillP, setL, PK.agg, isZero, gt_iff_lt, Nat.reducePow, Nat.reduceGT, reps, seg, wkN, if_pos, if_neg, tf3, Tryz.ze3, tf5, Tryz.ze5, tf9, Tryz.ze9, tf30, Tryz.ze30, pl61_11Gc5, qa]
    | refine w_drawnF (id := 11) tb61_11Gc5 pl61_11Gc5 52 (by kernel_rfl) (by kernel_rfl) (by simp) ?_
    refine hQ (by first | exact .inr rfl | exact .inl rfl) (by first | exact trivial | exact marks1) (by first | (simp -implicitDefEqProofs (maxSteps := 400000) (disch := first | with_reducible rfl | omega | (simp only [h_n, PH.n_push, PH.n_put, List.length_cons, List.length_nil] <;> omega) | decide) only [wkAll, wkL, popO, wantedP, if_true, if_false, reduceIte, ne_eq, Nat.reduceAdd, Nat.reduceSub, Nat.reduceMul, Nat.reduceLeDiff, Nat.reduceLT, ofCells, ofCell, reduceCtorEq, Int.reduceLE, Int.reduceLT, Int.reduceToNat, Int.reduceAdd, Int.reduceSub, Int.reduceMul, Int.reduceNeg, Int.reduceBEq, Int.reduceBNe, Int.reduceEq, eqCell, eqCells, binP, unP, convP, lenP, builtinP, sliceDataP, unsafeStringP, appendT, appendS, appendP, copyP, srcP, mmsP, mmP, indexOp, indexAddrOp, sliceOp, bndsP, bndP, capw, capCut, loadOp, storeOp, loadP, fieldOp, fieldAddrOp, arrayAtOp, buildP, buildSliceP, makeSliceP, placeF, fillP, setL, PK.agg, isZero, gt_iff_lt, Nat.reducePow, Nat.reduceGT, reps, seg, wkN, if_pos, if_neg, tf3, Tryz.ze3, tf5, Tryz.ze5, tf9, Tryz.ze9, tf30, Tryz.ze30, pl61_11Gc5, resP, resPs, resP1]; rfl) | rfl) ⟨6, by repeat' first | exact frz_scalar rfl | apply frz_tuple | apply frz_agg | apply frz_fsl | apply frz_gsl (by omega) | exact frzs_nil | apply frzs_cons⟩ (by first | exact keepsH0 | exact keeps1 (by assumption)) (nw_eq ?_)
    rfl
end Pv
