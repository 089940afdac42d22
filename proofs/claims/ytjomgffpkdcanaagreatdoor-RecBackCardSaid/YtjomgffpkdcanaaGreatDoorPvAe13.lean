/- Part of the proof: the layer of pure values, or walks through functions (PvAe13, PvGcP). -/
import Derived.Test.YtjomgffpkdcanaaGreatDoorPvAe11
import Derived.Test.YtjomgffpkdcanaaGreatDoorPvGcE
set_option linter.all false
--nosplit
--keep2
namespace Pv
set_option maxRecDepth 20000
set_option maxHeartbeats 4000000
open Go Go.Proofs Go.RowKit
variable {w0 : World}

theorem add_u8_1 (x : UInt8) : IntKind.wrap .u8 ((x.toNat : Int) + 1) = ((x + 1).toNat : Int) := by
  have : ∀ c : Fin 256, IntKind.wrap .u8 ((c.val : Int) + 1) = (((UInt8.ofNat c.val) + 1).toNat : Int) := by decide +kernel
  have := this ⟨x.toNat, x.toNat_lt⟩
  simpa using this
theorem inc_step (b : List UInt8) (i : Nat) (x : UInt8) (h : b[i]? = some x) : incI b i = if x + 1 = 0 then (if i = 0 then b.set i (x + 1) else incI (b.set i (x + 1)) (i - 1)) else b.set i (x + 1) := by
  have hg : b.getD i 0 = x := by rw [List.getD_eq_getElem?_getD, h]; rfl
  cases i with
  | zero => rw [incI, hg]; simp
  | succ i => rw [incI, hg]; simp
/-- What Stream answers. -/
def strR (key s : List UInt8) (n : Int) : List UInt8 × Int := if n < 0 ∨ 65536 < n then ([], 13) else blockR key s (strL (wordsL key) s n.toNat)
/-- The counter being raised: m bytes are behind. -/
def IncInv (goal cur : List UInt8) (m : Nat) : Prop := cur.length = 16 ∧ m ≤ 16 ∧ if m = 16 then cur = goal else incI cur (15 - m) = goal
theorem stream_ok (key s : List UInt8) (n : Int) (hs : s.length < 2 ^ 62) : Fn (Cx w0) 48 [.str key, .str s, .int .i64 n] (.tuple [.str (strR key s n).1, .int .i64 (strR key s n).2]) := by
  by_cases hn0 : n < 0
  · have e : strR key s n = ([], 13) := by rw [strR, if_pos (.inl hn0)]
    rw [e]
    refine fn_H ([Go.ResultVar.tmp 6, Go.ResultVar.tmp 7]) Tryz.func48 rfl rfl (by decide) fun ph hW Q hQ => ?_
    simp only [start, List.length_cons, List.length_nil, List.cons_append, List.nil_append, Nat.reduceAdd, Nat.reduceSub, List.replicate_succ, List.replicate_zero, Tryz.ntmps48]
    repeat' first | simp -implicitDefEqProofs (maxSteps := 400000) (disch := first | with_reducible rfl | omega | (simp only [wkH] <;> omega) | decide) only [wkAll, wkL, popO, wantedP, if_true, if_false, reduceIte, ne_eq, Nat.reduceAdd, Nat.reduceSub, Nat.reduceMul, Nat.reduceLeDiff, Nat.reduceLT, ofCells, ofCell, reduceCtorEq, Int.reduceLE, Int.reduceLT, Int.reduceToNat, Int.reduceAdd, Int.reduceSub, Int.reduceMul, Int.reduceNeg, Int.reduceBEq, Int.reduceBNe, Int.reduceEq, eqCell, eqCells, binP, unP, convP, lenP, builtinP, sliceDataP, unsafeStringP, appendT, appendS, appendP, copyP, srcP, mmsP, mmP, indexOp, indexAddrOp, sliceOp, bndsP, bndP, capw, capCut, loadOp, storeOp, loadP, fieldOp, fieldAddrOp, arrayAtOp, buildP, buildSliceP, makeSliceP, placeF, fillP, setL, PK.agg, isZero, gt_iff_lt, Nat.reducePow, Nat.reduceGT, reps, seg, wkN, if_pos, if_neg, tf3, Tryz.ze3, tf5, Tryz.ze5, tf9, Tryz.ze9, tf29, Tryz.ze29, tf49, Tryz.ze49, tf117, Tryz.ze117, tf121, Tryz.ze121, hn0]
    refine hQ (by first | exact .inr rfl | exact .inl rfl) (by first | exact trivial | exact marks1) (by first | (simp -implicitDefEqProofs (maxSteps := 400000) (disch := first | with_reducible rfl | omega | (simp only [wkH] <;> omega) | decide) only [wkAll, wkL, popO, wantedP, if_true, if_false, reduceIte, ne_eq, Nat.reduceAdd, Nat.reduceSub, Nat.reduceMul, Nat.reduceLeDiff, Nat.reduceLT, ofCells, ofCell, reduceCtorEq, Int.reduceLE, Int.reduceLT, Int.reduceToNat, Int.reduceAdd, Int.reduceSub, Int.reduceMul, Int.reduceNeg, Int.reduceBEq, Int.reduceBNe, Int.reduceEq, eqCell, eqCells, loadOp, storeOp, loadP, setL, PK.agg, isZero, gt_iff_lt, Nat.reducePow, Nat.reduceGT, reps, seg, wkN, if_pos, if_neg, tf3, Tryz.ze3, tf5, Tryz.ze5, tf9, Tryz.ze9, tf29, Tryz.ze29, tf49, Tryz.ze49, tf117, Tryz.ze117, tf121, Tryz.ze121, resP, resPs, resP1]; rfl) | rfl) ⟨6, by repeat' first | exact frz_scalar rfl | apply frz_tuple | apply frz_agg | apply frz_fsl | apply frz_gsl (by omega) | exact frzs_nil | apply frzs_cons⟩ (by first | exact keepsH0 | exact keeps1 (by assumption)) (nw_eq ?_)
    rfl
  by_cases hn1 : 65536 < n
  · have e : strR key s n = ([], 13) := by rw [strR, if_pos (.inr hn1)]
    rw [e]
    refine fn_H ([Go.ResultVar.tmp 6, Go.ResultVar.tmp 7]) Tryz.func48 rfl rfl (by decide) fun ph hW Q hQ => ?_
    simp only [start, List.length_cons, List.length_nil, List.cons_append, List.nil_append, Nat.reduceAdd, Nat.reduceSub, List.replicate_succ, List.replicate_zero, Tryz.ntmps48]
    repeat' first | simp -implicitDefEqProofs (maxSteps := 400000) (disch := first | with_reducible rfl | omega | (simp only [wkH] <;> omega) | decide) only [wkAll, wkL, popO, wantedP, if_true, if_false, reduceIte, ne_eq, Nat.reduceAdd, Nat.reduceSub, Nat.reduceMul, Nat.reduceLeDiff, Nat.reduceLT, ofCells, ofCell, reduceCtorEq, Int.reduceLE, Int.reduceLT, Int.reduceToNat, Int.reduceAdd, Int.reduceSub, Int.reduceMul, Int.reduceNeg, Int.reduceBEq, Int.reduceBNe, Int.reduceEq, eqCell, eqCells, binP, unP, convP, lenP, builtinP, sliceDataP, unsafeStringP, appendT, appendS, appendP, copyP, srcP, mmsP, mmP, indexOp, indexAddrOp, sliceOp, bndsP, bndP, capw, capCut, loadOp, storeOp, loadP, fieldOp, fieldAddrOp, arrayAtOp, buildP, buildSliceP, makeSliceP, placeF, fillP, setL, PK.agg, isZero, gt_iff_lt, Nat.reducePow, Nat.reduceGT, reps, seg, wkN, if_pos, if_neg, tf3, Tryz.ze3, tf5, Tryz.ze5, tf9, Tryz.ze9, tf29, Tryz.ze29, tf49, Tryz.ze49, tf117, Tryz.ze117, tf121, Tryz.ze121, gt_iff_lt, hn0, hn1]
    refine hQ (by first | exact .inr rfl | exact .inl rfl) (by first | exact trivial | exact marks1) (by first | (simp -implicitDefEqProofs (maxSteps := 400000) (disch := first | with_reducible rfl | omega | (simp only [wkH] <;> omega) | decide) only [wkAll, wkL, popO, wantedP, if_true, if_false, reduceIte, ne_eq, Nat.reduceAdd, Nat.reduceSub, Nat.reduceMul, Nat.reduceLeDiff, Nat.reduceLT, ofCells, ofCell, reduceCtorEq, Int.reduceLE, Int.reduceLT, Int.reduceToNat, Int.reduceAdd, Int.reduceSub, Int.reduceMul, Int.reduceNeg, Int.reduceBEq, Int.reduceBNe, Int.reduceEq, eqCell, eqCells, loadOp, storeOp, loadP, setL, PK.agg, isZero, gt_iff_lt, Nat.reducePow, Nat.reduceGT, reps, seg, wkN, if_pos, if_neg, tf3, Tryz.ze3, tf5, Tryz.ze5, tf9, Tryz.ze9, tf29, Tryz.ze29, tf49, Tryz.ze49, tf117, Tryz.ze117, tf121, Tryz.ze121, resP, resPs, resP1]; rfl) | rfl) ⟨6, by repeat' first | exact frz_scalar rfl | apply frz_tuple | apply frz_agg | apply frz_fsl | apply frz_gsl (by omega) | exact frzs_nil | apply frzs_cons⟩ (by first | exact keepsH0 | exact keeps1 (by assumption)) (nw_eq ?_)
    rfl
  obtain ⟨N, rfl⟩ : ∃ N : Nat, n = (N : Int) := ⟨n.toNat, by omega⟩
  have e0 : strR key s (N : Int) = blockR key s (strL (wordsL key) s N) := by rw [strR, if_neg (by omega), Int.toNat_natCast]
  rw [e0]
  by_cases hk : goodK key
  · by_cases hb : s.length = 16
    · have hwl := words_len hk
      have e : blockR key s (strL (wordsL key) s N) = (strL (wordsL key) s N, 0) := by rw [blockR, if_neg (by simpa using hk), if_neg (by simpa using hb)]
      have en := fun (p : PH) (q : Nat) (bo : Bool) (b : List UInt8) (hbl : b.length = 16) (hh : p.get q = some (ciC key bo)) => encrypt8_ok (w0 := w0) p q key b bo hk hbl hh
      have hw16 : 16 ≤ (wordsL key).length := by rw [hwl]; rcases hk with h | h <;> omega
      rw [e]
      generalize wordsL key = w at *
      have q2 : ((s.length : Int) != 16) = false := by rw [bne_eq_false_iff_eq]; omega
      have k5 : List.take 16 (bytesPV s) = bytesPV s := List.take_of_length_le (by rw [bytesPV_len]; omega)
      have k3 : ∀ (l : List UInt8), l.length = 16 → ∀ c : List PV, c.length = 16 → setL c 0 (bytesPV l) = bytesPV l := fun l hl c hc => setL_all _ _ (by rw [hc, bytesPV_len, hl])
      have k3s := k3 s hb
      obtain ⟨b1, b2, q1, q0, hbb⟩ : ∃ b1 b2 : Bool, ((key.length : Int) != 16) = b1 ∧ ((key.length : Int) != 32) = b2 ∧ (b1 && b2) = false := ⟨_, _, rfl, rfl, by rcases hk with h | h <;> simp [h]⟩
      cases b1 <;> cases b2 <;> simp only [Bool.and_self, Bool.and_true, Bool.true_and, reduceCtorEq] at hbb
      all_goals
        refine fn_H ([Go.ResultVar.tmp 6, Go.ResultVar.tmp 7]) Tryz.func48 rfl rfl (by decide) fun ph hW Q hQ => ?_
        simp only [start, List.length_cons, List.length_nil, List.cons_append, List.nil_append, Nat.reduceAdd, Nat.reduceSub, List.replicate_succ, List.replicate_zero, Tryz.ntmps48]
        repeat' first | simp -implicitDefEqProofs (maxSteps := 400000) (disch := first | with_reducible rfl | omega | (simp only [wkH] <;> omega) | decide) only [wkAll, wkL, popO, wantedP, if_true, if_false, reduceIte, ne_eq, Nat.reduceAdd, Nat.reduceSub, Nat.reduceMul, Nat.reduceLeDiff, Nat.reduceLT, ofCells, ofCell, reduceCtorEq, Int.reduceLE, Int.reduceLT, Int.reduceToNat, Int.reduceAdd, Int.reduceSub, Int.reduceMul, Int.reduceNeg, Int.reduceBEq, Int.reduceBNe, Int.reduceEq, eqCell, eqCells, binP, unP, convP, lenP, builtinP, sliceDataP, unsafeStringP, appendT, appendS, appendP, copyP, srcP, mmsP, mmP, indexOp, indexAddrOp, sliceOp, bndsP, bndP, capw, capCut, loadOp, storeOp, loadP, fieldOp, fieldAddrOp, arrayAtOp, buildP, buildSliceP, makeSliceP, placeF, fillP, setL, PK.agg, isZero, gt_iff_lt, Nat.reducePow, Nat.reduceGT, reps, seg, wkN, if_pos, if_neg, tf3, Tryz.ze3, tf5, Tryz.ze5, tf9, Tryz.ze9, tf29, Tryz.ze29, tf49, Tryz.ze49, tf117, Tryz.ze117, tf121, Tryz.ze121, gt_iff_lt, hn0, hn1]
        refine w_inl ([Go.ResultVar.tmp 4, Go.ResultVar.tmp 5]) Tryz.func58 rfl rfl (by decide) fun _ hI => ?_
        simp only [start, List.length_cons, List.length_nil, List.cons_append, List.nil_append, Nat.reduceAdd, Nat.reduceSub, List.replicate_succ, List.replicate_zero, Tryz.ntmps58]
        repeat' first | simp -implicitDefEqProofs (maxSteps := 400000) (disch := first | with_reducible rfl | omega | (simp only [wkH] <;> omega) | decide) only [wkAll, wkL, popO, wantedP, if_true, if_false, reduceIte, ne_eq, Nat.reduceAdd, Nat.reduceSub, Nat.reduceMul, Nat.reduceLeDiff, Nat.reduceLT, ofCells, ofCell, reduceCtorEq, Int.reduceLE, Int.reduceLT, Int.reduceToNat, Int.reduceAdd, Int.reduceSub, Int.reduceMul, Int.reduceNeg, Int.reduceBEq, Int.reduceBNe, Int.reduceEq, eqCell, eqCells, binP, unP, convP, lenP, builtinP, sliceDataP, unsafeStringP, appendT, appendS, appendP, copyP, srcP, mmsP, mmP, indexOp, indexAddrOp, sliceOp, bndsP, bndP, capw, capCut, loadOp, storeOp, loadP, fieldOp, fieldAddrOp, arrayAtOp, buildP, buildSliceP, makeSliceP, placeF, fillP, setL, PK.agg, isZero, gt_iff_lt, Nat.reducePow, Nat.reduceGT, reps, seg, wkN, if_pos, if_neg, tf3, Tryz.ze3, tf5, Tryz.ze5, tf9, Tryz.ze9, tf21, Tryz.ze21, tf99, Tryz.ze99, tf121, Tryz.ze121, tf135, Tryz.ze135, tf137, Tryz.ze137, tf139, Tryz.ze139, tf141, Tryz.ze141, tf142, Tryz.ze142, tf143, Tryz.ze143, tf144, Tryz.ze144, tf146, Tryz.ze146, -buildP, -Tryz.ze146, bC, ciF_cok, q1, q0, q2]
        refine hI (by first | exact .inr rfl | exact .inl rfl) trivial (by first | (simp -implicitDefEqProofs (maxSteps := 400000) (disch := first | with_reducible rfl | omega | (simp only [wkH] <;> omega) | decide) only [wkAll, wkL, popO, wantedP, if_true, if_false, reduceIte, ne_eq, Nat.reduceAdd, Nat.reduceSub, Nat.reduceMul, Nat.reduceLeDiff, Nat.reduceLT, ofCells, ofCell, reduceCtorEq, Int.reduceLE, Int.reduceLT, Int.reduceToNat, Int.reduceAdd, Int.reduceSub, Int.reduceMul, Int.reduceNeg, Int.reduceBEq, Int.reduceBNe, Int.reduceEq, eqCell, eqCells, loadOp, storeOp, loadP, setL, PK.agg, isZero, gt_iff_lt, Nat.reducePow, Nat.reduceGT, reps, seg, wkN, if_pos, if_neg, tf3, Tryz.ze3, tf5, Tryz.ze5, tf9, Tryz.ze9, tf21, Tryz.ze21, tf99, Tryz.ze99, tf121, Tryz.ze121, tf135, Tryz.ze135, tf137, Tryz.ze137, tf139, Tryz.ze139, tf141, Tryz.ze141, tf142, Tryz.ze142, tf143, Tryz.ze143, tf144, Tryz.ze144, tf146, Tryz.ze146, resP, resPs, resP1]; rfl) | rfl) ?_
        repeat' first | simp -implicitDefEqProofs (maxSteps := 400000) (disch := first | with_reducible rfl | omega | (simp only [wkH] <;> omega) | decide) only [wkAll, wkL, popO, wantedP, if_true, if_false, reduceIte, ne_eq, Nat.reduceAdd, Nat.reduceSub, Nat.reduceMul, Nat.reduceLeDiff, Nat.reduceLT, ofCells, ofCell, reduceCtorEq, Int.reduceLE, Int.reduceLT, Int.reduceToNat, Int.reduceAdd, Int.reduceSub, Int.reduceMul, Int.reduceNeg, Int.reduceBEq, Int.reduceBNe, Int.reduceEq, eqCell, eqCells, binP, unP, convP, lenP, builtinP, sliceDataP, unsafeStringP, appendT, appendS, appendP, copyP, srcP, mmsP, mmP, indexOp, indexAddrOp, sliceOp, bndsP, bndP, capw, capCut, loadOp, storeOp, loadP, fieldOp, fieldAddrOp, arrayAtOp, buildP, buildSliceP, makeSliceP, placeF, fillP, setL, PK.agg, isZero, gt_iff_lt, Nat.reducePow, Nat.reduceGT, reps, seg, wkN, if_pos, if_neg, tf3, Tryz.ze3, tf5, Tryz.ze5, tf9, Tryz.ze9, tf29, Tryz.ze29, tf49, Tryz.ze49, tf117, Tryz.ze117, tf121, Tryz.ze121, k3s, k5, hb, bytesPV_cok]
        refine w_growL 1 5 [.undef, .undef, .int .i64 N, .undef, .undef, .undef, .undef, .undef, .ptr ph.n 0, .undef, .ptr (ph.n + 2) 0, .gsl (ph.n + 3) 1 0 [], .undef, .undef, .undef, .undef, .undef, .undef, .undef, .undef, .undef, .undef, .undef, .undef, .undef, .undef, .undef, .undef, .undef, .undef, .undef, .undef, .undef, .undef, .undef, .undef, .undef, .undef, .undef, .undef, .undef, .undef, .undef, .undef, .undef, .undef, .undef, .undef, .undef, .undef, .undef, .undef, .undef, .undef, .undef, .undef, .undef, .undef, .undef, .undef] [some (.own (ciC key false)), some (.own (bytesPV s)), some (.own (bytesPV s))] (by simp) (by simp [NilL]) (by simp [NilB]) ?_
        refine w_loopH (α := Nat) ph ph.ob ph.ty (fun j => [.undef, .undef, .int .i64 N, .undef, .undef, .undef, .undef, .undef, .ptr ph.n 0, .undef, .ptr (ph.n + 2) 0, .gsl (ph.n + 3) 1 (16 * j) (bytesPV (strK w s j)), .undef, .undef, .undef, .undef, .undef, .undef, .undef, .undef, .undef, .undef, .undef, .undef, .undef, .undef, .undef, .undef, .undef, .undef, .undef, .undef, .undef, .undef, .undef, .undef, .undef, .undef, .undef, .undef, .undef, .undef, .undef, .undef, .undef, .undef, .undef, .undef, .undef, .undef, .undef, .undef, .undef, .undef, .undef, .undef, .undef, .undef, .undef, .undef]) (fun j => [some (.own (ciC key (decide (0 < j)))), some (.own (bytesPV s)), some (.own (bytesPV (ctrL s j))), some (.grow 1 (16 * j) 5)]) (fun j => j ≤ (N + 15) / 16) (fun j => (N + 15) / 16 - j) 0 (by simp) (fun _ _ => by simp) (.eq (by simp [FadeTo, strK_0, bytesPV]) rfl) ?_
        intro j hj K hK
        have hcl := ctr_len hb j
        have hsl := strK_len hb hw16 j
        rcases Nat.lt_or_ge (16 * j) N with hlt | hge
        · have hlt' : ((16 * j : Nat) : Int) < (N : Int) := by omega
          obtain ⟨a, ha⟩ : ∃ a, a = ctrL s j := ⟨_, rfl⟩
          obtain ⟨u, hu⟩ : ∃ u, u = encB w a := ⟨_, rfl⟩
          have hul : u.length = 16 := by rw [hu]; exact encB_len (by rw [ha]; exact hcl) hw16
          have hsn : strK w s (j + 1) = strK w s j ++ u := by rw [strK_succ, hu, ha]
          have hcn : ctrL s (j + 1) = incI a 15 := by rw [ha]; rfl
          rw [← ha] at hcl ⊢
          have en1 := fun p hh => en p ph.n (decide (0 < j)) a hcl hh
          rw [← hu] at en1
          have k4 : List.take 16 (bytesPV u) = bytesPV u := List.take_of_length_le (by rw [bytesPV_len]; omega)
          have k6 : List.take 16 (bytesPV a) = bytesPV a := List.take_of_length_le (by rw [bytesPV_len]; omega)
          have k3u := k3 u hul
          have n16 : ((16 * j + 16) * 1 ≤ 140737488355328) = True := by simp; omega
          repeat' first | simp -implicitDefEqProofs (maxSteps := 400000) (disch := first | with_reducible rfl | omega | (simp only [wkH] <;> omega) | decide) only [wkAll, wkL, popO, wantedP, if_true, if_false, reduceIte, ne_eq, Nat.reduceAdd, Nat.reduceSub, Nat.reduceMul, Nat.reduceLeDiff, Nat.reduceLT, ofCells, ofCell, reduceCtorEq, Int.reduceLE, Int.reduceLT, Int.reduceToNat, Int.reduceAdd, Int.reduceSub, Int.reduceMul, Int.reduceNeg, Int.reduceBEq, Int.reduceBNe, Int.reduceEq, eqCell, eqCells, binP, unP, convP, lenP, builtinP, sliceDataP, unsafeStringP, appendT, appendS, appendP, copyP, srcP, mmsP, mmP, indexOp, indexAddrOp, sliceOp, bndsP, bndP, capw, capCut, loadOp, storeOp, loadP, fieldOp, fieldAddrOp, arrayAtOp, buildP, buildSliceP, makeSliceP, placeF, fillP, setL, PK.agg, isZero, gt_iff_lt, Nat.reducePow, Nat.reduceGT, reps, seg, wkN, if_pos, if_neg, tf3, Tryz.ze3, tf5, Tryz.ze5, tf9, Tryz.ze9, tf29, Tryz.ze29, tf49, Tryz.ze49, tf117, Tryz.ze117, tf121, Tryz.ze121, hlt', k3u, k4, k6, hul, hcl, bytesPV_cok, app_g] | refine w_eff (en1 _ (by rw [h_get0]; rfl)) ?_
          refine w_loopH (α := List UInt8 × Nat) ph ph.ob ph.ty (fun c => [.undef, .undef, .int .i64 N, .undef, .undef, .undef, .undef, .undef, .ptr ph.n 0, .undef, .ptr (ph.n + 2) 0, .gsl (ph.n + 3) 1 (16 * j + 16) (bytesPV (strK w s j) ++ bytesPV u), .undef, .int .i64 (15 - (c.2 : Int)), .undef, .undef, .undef, .undef, .undef, .undef, .undef, .undef, .undef, .undef, .undef, .undef, .undef, .undef, .undef, .undef, .undef, .undef, .undef, .undef, .undef, .undef, .undef, .undef, .undef, .undef, .undef, .undef, .undef, .undef, .undef, .undef, .undef, .undef, .undef, .undef, .undef, .undef, .undef, .undef, .undef, .undef, .undef, .undef, .undef, .undef]) (fun c => [some (.own (ciC key true)), some (.own (bytesPV s)), some (.own (bytesPV c.1)), some (.grow 1 (16 * j + 16) 5), some (.own (bytesPV u))]) (fun c => IncInv (incI a 15) c.1 c.2) (fun c => 16 - c.2) (a, 0) ⟨hcl, by omega, by simp⟩ (fun _ _ => by simp) (.eq (by simp [FadeTo]) rfl) ?_
          rintro ⟨c, m⟩ ⟨hc16, hm, hinv⟩ K2 hK2
          simp only at hc16 hm hinv ⊢
          rcases Nat.lt_or_ge m 16 with hm1 | hm1
          · rw [if_neg (by omega)] at hinv
            have g0 : (0 : Int) ≤ 15 - (m : Int) := by omega
            have g1 : (15 : Int) - (m : Int) = ((15 - m : Nat) : Int) := by omega
            have g2 : ((15 - m : Nat) : Int) < 16 := by omega
            have g3 : ((15 - m : Nat) : Int) - 1 = 15 - ((m + 1 : Nat) : Int) := by omega
            obtain ⟨i, hi⟩ : ∃ i, i = 15 - m := ⟨_, rfl⟩
            obtain ⟨x, hx⟩ := get_someW (show i < c.length by omega)
            have hst := inc_step c i x hx
            rw [← hi] at hinv g1 g2 g3
            have g4 : (0 : Int) ≤ (i : Int) := by omega
            rw [hinv] at hst
            have gl : (c.set i (x + 1)).length = 16 := by rw [List.length_set, hc16]
            have gx : (c.set i (x + 1))[i]? = some (x + 1) := List.getElem?_set_self (by omega)
            have e2 := ne0_u8 (x + 1)
            by_cases hx0 : x + 1 = 0
            · rw [if_pos hx0] at hst
              rw [decide_eq_false (by simpa using hx0)] at e2
              generalize hcs : c.set i (x + 1) = cs at *
              repeat' first | simp -implicitDefEqProofs (maxSteps := 400000) (disch := first | with_reducible rfl | omega | (simp only [wkH] <;> omega) | decide) only [wkAll, wkL, popO, wantedP, if_true, if_false, reduceIte, ne_eq, Nat.reduceAdd, Nat.reduceSub, Nat.reduceMul, Nat.reduceLeDiff, Nat.reduceLT, ofCells, ofCell, reduceCtorEq, Int.reduceLE, Int.reduceLT, Int.reduceToNat, Int.reduceAdd, Int.reduceSub, Int.reduceMul, Int.reduceNeg, Int.reduceBEq, Int.reduceBNe, Int.reduceEq, eqCell, eqCells, binP, unP, convP, lenP, builtinP, sliceDataP, unsafeStringP, appendT, appendS, appendP, copyP, srcP, mmsP, mmP, indexOp, indexAddrOp, sliceOp, bndsP, bndP, capw, capCut, loadOp, storeOp, loadP, fieldOp, fieldAddrOp, arrayAtOp, buildP, buildSliceP, makeSliceP, placeF, fillP, setL, PK.agg, isZero, gt_iff_lt, Nat.reducePow, Nat.reduceGT, reps, seg, wkN, if_pos, if_neg, tf3, Tryz.ze3, tf5, Tryz.ze5, tf9, Tryz.ze9, tf29, Tryz.ze29, tf49, Tryz.ze49, tf117, Tryz.ze117, tf121, Tryz.ze121, ge_iff_le, g0, g4, g1, g2, hx, hc16, add_u8_1, bytesPV_set, hcs, gx, gl, e2, g3]
              refine hK2 (cs, m + 1) _ _ ⟨gl, by omega, ?_⟩ (by show 16 - (m + 1) < 16 - m; omega) (.eq (by simp [FadeTo]) rfl)
              split
              · rw [if_pos (by omega)] at hst; exact hst.symm
              · rw [if_neg (by omega)] at hst; rw [hst, show 15 - (m + 1) = i - 1 by omega]
            · rw [if_neg hx0] at hst
              rw [decide_eq_true hx0] at e2
              generalize hcs : c.set i (x + 1) = cs at *
              repeat' first | simp -implicitDefEqProofs (maxSteps := 400000) (disch := first | with_reducible rfl | omega | (simp only [wkH] <;> omega) | decide) only [wkAll, wkL, popO, wantedP, if_true, if_false, reduceIte, ne_eq, Nat.reduceAdd, Nat.reduceSub, Nat.reduceMul, Nat.reduceLeDiff, Nat.reduceLT, ofCells, ofCell, reduceCtorEq, Int.reduceLE, Int.reduceLT, Int.reduceToNat, Int.reduceAdd, Int.reduceSub, Int.reduceMul, Int.reduceNeg, Int.reduceBEq, Int.reduceBNe, Int.reduceEq, eqCell, eqCells, binP, unP, convP, lenP, builtinP, sliceDataP, unsafeStringP, appendT, appendS, appendP, copyP, srcP, mmsP, mmP, indexOp, indexAddrOp, sliceOp, bndsP, bndP, capw, capCut, loadOp, storeOp, loadP, fieldOp, fieldAddrOp, arrayAtOp, buildP, buildSliceP, makeSliceP, placeF, fillP, setL, PK.agg, isZero, gt_iff_lt, Nat.reducePow, Nat.reduceGT, reps, seg, wkN, if_pos, if_neg, tf3, Tryz.ze3, tf5, Tryz.ze5, tf9, Tryz.ze9, tf29, Tryz.ze29, tf49, Tryz.ze49, tf117, Tryz.ze117, tf121, Tryz.ze121, ge_iff_le, g0, g4, g1, g2, hx, hc16, add_u8_1, bytesPV_set, hcs, gx, gl, e2, g3]
              refine hK (j + 1) _ _ (by omega) (by omega) (.cut [_] hW (by simp [FadeTo, hsn, bytesPV_append, Nat.mul_succ]) (by first | rfl | (simp [hcn, hst, Nat.mul_succ]; rfl) | simp [hcn, hst, Nat.mul_succ]) (by simp [scs_cons, scs_nil, sc_ptr, sc_fsl, sc_gsl, sc_sl, sc_agg, sc_func, sc_int, sc_bool, sc_str, sc_undef, sc_nilptr, sc_nilsl, sc_yield, sc_tuple, sc_fptr, scs_bytes, scs_append, scs_bytes, ciC_scs]) (by simp [scs_cons, scs_nil, sc_ptr, sc_fsl, sc_gsl, sc_sl, sc_agg, sc_func, sc_int, sc_bool, sc_str, sc_undef, sc_nilptr, sc_nilsl, sc_yield, sc_tuple, sc_fptr, scs_bytes, scs_append, scs_bytes, ciC_scs]))
          · have hm16 : m = 16 := by omega
            subst hm16
            rw [if_pos rfl] at hinv
            have g0 : ¬ (0 : Int) ≤ 15 - ((16 : Nat) : Int) := by omega
            repeat' first | simp -implicitDefEqProofs (maxSteps := 400000) (disch := first | with_reducible rfl | omega | (simp only [wkH] <;> omega) | decide) only [wkAll, wkL, popO, wantedP, if_true, if_false, reduceIte, ne_eq, Nat.reduceAdd, Nat.reduceSub, Nat.reduceMul, Nat.reduceLeDiff, Nat.reduceLT, ofCells, ofCell, reduceCtorEq, Int.reduceLE, Int.reduceLT, Int.reduceToNat, Int.reduceAdd, Int.reduceSub, Int.reduceMul, Int.reduceNeg, Int.reduceBEq, Int.reduceBNe, Int.reduceEq, eqCell, eqCells, binP, unP, convP, lenP, builtinP, sliceDataP, unsafeStringP, appendT, appendS, appendP, copyP, srcP, mmsP, mmP, indexOp, indexAddrOp, sliceOp, bndsP, bndP, capw, capCut, loadOp, storeOp, loadP, fieldOp, fieldAddrOp, arrayAtOp, buildP, buildSliceP, makeSliceP, placeF, fillP, setL, PK.agg, isZero, gt_iff_lt, Nat.reducePow, Nat.reduceGT, reps, seg, wkN, if_pos, if_neg, tf3, Tryz.ze3, tf5, Tryz.ze5, tf9, Tryz.ze9, tf29, Tryz.ze29, tf49, Tryz.ze49, tf117, Tryz.ze117, tf121, Tryz.ze121, ge_iff_le, g0]
            refine hK (j + 1) _ _ (by omega) (by omega) (.cut [_] hW (by simp [FadeTo, hsn, bytesPV_append, Nat.mul_succ]) (by first | rfl | (simp [hcn, hinv, Nat.mul_succ]; rfl) | simp [hcn, hinv, Nat.mul_succ]) (by simp [scs_cons, scs_nil, sc_ptr, sc_fsl, sc_gsl, sc_sl, sc_agg, sc_func, sc_int, sc_bool, sc_str, sc_undef, sc_nilptr, sc_nilsl, sc_yield, sc_tuple, sc_fptr, scs_bytes, scs_append, scs_bytes, ciC_scs]) (by simp [scs_cons, scs_nil, sc_ptr, sc_fsl, sc_gsl, sc_sl, sc_agg, sc_func, sc_int, sc_bool, sc_str, sc_undef, sc_nilptr, sc_nilsl, sc_yield, sc_tuple, sc_fptr, scs_bytes, scs_append, scs_bytes, ciC_scs]))
        · have hge' : ¬ ((16 * j : Nat) : Int) < (N : Int) := by omega
          have hj2 : j = (N + 15) / 16 := by omega
          have hst : (bytesPV (strK w s j)).take N = bytesPV (strL w s N) := by
            rw [strL_eq, ← hj2]; exact seg_bytes (strK w s j) 0 N
          have hsl2 : (strK w s j).length = 16 * j := hsl
          repeat' first | simp -implicitDefEqProofs (maxSteps := 400000) (disch := first | with_reducible rfl | omega | (simp only [wkH] <;> omega) | decide) only [wkAll, wkL, popO, wantedP, if_true, if_false, reduceIte, ne_eq, Nat.reduceAdd, Nat.reduceSub, Nat.reduceMul, Nat.reduceLeDiff, Nat.reduceLT, ofCells, ofCell, reduceCtorEq, Int.reduceLE, Int.reduceLT, Int.reduceToNat, Int.reduceAdd, Int.reduceSub, Int.reduceMul, Int.reduceNeg, Int.reduceBEq, Int.reduceBNe, Int.reduceEq, eqCell, eqCells, binP, unP, convP, lenP, builtinP, sliceDataP, unsafeStringP, appendT, appendS, appendP, copyP, srcP, mmsP, mmP, indexOp, indexAddrOp, sliceOp, bndsP, bndP, capw, capCut, loadOp, storeOp, loadP, fieldOp, fieldAddrOp, arrayAtOp, buildP, buildSliceP, makeSliceP, placeF, fillP, setL, PK.agg, isZero, gt_iff_lt, Nat.reducePow, Nat.reduceGT, reps, seg, wkN, if_pos, if_neg, tf3, Tryz.ze3, tf5, Tryz.ze5, tf9, Tryz.ze9, tf29, Tryz.ze29, tf49, Tryz.ze49, tf117, Tryz.ze117, tf121, Tryz.ze121, hge', hst, bytesX_bytesPV]
          refine hQ (by first | exact .inr rfl | exact .inl rfl) (by first | exact trivial | exact marks1) (by first | (simp -implicitDefEqProofs (maxSteps := 400000) (disch := first | with_reducible rfl | omega | (simp only [wkH] <;> omega) | decide) only [wkAll, wkL, popO, wantedP, if_true, if_false, reduceIte, ne_eq, Nat.reduceAdd, Nat.reduceSub, Nat.reduceMul, Nat.reduceLeDiff, Nat.reduceLT, ofCells, ofCell, reduceCtorEq, Int.reduceLE, Int.reduceLT, Int.reduceToNat, Int.reduceAdd, Int.reduceSub, Int.reduceMul, Int.reduceNeg, Int.reduceBEq, Int.reduceBNe, Int.reduceEq, eqCell, eqCells, loadOp, storeOp, loadP, setL, PK.agg, isZero, gt_iff_lt, Nat.reducePow, Nat.reduceGT, reps, seg, wkN, if_pos, if_neg, tf3, Tryz.ze3, tf5, Tryz.ze5, tf9, Tryz.ze9, tf29, Tryz.ze29, tf49, Tryz.ze49, tf117, Tryz.ze117, tf121, Tryz.ze121, resP, resPs, resP1]; rfl) | rfl) ⟨6, by repeat' first | exact frz_scalar rfl | apply frz_tuple | apply frz_agg | apply frz_fsl | apply frz_gsl (by omega) | exact frzs_nil | apply frzs_cons⟩ (by first | exact keepsH0 | exact keeps1 (by assumption)) (nw_eq ?_)
          rfl
    · have e : blockR key s (strL (wordsL key) s N) = ([], 10) := by rw [blockR, if_neg (by simpa using hk), if_pos hb]
      rw [e]
      have q2 : ((s.length : Int) != 16) = true := by rw [bne_iff_ne]; omega
      obtain ⟨b1, b2, q1, q0, hbb⟩ : ∃ b1 b2 : Bool, ((key.length : Int) != 16) = b1 ∧ ((key.length : Int) != 32) = b2 ∧ (b1 && b2) = false := ⟨_, _, rfl, rfl, by rcases hk with h | h <;> simp [h]⟩
      cases b1 <;> cases b2 <;> simp only [Bool.and_self, Bool.and_true, Bool.true_and, reduceCtorEq] at hbb
      all_goals
        refine fn_H ([Go.ResultVar.tmp 6, Go.ResultVar.tmp 7]) Tryz.func48 rfl rfl (by decide) fun ph hW Q hQ => ?_
        simp only [start, List.length_cons, List.length_nil, List.cons_append, List.nil_append, Nat.reduceAdd, Nat.reduceSub, List.replicate_succ, List.replicate_zero, Tryz.ntmps48]
        repeat' first | simp -implicitDefEqProofs (maxSteps := 400000) (disch := first | with_reducible rfl | omega | (simp only [wkH] <;> omega) | decide) only [wkAll, wkL, popO, wantedP, if_true, if_false, reduceIte, ne_eq, Nat.reduceAdd, Nat.reduceSub, Nat.reduceMul, Nat.reduceLeDiff, Nat.reduceLT, ofCells, ofCell, reduceCtorEq, Int.reduceLE, Int.reduceLT, Int.reduceToNat, Int.reduceAdd, Int.reduceSub, Int.reduceMul, Int.reduceNeg, Int.reduceBEq, Int.reduceBNe, Int.reduceEq, eqCell, eqCells, binP, unP, convP, lenP, builtinP, sliceDataP, unsafeStringP, appendT, appendS, appendP, copyP, srcP, mmsP, mmP, indexOp, indexAddrOp, sliceOp, bndsP, bndP, capw, capCut, loadOp, storeOp, loadP, fieldOp, fieldAddrOp, arrayAtOp, buildP, buildSliceP, makeSliceP, placeF, fillP, setL, PK.agg, isZero, gt_iff_lt, Nat.reducePow, Nat.reduceGT, reps, seg, wkN, if_pos, if_neg, tf3, Tryz.ze3, tf5, Tryz.ze5, tf9, Tryz.ze9, tf29, Tryz.ze29, tf49, Tryz.ze49, tf117, Tryz.ze117, tf121, Tryz.ze121, gt_iff_lt, hn0, hn1]
        refine w_inl ([Go.ResultVar.tmp 4, Go.ResultVar.tmp 5]) Tryz.func58 rfl rfl (by decide) fun _ hI => ?_
        simp only [start, List.length_cons, List.length_nil, List.cons_append, List.nil_append, Nat.reduceAdd, Nat.reduceSub, List.replicate_succ, List.replicate_zero, Tryz.ntmps58]
        repeat' first | simp -implicitDefEqProofs (maxSteps := 400000) (disch := first | with_reducible rfl | omega | (simp only [wkH] <;> omega) | decide) only [wkAll, wkL, popO, wantedP, if_true, if_false, reduceIte, ne_eq, Nat.reduceAdd, Nat.reduceSub, Nat.reduceMul, Nat.reduceLeDiff, Nat.reduceLT, ofCells, ofCell, reduceCtorEq, Int.reduceLE, Int.reduceLT, Int.reduceToNat, Int.reduceAdd, Int.reduceSub, Int.reduceMul, Int.reduceNeg, Int.reduceBEq, Int.reduceBNe, Int.reduceEq, eqCell, eqCells, binP, unP, convP, lenP, builtinP, sliceDataP, unsafeStringP, appendT, appendS, appendP, copyP, srcP, mmsP, mmP, indexOp, indexAddrOp, sliceOp, bndsP, bndP, capw, capCut, loadOp, storeOp, loadP, fieldOp, fieldAddrOp, arrayAtOp, buildP, buildSliceP, makeSliceP, placeF, fillP, setL, PK.agg, isZero, gt_iff_lt, Nat.reducePow, Nat.reduceGT, reps, seg, wkN, if_pos, if_neg, tf3, Tryz.ze3, tf5, Tryz.ze5, tf9, Tryz.ze9, tf21, Tryz.ze21, tf99, Tryz.ze99, tf121, Tryz.ze121, tf135, Tryz.ze135, tf137, Tryz.ze137, tf139, Tryz.ze139, tf141, Tryz.ze141, tf142, Tryz.ze142, tf143, Tryz.ze143, tf144, Tryz.ze144, tf146, Tryz.ze146, q1, q0, q2]
        refine hI (by first | exact .inr rfl | exact .inl rfl) trivial (by first | (simp -implicitDefEqProofs (maxSteps := 400000) (disch := first | with_reducible rfl | omega | (simp only [wkH] <;> omega) | decide) only [wkAll, wkL, popO, wantedP, if_true, if_false, reduceIte, ne_eq, Nat.reduceAdd, Nat.reduceSub, Nat.reduceMul, Nat.reduceLeDiff, Nat.reduceLT, ofCells, ofCell, reduceCtorEq, Int.reduceLE, Int.reduceLT, Int.reduceToNat, Int.reduceAdd, Int.reduceSub, Int.reduceMul, Int.reduceNeg, Int.reduceBEq, Int.reduceBNe, Int.reduceEq, eqCell, eqCells, loadOp, storeOp, loadP, setL, PK.agg, isZero, gt_iff_lt, Nat.reducePow, Nat.reduceGT, reps, seg, wkN, if_pos, if_neg, tf3, Tryz.ze3, tf5, Tryz.ze5, tf9, Tryz.ze9, tf21, Tryz.ze21, tf99, Tryz.ze99, tf121, Tryz.ze121, tf135, Tryz.ze135, tf137, Tryz.ze137, tf139, Tryz.ze139, tf141, Tryz.ze141, tf142, Tryz.ze142, tf143, Tryz.ze143, tf144, Tryz.ze144, tf146, Tryz.ze146, resP, resPs, resP1]; rfl) | rfl) ?_
        repeat' first | simp -implicitDefEqProofs (maxSteps := 400000) (disch := first | with_reducible rfl | omega | (simp only [wkH] <;> omega) | decide) only [wkAll, wkL, popO, wantedP, if_true, if_false, reduceIte, ne_eq, Nat.reduceAdd, Nat.reduceSub, Nat.reduceMul, Nat.reduceLeDiff, Nat.reduceLT, ofCells, ofCell, reduceCtorEq, Int.reduceLE, Int.reduceLT, Int.reduceToNat, Int.reduceAdd, Int.reduceSub, Int.reduceMul, Int.reduceNeg, Int.reduceBEq, Int.reduceBNe, Int.reduceEq, eqCell, eqCells, binP, unP, convP, lenP, builtinP, sliceDataP, unsafeStringP, appendT, appendS, appendP, copyP, srcP, mmsP, mmP, indexOp, indexAddrOp, sliceOp, bndsP, bndP, capw, capCut, loadOp, storeOp, loadP, fieldOp, fieldAddrOp, arrayAtOp, buildP, buildSliceP, makeSliceP, placeF, fillP, setL, PK.agg, isZero, gt_iff_lt, Nat.reducePow, Nat.reduceGT, reps, seg, wkN, if_pos, if_neg, tf3, Tryz.ze3, tf5, Tryz.ze5, tf9, Tryz.ze9, tf29, Tryz.ze29, tf49, Tryz.ze49, tf117, Tryz.ze117, tf121, Tryz.ze121]
        refine hQ (by first | exact .inr rfl | exact .inl rfl) (by first | exact trivial | exact marks1) (by first | (simp -implicitDefEqProofs (maxSteps := 400000) (disch := first | with_reducible rfl | omega | (simp only [wkH] <;> omega) | decide) only [wkAll, wkL, popO, wantedP, if_true, if_false, reduceIte, ne_eq, Nat.reduceAdd, Nat.reduceSub, Nat.reduceMul, Nat.reduceLeDiff, Nat.reduceLT, ofCells, ofCell, reduceCtorEq, Int.reduceLE, Int.reduceLT, Int.reduceToNat, Int.reduceAdd, Int.reduceSub, Int.reduceMul, Int.reduceNeg, Int.reduceBEq, Int.reduceBNe, Int.reduceEq, eqCell, eqCells, loadOp, storeOp, loadP, setL, PK.agg, isZero, gt_iff_lt, Nat.reducePow, Nat.reduceGT, reps, seg, wkN, if_pos, if_neg, tf3, Tryz.ze3, tf5, Tryz.ze5, tf9, Tryz.ze9, tf29, Tryz.ze29, tf49, Tryz.ze49, tf117, Tryz.ze117, tf121, Tryz.ze121, resP, resPs, resP1]; rfl) | rfl) ⟨6, by repeat' first | exact frz_scalar rfl | apply frz_tuple | apply frz_agg | apply frz_fsl | apply frz_gsl (by omega) | exact frzs_nil | apply frzs_cons⟩ (by first | exact keepsH0 | exact keeps1 (by assumption)) (nw_eq ?_)
        rfl
  · have e : blockR key s (strL (wordsL key) s N) = ([], 13) := by rw [blockR, if_pos hk]
    rw [e]
    obtain ⟨q1, q0⟩ := goodK_b hk
    refine fn_H ([Go.ResultVar.tmp 6, Go.ResultVar.tmp 7]) Tryz.func48 rfl rfl (by decide) fun ph hW Q hQ => ?_
    simp only [start, List.length_cons, List.length_nil, List.cons_append, List.nil_append, Nat.reduceAdd, Nat.reduceSub, List.replicate_succ, List.replicate_zero, Tryz.ntmps48]
    repeat' first | simp -implicitDefEqProofs (maxSteps := 400000) (disch := first | with_reducible rfl | omega | (simp only [wkH] <;> omega) | decide) only [wkAll, wkL, popO, wantedP, if_true, if_false, reduceIte, ne_eq, Nat.reduceAdd, Nat.reduceSub, Nat.reduceMul, Nat.reduceLeDiff, Nat.reduceLT, ofCells, ofCell, reduceCtorEq, Int.reduceLE, Int.reduceLT, Int.reduceToNat, Int.reduceAdd, Int.reduceSub, Int.reduceMul, Int.reduceNeg, Int.reduceBEq, Int.reduceBNe, Int.reduceEq, eqCell, eqCells, binP, unP, convP, lenP, builtinP, sliceDataP, unsafeStringP, appendT, appendS, appendP, copyP, srcP, mmsP, mmP, indexOp, indexAddrOp, sliceOp, bndsP, bndP, capw, capCut, loadOp, storeOp, loadP, fieldOp, fieldAddrOp, arrayAtOp, buildP, buildSliceP, makeSliceP, placeF, fillP, setL, PK.agg, isZero, gt_iff_lt, Nat.reducePow, Nat.reduceGT, reps, seg, wkN, if_pos, if_neg, tf3, Tryz.ze3, tf5, Tryz.ze5, tf9, Tryz.ze9, tf29, Tryz.ze29, tf49, Tryz.ze49, tf117, Tryz.ze117, tf121, Tryz.ze121, gt_iff_lt, hn0, hn1]
    refine w_inl ([Go.ResultVar.tmp 4, Go.ResultVar.tmp 5]) Tryz.func58 rfl rfl (by decide) fun _ hI => ?_
    simp only [start, List.length_cons, List.length_nil, List.cons_append, List.nil_append, Nat.reduceAdd, Nat.reduceSub, List.replicate_succ, List.replicate_zero, Tryz.ntmps58]
    repeat' first | simp -implicitDefEqProofs (maxSteps := 400000) (disch := first | with_reducible rfl | omega | (simp only [wkH] <;> omega) | decide) only [wkAll, wkL, popO, wantedP, if_true, if_false, reduceIte, ne_eq, Nat.reduceAdd, Nat.reduceSub, Nat.reduceMul, Nat.reduceLeDiff, Nat.reduceLT, ofCells, ofCell, reduceCtorEq, Int.reduceLE, Int.reduceLT, Int.reduceToNat, Int.reduceAdd, Int.reduceSub, Int.reduceMul, Int.reduceNeg, Int.reduceBEq, Int.reduceBNe, Int.reduceEq, eqCell, eqCells, binP, unP, convP, lenP, builtinP, sliceDataP, unsafeStringP, appendT, appendS, appendP, copyP, srcP, mmsP, mmP, indexOp, indexAddrOp, sliceOp, bndsP, bndP, capw, capCut, loadOp, storeOp, loadP, fieldOp, fieldAddrOp, arrayAtOp, buildP, buildSliceP, makeSliceP, placeF, fillP, setL, PK.agg, isZero, gt_iff_lt, Nat.reducePow, Nat.reduceGT, reps, seg, wkN, if_pos, if_neg, tf3, Tryz.ze3, tf5, Tryz.ze5, tf9, Tryz.ze9, tf21, Tryz.ze21, tf99, Tryz.ze99, tf121, Tryz.ze121, tf135, Tryz.ze135, tf137, Tryz.ze137, tf139, Tryz.ze139, tf141, Tryz.ze141, tf142, Tryz.ze142, tf143, Tryz.ze143, tf144, Tryz.ze144, tf146, Tryz.ze146, q1, q0]
    refine hI (by first | exact .inr rfl | exact .inl rfl) trivial (by first | (simp -implicitDefEqProofs (maxSteps := 400000) (disch := first | with_reducible rfl | omega | (simp only [wkH] <;> omega) | decide) only [wkAll, wkL, popO, wantedP, if_true, if_false, reduceIte, ne_eq, Nat.reduceAdd, Nat.reduceSub, Nat.reduceMul, Nat.reduceLeDiff, Nat.reduceLT, ofCells, ofCell, reduceCtorEq, Int.reduceLE, Int.reduceLT, Int.reduceToNat, Int.reduceAdd, Int.reduceSub, Int.reduceMul, Int.reduceNeg, Int.reduceBEq, Int.reduceBNe, Int.reduceEq, eqCell, eqCells, loadOp, storeOp, loadP, setL, PK.agg, isZero, gt_iff_lt, Nat.reducePow, Nat.reduceGT, reps, seg, wkN, if_pos, if_neg, tf3, Tryz.ze3, tf5, Tryz.ze5, tf9, Tryz.ze9, tf21, Tryz.ze21, tf99, Tryz.ze99, tf121, Tryz.ze121, tf135, Tryz.ze135, tf137, Tryz.ze137, tf139, Tryz.ze139, tf141, Tryz.ze141, tf142, Tryz.ze142, tf143, Tryz.ze143, tf144, Tryz.ze144, tf146, Tryz.ze146, resP, resPs, resP1]; rfl) | rfl) ?_
    repeat' first | simp -implicitDefEqProofs (maxSteps := 400000) (disch := first | with_reducible rfl | omega | (simp only [wkH] <;> omega) | decide) only [wkAll, wkL, popO, wantedP, if_true, if_false, reduceIte, ne_eq, Nat.reduceAdd, Nat.reduceSub, Nat.reduceMul, Nat.reduceLeDiff, Nat.reduceLT, ofCells, ofCell, reduceCtorEq, Int.reduceLE, Int.reduceLT, Int.reduceToNat, Int.reduceAdd, Int.reduceSub, Int.reduceMul, Int.reduceNeg, Int.reduceBEq, Int.reduceBNe, Int.reduceEq, eqCell, eqCells, binP, unP, convP, lenP, builtinP, sliceDataP, unsafeStringP, appendT, appendS, appendP, copyP, srcP, mmsP, mmP, indexOp, indexAddrOp, sliceOp, bndsP, bndP, capw, capCut, loadOp, storeOp, loadP, fieldOp, fieldAddrOp, arrayAtOp, buildP, buildSliceP, makeSliceP, placeF, fillP, setL, PK.agg, isZero, gt_iff_lt, Nat.reducePow, Nat.reduceGT, reps, seg, wkN, if_pos, if_neg, tf3, Tryz.ze3, tf5, Tryz.ze5, tf9, Tryz.ze9, tf29, Tryz.ze29, tf49, Tryz.ze49, tf117, Tryz.ze117, tf121, Tryz.ze121]
    refine hQ (by first | exact .inr rfl | exact .inl rfl) (by first | exact trivial | exact marks1) (by first | (simp -implicitDefEqProofs (maxSteps := 400000) (disch := first | with_reducible rfl | omega | (simp only [wkH] <;> omega) | decide) only [wkAll, wkL, popO, wantedP, if_true, if_false, reduceIte, ne_eq, Nat.reduceAdd, Nat.reduceSub, Nat.reduceMul, Nat.reduceLeDiff, Nat.reduceLT, ofCells, ofCell, reduceCtorEq, Int.reduceLE, Int.reduceLT, Int.reduceToNat, Int.reduceAdd, Int.reduceSub, Int.reduceMul, Int.reduceNeg, Int.reduceBEq, Int.reduceBNe, Int.reduceEq, eqCell, eqCells, loadOp, storeOp, loadP, setL, PK.agg, isZero, gt_iff_lt, Nat.reducePow, Nat.reduceGT, reps, seg, wkN, if_pos, if_neg, tf3, Tryz.ze3, tf5, Tryz.ze5, tf9, Tryz.ze9, tf29, Tryz.ze29, tf49, Tryz.ze49, tf117, Tryz.ze117, tf121, Tryz.ze121, resP, resPs, resP1]; rfl) | rfl) ⟨6, by repeat' first | exact frz_scalar rfl | apply frz_tuple | apply frz_agg | apply frz_fsl | apply frz_gsl (by omega) | exact frzs_nil | apply frzs_cons⟩ (by first | exact keepsH0 | exact keeps1 (by assumption)) (nw_eq ?_)
    rfl
end Pv

set_option linter.all false
namespace Pv
open Go
/-! ### What is sealed and opened: plain. -/
def gcS (w nonce s : List UInt8) : List UInt8 := xorB s (strL w (nonce ++ [0, 0, 0, 2]) s.length)
def gcH (w : List UInt8) : List UInt8 := encB w (zL 16)
def gcM (w nonce : List UInt8) : List UInt8 := encB w (nonce ++ [0, 0, 0, 1])
def gcT (w nonce ad c : List UInt8) : List UInt8 := xorB (elT (ghs (elB (gcH w)) ad c)) (gcM w nonce)
def sealG (key nonce ad s : List UInt8) : List UInt8 × Int :=
  if ¬ goodK key then ([], 13) else if nonce.length ≠ 12 then ([], 10) else if 65536 < s.length then ([], 12) else (gcS (wordsL key) nonce s ++ gcT (wordsL key) nonce ad (gcS (wordsL key) nonce s), 0)
def openG (key nonce ad s : List UInt8) : List UInt8 × Int :=
  if ¬ goodK key then ([], 13) else if nonce.length ≠ 12 then ([], 10) else if s.length < 16 then ([], 11) else if 65552 < s.length then ([], 12) else
  if gcT (wordsL key) nonce ad (s.take (s.length - 16)) = s.drop (s.length - 16) then (gcS (wordsL key) nonce (s.take (s.length - 16)), 0) else ([], 17)
theorem words16 {key : List UInt8} (hk : goodK key) : 16 ≤ (wordsL key).length := by rw [words_len hk]; rcases hk with h | h <;> omega
theorem gcH_len {w : List UInt8} (hw : 16 ≤ w.length) : (gcH w).length = 16 := encB_len (by rw [zL_len]) hw
theorem gcM_len {w nonce : List UInt8} (hw : 16 ≤ w.length) (h : nonce.length = 12) : (gcM w nonce).length = 16 := encB_len (by simp [h]) hw
theorem gcS_len {w nonce : List UInt8} (hw : 16 ≤ w.length) (h : nonce.length = 12) (s : List UInt8) : (gcS w nonce s).length = s.length := by rw [gcS, xorB_len, strL_len (by simp [h]) hw, Nat.min_self]
theorem gcT_len {w nonce : List UInt8} (hw : 16 ≤ w.length) (h : nonce.length = 12) (ad c : List UInt8) : (gcT w nonce ad c).length = 16 := by rw [gcT, xorB_len, elT_len, gcM_len hw h]; rfl

/-! #### There and back -/
theorem gcS_gcS {w nonce : List UInt8} (hw : 16 ≤ w.length) (h : nonce.length = 12) (s : List UInt8) : gcS w nonce (gcS w nonce s) = s := by
  rw [show gcS w nonce (gcS w nonce s) = xorB (gcS w nonce s) (strL w (nonce ++ [0, 0, 0, 2]) (gcS w nonce s).length) from rfl, gcS_len hw h, gcS, xorB_cancel _ _ (by rw [strL_len (by simp [h]) hw]; exact Nat.le_refl _)]
theorem seal_e (key nonce ad s : List UInt8) : (sealG key nonce ad s).2 = 0 ↔ goodK key ∧ nonce.length = 12 ∧ s.length ≤ 65536 := by
  unfold sealG
  by_cases hk : goodK key
  · rw [if_neg (by simpa using hk)]
    by_cases hn : nonce.length = 12
    · rw [if_neg (by simpa using hn)]
      by_cases hl : 65536 < s.length
      · rw [if_pos hl]; simp; omega
      · rw [if_neg hl]; simp [hk, hn]; omega
    · rw [if_pos hn]; simp [hn]
  · rw [if_pos hk]; simp [hk]
theorem seal_good {key nonce ad s : List UInt8} (hk : goodK key) (hn : nonce.length = 12) (hl : s.length ≤ 65536) : sealG key nonce ad s = (gcS (wordsL key) nonce s ++ gcT (wordsL key) nonce ad (gcS (wordsL key) nonce s), 0) := by
  rw [sealG, if_neg (by simpa using hk), if_neg (by simpa using hn), if_neg (by omega)]
theorem open_seal {key nonce ad s : List UInt8} (hk : goodK key) (hn : nonce.length = 12) (hl : s.length ≤ 65536) : openG key nonce ad (sealG key nonce ad s).1 = (s, 0) ∧ (sealG key nonce ad s).1.length = s.length + 16 := by
  have hw := words16 hk
  rw [seal_good hk hn hl]
  have h1 := gcS_len hw hn s
  have h2 := gcT_len hw hn ad (gcS (wordsL key) nonce s)
  have hlen : (gcS (wordsL key) nonce s ++ gcT (wordsL key) nonce ad (gcS (wordsL key) nonce s)).length = s.length + 16 := by rw [List.length_append, h1, h2]
  refine ⟨?_, hlen⟩
  show openG key nonce ad (gcS (wordsL key) nonce s ++ gcT (wordsL key) nonce ad (gcS (wordsL key) nonce s)) = _
  unfold openG
  have ht : (gcS (wordsL key) nonce s ++ gcT (wordsL key) nonce ad (gcS (wordsL key) nonce s)).take (s.length + 16 - 16) = gcS (wordsL key) nonce s := by
    rw [show s.length + 16 - 16 = (gcS (wordsL key) nonce s).length by omega, List.take_left]
  have hd : (gcS (wordsL key) nonce s ++ gcT (wordsL key) nonce ad (gcS (wordsL key) nonce s)).drop (s.length + 16 - 16) = gcT (wordsL key) nonce ad (gcS (wordsL key) nonce s) := by
    rw [show s.length + 16 - 16 = (gcS (wordsL key) nonce s).length by omega, List.drop_left]
  rw [if_neg (by simpa using hk), if_neg (by simpa using hn), hlen, if_neg (by omega), if_neg (by omega), ht, hd, if_pos rfl, gcS_gcS hw hn]
end Pv
