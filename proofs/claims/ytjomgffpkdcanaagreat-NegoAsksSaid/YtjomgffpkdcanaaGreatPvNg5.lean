/- Part of the proof: the layer of pure values, or walks through functions (PvNg5, PvNg6, PvNg7, PvNg8). -/
import Derived.Test.YtjomgffpkdcanaaGreatPvHk3
import Derived.Test.YtjomgffpkdcanaaGreatPvSha6
set_option linter.all false
--nosplit
--keep2
namespace Pv
set_option maxRecDepth 20000
set_option maxHeartbeats 4000000
open Go Go.Proofs Go.RowKit
variable {w0 : World}

theorem refExport16_ok (C : List PV) (st : Int) (x0 x1 x2 xe label ctx : List UInt8) (r : List PV) (n : Int) (h0 : C[0]? = some (.int .i64 st)) (hd : C.drop 33 = .str x0 :: .str x1 :: .str x2 :: .str xe :: r) (hC : C.length = 44) (hok : C.all cellOk = true) (hl : label.length < 2 ^ 48) (hc : ctx.length < 2 ^ 45) : Fn (Cx w0) 17 [.agg C, .str label, .str ctx, .int .i64 n] (.tuple [.str (tlL st xe label ctx n).1, .int .i64 (tlL st xe label ctx n).2]) := by
  have te := refExpo_ok (w0 := w0) x0 x1 x2 xe label ctx n hl hc
  by_cases h3 : st = 3
  · have h3' : (st != 3) = false := by rw [h3]; rfl
    rw [show tlL st xe label ctx n = expoL xe label ctx n by rw [tlL, if_pos h3]]
    refine fn_H ([Go.ResultVar.tmp 8, Go.ResultVar.tmp 9]) Tryz.func17 rfl rfl (by decide) fun ph hW Q hQ => ?_
    simp only [start, List.length_cons, List.length_nil, List.cons_append, List.nil_append, Nat.reduceAdd, Nat.reduceSub, List.replicate_succ, List.replicate_zero, Tryz.ntmps17]
    repeat' first | simp -implicitDefEqProofs (maxSteps := 400000) (disch := first | with_reducible rfl | omega | (simp only [wkH] <;> omega) | decide) only [wkAll, wkL, popO, wantedP, Nat.reduceAdd, Nat.reduceLeDiff, binP, loadOp, loadP, fieldAddrOp, PK.agg, seg, if_pos, if_neg, tf3, tf56, tf60, hC, hok, h0, hd, h3'] | refine w_pure (te) ?_
    refine hQ (by first | exact .inr rfl | exact .inl rfl) (by first | exact trivial | exact marks1) (by first | (simp -implicitDefEqProofs (maxSteps := 400000) (disch := first | with_reducible rfl | omega | (simp only [wkH] <;> omega) | decide) only [wkL, resP, resPs, resP1]; rfl) | rfl) ⟨6, by repeat' first | exact frz_scalar rfl | apply frz_tuple | apply frz_agg | apply frz_fsl | apply frz_gsl (by omega) | exact frzs_nil | apply frzs_cons⟩ (by first | exact keepsH0 | exact keeps1 (by assumption)) (nw_eq ?_)
    rfl
  · have h3' : (st != 3) = true := by rw [bne_iff_ne]; exact h3
    rw [show tlL st xe label ctx n = ([], 14) by rw [tlL, if_neg h3]]
    refine fn_H ([Go.ResultVar.tmp 8, Go.ResultVar.tmp 9]) Tryz.func17 rfl rfl (by decide) fun ph hW Q hQ => ?_
    simp only [start, List.length_cons, List.length_nil, List.cons_append, List.nil_append, Nat.reduceAdd, Nat.reduceSub, List.replicate_succ, List.replicate_zero, Tryz.ntmps17]
    repeat' first | simp -implicitDefEqProofs (maxSteps := 400000) (disch := first | with_reducible rfl | omega | (simp only [wkH] <;> omega) | decide) only [wkAll, wkL, popO, wantedP, Nat.reduceLeDiff, binP, loadOp, loadP, fieldAddrOp, PK.agg, seg, if_pos, if_neg, tf3, tf60, hC, hok, h0, h3']
    refine hQ (by first | exact .inr rfl | exact .inl rfl) (by first | exact trivial | exact marks1) (by first | (simp -implicitDefEqProofs (maxSteps := 400000) (disch := first | with_reducible rfl | omega | (simp only [wkH] <;> omega) | decide) only [wkL, resP, resPs, resP1]; rfl) | rfl) ⟨6, by repeat' first | exact frz_scalar rfl | apply frz_tuple | apply frz_agg | apply frz_fsl | apply frz_gsl (by omega) | exact frzs_nil | apply frzs_cons⟩ (by first | exact keepsH0 | exact keeps1 (by assumption)) (nw_eq ?_)
    rfl
def lbNts : List UInt8 := [69, 88, 80, 79, 82, 84, 69, 82, 45, 110, 101, 116, 119, 111, 114, 107, 45, 116, 105, 109, 101, 45, 115, 101, 99, 117, 114, 105, 116, 121]
def ctxL (a : Int) (i : UInt8) : List UInt8 := [0, 0] ++ twoL a ++ [i]
theorem label_err (s l d1 d2 : List UInt8) (n : Int) (h : d1.length = d2.length) : (labelL s l d1 n).2 = (labelL s l d2 n).2 := by
  have hi : (infoL l d1 n).2 = (infoL l d2 n).2 := by
    unfold infoL; rw [h]; split
    · rfl
    · split <;> rfl
  unfold labelL
  rw [hi]
  split
  · rfl
  · unfold expandL; split <;> rfl
theorem tl_err (st : Int) (xe l c1 c2 : List UInt8) (n : Int) : (tlL st xe l c1 n).2 = (tlL st xe l c2 n).2 := by
  unfold tlL
  split
  · unfold expoL
    split
    · split
      · rfl
      · exact label_err _ _ _ _ _ (by rw [of_len, of_len])
    · rfl
  · rfl
/-- A connection's two keys. -/
def keysL (st : Int) (xe : List UInt8) (a : Int) : List UInt8 × List UInt8 × Int :=
  if kszL a = 0 then ([], [], 13) else if (tlL st xe lbNts (ctxL a 0) (kszL a)).2 ≠ 0 then ([], [], (tlL st xe lbNts (ctxL a 0) (kszL a)).2) else ((tlL st xe lbNts (ctxL a 0) (kszL a)).1, (tlL st xe lbNts (ctxL a 1) (kszL a)).1, 0)
theorem ctxL_len (a : Int) (i : UInt8) : (ctxL a i).length = 5 := rfl
theorem kszL_a {a : Int} (h : kszL a ≠ 0) : a = 15 ∨ a = 17 := by
  unfold kszL at h
  split at h
  · exact .inl (by assumption)
  · split at h
    · exact .inr (by assumption)
    · exact absurd rfl h
end Pv

--nosplit
--keep2
namespace Pv
set_option maxRecDepth 20000
set_option maxHeartbeats 4000000
open Go Go.Proofs Go.RowKit
def tb16_13Ng6 : Tab := [[], [0], [], [2], [0, 1], [0, 1, 2, 3, 4], [0, 1, 2, 3, 4, 5]]
def pl16_13Ng6 : Plan := [(0, true, []), (1, true, []), (2, true, []), (3, true, []), (4, false, [2, 3]), (5, false, []), (6, false, [])]
def tb16_9Ng6 : Tab := [[], [], [], [2], [2, 3], [], [5], [5, 6], [5, 6, 7], [2, 3, 4, 5, 6, 7, 8], [], [1, 2, 3, 4, 5, 6, 7, 8, 9, 10], [1, 2, 3, 4, 5, 6, 7, 8, 9, 10, 11], [1, 2, 3, 4, 5, 6, 7, 8, 9, 10, 11, 12], [1, 2, 3, 4, 5, 6, 7, 8, 9, 10, 11, 12], [0, 1, 2, 3, 4, 5, 6, 7, 8, 9, 10, 11, 12, 13], [0, 1, 2, 3, 4, 5, 6, 7, 8, 9, 10, 11, 12, 13, 15], [0, 1, 2, 3, 4, 5, 6, 7, 8, 9, 10, 11, 12, 13, 14, 15, 16]]
def pl16_9Ng6 : PT := (.mv 0 (.mv 1 (.mv 2 (.mv 5 (.mv 6 (.mv 10 (.fx 3 [0, 1, 5, 6, 10] (.mv 4 (.fx 7 [0, 1, 10, 4] (.mv 8 (.mv 9 (.fx 11 [0] (.mv 12 (.mv 13 (.mv 14 (.mv 15 (.fx 16 [14] (.fx 17 [] .nil .no) .no))))) .no))) .no)) (.fx 7 [0, 1, 2, 10] (.mv 8 (.fx 3 [0, 1, 10, 8] (.mv 4 (.mv 9 (.fx 11 [0] (.mv 12 (.mv 13 (.mv 14 (.mv 15 (.fx 16 [14] (.fx 17 [] .nil .no) .no))))) .no))) .no)) .no))))))))
variable {w0 : World}

def kq (A B : List UInt8) : Nat → List PV
  | 0 => [.str [], .str []]
  | 1 => [.str A, .str []]
  | _ => [.str A, .str B]
theorem negoKeys_ok (C : List PV) (st a : Int) (x0 x1 x2 xe : List UInt8) (r : List PV) (h0 : C[0]? = some (.int .i64 st)) (hd : C.drop 33 = .str x0 :: .str x1 :: .str x2 :: .str xe :: r) (hC : C.length = 44) (hok : C.all cellOk = true) (hsc : ∀ m, Scs m C) : Fn (Cx w0) 16 [.agg C, .int .i64 a] (.tuple [.str (keysL st xe a).1, .str (keysL st xe a).2.1, .int .i64 (keysL st xe a).2.2]) := by
  have tk := negoKeySize_ok (w0 := w0) a
  have hdd : C.take 44 = C := List.take_of_length_le (by omega)
  by_cases h1 : kszL a = 0
  · have h1' : (kszL a == 0) = true := by rw [h1]; rfl
    rw [show keysL st xe a = ([], [], 13) by rw [keysL, if_pos h1]]
    refine fn_H ([Go.ResultVar.tmp 4, Go.ResultVar.tmp 5, Go.ResultVar.tmp 6]) Tryz.func16 rfl rfl (by decide) fun ph hW Q hQ => ?_
    simp only [start, List.length_cons, List.length_nil, List.cons_append, List.nil_append, Nat.reduceAdd, Nat.reduceSub, List.replicate_succ, List.replicate_zero, Tryz.ntmps16]
    repeat' first | simp -implicitDefEqProofs (maxSteps := 400000) (disch := first | with_reducible rfl | omega | (simp only [wkH] <;> omega) | decide) only [wkAll, wkL, popO, wantedP, binP, if_pos, hok, h1'] | refine w_pure (tk) ?_ | refine And.intro ?_ ?_ | refine w_drawnTF (id := 9) tb16_9Ng6 pl16_9Ng6 [0, 1, 2, 3, 4, 5, 6, 7, 8, 9, 10, 11, 12, 13, 14, 15, 16, 17] 34 (by kernel_rfl) (by kernel_rfl) (by simp) ?_ | refine w_drawnF (id := 13) tb16_13Ng6 pl16_13Ng6 42 (by kernel_rfl) (by kernel_rfl) (by simp) ?_
    refine hQ (by first | exact .inr rfl | exact .inl rfl) (by first | exact trivial | exact marks1) (by first | (simp -implicitDefEqProofs (maxSteps := 400000) (disch := first | with_reducible rfl | omega | (simp only [wkH] <;> omega) | decide) only [wkL, resP, resPs, resP1]; rfl) | rfl) ⟨6, by repeat' first | exact frz_scalar rfl | apply frz_tuple | apply frz_agg | apply frz_fsl | apply frz_gsl (by omega) | exact frzs_nil | apply frzs_cons⟩ (by first | exact keepsH0 | exact keeps1 (by assumption)) (nw_eq ?_)
    rfl
  · have h1' : (kszL a == 0) = false := by rw [beq_eq_false_iff_ne]; exact h1
    have tt := negoTwo_ok (w0 := w0) a (by rcases kszL_a h1 with rfl | rfl <;> decide)
    have tl := twoL_len a
    have e1 := tlsExport_ok (w0 := w0) C st x0 x1 x2 xe lbNts (ctxL a 0) r (kszL a) h0 hd hC hok (by decide) (by rw [ctxL_len]; decide)
    have e2 := tlsExport_ok (w0 := w0) C st x0 x1 x2 xe lbNts (ctxL a 1) r (kszL a) h0 hd hC hok (by decide) (by rw [ctxL_len]; decide)
    have b0 : bytesX [PV.int .u8 0] = some [0] := bytesX_bytesPV [0]
    have b1 : bytesX [PV.int .u8 1] = some [1] := bytesX_bytesPV [1]
    have her := tl_err st xe lbNts (ctxL a 0) (ctxL a 1) (kszL a)
    by_cases h2 : (tlL st xe lbNts (ctxL a 0) (kszL a)).2 = 0
    · rw [show keysL st xe a = ((tlL st xe lbNts (ctxL a 0) (kszL a)).1, (tlL st xe lbNts (ctxL a 1) (kszL a)).1, 0) by rw [keysL, if_neg h1, if_neg (by simpa using h2)]]
      generalize tlL st xe lbNts (ctxL a 0) (kszL a) = A at *
      generalize tlL st xe lbNts (ctxL a 1) (kszL a) = B at *
      rw [← her, h2] at e2
      rw [h2] at e1
      unfold ctxL lbNts at e1 e2
      generalize twoL a = T at *
      refine fn_H ([Go.ResultVar.tmp 4, Go.ResultVar.tmp 5, Go.ResultVar.tmp 6]) Tryz.func16 rfl rfl (by decide) fun ph hW Q hQ => ?_
      simp only [start, List.length_cons, List.length_nil, List.cons_append, List.nil_append, Nat.reduceAdd, Nat.reduceSub, List.replicate_succ, List.replicate_zero, Tryz.ntmps16]
      repeat' first | simp -implicitDefEqProofs (maxSteps := 400000) (disch := first | with_reducible rfl | omega | (simp only [wkH] <;> omega) | decide) only [wkAll, wkL, popO, wantedP, binP, if_pos, if_neg, tf90, Tryz.ze90, hok, h1'] | refine w_pure (tk) ?_ | refine And.intro ?_ ?_ | refine w_drawnTF (id := 9) tb16_9Ng6 pl16_9Ng6 [0, 1, 2, 3, 4, 5, 6, 7, 8, 9, 10, 11, 12, 13, 14, 15, 16, 17] 34 (by kernel_rfl) (by kernel_rfl) (by simp) ?_ | refine w_drawnF (id := 13) tb16_13Ng6 pl16_13Ng6 42 (by kernel_rfl) (by kernel_rfl) (by simp) ?_
      refine w_loopH (α := Nat) ph ph.ob ph.ty (fun i => [.undef, .int .i64 a, .ptr ph.n 0, .undef, .undef, .undef, .undef, .int .i64 (kszL a), .ptr (ph.n + 1) 0, .undef, .undef, .undef, .undef, .undef, .undef, .int .i64 i, .undef, .undef, .undef, .undef, .undef, .undef, .undef, .undef, .undef, .undef, .undef, .undef, .undef, .undef, .undef, .undef, .undef, .undef, .undef, .undef, .undef, .undef, .undef, .undef, .undef, .undef]) (fun i => [some (.own C), some (.own (kq A.1 B.1 i))]) (fun i => i ≤ 2) (fun i => 2 - i) 0 (by simp) (fun _ _ => by simp) (.eq (by simp [FadeTo]) rfl) ?_
      intro i hi K hK
      rcases (show i = 0 ∨ i = 1 ∨ i = 2 by omega) with rfl | rfl | rfl
      ·
        repeat' first | simp -implicitDefEqProofs (maxSteps := 400000) (disch := first | with_reducible rfl | omega | (simp only [wkH] <;> omega) | decide) only [wkAll, wkL, popO, wantedP, ne_eq, Nat.reduceAdd, Nat.reduceLeDiff, Nat.reduceLT, Int.reduceLE, Int.reduceLT, Int.reduceToNat, Int.reduceAdd, binP, convP, indexAddrOp, loadOp, storeOp, loadP, buildSliceP, fillP, setL, PK.agg, gt_iff_lt, Nat.reducePow, reps, seg, wkN, if_pos, if_neg, t_nil, t_no, t_mv, t_fx, t_op, t_true, t_mvk, t_se, tf3, tf5, Tryz.ze5, tf9, tf60, tf90, tf92, pl16_9Ng6, hC, hdd, tl, kq] | refine w_pure (tt) ?_ | refine w_pure (e1) ?_ | refine And.intro ?_ ?_ | refine w_drawnTF (id := 9) tb16_9Ng6 pl16_9Ng6 [0, 1, 2, 3, 4, 5, 6, 7, 8, 9, 10, 11, 12, 13, 14, 15, 16, 17] 34 (by kernel_rfl) (by kernel_rfl) (by simp) ?_ | refine w_drawnF (id := 13) tb16_13Ng6 pl16_13Ng6 42 (by kernel_rfl) (by kernel_rfl) (by simp) ?_
        all_goals exact hK 1 _ _ (by omega) (by omega) (.cut [_] hW (by simp [FadeTo]) rfl (by simp [scs_cons, scs_nil, sc_ptr, sc_int, sc_undef]) (by simp [hsc, kq, scs_cons, scs_nil, sc_str]))
      ·
        repeat' first | simp -implicitDefEqProofs (maxSteps := 400000) (disch := first | with_reducible rfl | omega | (simp only [wkH] <;> omega) | decide) only [wkAll, wkL, popO, wantedP, ne_eq, Nat.reduceAdd, Nat.reduceLeDiff, Nat.reduceLT, Int.reduceLE, Int.reduceLT, Int.reduceToNat, Int.reduceAdd, binP, convP, indexAddrOp, loadOp, storeOp, loadP, buildSliceP, fillP, setL, PK.agg, gt_iff_lt, Nat.reducePow, reps, seg, wkN, if_pos, if_neg, t_nil, t_no, t_mv, t_fx, t_op, t_true, t_mvk, t_se, tf3, tf5, Tryz.ze5, tf9, tf60, tf90, tf92, pl16_9Ng6, hC, hdd, tl, kq] | refine w_pure (tt) ?_ | refine w_pure (e2) ?_ | refine And.intro ?_ ?_ | refine w_drawnTF (id := 9) tb16_9Ng6 pl16_9Ng6 [0, 1, 2, 3, 4, 5, 6, 7, 8, 9, 10, 11, 12, 13, 14, 15, 16, 17] 34 (by kernel_rfl) (by kernel_rfl) (by simp) ?_ | refine w_drawnF (id := 13) tb16_13Ng6 pl16_13Ng6 42 (by kernel_rfl) (by kernel_rfl) (by simp) ?_
        all_goals exact hK 2 _ _ (by omega) (by omega) (.cut [_] hW (by simp [FadeTo]) rfl (by simp [scs_cons, scs_nil, sc_ptr, sc_int, sc_undef]) (by simp [hsc, kq, scs_cons, scs_nil, sc_str]))
      ·
        repeat' first | simp -implicitDefEqProofs (maxSteps := 400000) (disch := first | with_reducible rfl | omega | (simp only [wkH] <;> omega) | decide) only [wkAll, wkL, popO, wantedP, Nat.reduceAdd, Nat.reduceLeDiff, Int.reduceLE, Int.reduceLT, Int.reduceToNat, binP, indexAddrOp, loadOp, loadP, PK.agg, seg, wkN, if_pos, if_neg, tf9, tf90, pl16_13Ng6, kq] | refine And.intro ?_ ?_ | refine w_drawnTF (id := 9) tb16_9Ng6 pl16_9Ng6 [0, 1, 2, 3, 4, 5, 6, 7, 8, 9, 10, 11, 12, 13, 14, 15, 16, 17] 34 (by kernel_rfl) (by kernel_rfl) (by simp) ?_ | refine w_drawnF (id := 13) tb16_13Ng6 pl16_13Ng6 42 (by kernel_rfl) (by kernel_rfl) (by simp) ?_
        all_goals
          refine hQ (by first | exact .inr rfl | exact .inl rfl) (by first | exact trivial | exact marks1) (by first | (simp -implicitDefEqProofs (maxSteps := 400000) (disch := first | with_reducible rfl | omega | (simp only [wkH] <;> omega) | decide) only [wkL, resP, resPs, resP1]; rfl) | rfl) ⟨6, by repeat' first | exact frz_scalar rfl | apply frz_tuple | apply frz_agg | apply frz_fsl | apply frz_gsl (by omega) | exact frzs_nil | apply frzs_cons⟩ (by first | exact keepsH0 | exact keeps1 (by assumption)) (nw_eq ?_)
          rfl
    · have h2' : ((tlL st xe lbNts (ctxL a 0) (kszL a)).2 != 0) = true := by rw [bne_iff_ne]; exact h2
      rw [show keysL st xe a = ([], [], (tlL st xe lbNts (ctxL a 0) (kszL a)).2) by rw [keysL, if_neg h1, if_pos h2]]
      generalize tlL st xe lbNts (ctxL a 0) (kszL a) = A at *
      unfold ctxL lbNts at e1
      generalize twoL a = T at *
      refine fn_H ([Go.ResultVar.tmp 4, Go.ResultVar.tmp 5, Go.ResultVar.tmp 6]) Tryz.func16 rfl rfl (by decide) fun ph hW Q hQ => ?_
      simp only [start, List.length_cons, List.length_nil, List.cons_append, List.nil_append, Nat.reduceAdd, Nat.reduceSub, List.replicate_succ, List.replicate_zero, Tryz.ntmps16]
      repeat' first | simp -implicitDefEqProofs (maxSteps := 400000) (disch := first | with_reducible rfl | omega | (simp only [wkH] <;> omega) | decide) only [wkAll, wkL, popO, wantedP, binP, if_pos, if_neg, tf90, Tryz.ze90, hok, h1'] | refine w_pure (tk) ?_ | refine And.intro ?_ ?_ | refine w_drawnTF (id := 9) tb16_9Ng6 pl16_9Ng6 [0, 1, 2, 3, 4, 5, 6, 7, 8, 9, 10, 11, 12, 13, 14, 15, 16, 17] 34 (by kernel_rfl) (by kernel_rfl) (by simp) ?_ | refine w_drawnF (id := 13) tb16_13Ng6 pl16_13Ng6 42 (by kernel_rfl) (by kernel_rfl) (by simp) ?_
      refine w_loopH (α := Nat) ph ph.ob ph.ty (fun i => [.undef, .int .i64 a, .ptr ph.n 0, .undef, .undef, .undef, .undef, .int .i64 (kszL a), .ptr (ph.n + 1) 0, .undef, .undef, .undef, .undef, .undef, .undef, .int .i64 i, .undef, .undef, .undef, .undef, .undef, .undef, .undef, .undef, .undef, .undef, .undef, .undef, .undef, .undef, .undef, .undef, .undef, .undef, .undef, .undef, .undef, .undef, .undef, .undef, .undef, .undef]) (fun i => [some (.own C), some (.own (kq [] [] i))]) (fun i => i = 0) (fun i => 2 - i) 0 rfl (fun _ _ => by simp) (.eq (by simp [FadeTo]) rfl) ?_
      intro i hi K hK
      subst hi
      repeat' first | simp -implicitDefEqProofs (maxSteps := 400000) (disch := first | with_reducible rfl | omega | (simp only [wkH] <;> omega) | decide) only [wkAll, wkL, popO, wantedP, ne_eq, Nat.reduceAdd, Nat.reduceLeDiff, Nat.reduceLT, Int.reduceLE, Int.reduceLT, Int.reduceToNat, binP, convP, indexAddrOp, loadOp, storeOp, loadP, buildSliceP, fillP, setL, PK.agg, gt_iff_lt, Nat.reducePow, reps, seg, wkN, if_pos, if_neg, t_nil, t_no, t_mv, t_fx, t_op, t_true, t_mvk, t_se, tf3, tf5, Tryz.ze5, tf9, tf60, tf90, tf92, pl16_9Ng6, hC, hdd, tl, h2', kq] | refine w_pure (tt) ?_ | refine w_pure (e1) ?_ | refine And.intro ?_ ?_ | refine w_drawnTF (id := 9) tb16_9Ng6 pl16_9Ng6 [0, 1, 2, 3, 4, 5, 6, 7, 8, 9, 10, 11, 12, 13, 14, 15, 16, 17] 34 (by kernel_rfl) (by kernel_rfl) (by simp) ?_ | refine w_drawnF (id := 13) tb16_13Ng6 pl16_13Ng6 42 (by kernel_rfl) (by kernel_rfl) (by simp) ?_
      all_goals
        refine hQ (by first | exact .inr rfl | exact .inl rfl) (by first | exact trivial | exact marks1) (by first | (simp -implicitDefEqProofs (maxSteps := 400000) (disch := first | with_reducible rfl | omega | (simp only [wkH] <;> omega) | decide) only [wkL, resP, resPs, resP1]; rfl) | rfl) ⟨6, by repeat' first | exact frz_scalar rfl | apply frz_tuple | apply frz_agg | apply frz_fsl | apply frz_gsl (by omega) | exact frzs_nil | apply frzs_cons⟩ (by first | exact keepsH0 | exact keeps1 (by assumption)) (nw_eq ?_)
        rfl
end Pv

--nosplit
--keep2
namespace Pv
set_option maxRecDepth 20000
set_option maxHeartbeats 4000000
open Go Go.Proofs Go.RowKit
variable {w0 : World}

/-- The first error of checks. -/
def firE : List (Int × Bool) → Int
  | [] => 0
  | x :: t => if x.2 = true then firE t else if x.1 = 0 then firE t else x.1
def soE (x : Int × Bool) : Int := if x.2 then 0 else x.1
theorem firE_drop {es : List (Int × Bool)} {i : Nat} {x : Int × Bool} (h : es[i]? = some x) : firE (es.drop i) = if soE x = 0 then firE (es.drop (i + 1)) else soE x := by
  obtain ⟨hi, rfl⟩ := List.getElem?_eq_some_iff.1 h
  rw [List.drop_eq_getElem_cons hi, firE, soE]
  cases (es[i]).2 <;> simp
theorem firstSo_ok (ph : PH) (p : Nat) (cp : Option Nat) (es : List (Int × Bool)) (cells : List PV) (hn : es.length < 2 ^ 40) (hp : ph.get p = some cells) (hl : cells.length = es.length)
    (hc : ∀ (i : Nat) (x : Int × Bool), es[i]? = some x → ∃ a b, cells[i]? = some (.func 56 [] [.ptr a 0, .ptr b 0]) ∧ ph.get a = some [.bool x.2] ∧ ph.get b = some [.int .i64 x.1]) :
    Eff (Cx w0) 19 [.sl p 0 1 es.length cp] ph (.int .i64 (firE es)) ph := by
  have hpl := PH.get_lt hp
  refine eff_of ([Go.ResultVar.tmp 2]) Tryz.func19 rfl rfl (by decide) rfl (fun h => h) fun hW Q hQ => ?_
  simp only [start, List.length_cons, List.length_nil, List.cons_append, List.nil_append, Nat.reduceAdd, Nat.reduceSub, List.replicate_succ, List.replicate_zero, Tryz.ntmps19]
  repeat' first | simp -implicitDefEqProofs (maxSteps := 400000) (disch := first | with_reducible rfl | omega | (simp only [wkH] <;> omega) | decide) only [wkAll, wkL, popO, wantedP, lenP, builtinP, tf102]
  refine w_loopH (α := Nat) ph ph.ob ph.ty (fun i => [.undef, .undef, .undef, .undef, .undef, .undef, .sl p 0 1 es.length cp, .int .i64 es.length, .int .i64 i, .undef, .undef, .undef, .undef, .undef, .undef, .undef, .undef, .undef]) (fun i => []) (fun i => i ≤ es.length ∧ firE (es.drop i) = firE es) (fun i => es.length - i) 0 ⟨by omega, by simp⟩ (fun _ _ => by simp) (.eq (by simp [FadeTo]) rfl) ?_
  rintro i ⟨hi, hf⟩ K hK
  rcases Nat.lt_or_ge i es.length with hlt | hge
  · have hlt' : (i : Int) < (es.length : Int) := by omega
    obtain ⟨x, hx⟩ := get_some hlt
    obtain ⟨a, b, c1, c2, c3⟩ := hc i x hx
    have hd := firE_drop hx
    have ha := PH.get_lt c2
    have hb := PH.get_lt c3
    repeat' first | simp -implicitDefEqProofs (maxSteps := 400000) (disch := first | with_reducible rfl | omega | (simp only [wkH] <;> omega) | decide) only [wkAll, wkL, popO, wantedP, binP, indexAddrOp, loadOp, loadP, PK.agg, seg, if_pos, if_neg, tf66, tf102, hlt', h_getlt hpl, hp, c1]
    refine w_eff (soV_ok _ a b x.2 x.1 (by rw [h_getlt ha]; exact c2) (by rw [h_getlt hb]; exact c3)) ?_
    rw [show (if x.2 = true then (0 : Int) else x.1) = soE x from rfl]
    by_cases h0 : soE x = 0
    · rw [if_pos h0, hf] at hd
      have h0' : (soE x != 0) = false := by rw [h0]; rfl
      repeat' first | simp -implicitDefEqProofs (maxSteps := 400000) (disch := first | with_reducible rfl | omega | (simp only [wkH] <;> omega) | decide) only [wkAll, wkL, popO, wantedP, binP, wkN, if_pos, h0']
      exact hK (i + 1) _ _ ⟨by omega, hd.symm⟩ (by show es.length - (i + 1) < es.length - i; omega) (.eq (by simp [FadeTo]) rfl)
    · rw [if_neg h0, hf] at hd
      rw [hd] at hQ
      have h0' : (soE x != 0) = true := by rw [bne_iff_ne]; exact h0
      repeat' first | simp -implicitDefEqProofs (maxSteps := 400000) (disch := first | with_reducible rfl | omega | (simp only [wkH] <;> omega) | decide) only [wkAll, wkL, popO, wantedP, binP, if_pos, h0']
      refine hQ (by first | exact .inr rfl | exact .inl rfl) (by first | exact trivial | exact marks1) (by first | (simp -implicitDefEqProofs (maxSteps := 400000) (disch := first | with_reducible rfl | omega | (simp only [wkH] <;> omega) | decide) only [wkL, resP, resPs, resP1]; rfl) | rfl) ⟨6, by repeat' first | exact frz_scalar rfl | apply frz_tuple | apply frz_agg | apply frz_fsl | apply frz_gsl (by omega) | exact frzs_nil | apply frzs_cons⟩ (by first | exact keepsH0 | exact keeps1 (by assumption)) (nw_eq ?_)
      rfl
  · have hge' : ¬ (i : Int) < (es.length : Int) := by omega
    rw [List.drop_eq_nil_of_le hge] at hf
    rw [← hf] at hQ
    repeat' first | simp -implicitDefEqProofs (maxSteps := 400000) (disch := first | with_reducible rfl | omega | (simp only [wkH] <;> omega) | decide) only [wkAll, wkL, popO, wantedP, binP, if_pos, hge']
    refine hQ (by first | exact .inr rfl | exact .inl rfl) (by first | exact trivial | exact marks1) (by first | (simp -implicitDefEqProofs (maxSteps := 400000) (disch := first | with_reducible rfl | omega | (simp only [wkH] <;> omega) | decide) only [wkL, resP, resPs, resP1]; rfl) | rfl) ⟨6, by repeat' first | exact frz_scalar rfl | apply frz_tuple | apply frz_agg | apply frz_fsl | apply frz_gsl (by omega) | exact frzs_nil | apply frzs_cons⟩ (by first | exact keepsH0 | exact keeps1 (by assumption)) (nw_eq ?_)
    rfl
end Pv

--nosplit
--keep2
namespace Pv
set_option maxRecDepth 20000
set_option maxHeartbeats 4000000
open Go Go.Proofs Go.RowKit
variable {w0 : World}

/-- What is asked for, of no server by name. -/
def ask0L (l : List Int) : List KR × Int := if l = [] then ([], 11) else if (pairsL l).2 ≠ 0 then ([], (pairsL l).2) else ([⟨true, 1, twoL 0⟩, ⟨true, 4, (pairsL l).1⟩, ⟨true, 0, []⟩], 0)
theorem negoAsk0_ok (l : List Int) (hl : l.length < 2 ^ 40) : Fn (Cx w0) 7 [.fsl 1 l.length (intsC l), .str [], .int .i64 0] (.tuple [.fsl 3 (ask0L l).1.length (krsC (ask0L l).1), .int .i64 (ask0L l).2]) := by
  have tp := kePairs_ok (w0 := w0) l hl
  obtain ⟨B, hB⟩ : ∃ B, B = (pairsL l).1 := ⟨_, rfl⟩
  obtain ⟨e, he⟩ : ∃ e, e = (pairsL l).2 := ⟨_, rfl⟩
  rw [← hB, ← he] at tp
  obtain ⟨d, hd⟩ : ∃ d, d = decide ((0 : Int) < (l.length : Int)) := ⟨_, rfl⟩
  obtain ⟨z, hz⟩ : ∃ z, z = (e == 0) := ⟨_, rfl⟩
  refine fn_H ([Go.ResultVar.tmp 6, Go.ResultVar.tmp 7]) Tryz.func7 rfl rfl (by decide) fun ph hW Q hQ => ?_
  simp only [start, List.length_cons, List.length_nil, List.cons_append, List.nil_append, Nat.reduceAdd, Nat.reduceSub, List.replicate_succ, List.replicate_zero, Tryz.ntmps7]
  repeat' first | simp -implicitDefEqProofs (maxSteps := 400000) (disch := first | with_reducible rfl | omega | (simp only [wkH] <;> omega) | decide) only [wkAll, wkL, popO, wantedP, binP, lenP, builtinP, gt_iff_lt, if_pos, tf22, gt_iff_lt, ← hd] | refine w_pure (tp) ?_
  refine w_inl ([Go.ResultVar.tmp 4]) Tryz.func20 rfl rfl (by decide) fun _ hI => ?_
  simp only [start, List.length_cons, List.length_nil, List.cons_append, List.nil_append, Nat.reduceAdd, Nat.reduceSub, List.replicate_succ, List.replicate_zero, Tryz.ntmps20]
  repeat' first | simp -implicitDefEqProofs (maxSteps := 400000) (disch := first | with_reducible rfl | omega | (simp only [wkH] <;> omega) | decide) only [wkAll, wkL, popO, wantedP, if_pos]
  refine hI (by first | exact .inr rfl | exact .inl rfl) trivial (by first | (simp -implicitDefEqProofs (maxSteps := 400000) (disch := first | with_reducible rfl | omega | (simp only [wkH] <;> omega) | decide) only [wkL, resP, resPs, resP1]; rfl) | rfl) ?_
  repeat' first | simp -implicitDefEqProofs (maxSteps := 400000) (disch := first | with_reducible rfl | omega | (simp only [wkH] <;> omega) | decide) only [wkAll, wkL, popO, wantedP, binP, if_pos, ← hz]
  refine w_inl ([Go.ResultVar.tmp 4]) Tryz.func20 rfl rfl (by decide) fun _ hI => ?_
  simp only [start, List.length_cons, List.length_nil, List.cons_append, List.nil_append, Nat.reduceAdd, Nat.reduceSub, List.replicate_succ, List.replicate_zero, Tryz.ntmps20]
  repeat' first | simp -implicitDefEqProofs (maxSteps := 400000) (disch := first | with_reducible rfl | omega | (simp only [wkH] <;> omega) | decide) only [wkAll, wkL, popO, wantedP, Nat.reduceAdd, if_pos]
  refine hI (by first | exact .inr rfl | exact .inl rfl) trivial (by first | (simp -implicitDefEqProofs (maxSteps := 400000) (disch := first | with_reducible rfl | omega | (simp only [wkH] <;> omega) | decide) only [wkL, resP, resPs, resP1]; rfl) | rfl) ?_
  repeat' first | simp -implicitDefEqProofs (maxSteps := 400000) (disch := first | with_reducible rfl | omega | (simp only [wkH] <;> omega) | decide) only [wkAll, wkL, popO, wantedP, binP, if_pos]
  refine w_inl ([Go.ResultVar.tmp 4]) Tryz.func20 rfl rfl (by decide) fun _ hI => ?_
  simp only [start, List.length_cons, List.length_nil, List.cons_append, List.nil_append, Nat.reduceAdd, Nat.reduceSub, List.replicate_succ, List.replicate_zero, Tryz.ntmps20]
  repeat' first | simp -implicitDefEqProofs (maxSteps := 400000) (disch := first | with_reducible rfl | omega | (simp only [wkH] <;> omega) | decide) only [wkAll, wkL, popO, wantedP, Nat.reduceAdd, if_pos]
  refine hI (by first | exact .inr rfl | exact .inl rfl) trivial (by first | (simp -implicitDefEqProofs (maxSteps := 400000) (disch := first | with_reducible rfl | omega | (simp only [wkH] <;> omega) | decide) only [wkL, resP, resPs, resP1]; rfl) | rfl) ?_
  repeat' first | simp -implicitDefEqProofs (maxSteps := 400000) (disch := first | with_reducible rfl | omega | (simp only [wkH] <;> omega) | decide) only [wkAll, wkL, popO, wantedP, binP, if_pos]
  refine w_inl ([Go.ResultVar.tmp 4]) Tryz.func20 rfl rfl (by decide) fun _ hI => ?_
  simp only [start, List.length_cons, List.length_nil, List.cons_append, List.nil_append, Nat.reduceAdd, Nat.reduceSub, List.replicate_succ, List.replicate_zero, Tryz.ntmps20]
  repeat' first | simp -implicitDefEqProofs (maxSteps := 400000) (disch := first | with_reducible rfl | omega | (simp only [wkH] <;> omega) | decide) only [wkAll, wkL, popO, wantedP, Nat.reduceAdd, if_pos]
  refine hI (by first | exact .inr rfl | exact .inl rfl) trivial (by first | (simp -implicitDefEqProofs (maxSteps := 400000) (disch := first | with_reducible rfl | omega | (simp only [wkH] <;> omega) | decide) only [wkL, resP, resPs, resP1]; rfl) | rfl) ?_
  repeat' first | simp -implicitDefEqProofs (maxSteps := 400000) (disch := first | with_reducible rfl | omega | (simp only [wkH] <;> omega) | decide) only [wkAll, wkL, popO, wantedP, ne_eq, Nat.reduceAdd, Nat.reduceLeDiff, Nat.reduceLT, buildSliceP, fillP, setL, gt_iff_lt, Nat.reducePow, reps, if_pos, if_neg, tf66, Tryz.ze66, tf102]
  have hcc : ∀ (H1 : PH) (c : List PV), H1 = H ph [some (.own [.int .i64 11]), some (.own [.bool d]), some (.own [.int .i64 e]), some (.own [.bool z]), some (.own [.int .i64 20]), some (.own [.bool true]), some (.own [.int .i64 13]), some (.own [.bool true]), some (.own c)] ph.ob ph.ty → c = [.func 56 [] [.ptr (ph.n + 1) 0, .ptr ph.n 0], .func 56 [] [.ptr (ph.n + 3) 0, .ptr (ph.n + 2) 0], .func 56 [] [.ptr (ph.n + 5) 0, .ptr (ph.n + 4) 0], .func 56 [] [.ptr (ph.n + 7) 0, .ptr (ph.n + 6) 0]] → ∀ (i : Nat) (x : Int × Bool), [((11 : Int), d), (e, z), (20, true), (13, true)][i]? = some x → ∃ a b, c[i]? = some (.func 56 [] [.ptr a 0, .ptr b 0]) ∧ H1.get a = some [.bool x.2] ∧ H1.get b = some [.int .i64 x.1] := by
    rintro H1 c rfl rfl i x hx
    match i, hx with
    | 0, hx => cases hx; exact ⟨ph.n + 1, ph.n, rfl, by rw [h_get]; rfl, by rw [h_get0]; rfl⟩
    | 1, hx => cases hx; exact ⟨ph.n + 3, ph.n + 2, rfl, by rw [h_get]; rfl, by rw [h_get]; rfl⟩
    | 2, hx => cases hx; exact ⟨ph.n + 5, ph.n + 4, rfl, by rw [h_get]; rfl, by rw [h_get]; rfl⟩
    | 3, hx => cases hx; exact ⟨ph.n + 7, ph.n + 6, rfl, by rw [h_get]; rfl, by rw [h_get]; rfl⟩
    | i + 4, hx => simp at hx
  refine w_eff (firstSo_ok _ (ph.n + 8) _ [(11, d), (e, z), (20, true), (13, true)] _ (by show 4 < 2 ^ 40; decide) (by rw [h_get]; rfl) rfl (hcc _ _ rfl rfl)) ?_
  by_cases h1 : l = []
  · subst h1
    have hd0 : d = false := by rw [hd]; rfl
    rw [show ask0L [] = ([], 11) from rfl] at hQ
    rw [show firE [(11, d), (e, z), (20, true), (13, true)] = 11 by rw [hd0]; rfl]
    repeat' first | simp -implicitDefEqProofs (maxSteps := 400000) (disch := first | with_reducible rfl | omega | (simp only [wkH] <;> omega) | decide) only [wkAll, wkL, popO, wantedP, Int.reduceBNe, binP, wkN, if_pos]
    refine hQ (by first | exact .inr rfl | exact .inl rfl) (by first | exact trivial | exact marks1) (by first | (simp -implicitDefEqProofs (maxSteps := 400000) (disch := first | with_reducible rfl | omega | (simp only [wkH] <;> omega) | decide) only [wkL, resP, resPs, resP1]; rfl) | rfl) ⟨6, by repeat' first | exact frz_scalar rfl | apply frz_tuple | apply frz_agg | apply frz_fsl | apply frz_gsl (by omega) | exact frzs_nil | apply frzs_cons⟩ (by first | exact keepsH0 | exact keeps1 (by assumption)) ?_
    repeat' first | exact nw_nil | exact nw_zsl | apply nw_tuple | apply nw_agg | exact nws_nil | apply nws_cons | exact nw_eq rfl | apply nw_eq
  · have hd1 : d = true := by rw [hd, decide_eq_true_iff]; have := List.length_pos_iff.2 h1; omega
    by_cases h2 : e = 0
    · have hz1 : z = true := by rw [hz, h2]; rfl
      rw [show ask0L l = ([⟨true, 1, twoL 0⟩, ⟨true, 4, B⟩, ⟨true, 0, []⟩], 0) by rw [ask0L, if_neg h1, if_neg (by rw [← he, h2]; simp), hB]] at hQ
      rw [show firE [(11, d), (e, z), (20, true), (13, true)] = 0 by rw [hd1, hz1]; rfl]
      repeat' first | simp -implicitDefEqProofs (maxSteps := 400000) (disch := first | with_reducible rfl | omega | (simp only [wkH] <;> omega) | decide) only [wkAll, wkL, popO, wantedP, ne_eq, Nat.reduceAdd, Nat.reduceLeDiff, Nat.reduceLT, binP, buildSliceP, fillP, setL, gt_iff_lt, Nat.reducePow, reps, if_pos, if_neg, tf3, Tryz.ze3, tf22]
      refine w_frz (p := ph.n + 9) (cells := [.int .i64 0]) (args' := [.int .i64 1, .fsl 1 1 [.int .i64 0]]) (by rw [h_get]; rfl) ⟨.inl rfl, .inr ⟨0, 1, 1, some 1, rfl, rfl, by simp⟩, trivial⟩ ?_
      refine w_pure (must_ok (w0 := w0) 1 [0] (by decide) (by simp)) ?_
      repeat' first | simp -implicitDefEqProofs (maxSteps := 400000) (disch := first | with_reducible rfl | omega | (simp only [wkH] <;> omega) | decide) only [wkAll, wkL, popO, wantedP, ne_eq, Nat.reduceAdd, Nat.reduceMul, Nat.reduceLeDiff, Nat.reduceLT, reduceCtorEq, binP, builtinP, appendT, appendP, srcP, buildP, buildSliceP, placeF, fillP, setL, gt_iff_lt, Nat.reducePow, reps, seg, if_pos, if_neg, tf26, tf46, Tryz.ze46, krC] | refine w_pureN (must_ok (w0 := w0) 0 [] (by decide) (by simp)) (nws_cons (nw_eq rfl) (nws_cons nw_nil nws_nil)) ?_
      refine hQ (by first | exact .inr rfl | exact .inl rfl) (by first | exact trivial | exact marks1) (by first | (simp -implicitDefEqProofs (maxSteps := 400000) (disch := first | with_reducible rfl | omega | (simp only [wkH] <;> omega) | decide) only [wkL, resP, resPs, resP1]; rfl) | rfl) ⟨6, by repeat' first | exact frz_scalar rfl | apply frz_tuple | apply frz_agg | apply frz_fsl | apply frz_gsl (by omega) | exact frzs_nil | apply frzs_cons | exact frz_sl (cells := krsC [⟨true, 1, twoL 0⟩, ⟨true, 4, B⟩, ⟨true, 0, []⟩]) (qs := krsC [⟨true, 1, twoL 0⟩, ⟨true, 4, B⟩, ⟨true, 0, []⟩]) (by omega) (by rw [h_shut0, h_get]; rfl) (by simp [krsC, krC]) (frzs_scalars rfl)⟩ (by first | exact keepsH0 | exact keeps1 (by assumption)) (nw_eq ?_)
      rfl
    · have hz0 : z = false := by rw [hz, beq_eq_false_iff_ne]; exact h2
      rw [show ask0L l = ([], e) by rw [ask0L, if_neg h1, if_pos (by rw [← he]; exact h2), he]] at hQ
      rw [show firE [(11, d), (e, z), (20, true), (13, true)] = e by rw [hd1, hz0]; simp [firE, h2]]
      have h2' : (e != 0) = true := by rw [bne_iff_ne]; exact h2
      repeat' first | simp -implicitDefEqProofs (maxSteps := 400000) (disch := first | with_reducible rfl | omega | (simp only [wkH] <;> omega) | decide) only [wkAll, wkL, popO, wantedP, binP, if_pos, h2']
      refine hQ (by first | exact .inr rfl | exact .inl rfl) (by first | exact trivial | exact marks1) (by first | (simp -implicitDefEqProofs (maxSteps := 400000) (disch := first | with_reducible rfl | omega | (simp only [wkH] <;> omega) | decide) only [wkL, resP, resPs, resP1]; rfl) | rfl) ⟨6, by repeat' first | exact frz_scalar rfl | apply frz_tuple | apply frz_agg | apply frz_fsl | apply frz_gsl (by omega) | exact frzs_nil | apply frzs_cons⟩ (by first | exact keepsH0 | exact keeps1 (by assumption)) ?_
      repeat' first | exact nw_nil | exact nw_zsl | apply nw_tuple | apply nw_agg | exact nws_nil | apply nws_cons | exact nw_eq rfl | apply nw_eq
end Pv
