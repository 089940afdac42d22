/- Part of the proof: the layer of pure values, or walks through functions (PvNg2, PvNg3, PvW32, PvShaS). -/
import Derived.Test.YtjomgffpkdcanaaGreatPvKe5
import Derived.Test.YtjomgffpkdcanaaGreatPvBldX
import Derived.Test.YtjomgffpkdcanaaGreatPvH
set_option linter.all false
--nosplit
namespace Pv
set_option maxRecDepth 20000
set_option maxHeartbeats 4000000
open Go Go.Proofs Go.RowKit
variable {w0 : World}

theorem negoTwo_ok (n : Int) (h : -9223372036854775808 ≤ n ∧ n ≤ 9223372036854775807) : Fn (Cx w0) 24 [.int .i64 n] (.str (twoL n)) := by
  have hs : shrP .i64 n 8 = n / 256 := shr8 _ _ (by decide)
  have h1 : IntKind.wrap .i64 (n / 256) = n / 256 := IntWalk.i64_in _ (by omega)
  refine fn_H ([Go.ResultVar.tmp 2]) Tryz.func24 rfl rfl (by decide) fun ph hW Q hQ => ?_
  simp only [start, List.length_cons, List.length_nil, List.cons_append, List.nil_append, Nat.reduceAdd, Nat.reduceSub, List.replicate_succ, List.replicate_zero, Tryz.ntmps24]
  repeat' first | simp -implicitDefEqProofs (maxSteps := 400000) (disch := first | with_reducible rfl | omega | (simp only [wkH] <;> omega) | decide) only [wkAll, wkL, popO, wantedP, ne_eq, Nat.reduceAdd, Nat.reduceLeDiff, Nat.reduceLT, Int.reduceLE, binP, convP, buildSliceP, fillP, setL, gt_iff_lt, Nat.reducePow, reps, seg, wkN, if_pos, if_neg, tf3, tf5, Tryz.ze5, tf9, tf92, hs]
  refine hQ (by first | exact .inr rfl | exact .inl rfl) (by first | exact trivial | exact marks1) (by first | (simp -implicitDefEqProofs (maxSteps := 400000) (disch := first | with_reducible rfl | omega | (simp only [wkH] <;> omega) | decide) only [wkL, resP, resPs, resP1]; rfl) | rfl) ⟨6, by repeat' first | exact frz_scalar rfl | apply frz_tuple | apply frz_agg | apply frz_fsl | apply frz_gsl (by omega) | exact frzs_nil | apply frzs_cons⟩ (by first | exact keepsH0 | exact keeps1 (by assumption) | exact keepsH (fun _ _ h => h) (fun p hp => by simp only [upF]; (repeat rw [if_neg (by omega)])) | exact keeps1t (by assumption) (fun p hp => by simp only [upF]; (repeat rw [if_neg (by omega)])) | (subst hT; exact keepsH (fun _ _ h => h) fun _ _ => rfl)) (nw_eq ?_)
  simp [twoL, u8_wrap]
theorem refTwo19_ok (n : Int) (h : 0 ≤ n ∧ n < 2 ^ 62) : Fn (Cx w0) 28 [.int .i64 n] (.str (twoL n)) := by
  refine fn_H ([Go.ResultVar.tmp 2]) Tryz.func28 rfl rfl (by decide) fun ph hW Q hQ => ?_
  simp only [start, List.length_cons, List.length_nil, List.cons_append, List.nil_append, Nat.reduceAdd, Nat.reduceSub, List.replicate_succ, List.replicate_zero, Tryz.ntmps28]
  repeat' first | simp -implicitDefEqProofs (maxSteps := 400000) (disch := first | with_reducible rfl | omega | (simp only [wkH] <;> omega) | decide) only [wkAll, wkL, popO, wantedP, ne_eq, Nat.reduceAdd, Nat.reduceLeDiff, Nat.reduceLT, Int.reduceEq, binP, convP, buildSliceP, fillP, setL, gt_iff_lt, Nat.reducePow, reps, seg, wkN, if_pos, if_neg, tf3, tf5, Tryz.ze5, tf9, tf92, quo_nn n 256 h.1 (by omega), rem_nn n 256 h.1]
  refine hQ (by first | exact .inr rfl | exact .inl rfl) (by first | exact trivial | exact marks1) (by first | (simp -implicitDefEqProofs (maxSteps := 400000) (disch := first | with_reducible rfl | omega | (simp only [wkH] <;> omega) | decide) only [wkL, resP, resPs, resP1]; rfl) | rfl) ⟨6, by repeat' first | exact frz_scalar rfl | apply frz_tuple | apply frz_agg | apply frz_fsl | apply frz_gsl (by omega) | exact frzs_nil | apply frzs_cons⟩ (by first | exact keepsH0 | exact keeps1 (by assumption) | exact keepsH (fun _ _ h => h) (fun p hp => by simp only [upF]; (repeat rw [if_neg (by omega)])) | exact keeps1t (by assumption) (fun p hp => by simp only [upF]; (repeat rw [if_neg (by omega)])) | (subst hT; exact keepsH (fun _ _ h => h) fun _ _ => rfl)) (nw_eq ?_)
  simp [twoL, u8_wrap, u8_fold]
/-- The numbers of the one record of a kind. -/
def numL (l : List KR) (k : Int) (c : Bool) : List Int × Bool := match findL l k with
  | [r] => if c = true ∧ r.c = false then ([], false) else ((toPairsL r.b).1, decide ((toPairsL r.b).2 = 0) && decide ((toPairsL r.b).1 ≠ []))
  | _ => ([], false)
theorem find_leA (l : List KR) (k : Int) : (findL l k).length ≤ l.length := List.length_filter_le _ _
theorem find_mem {l : List KR} {k : Int} {r : KR} (h : r ∈ findL l k) : r ∈ l := (List.mem_filter.1 h).1
theorem negoNumbers_ok (l : List KR) (k : Int) (c : Bool) (hl : l.length < 2 ^ 40) (hb : ∀ r ∈ l, r.b.length < 2 ^ 50) : Fn (Cx w0) 30 [.fsl 3 l.length (krsC l), .int .i64 k, .bool c] (.tuple [.fsl 1 (numL l k c).1.length (intsC (numL l k c).1), .bool (numL l k c).2]) := by
  have tf := keFind_ok (w0 := w0) l k hl
  have hle := find_leA l k
  match hf : findL l k with
  | [] =>
    rw [hf] at tf
    rw [show numL l k c = ([], false) by rw [numL, hf]]
    refine fn_H ([Go.ResultVar.tmp 6, Go.ResultVar.tmp 7]) Tryz.func30 rfl rfl (by decide) fun ph hW Q hQ => ?_
    simp only [start, List.length_cons, List.length_nil, List.cons_append, List.nil_append, Nat.reduceAdd, Nat.reduceSub, List.replicate_succ, List.replicate_zero, Tryz.ntmps30]
    repeat' first | simp -implicitDefEqProofs (maxSteps := 400000) (disch := first | with_reducible rfl | omega | (simp only [wkH] <;> omega) | decide) only [wkAll, wkL, popO, wantedP, Int.reduceBNe, binP, lenP, builtinP, wkN, if_pos, tf26] | refine w_pure (tf) ?_
    refine hQ (by first | exact .inr rfl | exact .inl rfl) (by first | exact trivial | exact marks1) (by first | (simp -implicitDefEqProofs (maxSteps := 400000) (disch := first | with_reducible rfl | omega | (simp only [wkH] <;> omega) | decide) only [wkL, resP, resPs, resP1]; rfl) | rfl) ⟨6, by repeat' first | exact frz_scalar rfl | apply frz_tuple | apply frz_agg | apply frz_fsl | apply frz_gsl (by omega) | exact frzs_nil | apply frzs_cons⟩ (by first | exact keepsH0 | exact keeps1 (by assumption) | exact keepsH (fun _ _ h => h) (fun p hp => by simp only [upF]; (repeat rw [if_neg (by omega)])) | exact keeps1t (by assumption) (fun p hp => by simp only [upF]; (repeat rw [if_neg (by omega)])) | (subst hT; exact keepsH (fun _ _ h => h) fun _ _ => rfl)) ?_
    repeat' first | exact nw_nil | exact nw_zsl | apply nw_tuple | apply nw_agg | exact nws_nil | apply nws_cons | exact nw_eq rfl | apply nw_eq
  | r :: q :: t =>
    rw [hf] at tf
    rw [show numL l k c = ([], false) by rw [numL, hf]]
    obtain ⟨F, hF⟩ : ∃ F, F = r :: q :: t := ⟨_, rfl⟩
    rw [← hF] at tf
    have hl2 : 2 ≤ F.length := by rw [hF]; simp
    have hn : ((F.length : Int) != 1) = true := by rw [bne_iff_ne]; omega
    clear hf hF
    refine fn_H ([Go.ResultVar.tmp 6, Go.ResultVar.tmp 7]) Tryz.func30 rfl rfl (by decide) fun ph hW Q hQ => ?_
    simp only [start, List.length_cons, List.length_nil, List.cons_append, List.nil_append, Nat.reduceAdd, Nat.reduceSub, List.replicate_succ, List.replicate_zero, Tryz.ntmps30]
    repeat' first | simp -implicitDefEqProofs (maxSteps := 400000) (disch := first | with_reducible rfl | omega | (simp only [wkH] <;> omega) | decide) only [wkAll, wkL, popO, wantedP, binP, lenP, builtinP, if_pos, tf26, hn] | refine w_pure (tf) ?_
    refine hQ (by first | exact .inr rfl | exact .inl rfl) (by first | exact trivial | exact marks1) (by first | (simp -implicitDefEqProofs (maxSteps := 400000) (disch := first | with_reducible rfl | omega | (simp only [wkH] <;> omega) | decide) only [wkL, resP, resPs, resP1]; rfl) | rfl) ⟨6, by repeat' first | exact frz_scalar rfl | apply frz_tuple | apply frz_agg | apply frz_fsl | apply frz_gsl (by omega) | exact frzs_nil | apply frzs_cons⟩ (by first | exact keepsH0 | exact keeps1 (by assumption) | exact keepsH (fun _ _ h => h) (fun p hp => by simp only [upF]; (repeat rw [if_neg (by omega)])) | exact keeps1t (by assumption) (fun p hp => by simp only [upF]; (repeat rw [if_neg (by omega)])) | (subst hT; exact keepsH (fun _ _ h => h) fun _ _ => rfl)) ?_
    repeat' first | exact nw_nil | exact nw_zsl | apply nw_tuple | apply nw_agg | exact nws_nil | apply nws_cons | exact nw_eq rfl | apply nw_eq
  | [r] =>
    rw [hf] at tf
    have hrb := hb r (find_mem (k := k) (by rw [hf]; simp))
    by_cases hc : c = true ∧ r.c = false
    · obtain ⟨rfl, hrc⟩ := hc
      rw [show numL l k true = ([], false) by rw [numL, hf]; simp [hrc]]
      refine fn_H ([Go.ResultVar.tmp 6, Go.ResultVar.tmp 7]) Tryz.func30 rfl rfl (by decide) fun ph hW Q hQ => ?_
      simp only [start, List.length_cons, List.length_nil, List.cons_append, List.nil_append, Nat.reduceAdd, Nat.reduceSub, List.replicate_succ, List.replicate_zero, Tryz.ntmps30]
      repeat' first | simp -implicitDefEqProofs (maxSteps := 400000) (disch := first | with_reducible rfl | omega | (simp only [wkH] <;> omega) | decide) only [wkAll, wkL, popO, wantedP, Nat.reduceAdd, Nat.reduceLeDiff, Int.reduceLE, Int.reduceLT, Int.reduceToNat, binP, unP, lenP, builtinP, indexAddrOp, loadOp, loadP, fieldAddrOp, PK.agg, seg, wkN, if_pos, if_neg, tf4, tf26, tf46, krsC, krC, hrc, List.flatMap_cons, List.flatMap_nil] | refine w_pure (tf) ?_
      refine hQ (by first | exact .inr rfl | exact .inl rfl) (by first | exact trivial | exact marks1) (by first | (simp -implicitDefEqProofs (maxSteps := 400000) (disch := first | with_reducible rfl | omega | (simp only [wkH] <;> omega) | decide) only [wkL, resP, resPs, resP1]; rfl) | rfl) ⟨6, by repeat' first | exact frz_scalar rfl | apply frz_tuple | apply frz_agg | apply frz_fsl | apply frz_gsl (by omega) | exact frzs_nil | apply frzs_cons⟩ (by first | exact keepsH0 | exact keeps1 (by assumption) | exact keepsH (fun _ _ h => h) (fun p hp => by simp only [upF]; (repeat rw [if_neg (by omega)])) | exact keeps1t (by assumption) (fun p hp => by simp only [upF]; (repeat rw [if_neg (by omega)])) | (subst hT; exact keepsH (fun _ _ h => h) fun _ _ => rfl)) ?_
      repeat' first | exact nw_nil | exact nw_zsl | apply nw_tuple | apply nw_agg | exact nws_nil | apply nws_cons | exact nw_eq rfl | apply nw_eq
    · have tp := keToPairs_ok (w0 := w0) r.b hrb
      rw [show numL l k c = ((toPairsL r.b).1, decide ((toPairsL r.b).2 = 0) && decide ((toPairsL r.b).1 ≠ [])) by rw [numL, hf]; simp only [if_neg hc]]
      generalize toPairsL r.b = T at *
      obtain ⟨N, e⟩ := T
      simp only at tp ⊢
      by_cases he : e = 0
      · subst he
        by_cases hN : N = []
        · subst hN
          cases c with
          | false =>
            refine fn_H ([Go.ResultVar.tmp 6, Go.ResultVar.tmp 7]) Tryz.func30 rfl rfl (by decide) fun ph hW Q hQ => ?_
            simp only [start, List.length_cons, List.length_nil, List.cons_append, List.nil_append, Nat.reduceAdd, Nat.reduceSub, List.replicate_succ, List.replicate_zero, Tryz.ntmps30]
            repeat' first | simp -implicitDefEqProofs (maxSteps := 400000) (disch := first | with_reducible rfl | omega | (simp only [wkH] <;> omega) | decide) only [wkAll, wkL, popO, wantedP, Nat.reduceLeDiff, Int.reduceLE, Int.reduceLT, Int.reduceToNat, binP, lenP, builtinP, indexAddrOp, loadOp, loadP, fieldAddrOp, PK.agg, gt_iff_lt, seg, wkN, if_pos, if_neg, tf9, tf22, tf26, tf46, krsC, krC, List.flatMap_cons, List.flatMap_nil] | refine w_pure (tf) ?_ | refine w_pure (tp) ?_
            refine hQ (by first | exact .inr rfl | exact .inl rfl) (by first | exact trivial | exact marks1) (by first | (simp -implicitDefEqProofs (maxSteps := 400000) (disch := first | with_reducible rfl | omega | (simp only [wkH] <;> omega) | decide) only [wkL, resP, resPs, resP1]; rfl) | rfl) ⟨6, by repeat' first | exact frz_scalar rfl | apply frz_tuple | apply frz_agg | apply frz_fsl | apply frz_gsl (by omega) | exact frzs_nil | apply frzs_cons⟩ (by first | exact keepsH0 | exact keeps1 (by assumption) | exact keepsH (fun _ _ h => h) (fun p hp => by simp only [upF]; (repeat rw [if_neg (by omega)])) | exact keeps1t (by assumption) (fun p hp => by simp only [upF]; (repeat rw [if_neg (by omega)])) | (subst hT; exact keepsH (fun _ _ h => h) fun _ _ => rfl)) ?_
            repeat' first | exact nw_nil | exact nw_zsl | apply nw_tuple | apply nw_agg | exact nws_nil | apply nws_cons | exact nw_eq rfl | apply nw_eq
          | true =>
            have hrc : r.c = true := by simpa using hc
            refine fn_H ([Go.ResultVar.tmp 6, Go.ResultVar.tmp 7]) Tryz.func30 rfl rfl (by decide) fun ph hW Q hQ => ?_
            simp only [start, List.length_cons, List.length_nil, List.cons_append, List.nil_append, Nat.reduceAdd, Nat.reduceSub, List.replicate_succ, List.replicate_zero, Tryz.ntmps30]
            repeat' first | simp -implicitDefEqProofs (maxSteps := 400000) (disch := first | with_reducible rfl | omega | (simp only [wkH] <;> omega) | decide) only [wkAll, wkL, popO, wantedP, Nat.reduceAdd, Nat.reduceLeDiff, Int.reduceLE, Int.reduceLT, Int.reduceToNat, binP, unP, lenP, builtinP, indexAddrOp, loadOp, loadP, fieldAddrOp, PK.agg, gt_iff_lt, seg, wkN, if_pos, if_neg, tf4, tf9, tf22, tf26, tf46, krsC, krC, hrc, List.flatMap_cons, List.flatMap_nil] | refine w_pure (tf) ?_ | refine w_pure (tp) ?_
            refine hQ (by first | exact .inr rfl | exact .inl rfl) (by first | exact trivial | exact marks1) (by first | (simp -implicitDefEqProofs (maxSteps := 400000) (disch := first | with_reducible rfl | omega | (simp only [wkH] <;> omega) | decide) only [wkL, resP, resPs, resP1]; rfl) | rfl) ⟨6, by repeat' first | exact frz_scalar rfl | apply frz_tuple | apply frz_agg | apply frz_fsl | apply frz_gsl (by omega) | exact frzs_nil | apply frzs_cons⟩ (by first | exact keepsH0 | exact keeps1 (by assumption) | exact keepsH (fun _ _ h => h) (fun p hp => by simp only [upF]; (repeat rw [if_neg (by omega)])) | exact keeps1t (by assumption) (fun p hp => by simp only [upF]; (repeat rw [if_neg (by omega)])) | (subst hT; exact keepsH (fun _ _ h => h) fun _ _ => rfl)) ?_
            repeat' first | exact nw_nil | exact nw_zsl | apply nw_tuple | apply nw_agg | exact nws_nil | apply nws_cons | exact nw_eq rfl | apply nw_eq
        · have hNl : 0 < N.length := List.length_pos_iff.2 hN
          have hNl' : (0 : Int) < (N.length : Int) := by omega
          rw [show (decide ((0 : Int) = 0) && decide (N ≠ [])) = true by simp [hN]]
          cases c with
          | false =>
            refine fn_H ([Go.ResultVar.tmp 6, Go.ResultVar.tmp 7]) Tryz.func30 rfl rfl (by decide) fun ph hW Q hQ => ?_
            simp only [start, List.length_cons, List.length_nil, List.cons_append, List.nil_append, Nat.reduceAdd, Nat.reduceSub, List.replicate_succ, List.replicate_zero, Tryz.ntmps30]
            repeat' first | simp -implicitDefEqProofs (maxSteps := 400000) (disch := first | with_reducible rfl | omega | (simp only [wkH] <;> omega) | decide) only [wkAll, wkL, popO, wantedP, Nat.reduceLeDiff, Int.reduceLE, Int.reduceLT, Int.reduceToNat, binP, lenP, builtinP, indexAddrOp, loadOp, loadP, fieldAddrOp, PK.agg, gt_iff_lt, seg, wkN, if_pos, if_neg, tf9, tf22, tf26, tf46, krsC, krC, List.flatMap_cons, List.flatMap_nil, hNl', gt_iff_lt] | refine w_pure (tf) ?_ | refine w_pure (tp) ?_
            refine hQ (by first | exact .inr rfl | exact .inl rfl) (by first | exact trivial | exact marks1) (by first | (simp -implicitDefEqProofs (maxSteps := 400000) (disch := first | with_reducible rfl | omega | (simp only [wkH] <;> omega) | decide) only [wkL, resP, resPs, resP1]; rfl) | rfl) ⟨6, by repeat' first | exact frz_scalar rfl | apply frz_tuple | apply frz_agg | apply frz_fsl | apply frz_gsl (by omega) | exact frzs_nil | apply frzs_cons | exact frzs_scalars (intsC_ok _)⟩ (by first | exact keepsH0 | exact keeps1 (by assumption) | exact keepsH (fun _ _ h => h) (fun p hp => by simp only [upF]; (repeat rw [if_neg (by omega)])) | exact keeps1t (by assumption) (fun p hp => by simp only [upF]; (repeat rw [if_neg (by omega)])) | (subst hT; exact keepsH (fun _ _ h => h) fun _ _ => rfl)) (nw_eq ?_)
            rfl
          | true =>
            have hrc : r.c = true := by simpa using hc
            refine fn_H ([Go.ResultVar.tmp 6, Go.ResultVar.tmp 7]) Tryz.func30 rfl rfl (by decide) fun ph hW Q hQ => ?_
            simp only [start, List.length_cons, List.length_nil, List.cons_append, List.nil_append, Nat.reduceAdd, Nat.reduceSub, List.replicate_succ, List.replicate_zero, Tryz.ntmps30]
            repeat' first | simp -implicitDefEqProofs (maxSteps := 400000) (disch := first | with_reducible rfl | omega | (simp only [wkH] <;> omega) | decide) only [wkAll, wkL, popO, wantedP, Nat.reduceAdd, Nat.reduceLeDiff, Int.reduceLE, Int.reduceLT, Int.reduceToNat, binP, unP, lenP, builtinP, indexAddrOp, loadOp, loadP, fieldAddrOp, PK.agg, gt_iff_lt, seg, wkN, if_pos, if_neg, tf4, tf9, tf22, tf26, tf46, krsC, krC, hrc, List.flatMap_cons, List.flatMap_nil, hNl', gt_iff_lt] | refine w_pure (tf) ?_ | refine w_pure (tp) ?_
            refine hQ (by first | exact .inr rfl | exact .inl rfl) (by first | exact trivial | exact marks1) (by first | (simp -implicitDefEqProofs (maxSteps := 400000) (disch := first | with_reducible rfl | omega | (simp only [wkH] <;> omega) | decide) only [wkL, resP, resPs, resP1]; rfl) | rfl) ⟨6, by repeat' first | exact frz_scalar rfl | apply frz_tuple | apply frz_agg | apply frz_fsl | apply frz_gsl (by omega) | exact frzs_nil | apply frzs_cons | exact frzs_scalars (intsC_ok _)⟩ (by first | exact keepsH0 | exact keeps1 (by assumption) | exact keepsH (fun _ _ h => h) (fun p hp => by simp only [upF]; (repeat rw [if_neg (by omega)])) | exact keeps1t (by assumption) (fun p hp => by simp only [upF]; (repeat rw [if_neg (by omega)])) | (subst hT; exact keepsH (fun _ _ h => h) fun _ _ => rfl)) (nw_eq ?_)
            rfl
      · have he' : (e == 0) = false := by rw [beq_eq_false_iff_ne]; exact he
        rw [show (decide (e = 0) && decide (N ≠ [])) = false by simp [he]]
        cases c with
        | false =>
          refine fn_H ([Go.ResultVar.tmp 6, Go.ResultVar.tmp 7]) Tryz.func30 rfl rfl (by decide) fun ph hW Q hQ => ?_
          simp only [start, List.length_cons, List.length_nil, List.cons_append, List.nil_append, Nat.reduceAdd, Nat.reduceSub, List.replicate_succ, List.replicate_zero, Tryz.ntmps30]
          repeat' first | simp -implicitDefEqProofs (maxSteps := 400000) (disch := first | with_reducible rfl | omega | (simp only [wkH] <;> omega) | decide) only [wkAll, wkL, popO, wantedP, Nat.reduceLeDiff, Int.reduceLE, Int.reduceLT, Int.reduceToNat, binP, lenP, builtinP, indexAddrOp, loadOp, loadP, fieldAddrOp, PK.agg, seg, wkN, if_pos, if_neg, tf9, tf26, tf46, krsC, krC, List.flatMap_cons, List.flatMap_nil, he'] | refine w_pure (tf) ?_ | refine w_pure (tp) ?_
          refine hQ (by first | exact .inr rfl | exact .inl rfl) (by first | exact trivial | exact marks1) (by first | (simp -implicitDefEqProofs (maxSteps := 400000) (disch := first | with_reducible rfl | omega | (simp only [wkH] <;> omega) | decide) only [wkL, resP, resPs, resP1]; rfl) | rfl) ⟨6, by repeat' first | exact frz_scalar rfl | apply frz_tuple | apply frz_agg | apply frz_fsl | apply frz_gsl (by omega) | exact frzs_nil | apply frzs_cons | exact frzs_scalars (intsC_ok _)⟩ (by first | exact keepsH0 | exact keeps1 (by assumption) | exact keepsH (fun _ _ h => h) (fun p hp => by simp only [upF]; (repeat rw [if_neg (by omega)])) | exact keeps1t (by assumption) (fun p hp => by simp only [upF]; (repeat rw [if_neg (by omega)])) | (subst hT; exact keepsH (fun _ _ h => h) fun _ _ => rfl)) (nw_eq ?_)
          rfl
        | true =>
          have hrc : r.c = true := by simpa using hc
          refine fn_H ([Go.ResultVar.tmp 6, Go.ResultVar.tmp 7]) Tryz.func30 rfl rfl (by decide) fun ph hW Q hQ => ?_
          simp only [start, List.length_cons, List.length_nil, List.cons_append, List.nil_append, Nat.reduceAdd, Nat.reduceSub, List.replicate_succ, List.replicate_zero, Tryz.ntmps30]
          repeat' first | simp -implicitDefEqProofs (maxSteps := 400000) (disch := first | with_reducible rfl | omega | (simp only [wkH] <;> omega) | decide) only [wkAll, wkL, popO, wantedP, Nat.reduceAdd, Nat.reduceLeDiff, Int.reduceLE, Int.reduceLT, Int.reduceToNat, binP, unP, lenP, builtinP, indexAddrOp, loadOp, loadP, fieldAddrOp, PK.agg, seg, wkN, if_pos, if_neg, tf4, tf9, tf26, tf46, krsC, krC, hrc, List.flatMap_cons, List.flatMap_nil, he'] | refine w_pure (tf) ?_ | refine w_pure (tp) ?_
          refine hQ (by first | exact .inr rfl | exact .inl rfl) (by first | exact trivial | exact marks1) (by first | (simp -implicitDefEqProofs (maxSteps := 400000) (disch := first | with_reducible rfl | omega | (simp only [wkH] <;> omega) | decide) only [wkL, resP, resPs, resP1]; rfl) | rfl) ⟨6, by repeat' first | exact frz_scalar rfl | apply frz_tuple | apply frz_agg | apply frz_fsl | apply frz_gsl (by omega) | exact frzs_nil | apply frzs_cons | exact frzs_scalars (intsC_ok _)⟩ (by first | exact keepsH0 | exact keeps1 (by assumption) | exact keepsH (fun _ _ h => h) (fun p hp => by simp only [upF]; (repeat rw [if_neg (by omega)])) | exact keeps1t (by assumption) (fun p hp => by simp only [upF]; (repeat rw [if_neg (by omega)])) | (subst hT; exact keepsH (fun _ _ h => h) fun _ _ => rfl)) (nw_eq ?_)
          rfl
end Pv

namespace Pv
set_option maxRecDepth 20000
set_option maxHeartbeats 4000000
open Go Go.Proofs Go.RowKit
variable {w0 : World}

theorem must_ok (k : Int) (l : List Int) (hl : l.length < 2 ^ 40) (hb : ∀ n ∈ l, -9223372036854775808 ≤ n ∧ n ≤ 9223372036854775807) : Fn (Cx w0) 23 [.int .i64 k, .fsl 1 l.length (intsC l)] (.agg (krC ⟨true, k, l.flatMap twoL⟩)) := by
  refine fn_H ([Go.ResultVar.cell 4 46]) Tryz.func23 rfl rfl (by decide) fun ph hW Q hQ => ?_
  simp only [start, List.length_cons, List.length_nil, List.cons_append, List.nil_append, Nat.reduceAdd, Nat.reduceSub, List.replicate_succ, List.replicate_zero, Tryz.ntmps23]
  repeat' first | simp -implicitDefEqProofs (maxSteps := 400000) (disch := first | with_reducible rfl | omega | (simp only [wkH] <;> omega) | decide) only [wkAll, wkL, popO, wantedP, lenP, builtinP, if_pos, if_neg, tf22, tf46, Tryz.ze46, tf96, Tryz.ze96] | refine w_dec (fun _ => ?_) (fun _ => ?_) | refine w_eqc (fun _ => ?_) (fun _ => ?_) | refine w_neqc (fun _ => ?_) (fun _ => ?_) | refine w_nneqc (fun _ => ?_) (fun _ => ?_) | ((first | refine w_split (fun h => ?_) (fun h => ?_) | refine d_split (fun h => ?_) (fun h => ?_) | refine w_csplit (fun h => ?_) (fun h => ?_)) <;> (try simp only [wkS] at h) <;> (have h2 := h) <;> (try simp only [wkT, ne_eq] at h2) <;> (try simp only [h]))
  refine w_growL0 1 5 [some (.own [.bool false, .int .i64 0, .str []]), some (.own (bldC false (ph.n + 1) (ph.n + 2) []))] (by simp) (by simp [NilB, NilL, bldC, adP, bytesPV]) ?_
  refine w_loopH (α := Nat × Bool) ph ph.ob _ (fun a => [.int .i64 k, .undef, .undef, .undef, .ptr ph.n 0, .ptr (ph.n + 1) 0, .undef, .undef, .fsl 1 l.length (intsC l), .int .i64 l.length, .int .i64 a.1, .undef, .undef, .undef, .undef, .undef, .undef, .undef, .undef, .undef, .undef]) (fun a => [some (.own [.bool false, .int .i64 0, .str []]), some (.own (bldC a.2 (ph.n + 1) (ph.n + 2) ((l.take a.1).flatMap twoL))), some (.grow 1 ((l.take a.1).flatMap twoL).length 5)]) (fun a => a.1 ≤ l.length) (fun a => l.length - a.1) (0, false) (by simp) (fun _ _ => by simp) (.eq (by simp [FadeTo]) rfl) ?_
  rintro ⟨i, w⟩ hi K hK
  simp only at hi ⊢
  have hlen2 : ((l.take i).flatMap twoL).length = i * 2 := by rw [twoLs_len, List.length_take]; omega
  rcases Nat.lt_or_ge i l.length with h | h
  · obtain ⟨n, hn⟩ := get_some h
    have hd := intsC_drop l i n hn
    have hlt : (i : Int) < l.length := by omega
    have ht := take_snoc hn
    repeat' first | simp -implicitDefEqProofs (maxSteps := 400000) (disch := first | with_reducible rfl | omega | (simp only [wkH] <;> omega) | decide) only [wkAll, wkL, popO, wantedP, Nat.reduceLeDiff, binP, indexAddrOp, loadOp, loadP, PK.agg, seg, if_pos, if_neg, tf3, tf22, hd, hlt] | refine w_dec (fun _ => ?_) (fun _ => ?_) | refine w_eqc (fun _ => ?_) (fun _ => ?_) | refine w_neqc (fun _ => ?_) (fun _ => ?_) | refine w_nneqc (fun _ => ?_) (fun _ => ?_) | ((first | refine w_split (fun h => ?_) (fun h => ?_) | refine d_split (fun h => ?_) (fun h => ?_) | refine w_csplit (fun h => ?_) (fun h => ?_)) <;> (try simp only [wkS] at h) <;> (have h2 := h) <;> (try simp only [wkT, ne_eq] at h2) <;> (try simp only [h]))
    refine w_pure (negoTwo_ok n (hb n (List.mem_of_getElem? hn))) ?_
    repeat' first | simp -implicitDefEqProofs (maxSteps := 400000) (disch := first | with_reducible rfl | omega | (simp only [wkH] <;> omega) | decide) only [wkAll, wkL, wantedP] | refine w_dec (fun _ => ?_) (fun _ => ?_) | refine w_eqc (fun _ => ?_) (fun _ => ?_) | refine w_neqc (fun _ => ?_) (fun _ => ?_) | refine w_nneqc (fun _ => ?_) (fun _ => ?_) | ((first | refine w_split (fun h => ?_) (fun h => ?_) | refine d_split (fun h => ?_) (fun h => ?_) | refine w_csplit (fun h => ?_) (fun h => ?_)) <;> (try simp only [wkS] at h) <;> (have h2 := h) <;> (try simp only [wkT, ne_eq] at h2) <;> (try simp only [h]))
    refine w_eff (bldW_ok _ _ (ph.n + 2) w ((l.take i).flatMap twoL) _ (by rw [h_get]; rfl) (by rw [h_gro]; rfl) (by rw [h_ty, up_same]) (by rw [hlen2, twoL_len]; omega)) ?_
    repeat' first | simp -implicitDefEqProofs (maxSteps := 400000) (disch := first | with_reducible rfl | omega | (simp only [wkH] <;> omega) | decide) only [wkAll, wkL, popO, wantedP, binP, wkN, if_pos] | refine w_dec (fun _ => ?_) (fun _ => ?_) | refine w_eqc (fun _ => ?_) (fun _ => ?_) | refine w_neqc (fun _ => ?_) (fun _ => ?_) | refine w_nneqc (fun _ => ?_) (fun _ => ?_) | ((first | refine w_split (fun h => ?_) (fun h => ?_) | refine d_split (fun h => ?_) (fun h => ?_) | refine w_csplit (fun h => ?_) (fun h => ?_)) <;> (try simp only [wkS] at h) <;> (have h2 := h) <;> (try simp only [wkT, ne_eq] at h2) <;> (try simp only [h]))
    refine hK (i + 1, true) _ _ (by show i + 1 ≤ _; omega) (by show l.length - (i + 1) < l.length - i; omega) (.eq ?_ ?_)
    · simp [FadeTo]
    · simp only [ht, List.flatMap_append, List.flatMap_cons, List.flatMap_nil, List.append_nil, List.length_append]
  · have hge : ¬ (i : Int) < l.length := by omega
    have hte : l.take i = l := List.take_of_length_le h
    rw [hte] at hlen2 ⊢
    repeat' first | simp -implicitDefEqProofs (maxSteps := 400000) (disch := first | with_reducible rfl | omega | (simp only [wkH] <;> omega) | decide) only [wkAll, wkL, popO, wantedP, binP, if_pos, hge] | refine w_dec (fun _ => ?_) (fun _ => ?_) | refine w_eqc (fun _ => ?_) (fun _ => ?_) | refine w_neqc (fun _ => ?_) (fun _ => ?_) | refine w_nneqc (fun _ => ?_) (fun _ => ?_) | ((first | refine w_split (fun h => ?_) (fun h => ?_) | refine d_split (fun h => ?_) (fun h => ?_) | refine w_csplit (fun h => ?_) (fun h => ?_)) <;> (try simp only [wkS] at h) <;> (have h2 := h) <;> (try simp only [wkT, ne_eq] at h2) <;> (try simp only [h]))
    refine w_eff (bldS_ok _ _ (ph.n + 2) w (l.flatMap twoL) (by rw [h_get]; rfl) (by rw [h_gro]; rfl) (by rw [hlen2]; omega)) ?_
    repeat' first | simp -implicitDefEqProofs (maxSteps := 400000) (disch := first | with_reducible rfl | omega | (simp only [wkH] <;> omega) | decide) only [wkAll, wkL, popO, wantedP, ne_eq, Nat.reduceAdd, Nat.reduceLeDiff, Nat.reduceLT, storeOp, buildP, placeF, fillP, setL, gt_iff_lt, if_pos, if_neg, tf46, Tryz.ze46] | refine w_dec (fun _ => ?_) (fun _ => ?_) | refine w_eqc (fun _ => ?_) (fun _ => ?_) | refine w_neqc (fun _ => ?_) (fun _ => ?_) | refine w_nneqc (fun _ => ?_) (fun _ => ?_) | ((first | refine w_split (fun h => ?_) (fun h => ?_) | refine d_split (fun h => ?_) (fun h => ?_) | refine w_csplit (fun h => ?_) (fun h => ?_)) <;> (try simp only [wkS] at h) <;> (have h2 := h) <;> (try simp only [wkT, ne_eq] at h2) <;> (try simp only [h]))
    refine hQ (by first | exact .inr rfl | exact .inl rfl) (by first | exact trivial | exact marks1) (by first | (simp -implicitDefEqProofs (maxSteps := 400000) (disch := first | with_reducible rfl | omega | (simp only [wkH] <;> omega) | decide) only [wkAll, wkL, Nat.reduceAdd, Nat.reduceLeDiff, loadOp, loadP, PK.agg, seg, if_pos, tf46, resP, resPs, resP1]; rfl) | rfl) ⟨6, by repeat' first | exact frz_scalar rfl | apply frz_tuple | apply frz_agg | apply frz_fsl | apply frz_gsl (by omega) | exact frzs_nil | apply frzs_cons⟩ (by first | exact keepsH0 | exact keeps1 (by assumption) | exact keepsH (fun _ _ h => h) (fun p hp => by simp only [upF]; (repeat rw [if_neg (by omega)])) | exact keeps1t (by assumption) (fun p hp => by simp only [upF]; (repeat rw [if_neg (by omega)])) | (subst hT; exact keepsH (fun _ _ h => h) fun _ _ => rfl)) (nw_eq ?_)
    rfl
/-- A check, called. -/
theorem soV_ok (ph : PH) (p q : Nat) (b : Bool) (e : Int) (h1 : ph.get p = some [.bool b]) (h2 : ph.get q = some [.int .i64 e]) : Eff (Cx w0) 56 [.ptr p 0, .ptr q 0] ph (.int .i64 (if b then 0 else e)) ph := by
  have hp := PH.get_lt h1
  have hq := PH.get_lt h2
  refine eff_of ([Go.ResultVar.tmp 2]) Tryz.func56 rfl rfl (by decide) rfl (fun h => h) fun hW Q hQ => ?_
  simp only [start, List.length_cons, List.length_nil, List.cons_append, List.nil_append, Nat.reduceAdd, Nat.reduceSub, List.replicate_succ, List.replicate_zero, Tryz.ntmps56]
  cases b with
  | true =>
    repeat' first | simp -implicitDefEqProofs (maxSteps := 400000) (disch := first | with_reducible rfl | omega | (simp only [wkH] <;> omega) | decide) only [wkAll, wkL, popO, wantedP, Nat.reduceLeDiff, loadOp, loadP, PK.agg, seg, if_pos, if_neg, tf4, h_getlt hp, h1] | refine w_dec (fun _ => ?_) (fun _ => ?_) | refine w_eqc (fun _ => ?_) (fun _ => ?_) | refine w_neqc (fun _ => ?_) (fun _ => ?_) | refine w_nneqc (fun _ => ?_) (fun _ => ?_) | ((first | refine w_split (fun h => ?_) (fun h => ?_) | refine d_split (fun h => ?_) (fun h => ?_) | refine w_csplit (fun h => ?_) (fun h => ?_)) <;> (try simp only [wkS] at h) <;> (have h2 := h) <;> (try simp only [wkT, ne_eq] at h2) <;> (try simp only [h]))
    refine hQ (by first | exact .inr rfl | exact .inl rfl) (by first | exact trivial | exact marks1) (by first | (simp -implicitDefEqProofs (maxSteps := 400000) (disch := first | with_reducible rfl | omega | (simp only [wkH] <;> omega) | decide) only [wkL, resP, resPs, resP1]; rfl) | rfl) ⟨6, by repeat' first | exact frz_scalar rfl | apply frz_tuple | apply frz_agg | apply frz_fsl | apply frz_gsl (by omega) | exact frzs_nil | apply frzs_cons⟩ (by first | exact keepsH0 | exact keeps1 (by assumption) | exact keepsH (fun _ _ h => h) (fun p hp => by simp only [upF]; (repeat rw [if_neg (by omega)])) | exact keeps1t (by assumption) (fun p hp => by simp only [upF]; (repeat rw [if_neg (by omega)])) | (subst hT; exact keepsH (fun _ _ h => h) fun _ _ => rfl)) (nw_eq ?_)
    rfl
  | false =>
    repeat' first | simp -implicitDefEqProofs (maxSteps := 400000) (disch := first | with_reducible rfl | omega | (simp only [wkH] <;> omega) | decide) only [wkAll, wkL, popO, wantedP, Nat.reduceLeDiff, loadOp, loadP, PK.agg, seg, if_pos, if_neg, tf4, tf29, h_getlt hp, h1, h_getlt hq, h2] | refine w_dec (fun _ => ?_) (fun _ => ?_) | refine w_eqc (fun _ => ?_) (fun _ => ?_) | refine w_neqc (fun _ => ?_) (fun _ => ?_) | refine w_nneqc (fun _ => ?_) (fun _ => ?_) | ((first | refine w_split (fun h => ?_) (fun h => ?_) | refine d_split (fun h => ?_) (fun h => ?_) | refine w_csplit (fun h => ?_) (fun h => ?_)) <;> (try simp only [wkS] at h) <;> (have h2 := h) <;> (try simp only [wkT, ne_eq] at h2) <;> (try simp only [h]))
    refine hQ (by first | exact .inr rfl | exact .inl rfl) (by first | exact trivial | exact marks1) (by first | (simp -implicitDefEqProofs (maxSteps := 400000) (disch := first | with_reducible rfl | omega | (simp only [wkH] <;> omega) | decide) only [wkL, resP, resPs, resP1]; rfl) | rfl) ⟨6, by repeat' first | exact frz_scalar rfl | apply frz_tuple | apply frz_agg | apply frz_fsl | apply frz_gsl (by omega) | exact frzs_nil | apply frzs_cons⟩ (by first | exact keepsH0 | exact keeps1 (by assumption) | exact keepsH (fun _ _ h => h) (fun p hp => by simp only [upF]; (repeat rw [if_neg (by omega)])) | exact keeps1t (by assumption) (fun p hp => by simp only [upF]; (repeat rw [if_neg (by omega)])) | (subst hT; exact keepsH (fun _ _ h => h) fun _ _ => rfl)) (nw_eq ?_)
    rfl
end Pv

namespace Pv
open Go Go.RowKit

/-! ### Words of 32 bits -/
def w32 (x : UInt32) : PV := .int .u32 (x.toNat : Int)
def wC (l : List UInt32) : List PV := l.map w32

theorem wrap_u32 (n : Nat) : IntKind.wrap .u32 (n : Int) = ((n % 4294967296 : Nat) : Int) := by
  simp [IntKind.wrap, IntKind.bits, IntKind.signed]
theorem add32 (x y : UInt32) : IntKind.wrap .u32 ((x.toNat : Int) + (y.toNat : Int)) = ((x + y).toNat : Int) := by
  have : (x.toNat : Int) + (y.toNat : Int) = ((x.toNat + y.toNat : Nat) : Int) := by omega
  rw [this, wrap_u32, UInt32.toNat_add]
theorem wrap32 (x : UInt32) : IntKind.wrap .u32 (x.toNat : Int) = x.toNat := by
  rw [wrap_u32, Nat.mod_eq_of_lt x.toNat_lt]
theorem xor32 (a b : UInt32) : bitsP .xor .u32 a.toNat b.toNat = ((a ^^^ b).toNat : Int) := by
  show IntKind.wrap .u32 (((BitVec.ofInt 32 (a.toNat : Int)) ^^^ (BitVec.ofInt 32 (b.toNat : Int))).toNat : Int) = _
  rw [ofInt_nat, ofInt_nat, BitVec.toNat_xor, BitVec.toNat_ofNat, BitVec.toNat_ofNat, Nat.mod_eq_of_lt a.toNat_lt, Nat.mod_eq_of_lt b.toNat_lt, ← UInt32.toNat_xor]
  exact wrap32 _
theorem and32 (a b : UInt32) : bitsP .and .u32 a.toNat b.toNat = ((a &&& b).toNat : Int) := by
  show IntKind.wrap .u32 (((BitVec.ofInt 32 (a.toNat : Int)) &&& (BitVec.ofInt 32 (b.toNat : Int))).toNat : Int) = _
  rw [ofInt_nat, ofInt_nat, BitVec.toNat_and, BitVec.toNat_ofNat, BitVec.toNat_ofNat, Nat.mod_eq_of_lt a.toNat_lt, Nat.mod_eq_of_lt b.toNat_lt, ← UInt32.toNat_and]
  exact wrap32 _
theorem or32 (a b : UInt32) : bitsP .or .u32 a.toNat b.toNat = ((a ||| b).toNat : Int) := by
  show IntKind.wrap .u32 (((BitVec.ofInt 32 (a.toNat : Int)) ||| (BitVec.ofInt 32 (b.toNat : Int))).toNat : Int) = _
  rw [ofInt_nat, ofInt_nat, BitVec.toNat_or, BitVec.toNat_ofNat, BitVec.toNat_ofNat, Nat.mod_eq_of_lt a.toNat_lt, Nat.mod_eq_of_lt b.toNat_lt, ← UInt32.toNat_or]
  exact wrap32 _
theorem shl32 (x : UInt32) (m : Nat) (h : m < 32) : shlP .u32 (x.toNat : Int) (m : Int) = ((x <<< UInt32.ofNat m).toNat : Int) := by
  have e : min ((m : Int)).toNat (IntKind.bits .u32) = m := by simp [IntKind.bits]; omega
  have e2 : (UInt32.ofNat m).toNat = m := by simp; omega
  simp only [shlP]
  rw [e, UInt32.toNat_shiftLeft, e2, Nat.mod_eq_of_lt h, Nat.shiftLeft_eq]
  have : (x.toNat : Int) * 2 ^ m = ((x.toNat * 2 ^ m : Nat) : Int) := by simp
  rw [this, wrap_u32]
theorem shr32 (x : UInt32) (m : Nat) (h : m < 32) : shrP .u32 (x.toNat : Int) (m : Int) = ((x >>> UInt32.ofNat m).toNat : Int) := by
  have e : min ((m : Int)).toNat (IntKind.bits .u32) = m := by simp [IntKind.bits]; omega
  have e2 : (UInt32.ofNat m).toNat = m := by simp; omega
  simp only [shrP]
  rw [e, UInt32.toNat_shiftRight, e2, Nat.mod_eq_of_lt h, Nat.shiftRight_eq_div_pow]
  have e3 : (2 : Int) ^ m = ((2 ^ m : Nat) : Int) := by simp
  rw [e3, Int.fdiv_eq_ediv_of_nonneg _ (Int.natCast_nonneg _)]; rfl
theorem shl32_8 (x : UInt32) : shlP .u32 (x.toNat : Int) 8 = ((x <<< 8).toNat : Int) := shl32 x 8 (by decide)
theorem shl32_16 (x : UInt32) : shlP .u32 (x.toNat : Int) 16 = ((x <<< 16).toNat : Int) := shl32 x 16 (by decide)
theorem shl32_24 (x : UInt32) : shlP .u32 (x.toNat : Int) 24 = ((x <<< 24).toNat : Int) := shl32 x 24 (by decide)
theorem shr32_3 (x : UInt32) : shrP .u32 (x.toNat : Int) 3 = ((x >>> 3).toNat : Int) := shr32 x 3 (by decide)
theorem shr32_8 (x : UInt32) : shrP .u32 (x.toNat : Int) 8 = ((x >>> 8).toNat : Int) := shr32 x 8 (by decide)
theorem shr32_10 (x : UInt32) : shrP .u32 (x.toNat : Int) 10 = ((x >>> 10).toNat : Int) := shr32 x 10 (by decide)
theorem shr32_16 (x : UInt32) : shrP .u32 (x.toNat : Int) 16 = ((x >>> 16).toNat : Int) := shr32 x 16 (by decide)
theorem shr32_24 (x : UInt32) : shrP .u32 (x.toNat : Int) 24 = ((x >>> 24).toNat : Int) := shr32 x 24 (by decide)
/-- A byte, as a word. -/
theorem b32 (b : UInt8) : (b.toUInt32.toNat : Int) = (b.toNat : Int) := by simp
theorem low32 (x : UInt32) : IntKind.wrap .u8 (x.toNat : Int) = (x.toUInt8.toNat : Int) := by
  have : IntKind.wrap .u8 ((x.toNat : Nat) : Int) = ((x.toNat % 256 : Nat) : Int) := by simp [IntKind.wrap, IntKind.bits, IntKind.signed]
  rw [this]; simp

def rotr (x : UInt32) (n : Nat) : UInt32 := (x >>> UInt32.ofNat n) ||| (x <<< UInt32.ofNat (32 - n))

theorem wC_get (l : List UInt32) (i : Nat) : (wC l)[i]? = (l[i]?).map w32 := by simp [wC]
theorem wC_len (l : List UInt32) : (wC l).length = l.length := by simp [wC]
theorem wC_set (l : List UInt32) (i : Nat) (x : UInt32) : (wC l).set i (.int .u32 (x.toNat : Int)) = wC (l.set i x) := by simp [wC, List.map_set, w32]
theorem wC_ok (l : List UInt32) : (wC l).all cellOk = true := by simp [wC, w32, cellOk]
theorem wC_scalar (l : List UInt32) : (wC l).all scalarV = true := by simp [wC, w32, scalarV]
theorem scs_w {n : Nat} {l : List UInt32} : Scs n (wC l) = True := eq_true (scs_scalars (wC_scalar l))
theorem wC_zero (n : Nat) : List.replicate n (PV.int .u32 0) = wC (List.replicate n 0) := by simp [wC, w32]
end Pv

namespace Pv
open Go

/-! ### Chapter 6: SHA-256 -/
def shaK : List UInt32 := [0x428a2f98, 0x71374491, 0xb5c0fbcf, 0xe9b5dba5, 0x3956c25b, 0x59f111f1, 0x923f82a4, 0xab1c5ed5, 0xd807aa98, 0x12835b01, 0x243185be, 0x550c7dc3, 0x72be5d74, 0x80deb1fe, 0x9bdc06a7, 0xc19bf174, 0xe49b69c1, 0xefbe4786, 0x0fc19dc6, 0x240ca1cc, 0x2de92c6f, 0x4a7484aa, 0x5cb0a9dc, 0x76f988da, 0x983e5152, 0xa831c66d, 0xb00327c8, 0xbf597fc7, 0xc6e00bf3, 0xd5a79147, 0x06ca6351, 0x14292967, 0x27b70a85, 0x2e1b2138, 0x4d2c6dfc, 0x53380d13, 0x650a7354, 0x766a0abb, 0x81c2c92e, 0x92722c85, 0xa2bfe8a1, 0xa81a664b, 0xc24b8b70, 0xc76c51a3, 0xd192e819, 0xd6990624, 0xf40e3585, 0x106aa070, 0x19a4c116, 0x1e376c08, 0x2748774c, 0x34b0bcb5, 0x391c0cb3, 0x4ed8aa4a, 0x5b9cca4f, 0x682e6ff3, 0x748f82ee, 0x78a5636f, 0x84c87814, 0x8cc70208, 0x90befffa, 0xa4506ceb, 0xbef9a3f7, 0xc67178f2]
def shaH0 : List UInt32 := [0x6a09e667, 0xbb67ae85, 0x3c6ef372, 0xa54ff53a, 0x510e527f, 0x9b05688c, 0x1f83d9ab, 0x5be0cd19]

/-- Big-endian words of a text's bytes: n bytes from i on. -/
def beW (s : List UInt8) (i : Nat) : Nat → UInt32
  | 0 => 0
  | n + 1 => (beW s i n <<< 8) ||| (s.getD (i + n) 0).toUInt32
def sig0 (a : UInt32) : UInt32 := rotr a 7 ^^^ rotr a 18 ^^^ (a >>> 3)
def sig1 (b : UInt32) : UInt32 := rotr b 17 ^^^ rotr b 19 ^^^ (b >>> 10)
def nextW (s : List UInt8) (w : List UInt32) : UInt32 :=
  if w.length < 16 then beW s (4 * w.length) 4
  else w.getD (w.length - 16) 0 + w.getD (w.length - 7) 0 + sig0 (w.getD (w.length - 15) 0) + sig1 (w.getD (w.length - 2) 0)
def schedL (s : List UInt8) : Nat → List UInt32
  | 0 => []
  | i + 1 => schedL s i ++ [nextW s (schedL s i)]
theorem schedL_len (s : List UInt8) : ∀ i, (schedL s i).length = i
  | 0 => rfl
  | i + 1 => by simp [schedL, schedL_len s i]

/-- One round; k and w: the round's words. -/
def roundL (h : List UInt32) (k w : UInt32) : List UInt32 :=
  let a := h.getD 0 0; let b := h.getD 1 0; let c := h.getD 2 0; let e := h.getD 4 0; let f := h.getD 5 0; let g := h.getD 6 0
  let t := h.getD 7 0 + (rotr e 6 ^^^ rotr e 11 ^^^ rotr e 25) + ((e &&& f) ^^^ (~~~ e &&& g)) + k + w
  let u := (rotr a 2 ^^^ rotr a 13 ^^^ rotr a 22) + ((a &&& b) ^^^ (a &&& c) ^^^ (b &&& c))
  [t + u, a, b, c, h.getD 3 0 + t, e, f, g]
def roundsL (h : List UInt32) (s : List UInt8) : Nat → List UInt32
  | 0 => h
  | i + 1 => roundL (roundsL h s i) (shaK.getD i 0) ((schedL s 64).getD i 0)
theorem roundsL_len {h : List UInt32} (hl : h.length = 8) (s : List UInt8) : ∀ i, (roundsL h s i).length = 8
  | 0 => hl
  | i + 1 => rfl
/-- What a block makes of eight words. -/
def blockW (h : List UInt32) (s : List UInt8) : List UInt32 := List.zipWith (· + ·) (roundsL h s 64) h
def blockL (h : List UInt32) (s : List UInt8) : List UInt32 × Int := if s.length = 64 then (blockW h s, 0) else (List.replicate 8 0, 10)
theorem blockW_len {h : List UInt32} (hl : h.length = 8) (s : List UInt8) : (blockW h s).length = 8 := by simp [blockW, roundsL_len hl, hl]

theorem ch_eq (e f g : UInt32) : g ^^^ (e &&& (f ^^^ g)) = (e &&& f) ^^^ (~~~ e &&& g) := by
  apply UInt32.toBitVec_inj.1
  simp only [UInt32.toBitVec_xor, UInt32.toBitVec_and, UInt32.toBitVec_not]
  apply BitVec.eq_of_getLsbD_eq
  intro i hi
  simp only [BitVec.getLsbD_xor, BitVec.getLsbD_and, BitVec.getLsbD_not, hi, decide_true, Bool.true_and]
  cases e.toBitVec.getLsbD i <;> cases f.toBitVec.getLsbD i <;> cases g.toBitVec.getLsbD i <;> rfl
theorem maj_eq (a b c : UInt32) : (a &&& b) ||| (c &&& (a ||| b)) = (a &&& b) ^^^ (a &&& c) ^^^ (b &&& c) := by
  apply UInt32.toBitVec_inj.1
  simp only [UInt32.toBitVec_xor, UInt32.toBitVec_and, UInt32.toBitVec_or]
  apply BitVec.eq_of_getLsbD_eq
  intro i hi
  simp only [BitVec.getLsbD_xor, BitVec.getLsbD_and, BitVec.getLsbD_or]
  cases a.toBitVec.getLsbD i <;> cases b.toBitVec.getLsbD i <;> cases c.toBitVec.getLsbD i <;> rfl

/-- A list of eight. -/
theorem eight {α : Type} {l : List α} (h : l.length = 8) : ∃ a b c d e f g i, l = [a, b, c, d, e, f, g, i] := by
  match l, h with
  | [a, b, c, d, e, f, g, i], _ => exact ⟨a, b, c, d, e, f, g, i, rfl⟩
end Pv
