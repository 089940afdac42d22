/- Part of the proof: the layer of pure values, or walks through functions (PvNg23). -/
import Derived.Test.YtjomgffpkdcanaaGreatPvNg20
import Derived.Test.YtjomgffpkdcanaaGreatPvNg14
import Derived.Test.YtjomgffpkdcanaaGreatPvNg12
set_option linter.all false
--nosplit
--keep2
namespace Pv
set_option maxRecDepth 20000
set_option maxHeartbeats 4000000
open Go Go.Proofs Go.RowKit
def tb13_25Ng23 : Tab := [[], [0], [], [], [2, 3], [2, 3, 4], [2, 3, 4, 5], [2, 3, 4, 5, 6], [0, 1, 2, 3, 4, 5, 6, 7], [0, 1, 2, 3, 4, 5, 6, 7, 8], [0, 1, 2, 3, 4, 5, 6, 7, 8, 9]]
def pl13_25Ng23 : Plan := [(0, true, []), (1, true, []), (2, true, []), (3, true, []), (4, true, []), (5, true, []), (6, true, []), (7, false, [0, 1]), (8, false, []), (9, true, []), (10, false, [])]
def tb50_6Ng23 : Tab := [[], [], [0, 1], [0, 1, 2], [], [], [4, 5], [4, 5, 6], [0, 1, 2, 3, 4, 5, 6, 7]]
def pl50_6Ng23 : Plan := [(0, true, []), (1, true, []), (2, true, []), (3, true, []), (4, true, []), (5, true, []), (6, true, []), (7, true, []), (8, true, [])]
variable {w0 : World}

theorem equalS_ok (a b : List (List UInt8)) (ha : a.length < 2 ^ 40) (hb : b.length < 2 ^ 40) : Fn (Cx w0) 50 [.fsl 1 a.length (a.map PV.str), .fsl 1 b.length (b.map PV.str)] (.bool (decide (a = b))) := by
  by_cases hl : a.length = b.length
  · have hl' : ((a.length : Int) != (b.length : Int)) = false := by rw [hl]; exact bne_self_eq_false _
    refine fn_H ([Go.ResultVar.tmp 4]) Tryz.func50 rfl rfl (by decide) fun ph hW Q hQ => ?_
    simp only [start, List.length_cons, List.length_nil, List.cons_append, List.nil_append, Nat.reduceAdd, Nat.reduceSub, List.replicate_succ, List.replicate_zero, Tryz.ntmps50]
    repeat' first | simp -implicitDefEqProofs (maxSteps := 400000) (disch := first | with_reducible rfl | omega | (simp only [wkH] <;> omega) | decide) only [wkAll, wkL, popO, wantedP, binP, lenP, builtinP, if_pos, tf23, hl'] | refine w_drawnF (id := 6) tb50_6Ng23 pl50_6Ng23 25 (by kernel_rfl) (by kernel_rfl) (by simp) ?_
    refine w_loopH (α := Nat) ph ph.ob ph.ty (fun i => [.fsl 1 a.length (a.map PV.str), .fsl 1 b.length (b.map PV.str), .undef, .undef, .undef, .undef, .undef, .undef, .undef, .undef, .undef, .undef, .int .i64 a.length, .int .i64 i, .undef, .undef, .undef, .undef, .undef, .undef, .undef, .undef, .undef, .undef, .undef, .undef]) (fun i => []) (fun i => i ≤ a.length ∧ a.take i = b.take i) (fun i => a.length - i) 0 (by simp) (fun _ _ => by simp) (.eq (by simp [FadeTo]) rfl) ?_
    rintro i ⟨hi, heq⟩ K hK
    rcases Nat.lt_or_ge i a.length with h | h
    · obtain ⟨x, hx⟩ := get_some h
      obtain ⟨y, hy⟩ := get_some (l := b) (i := i) (by omega)
      have cx : (a.map PV.str)[i]? = some (.str x) := by rw [List.getElem?_map, hx]; rfl
      have cy : (b.map PV.str)[i]? = some (.str y) := by rw [List.getElem?_map, hy]; rfl
      have hlt : (i : Int) < (a.length : Int) := by omega
      have hlt2 : (i : Int) < (b.length : Int) := by omega
      by_cases hxy : x = y
      · have g := strEqT hxy
        repeat' first | simp -implicitDefEqProofs (maxSteps := 400000) (disch := first | with_reducible rfl | omega | (simp only [wkH] <;> omega) | decide) only [wkAll, wkL, popO, wantedP, binP, indexAddrOp, loadOp, loadP, PK.agg, seg, wkN, if_pos, if_neg, tf9, tf23, pl50_6Ng23, hlt, hlt2, List.getElem?_drop, cx, cy, g] | refine w_drawnF (id := 6) tb50_6Ng23 pl50_6Ng23 25 (by kernel_rfl) (by kernel_rfl) (by simp) ?_
        all_goals exact hK (i + 1) _ _ ⟨by omega, by rw [take_snoc hx, take_snoc hy, heq, hxy]⟩ (by omega) (.eq (by simp [FadeTo]) rfl)
      · have g := strEqF hxy
        rw [show decide (a = b) = false from decide_eq_false (take_dif' hx hy hxy)] at hQ
        repeat' first | simp -implicitDefEqProofs (maxSteps := 400000) (disch := first | with_reducible rfl | omega | (simp only [wkH] <;> omega) | decide) only [wkAll, wkL, popO, wantedP, binP, indexAddrOp, loadOp, loadP, PK.agg, seg, if_pos, if_neg, tf9, tf23, pl50_6Ng23, hlt, hlt2, List.getElem?_drop, cx, cy, g] | refine w_drawnF (id := 6) tb50_6Ng23 pl50_6Ng23 25 (by kernel_rfl) (by kernel_rfl) (by simp) ?_
        all_goals
          refine hQ (by first | exact .inr rfl | exact .inl rfl) (by first | exact trivial | exact marks1) (by first | (simp -implicitDefEqProofs (maxSteps := 400000) (disch := first | with_reducible rfl | omega | (simp only [wkH] <;> omega) | decide) only [wkL, resP, resPs, resP1]; rfl) | rfl) ⟨6, by repeat' first | exact frz_scalar rfl | apply frz_tuple | apply frz_agg | apply frz_fsl | apply frz_gsl (by omega) | exact frzs_nil | apply frzs_cons⟩ (by first | exact keepsH0 | exact keeps1 (by assumption)) (nw_eq ?_)
          rfl
    · have hge : ¬ (i : Int) < (a.length : Int) := by omega
      rw [show decide (a = b) = true from decide_eq_true (by rw [← List.take_of_length_le h, heq, List.take_of_length_le (by omega)])] at hQ
      repeat' first | simp -implicitDefEqProofs (maxSteps := 400000) (disch := first | with_reducible rfl | omega | (simp only [wkH] <;> omega) | decide) only [wkAll, wkL, popO, wantedP, binP, if_pos, hge] | refine w_drawnF (id := 6) tb50_6Ng23 pl50_6Ng23 25 (by kernel_rfl) (by kernel_rfl) (by simp) ?_
      refine hQ (by first | exact .inr rfl | exact .inl rfl) (by first | exact trivial | exact marks1) (by first | (simp -implicitDefEqProofs (maxSteps := 400000) (disch := first | with_reducible rfl | omega | (simp only [wkH] <;> omega) | decide) only [wkL, resP, resPs, resP1]; rfl) | rfl) ⟨6, by repeat' first | exact frz_scalar rfl | apply frz_tuple | apply frz_agg | apply frz_fsl | apply frz_gsl (by omega) | exact frzs_nil | apply frzs_cons⟩ (by first | exact keepsH0 | exact keeps1 (by assumption)) (nw_eq ?_)
      rfl
  · have hl' : ((a.length : Int) != (b.length : Int)) = true := by rw [bne_iff_ne]; omega
    rw [show decide (a = b) = false from decide_eq_false (by rintro rfl; exact hl rfl)]
    refine fn_H ([Go.ResultVar.tmp 4]) Tryz.func50 rfl rfl (by decide) fun ph hW Q hQ => ?_
    simp only [start, List.length_cons, List.length_nil, List.cons_append, List.nil_append, Nat.reduceAdd, Nat.reduceSub, List.replicate_succ, List.replicate_zero, Tryz.ntmps50]
    repeat' first | simp -implicitDefEqProofs (maxSteps := 400000) (disch := first | with_reducible rfl | omega | (simp only [wkH] <;> omega) | decide) only [wkAll, wkL, popO, wantedP, binP, lenP, builtinP, if_pos, tf23, hl'] | refine w_drawnF (id := 6) tb50_6Ng23 pl50_6Ng23 25 (by kernel_rfl) (by kernel_rfl) (by simp) ?_
    refine hQ (by first | exact .inr rfl | exact .inl rfl) (by first | exact trivial | exact marks1) (by first | (simp -implicitDefEqProofs (maxSteps := 400000) (disch := first | with_reducible rfl | omega | (simp only [wkH] <;> omega) | decide) only [wkL, resP, resPs, resP1]; rfl) | rfl) ⟨6, by repeat' first | exact frz_scalar rfl | apply frz_tuple | apply frz_agg | apply frz_fsl | apply frz_gsl (by omega) | exact frzs_nil | apply frzs_cons⟩ (by first | exact keepsH0 | exact keeps1 (by assumption)) (nw_eq ?_)
    rfl
theorem negoSame_ok (d q : DL) (hd : d.c.length < 2 ^ 40) (hq : q.c.length < 2 ^ 40) : Fn (Cx w0) 15 [.agg (dlC d), .agg (dlC q)] (.bool (decide (d = q))) := by
  have te := equalS_ok (w0 := w0) d.c q.c hd hq
  unfold dlC
  rcases (Decidable.em (d.a = q.a)).symm with c0 | c0
  · have g0 : (d.a == q.a) = false := by rw [beq_eq_false_iff_ne]; exact c0
    rw [show decide (d = q) = false from decide_eq_false (fun h => c0 (by rw [h]))]
    refine fn_H ([Go.ResultVar.tmp 4]) Tryz.func15 rfl rfl (by decide) fun ph hW Q hQ => ?_
    simp only [start, List.length_cons, List.length_nil, List.cons_append, List.nil_append, Nat.reduceAdd, Nat.reduceSub, List.replicate_succ, List.replicate_zero, Tryz.ntmps15]
    repeat' first | simp -implicitDefEqProofs (maxSteps := 400000) (disch := first | with_reducible rfl | omega | (simp only [wkH] <;> omega) | decide) only [wkAll, wkL, popO, wantedP, Nat.reduceAdd, Nat.reduceLeDiff, binP, loadOp, loadP, fieldAddrOp, PK.agg, seg, if_pos, if_neg, tf3, tf38, g0]
    refine hQ (by first | exact .inr rfl | exact .inl rfl) (by first | exact trivial | exact marks1) (by first | (simp -implicitDefEqProofs (maxSteps := 400000) (disch := first | with_reducible rfl | omega | (simp only [wkH] <;> omega) | decide) only [wkL, resP, resPs, resP1]; rfl) | rfl) ⟨6, by repeat' first | exact frz_scalar rfl | apply frz_tuple | apply frz_agg | apply frz_fsl | apply frz_gsl (by omega) | exact frzs_nil | apply frzs_cons⟩ (by first | exact keepsH0 | exact keeps1 (by assumption)) (nw_eq ?_)
    rfl
  have g0 : (d.a == q.a) = true := by rw [beq_iff_eq]; exact c0
  rcases (Decidable.em (d.h = q.h)).symm with c1 | c1
  · have g1 : (d.h == q.h) = false := by rw [beq_eq_false_iff_ne]; exact c1
    rw [show decide (d = q) = false from decide_eq_false (fun h => c1 (by rw [h]))]
    refine fn_H ([Go.ResultVar.tmp 4]) Tryz.func15 rfl rfl (by decide) fun ph hW Q hQ => ?_
    simp only [start, List.length_cons, List.length_nil, List.cons_append, List.nil_append, Nat.reduceAdd, Nat.reduceSub, List.replicate_succ, List.replicate_zero, Tryz.ntmps15]
    repeat' first | simp -implicitDefEqProofs (maxSteps := 400000) (disch := first | with_reducible rfl | omega | (simp only [wkH] <;> omega) | decide) only [wkAll, wkL, popO, wantedP, Nat.reduceAdd, Nat.reduceLeDiff, binP, loadOp, loadP, fieldAddrOp, PK.agg, seg, if_pos, if_neg, tf3, tf9, tf38, g0, g1]
    refine hQ (by first | exact .inr rfl | exact .inl rfl) (by first | exact trivial | exact marks1) (by first | (simp -implicitDefEqProofs (maxSteps := 400000) (disch := first | with_reducible rfl | omega | (simp only [wkH] <;> omega) | decide) only [wkL, resP, resPs, resP1]; rfl) | rfl) ⟨6, by repeat' first | exact frz_scalar rfl | apply frz_tuple | apply frz_agg | apply frz_fsl | apply frz_gsl (by omega) | exact frzs_nil | apply frzs_cons⟩ (by first | exact keepsH0 | exact keeps1 (by assumption)) (nw_eq ?_)
    rfl
  have g1 : (d.h == q.h) = true := by rw [beq_iff_eq]; exact c1
  rcases (Decidable.em (d.p = q.p)).symm with c2 | c2
  · have g2 : (d.p == q.p) = false := by rw [beq_eq_false_iff_ne]; exact c2
    rw [show decide (d = q) = false from decide_eq_false (fun h => c2 (by rw [h]))]
    refine fn_H ([Go.ResultVar.tmp 4]) Tryz.func15 rfl rfl (by decide) fun ph hW Q hQ => ?_
    simp only [start, List.length_cons, List.length_nil, List.cons_append, List.nil_append, Nat.reduceAdd, Nat.reduceSub, List.replicate_succ, List.replicate_zero, Tryz.ntmps15]
    repeat' first | simp -implicitDefEqProofs (maxSteps := 400000) (disch := first | with_reducible rfl | omega | (simp only [wkH] <;> omega) | decide) only [wkAll, wkL, popO, wantedP, Nat.reduceAdd, Nat.reduceLeDiff, binP, loadOp, loadP, fieldAddrOp, PK.agg, seg, if_pos, if_neg, tf3, tf9, tf38, g0, g1, g2]
    refine hQ (by first | exact .inr rfl | exact .inl rfl) (by first | exact trivial | exact marks1) (by first | (simp -implicitDefEqProofs (maxSteps := 400000) (disch := first | with_reducible rfl | omega | (simp only [wkH] <;> omega) | decide) only [wkL, resP, resPs, resP1]; rfl) | rfl) ⟨6, by repeat' first | exact frz_scalar rfl | apply frz_tuple | apply frz_agg | apply frz_fsl | apply frz_gsl (by omega) | exact frzs_nil | apply frzs_cons⟩ (by first | exact keepsH0 | exact keeps1 (by assumption)) (nw_eq ?_)
    rfl
  have g2 : (d.p == q.p) = true := by rw [beq_iff_eq]; exact c2
  rw [dl_ext c0 c1 c2]
  refine fn_H ([Go.ResultVar.tmp 4]) Tryz.func15 rfl rfl (by decide) fun ph hW Q hQ => ?_
  simp only [start, List.length_cons, List.length_nil, List.cons_append, List.nil_append, Nat.reduceAdd, Nat.reduceSub, List.replicate_succ, List.replicate_zero, Tryz.ntmps15]
  repeat' first | simp -implicitDefEqProofs (maxSteps := 400000) (disch := first | with_reducible rfl | omega | (simp only [wkH] <;> omega) | decide) only [wkAll, wkL, popO, wantedP, Nat.reduceAdd, Nat.reduceLeDiff, binP, loadOp, loadP, fieldAddrOp, PK.agg, seg, if_pos, if_neg, tf3, tf9, tf23, tf38, g0, g1, g2] | refine w_pure (te) ?_
  refine hQ (by first | exact .inr rfl | exact .inl rfl) (by first | exact trivial | exact marks1) (by first | (simp -implicitDefEqProofs (maxSteps := 400000) (disch := first | with_reducible rfl | omega | (simp only [wkH] <;> omega) | decide) only [wkL, resP, resPs, resP1]; rfl) | rfl) ⟨6, by repeat' first | exact frz_scalar rfl | apply frz_tuple | apply frz_agg | apply frz_fsl | apply frz_gsl (by omega) | exact frzs_nil | apply frzs_cons⟩ (by first | exact keepsH0 | exact keeps1 (by assumption)) (nw_eq ?_)
  rfl
theorem refAccept_ok (A : List Int) (l : List KR) (hA : A.length < 2 ^ 40) (hl : l.length < 2 ^ 40) (hb : ∀ r ∈ l, r.b.length < 2 ^ 50) : Fn (Cx w0) 13 [.fsl 1 A.length (intsC A), .fsl 3 l.length (krsC l)] (.tuple [.agg (dlC (acceptL A l).1), .int .i64 (acceptL A l).2]) := by
  have s1 := refSingle_ok (w0 := w0) l 1 hl hb
  have s4 := refSingle_ok (w0 := w0) l 4 hl hb
  have t2 := refFind_ok (w0 := w0) l 2 hl
  have tu := refUnknown_ok (w0 := w0) l hl
  have tc := refHas_ok (w0 := w0) A (singL l 4).1 hA
  have tk := refKeySize_ok (w0 := w0) (singL l 4).1
  have hE : acE A l = [(14, ((findL l 2).length : Int) == 0), (23, decide (idxL unkR l < 0)), (10, (singL l 1).2 && ((singL l 1).1 == 0) && (singL l 4).2), (13, A.any (fun y => (singL l 4).1 == y) && decide (0 < kszL (singL l 4).1))] := rfl
  by_cases c0 : 0 < (findL l 2).length
  · have c0' : (0 : Int) < ((findL l 2).length : Int) := by omega
    have e0 : (((findL l 2).length : Int) == 0) = false := by rw [beq_eq_false_iff_ne]; omega
    rw [show acceptL A l = (⟨0, [], [], 0⟩, 14) by rw [acceptL, hE, e0]; simp [firE]]
    refine fn_H ([Go.ResultVar.cell 4 38, Go.ResultVar.tmp 5]) Tryz.func13 rfl rfl (by decide) fun ph hW Q hQ => ?_
    simp only [start, List.length_cons, List.length_nil, List.cons_append, List.nil_append, Nat.reduceAdd, Nat.reduceSub, List.replicate_succ, List.replicate_zero, Tryz.ntmps13]
    repeat' first | simp -implicitDefEqProofs (maxSteps := 400000) (disch := first | with_reducible rfl | omega | (simp only [wkH] <;> omega) | decide) only [wkAll, wkL, popO, wantedP, Nat.reduceAdd, Nat.reduceLeDiff, binP, lenP, builtinP, loadOp, storeOp, loadP, buildP, placeF, fillP, setL, PK.agg, gt_iff_lt, seg, if_pos, if_neg, tf26, tf38, Tryz.ze38, c0', gt_iff_lt] | refine w_pure (t2) ?_ | refine w_drawnF (id := 25) tb13_25Ng23 pl13_25Ng23 92 (by kernel_rfl) (by kernel_rfl) (by simp) ?_
    refine hQ (by first | exact .inr rfl | exact .inl rfl) (by first | exact trivial | exact marks1) (by first | (simp -implicitDefEqProofs (maxSteps := 400000) (disch := first | with_reducible rfl | omega | (simp only [wkH] <;> omega) | decide) only [wkAll, wkL, Nat.reduceAdd, Nat.reduceLeDiff, loadOp, loadP, PK.agg, seg, if_pos, tf38, resP, resPs, resP1]; rfl) | rfl) ⟨6, by repeat' first | exact frz_scalar rfl | apply frz_tuple | apply frz_agg | apply frz_fsl | apply frz_gsl (by omega) | exact frzs_nil | apply frzs_cons⟩ (by first | exact keepsH0 | exact keeps1 (by assumption)) ?_
    repeat' first | exact nw_nil | exact nw_zsl | apply nw_tuple | apply nw_agg | exact nws_nil | apply nws_cons | exact nw_eq rfl | apply nw_eq
  have c0' : ¬ (0 : Int) < ((findL l 2).length : Int) := by omega
  have e0 : (((findL l 2).length : Int) == 0) = true := by rw [beq_iff_eq]; omega
  rw [e0] at hE
  by_cases c1 : 0 ≤ idxL unkR l
  · have e1 : decide (idxL unkR l < 0) = false := by rw [decide_eq_false_iff_not]; omega
    rw [show acceptL A l = (⟨0, [], [], 0⟩, 23) by rw [acceptL, hE, e1]; simp [firE]]
    refine fn_H ([Go.ResultVar.cell 4 38, Go.ResultVar.tmp 5]) Tryz.func13 rfl rfl (by decide) fun ph hW Q hQ => ?_
    simp only [start, List.length_cons, List.length_nil, List.cons_append, List.nil_append, Nat.reduceAdd, Nat.reduceSub, List.replicate_succ, List.replicate_zero, Tryz.ntmps13]
    repeat' first | simp -implicitDefEqProofs (maxSteps := 400000) (disch := first | with_reducible rfl | omega | (simp only [wkH] <;> omega) | decide) only [wkAll, wkL, popO, wantedP, Nat.reduceAdd, Nat.reduceLeDiff, binP, lenP, builtinP, loadOp, storeOp, loadP, buildP, placeF, fillP, setL, PK.agg, gt_iff_lt, seg, if_pos, if_neg, tf26, tf38, Tryz.ze38, c0', c1, gt_iff_lt] | refine w_pure (t2) ?_ | refine w_pure (tu) ?_ | refine w_drawnF (id := 25) tb13_25Ng23 pl13_25Ng23 92 (by kernel_rfl) (by kernel_rfl) (by simp) ?_
    refine hQ (by first | exact .inr rfl | exact .inl rfl) (by first | exact trivial | exact marks1) (by first | (simp -implicitDefEqProofs (maxSteps := 400000) (disch := first | with_reducible rfl | omega | (simp only [wkH] <;> omega) | decide) only [wkAll, wkL, Nat.reduceAdd, Nat.reduceLeDiff, loadOp, loadP, PK.agg, seg, if_pos, tf38, resP, resPs, resP1]; rfl) | rfl) ⟨6, by repeat' first | exact frz_scalar rfl | apply frz_tuple | apply frz_agg | apply frz_fsl | apply frz_gsl (by omega) | exact frzs_nil | apply frzs_cons⟩ (by first | exact keepsH0 | exact keeps1 (by assumption)) ?_
    repeat' first | exact nw_nil | exact nw_zsl | apply nw_tuple | apply nw_agg | exact nws_nil | apply nws_cons | exact nw_eq rfl | apply nw_eq
  have e1 : decide (idxL unkR l < 0) = true := by rw [decide_eq_true_iff]; omega
  rw [e1] at hE
  by_cases c2 : (singL l 1).2 = true ∧ (singL l 1).1 = 0
  · obtain ⟨c2, c3⟩ := c2
    have c3' := bneF c3
    have e2 : ((singL l 1).1 == 0) = true := by rw [beq_iff_eq]; exact c3
    rw [c2] at s1
    rw [c2, e2, Bool.true_and, Bool.true_and] at hE
    cases c4 : (singL l 4).2 with
    | false =>
      rw [c4] at s4 hE
      rw [show acceptL A l = (⟨0, [], [], 0⟩, 10) by rw [acceptL, hE]; simp [firE]]
      refine fn_H ([Go.ResultVar.cell 4 38, Go.ResultVar.tmp 5]) Tryz.func13 rfl rfl (by decide) fun ph hW Q hQ => ?_
      simp only [start, List.length_cons, List.length_nil, List.cons_append, List.nil_append, Nat.reduceAdd, Nat.reduceSub, List.replicate_succ, List.replicate_zero, Tryz.ntmps13]
      repeat' first | simp -implicitDefEqProofs (maxSteps := 400000) (disch := first | with_reducible rfl | omega | (simp only [wkH] <;> omega) | decide) only [wkAll, wkL, popO, wantedP, Nat.reduceAdd, Nat.reduceLeDiff, binP, unP, lenP, builtinP, loadOp, storeOp, loadP, buildP, placeF, fillP, setL, PK.agg, gt_iff_lt, seg, if_pos, if_neg, tf26, tf38, Tryz.ze38, c0', c1, c3', gt_iff_lt] | refine w_pure (t2) ?_ | refine w_pure (tu) ?_ | refine w_pure (s1) ?_ | refine w_pure (s4) ?_ | refine w_drawnF (id := 25) tb13_25Ng23 pl13_25Ng23 92 (by kernel_rfl) (by kernel_rfl) (by simp) ?_
      refine hQ (by first | exact .inr rfl | exact .inl rfl) (by first | exact trivial | exact marks1) (by first | (simp -implicitDefEqProofs (maxSteps := 400000) (disch := first | with_reducible rfl | omega | (simp only [wkH] <;> omega) | decide) only [wkAll, wkL, Nat.reduceAdd, Nat.reduceLeDiff, loadOp, loadP, PK.agg, seg, if_pos, tf38, resP, resPs, resP1]; rfl) | rfl) ⟨6, by repeat' first | exact frz_scalar rfl | apply frz_tuple | apply frz_agg | apply frz_fsl | apply frz_gsl (by omega) | exact frzs_nil | apply frzs_cons⟩ (by first | exact keepsH0 | exact keeps1 (by assumption)) ?_
      repeat' first | exact nw_nil | exact nw_zsl | apply nw_tuple | apply nw_agg | exact nws_nil | apply nws_cons | exact nw_eq rfl | apply nw_eq
    | true =>
      rw [c4] at s4 hE
      cases c5 : A.any (fun y => (singL l 4).1 == y) with
      | false =>
        rw [c5] at tc hE
        rw [show acceptL A l = (⟨0, [], [], 0⟩, 13) by rw [acceptL, hE]; simp [firE]]
        refine fn_H ([Go.ResultVar.cell 4 38, Go.ResultVar.tmp 5]) Tryz.func13 rfl rfl (by decide) fun ph hW Q hQ => ?_
        simp only [start, List.length_cons, List.length_nil, List.cons_append, List.nil_append, Nat.reduceAdd, Nat.reduceSub, List.replicate_succ, List.replicate_zero, Tryz.ntmps13]
        repeat' first | simp -implicitDefEqProofs (maxSteps := 400000) (disch := first | with_reducible rfl | omega | (simp only [wkH] <;> omega) | decide) only [wkAll, wkL, popO, wantedP, Nat.reduceAdd, Nat.reduceLeDiff, binP, unP, lenP, builtinP, loadOp, storeOp, loadP, buildP, placeF, fillP, setL, PK.agg, gt_iff_lt, seg, if_pos, if_neg, tf26, tf38, Tryz.ze38, c0', c1, c3', gt_iff_lt] | refine w_pure (t2) ?_ | refine w_pure (tu) ?_ | refine w_pure (s1) ?_ | refine w_pure (s4) ?_ | refine w_pure (tc) ?_ | refine w_drawnF (id := 25) tb13_25Ng23 pl13_25Ng23 92 (by kernel_rfl) (by kernel_rfl) (by simp) ?_
        refine hQ (by first | exact .inr rfl | exact .inl rfl) (by first | exact trivial | exact marks1) (by first | (simp -implicitDefEqProofs (maxSteps := 400000) (disch := first | with_reducible rfl | omega | (simp only [wkH] <;> omega) | decide) only [wkAll, wkL, Nat.reduceAdd, Nat.reduceLeDiff, loadOp, loadP, PK.agg, seg, if_pos, tf38, resP, resPs, resP1]; rfl) | rfl) ⟨6, by repeat' first | exact frz_scalar rfl | apply frz_tuple | apply frz_agg | apply frz_fsl | apply frz_gsl (by omega) | exact frzs_nil | apply frzs_cons⟩ (by first | exact keepsH0 | exact keeps1 (by assumption)) ?_
        repeat' first | exact nw_nil | exact nw_zsl | apply nw_tuple | apply nw_agg | exact nws_nil | apply nws_cons | exact nw_eq rfl | apply nw_eq
      | true =>
        rw [c5] at tc hE
        by_cases c6 : kszL (singL l 4).1 = 0
        · have c6' : (kszL (singL l 4).1 == 0) = true := by rw [beq_iff_eq]; exact c6
          rw [show acceptL A l = (⟨0, [], [], 0⟩, 13) by rw [acceptL, hE, c6]; simp [firE]]
          refine fn_H ([Go.ResultVar.cell 4 38, Go.ResultVar.tmp 5]) Tryz.func13 rfl rfl (by decide) fun ph hW Q hQ => ?_
          simp only [start, List.length_cons, List.length_nil, List.cons_append, List.nil_append, Nat.reduceAdd, Nat.reduceSub, List.replicate_succ, List.replicate_zero, Tryz.ntmps13]
          repeat' first | simp -implicitDefEqProofs (maxSteps := 400000) (disch := first | with_reducible rfl | omega | (simp only [wkH] <;> omega) | decide) only [wkAll, wkL, popO, wantedP, Nat.reduceAdd, Nat.reduceLeDiff, binP, unP, lenP, builtinP, loadOp, storeOp, loadP, buildP, placeF, fillP, setL, PK.agg, gt_iff_lt, seg, if_pos, if_neg, tf26, tf38, Tryz.ze38, c0', c1, c3', c6', gt_iff_lt] | refine w_pure (t2) ?_ | refine w_pure (tu) ?_ | refine w_pure (s1) ?_ | refine w_pure (s4) ?_ | refine w_pure (tc) ?_ | refine w_pure (tk) ?_ | refine w_drawnF (id := 25) tb13_25Ng23 pl13_25Ng23 92 (by kernel_rfl) (by kernel_rfl) (by simp) ?_
          refine hQ (by first | exact .inr rfl | exact .inl rfl) (by first | exact trivial | exact marks1) (by first | (simp -implicitDefEqProofs (maxSteps := 400000) (disch := first | with_reducible rfl | omega | (simp only [wkH] <;> omega) | decide) only [wkAll, wkL, Nat.reduceAdd, Nat.reduceLeDiff, loadOp, loadP, PK.agg, seg, if_pos, tf38, resP, resPs, resP1]; rfl) | rfl) ⟨6, by repeat' first | exact frz_scalar rfl | apply frz_tuple | apply frz_agg | apply frz_fsl | apply frz_gsl (by omega) | exact frzs_nil | apply frzs_cons⟩ (by first | exact keepsH0 | exact keeps1 (by assumption)) ?_
          repeat' first | exact nw_nil | exact nw_zsl | apply nw_tuple | apply nw_agg | exact nws_nil | apply nws_cons | exact nw_eq rfl | apply nw_eq
        have c6' : (kszL (singL l 4).1 == 0) = false := by rw [beq_eq_false_iff_ne]; exact c6
        have c6p : 0 < kszL (singL l 4).1 := by rcases kszL_a c6 with h | h <;> rw [h] <;> decide
        have hEz : firE (acE A l) = 0 := by rw [hE, decide_eq_true c6p]; simp [firE]
        clear hE
        have t5 := refFind_ok (w0 := w0) l 5 hl
        have hFl := find_leA l 5
        have hbF : ∀ r ∈ findL l 5, r.b.length < 2 ^ 50 := fun r hr => hb r (find_mem hr)
        obtain ⟨Cb, hCb⟩ : ∃ C, C = (findL l 5).map (·.b) := ⟨_, rfl⟩
        have hCl : Cb.length = (findL l 5).length := by rw [hCb, List.length_map]
        have hacc : acceptL A l = if firE (acJ Cb) ≠ 0 then (⟨0, [], [], 0⟩, firE (acJ Cb)) else if (whereL l).2.2 ≠ 0 then (⟨0, [], [], 0⟩, (whereL l).2.2) else (⟨(singL l 4).1, Cb, (whereL l).1, (whereL l).2.1⟩, 0) := by rw [acceptL, if_neg (by simpa using hEz), ← hCb]
        generalize findL l 5 = F at *
        have hJ : acJ Cb = [(19, decide (0 < (Cb.length : Int))), (18, decide ((Cb.length : Int) ≤ 8)), (12, !(Cb.any fun s => !cookB s))] := rfl
        by_cases c7 : F.length = 0
        · have c7' : ((F.length : Int) == 0) = true := by rw [c7]; rfl
          rw [hacc, hJ, hCl, c7]
          rw [show (decide ((0 : Int) < ((0 : Nat) : Int))) = false from rfl]
          simp only [firE]
          refine fn_H ([Go.ResultVar.cell 4 38, Go.ResultVar.tmp 5]) Tryz.func13 rfl rfl (by decide) fun ph hW Q hQ => ?_
          simp only [start, List.length_cons, List.length_nil, List.cons_append, List.nil_append, Nat.reduceAdd, Nat.reduceSub, List.replicate_succ, List.replicate_zero, Tryz.ntmps13]
          repeat' first | simp -implicitDefEqProofs (maxSteps := 400000) (disch := first | with_reducible rfl | omega | (simp only [wkH] <;> omega) | decide) only [wkAll, wkL, popO, wantedP, Nat.reduceAdd, Nat.reduceLeDiff, binP, unP, lenP, builtinP, loadOp, storeOp, loadP, buildP, placeF, fillP, setL, PK.agg, gt_iff_lt, seg, if_pos, if_neg, tf26, tf38, Tryz.ze38, c0', c1, c3', c6', c7', gt_iff_lt] | refine w_pure (t2) ?_ | refine w_pure (tu) ?_ | refine w_pure (s1) ?_ | refine w_pure (s4) ?_ | refine w_pure (tc) ?_ | refine w_pure (tk) ?_ | refine w_pure (t5) ?_ | refine w_drawnF (id := 25) tb13_25Ng23 pl13_25Ng23 92 (by kernel_rfl) (by kernel_rfl) (by simp) ?_
          refine hQ (by first | exact .inr rfl | exact .inl rfl) (by first | exact trivial | exact marks1) (by first | (simp -implicitDefEqProofs (maxSteps := 400000) (disch := first | with_reducible rfl | omega | (simp only [wkH] <;> omega) | decide) only [wkAll, wkL, Nat.reduceAdd, Nat.reduceLeDiff, loadOp, loadP, PK.agg, seg, if_pos, tf38, resP, resPs, resP1]; rfl) | rfl) ⟨6, by repeat' first | exact frz_scalar rfl | apply frz_tuple | apply frz_agg | apply frz_fsl | apply frz_gsl (by omega) | exact frzs_nil | apply frzs_cons⟩ (by first | exact keepsH0 | exact keeps1 (by assumption)) ?_
          repeat' first | exact nw_nil | exact nw_zsl | apply nw_tuple | apply nw_agg | exact nws_nil | apply nws_cons | exact nw_eq rfl | apply nw_eq
        have c7' : ((F.length : Int) == 0) = false := by rw [beq_eq_false_iff_ne]; omega
        have e7 : decide (0 < (Cb.length : Int)) = true := by rw [decide_eq_true_iff]; omega
        rw [e7] at hJ
        by_cases c8 : 8 < F.length
        · have c8' : (8 : Int) < (F.length : Int) := by omega
          have e8 : decide ((Cb.length : Int) ≤ 8) = false := by rw [decide_eq_false_iff_not]; omega
          rw [e8] at hJ
          rw [hacc, hJ]
          simp only [firE]
          refine fn_H ([Go.ResultVar.cell 4 38, Go.ResultVar.tmp 5]) Tryz.func13 rfl rfl (by decide) fun ph hW Q hQ => ?_
          simp only [start, List.length_cons, List.length_nil, List.cons_append, List.nil_append, Nat.reduceAdd, Nat.reduceSub, List.replicate_succ, List.replicate_zero, Tryz.ntmps13]
          repeat' first | simp -implicitDefEqProofs (maxSteps := 400000) (disch := first | with_reducible rfl | omega | (simp only [wkH] <;> omega) | decide) only [wkAll, wkL, popO, wantedP, Nat.reduceAdd, Nat.reduceLeDiff, binP, unP, lenP, builtinP, loadOp, storeOp, loadP, buildP, placeF, fillP, setL, PK.agg, gt_iff_lt, seg, if_pos, if_neg, tf26, tf38, Tryz.ze38, c0', c1, c3', c6', c7', c8', gt_iff_lt] | refine w_pure (t2) ?_ | refine w_pure (tu) ?_ | refine w_pure (s1) ?_ | refine w_pure (s4) ?_ | refine w_pure (tc) ?_ | refine w_pure (tk) ?_ | refine w_pure (t5) ?_ | refine w_drawnF (id := 25) tb13_25Ng23 pl13_25Ng23 92 (by kernel_rfl) (by kernel_rfl) (by simp) ?_
          refine hQ (by first | exact .inr rfl | exact .inl rfl) (by first | exact trivial | exact marks1) (by first | (simp -implicitDefEqProofs (maxSteps := 400000) (disch := first | with_reducible rfl | omega | (simp only [wkH] <;> omega) | decide) only [wkAll, wkL, Nat.reduceAdd, Nat.reduceLeDiff, loadOp, loadP, PK.agg, seg, if_pos, tf38, resP, resPs, resP1]; rfl) | rfl) ⟨6, by repeat' first | exact frz_scalar rfl | apply frz_tuple | apply frz_agg | apply frz_fsl | apply frz_gsl (by omega) | exact frzs_nil | apply frzs_cons⟩ (by first | exact keepsH0 | exact keeps1 (by assumption)) ?_
          repeat' first | exact nw_nil | exact nw_zsl | apply nw_tuple | apply nw_agg | exact nws_nil | apply nws_cons | exact nw_eq rfl | apply nw_eq
        have c8' : ¬ (8 : Int) < (F.length : Int) := by omega
        have e8 : decide ((Cb.length : Int) ≤ 8) = true := by rw [decide_eq_true_iff]; omega
        rw [e8] at hJ
        have hsV : ∀ {l : List (List UInt8)}, (List.map PV.str l).all scalarV = true := by intro l; rw [List.all_eq_true]; intro x hx; obtain ⟨y, -, rfl⟩ := List.mem_map.1 hx; rfl
        have hsS : ∀ (n i : Nat) (l : List (List UInt8)), Scs n (List.take i (List.map PV.str l)) = True := fun n i l => eq_true (scs_scalars (by rw [List.all_eq_true]; intro x hx; obtain ⟨y, -, rfl⟩ := List.mem_map.1 (List.mem_of_mem_take hx); rfl))
        refine fn_H ([Go.ResultVar.cell 4 38, Go.ResultVar.tmp 5]) Tryz.func13 rfl rfl (by decide) fun ph hW Q hQ => ?_
        simp only [start, List.length_cons, List.length_nil, List.cons_append, List.nil_append, Nat.reduceAdd, Nat.reduceSub, List.replicate_succ, List.replicate_zero, Tryz.ntmps13]
        repeat' first | simp -implicitDefEqProofs (maxSteps := 400000) (disch := first | with_reducible rfl | omega | (simp only [wkH] <;> omega) | decide) only [wkAll, wkL, popO, wantedP, ne_eq, Nat.reduceAdd, Nat.reduceLeDiff, Nat.reduceLT, binP, unP, lenP, builtinP, storeOp, buildP, placeF, fillP, setL, gt_iff_lt, if_pos, if_neg, tf26, tf38, Tryz.ze38, c0', c1, c3', c6', c7', c8', gt_iff_lt] | refine w_pure (t2) ?_ | refine w_pure (tu) ?_ | refine w_pure (s1) ?_ | refine w_pure (s4) ?_ | refine w_pure (tc) ?_ | refine w_pure (tk) ?_ | refine w_pure (t5) ?_ | refine w_drawnF (id := 25) tb13_25Ng23 pl13_25Ng23 92 (by kernel_rfl) (by kernel_rfl) (by simp) ?_
        refine w_growL0 1 9 [some (.own [.int .i64 0, .nilsl, .str [], .int .i64 0]), some (.own [.int .i64 0, .nilsl, .str [], .int .i64 0]), some (.own [.int .i64 (singL l 4).1, .gsl (ph.n + 3) 1 0 [], .str [], .int .i64 0])] (by simp) (by simp [NilB, NilL]) ?_
        refine w_loopH (α := Nat) ph ph.ob _ (fun i => [.undef, .fsl 3 l.length (krsC l), .undef, .undef, .ptr ph.n 0, .undef, .ptr (ph.n + 1) 0, .undef, .undef, .undef, .fsl 3 F.length (krsC F), .ptr (ph.n + 2) 0, .int .i64 i, .undef, .undef, .undef, .undef, .undef, .undef, .undef, .undef, .undef, .undef, .undef, .undef, .undef, .undef, .undef, .undef, .undef, .undef, .undef, .undef, .undef, .undef, .undef, .undef, .undef, .undef, .undef, .undef, .undef, .undef, .undef, .undef, .undef, .undef, .undef, .undef, .undef, .undef, .undef, .undef, .undef, .undef, .undef, .undef, .undef, .undef, .undef, .undef, .undef, .undef, .undef, .undef, .undef, .undef, .undef, .undef, .undef, .undef, .undef, .undef, .undef, .undef, .undef, .undef, .undef, .undef, .undef, .undef, .undef, .undef, .undef, .undef, .undef, .undef, .undef, .undef, .undef, .undef, .undef, .undef, .undef, .undef, .undef, .undef, .undef, .undef, .undef, .undef, .undef, .undef, .undef, .undef, .undef, .undef, .undef, .undef, .undef, .undef, .undef, .undef, .undef, .undef, .undef, .undef, .undef, .undef, .undef, .undef, .undef, .undef, .undef, .undef, .undef, .undef, .undef, .undef, .undef, .undef, .undef, .undef, .undef, .undef, .undef, .undef, .undef, .undef]) (fun i => [some (.own [.int .i64 0, .nilsl, .str [], .int .i64 0]), some (.own [.int .i64 0, .nilsl, .str [], .int .i64 0]), some (.own [.int .i64 (singL l 4).1, .gsl (ph.n + 3) 1 i ((Cb.take i).map PV.str), .str [], .int .i64 0]), some (.grow 1 i 9)]) (fun i => i ≤ F.length ∧ (Cb.take i).any (fun s => !cookB s) = false) (fun i => F.length - i) 0 (by simp) (fun _ _ => by simp []) (.eq (by simp [FadeTo]) rfl) ?_
        rintro i ⟨hi, hno⟩ K hK
        rcases Nat.lt_or_ge i F.length with hlt | hge
        · obtain ⟨r, hr⟩ := get_some hlt
          have hd := krsC_drop F i r hr
          have hlt' : (i : Int) < (F.length : Int) := by omega
          have hcr : Cb[i]? = some r.b := by rw [hCb, List.getElem?_map, hr]; rfl
          have hct := take_snoc hcr
          have tq := refCookie_ok (w0 := w0) r.b
          cases hq : cookB r.b with
          | false =>
            have hany : (Cb.any fun s => !cookB s) = true := List.any_eq_true.2 ⟨r.b, List.mem_of_getElem? hcr, by simp [hq]⟩
            rw [hany] at hJ
            rw [hacc, hJ] at hQ
            simp only [firE] at hQ
            rw [hq] at tq
            repeat' first | simp -implicitDefEqProofs (maxSteps := 400000) (disch := first | with_reducible rfl | omega | (simp only [wkH] <;> omega) | decide) only [wkAll, wkL, popO, wantedP, Nat.reduceAdd, Nat.reduceLeDiff, binP, unP, lenP, builtinP, indexAddrOp, loadOp, storeOp, loadP, fieldAddrOp, setL, PK.agg, seg, if_pos, if_neg, tf9, tf26, tf38, tf46, hd, hlt'] | refine w_pure (tq) ?_ | refine w_drawnF (id := 25) tb13_25Ng23 pl13_25Ng23 92 (by kernel_rfl) (by kernel_rfl) (by simp) ?_
            refine hQ (by first | exact .inr rfl | exact .inl rfl) (by first | exact trivial | exact marks1) (by first | (simp -implicitDefEqProofs (maxSteps := 400000) (disch := first | with_reducible rfl | omega | (simp only [wkH] <;> omega) | decide) only [wkAll, wkL, Nat.reduceAdd, Nat.reduceLeDiff, loadOp, loadP, PK.agg, seg, if_pos, tf38, resP, resPs, resP1]; rfl) | rfl) ⟨6, by repeat' first | exact frz_scalar rfl | apply frz_tuple | apply frz_agg | apply frz_fsl | apply frz_gsl (by omega) | exact frzs_nil | apply frzs_cons⟩ (by first | exact keepsH0 | exact keeps1 (by assumption)) ?_
            repeat' first | exact nw_nil | exact nw_zsl | apply nw_tuple | apply nw_agg | exact nws_nil | apply nws_cons | exact nw_eq rfl | apply nw_eq
          | true =>
            rw [hq] at tq
            have hmx : ((i + 1) * 16 ≤ 140737488355328) = True := by simp; omega
            repeat' first | simp -implicitDefEqProofs (maxSteps := 400000) (disch := first | with_reducible rfl | omega | (simp only [wkH] <;> omega) | decide) only [wkAll, wkL, popO, wantedP, ne_eq, Nat.reduceAdd, Nat.reduceLeDiff, Nat.reduceLT, reduceCtorEq, binP, unP, lenP, builtinP, srcP, indexAddrOp, loadOp, storeOp, loadP, fieldAddrOp, buildSliceP, fillP, setL, PK.agg, gt_iff_lt, Nat.reducePow, reps, seg, wkN, if_pos, if_neg, tf9, Tryz.ze9, tf23, tf26, tf38, tf46, pl13_25Ng23, hd, hlt', hmx, app_g] | refine w_pure (tq) ?_ | refine w_drawnF (id := 25) tb13_25Ng23 pl13_25Ng23 92 (by kernel_rfl) (by kernel_rfl) (by simp) ?_
            refine hK (i + 1) _ _ ⟨by omega, by rw [hct]; simp only [List.any_append, hno, List.any_cons, List.any_nil, hq]; rfl⟩ (by omega) (.cut [_] hW (by simp [FadeTo]) (by first | rfl | (simp [hct, List.map_append, List.map_cons, List.map_nil]; rfl) | simp [hct, List.map_append, List.map_cons, List.map_nil]) (by simp [scs_cons, scs_nil, sc_ptr, sc_fsl, sc_int, sc_undef, scs_krs]) (by simp [scs_cons, scs_nil, sc_gsl, sc_int, sc_str, sc_nilsl, hsS]))
        · have hge' : ¬ (i : Int) < (F.length : Int) := by omega
          have hi2 : i = F.length := by omega
          rw [List.take_of_length_le (by omega)] at hno
          rw [List.take_of_length_le (by omega)]
          rw [hno] at hJ
          have hJz : firE (acJ Cb) = 0 := by rw [hJ]; simp [firE]
          rw [hacc, if_neg (by simpa using hJz)] at hQ
          have hiC : i = Cb.length := by omega
          clear hK hacc hJ hEz
          rw [hiC] at ⊢
          rw [hiC, ← hCl] at hge'
          rw [← hCl]
          have t6 := refFind_ok (w0 := w0) l 6 hl
          have t7 := refFind_ok (w0 := w0) l 7 hl
          have s7 := refSingle_ok (w0 := w0) l 7 hl hb
          have tp := refPort19_ok (w0 := w0) (singL l 7).1
          rcases hx : findL l 6 with _ | ⟨r, _ | ⟨r2, t⟩⟩
          · rw [hx] at t6
            rcases hy : findL l 7 with _ | ⟨q, _ | ⟨q2, t⟩⟩
            · rw [hy] at t7
              rw [show whereL l = ([], 0, 0) by simp [whereL, portL, hx, hy]] at hQ
              repeat' first | simp -implicitDefEqProofs (maxSteps := 400000) (disch := first | with_reducible rfl | omega | (simp only [wkH] <;> omega) | decide) only [wkAll, wkL, popO, wantedP, Nat.reduceAdd, Nat.reduceLeDiff, Int.reduceLT, Int.reduceBEq, binP, lenP, builtinP, loadOp, storeOp, loadP, setL, PK.agg, gt_iff_lt, seg, wkN, if_pos, if_neg, tf26, tf38, hge', gt_iff_lt] | refine w_pure (t6) ?_ | refine w_pure (t7) ?_ | refine w_drawnF (id := 25) tb13_25Ng23 pl13_25Ng23 92 (by kernel_rfl) (by kernel_rfl) (by simp) ?_
              refine hQ (by first | exact .inr rfl | exact .inl rfl) (by first | exact trivial | exact marks1) (by first | (simp -implicitDefEqProofs (maxSteps := 400000) (disch := first | with_reducible rfl | omega | (simp only [wkH] <;> omega) | decide) only [wkAll, wkL, Nat.reduceAdd, Nat.reduceLeDiff, loadOp, loadP, PK.agg, seg, if_pos, tf38, resP, resPs, resP1]; rfl) | rfl) ⟨6, by repeat' first | exact frz_scalar rfl | apply frz_tuple | apply frz_agg | apply frz_fsl | apply frz_gsl (by omega) | exact frzs_nil | apply frzs_cons | exact frzs_scalars (hsV)⟩ (by first | exact keepsH0 | exact keeps1 (by assumption)) (nw_eq ?_)
              rfl
            · rw [hy] at t7
              rw [show whereL l = ([], (singL l 7).1, if (singL l 7).2 && portB (singL l 7).1 then 0 else 13) by simp [whereL, portL, hx, hy]] at hQ
              cases h7 : (singL l 7).2 with
              | false =>
                rw [h7] at s7 hQ
                repeat' first | simp -implicitDefEqProofs (maxSteps := 400000) (disch := first | with_reducible rfl | omega | (simp only [wkH] <;> omega) | decide) only [wkAll, wkL, popO, wantedP, Nat.reduceAdd, Nat.reduceLeDiff, Int.reduceLT, Int.reduceBEq, binP, unP, lenP, builtinP, loadOp, storeOp, loadP, setL, PK.agg, gt_iff_lt, seg, wkN, if_pos, if_neg, tf26, tf38, hge', gt_iff_lt] | refine w_pure (t6) ?_ | refine w_pure (t7) ?_ | refine w_pure (s7) ?_ | refine w_drawnF (id := 25) tb13_25Ng23 pl13_25Ng23 92 (by kernel_rfl) (by kernel_rfl) (by simp) ?_
                refine hQ (by first | exact .inr rfl | exact .inl rfl) (by first | exact trivial | exact marks1) (by first | (simp -implicitDefEqProofs (maxSteps := 400000) (disch := first | with_reducible rfl | omega | (simp only [wkH] <;> omega) | decide) only [wkAll, wkL, Nat.reduceAdd, Nat.reduceLeDiff, loadOp, loadP, PK.agg, seg, if_pos, tf38, resP, resPs, resP1]; rfl) | rfl) ⟨6, by repeat' first | exact frz_scalar rfl | apply frz_tuple | apply frz_agg | apply frz_fsl | apply frz_gsl (by omega) | exact frzs_nil | apply frzs_cons⟩ (by first | exact keepsH0 | exact keeps1 (by assumption)) ?_
                repeat' first | exact nw_nil | exact nw_zsl | apply nw_tuple | apply nw_agg | exact nws_nil | apply nws_cons | exact nw_eq rfl | apply nw_eq
              | true =>
                cases h8 : portB (singL l 7).1 with
                | false =>
                  rw [h7] at s7 hQ
                  rw [h8] at tp hQ
                  repeat' first | simp -implicitDefEqProofs (maxSteps := 400000) (disch := first | with_reducible rfl | omega | (simp only [wkH] <;> omega) | decide) only [wkAll, wkL, popO, wantedP, Nat.reduceAdd, Nat.reduceLeDiff, Int.reduceLT, Int.reduceBEq, binP, unP, lenP, builtinP, loadOp, storeOp, loadP, setL, PK.agg, gt_iff_lt, seg, wkN, if_pos, if_neg, tf26, tf38, hge', gt_iff_lt] | refine w_pure (t6) ?_ | refine w_pure (t7) ?_ | refine w_pure (s7) ?_ | refine w_pure (tp) ?_ | refine w_drawnF (id := 25) tb13_25Ng23 pl13_25Ng23 92 (by kernel_rfl) (by kernel_rfl) (by simp) ?_
                  refine hQ (by first | exact .inr rfl | exact .inl rfl) (by first | exact trivial | exact marks1) (by first | (simp -implicitDefEqProofs (maxSteps := 400000) (disch := first | with_reducible rfl | omega | (simp only [wkH] <;> omega) | decide) only [wkAll, wkL, Nat.reduceAdd, Nat.reduceLeDiff, loadOp, loadP, PK.agg, seg, if_pos, tf38, resP, resPs, resP1]; rfl) | rfl) ⟨6, by repeat' first | exact frz_scalar rfl | apply frz_tuple | apply frz_agg | apply frz_fsl | apply frz_gsl (by omega) | exact frzs_nil | apply frzs_cons⟩ (by first | exact keepsH0 | exact keeps1 (by assumption)) ?_
                  repeat' first | exact nw_nil | exact nw_zsl | apply nw_tuple | apply nw_agg | exact nws_nil | apply nws_cons | exact nw_eq rfl | apply nw_eq
                | true =>
                  rw [h7] at s7 hQ
                  rw [h8] at tp hQ
                  repeat' first | simp -implicitDefEqProofs (maxSteps := 400000) (disch := first | with_reducible rfl | omega | (simp only [wkH] <;> omega) | decide) only [wkAll, wkL, popO, wantedP, Nat.reduceAdd, Nat.reduceLeDiff, Int.reduceLT, Int.reduceBEq, binP, unP, lenP, builtinP, loadOp, storeOp, loadP, fieldAddrOp, setL, PK.agg, gt_iff_lt, seg, wkN, if_pos, if_neg, tf3, tf26, tf38, hge', gt_iff_lt] | refine w_pure (t6) ?_ | refine w_pure (t7) ?_ | refine w_pure (s7) ?_ | refine w_pure (tp) ?_ | refine w_drawnF (id := 25) tb13_25Ng23 pl13_25Ng23 92 (by kernel_rfl) (by kernel_rfl) (by simp) ?_
                  refine hQ (by first | exact .inr rfl | exact .inl rfl) (by first | exact trivial | exact marks1) (by first | (simp -implicitDefEqProofs (maxSteps := 400000) (disch := first | with_reducible rfl | omega | (simp only [wkH] <;> omega) | decide) only [wkAll, wkL, Nat.reduceAdd, Nat.reduceLeDiff, loadOp, loadP, PK.agg, seg, if_pos, tf38, resP, resPs, resP1]; rfl) | rfl) ⟨6, by repeat' first | exact frz_scalar rfl | apply frz_tuple | apply frz_agg | apply frz_fsl | apply frz_gsl (by omega) | exact frzs_nil | apply frzs_cons | exact frzs_scalars (hsV)⟩ (by first | exact keepsH0 | exact keeps1 (by assumption)) (nw_eq ?_)
                  rfl
            · have hy2 : (1 : Int) < ((findL l 7).length : Int) := by rw [hy]; simp; omega
              rw [show whereL l = ([], 0, 24) by rw [whereL, if_pos (.inr (by omega))]] at hQ
              repeat' first | simp -implicitDefEqProofs (maxSteps := 400000) (disch := first | with_reducible rfl | omega | (simp only [wkH] <;> omega) | decide) only [wkAll, wkL, popO, wantedP, Nat.reduceAdd, Nat.reduceLeDiff, Int.reduceLT, binP, lenP, builtinP, loadOp, storeOp, loadP, setL, PK.agg, gt_iff_lt, seg, wkN, if_pos, if_neg, tf26, tf38, hge', hy2, gt_iff_lt] | refine w_pure (t6) ?_ | refine w_pure (t7) ?_ | refine w_drawnF (id := 25) tb13_25Ng23 pl13_25Ng23 92 (by kernel_rfl) (by kernel_rfl) (by simp) ?_
              refine hQ (by first | exact .inr rfl | exact .inl rfl) (by first | exact trivial | exact marks1) (by first | (simp -implicitDefEqProofs (maxSteps := 400000) (disch := first | with_reducible rfl | omega | (simp only [wkH] <;> omega) | decide) only [wkAll, wkL, Nat.reduceAdd, Nat.reduceLeDiff, loadOp, loadP, PK.agg, seg, if_pos, tf38, resP, resPs, resP1]; rfl) | rfl) ⟨6, by repeat' first | exact frz_scalar rfl | apply frz_tuple | apply frz_agg | apply frz_fsl | apply frz_gsl (by omega) | exact frzs_nil | apply frzs_cons⟩ (by first | exact keepsH0 | exact keeps1 (by assumption)) ?_
              repeat' first | exact nw_nil | exact nw_zsl | apply nw_tuple | apply nw_agg | exact nws_nil | apply nws_cons | exact nw_eq rfl | apply nw_eq
          · rw [hx] at t6
            have th := refHost19_ok (w0 := w0) r.b (hb r (find_mem (k := 6) (by rw [hx]; simp)))
            rcases hy : findL l 7 with _ | ⟨q, _ | ⟨q2, t⟩⟩
            · rw [hy] at t7
              cases hh : hostL r.b with
              | false =>
                rw [hh] at th
                rw [show whereL l = (r.b, 0, 20) by simp [whereL, hx, hy, hh]] at hQ
                repeat' first | simp -implicitDefEqProofs (maxSteps := 400000) (disch := first | with_reducible rfl | omega | (simp only [wkH] <;> omega) | decide) only [wkAll, wkL, popO, wantedP, Nat.reduceAdd, Nat.reduceLeDiff, Int.reduceLE, Int.reduceLT, Int.reduceToNat, binP, unP, lenP, builtinP, indexAddrOp, loadOp, storeOp, loadP, fieldAddrOp, setL, PK.agg, gt_iff_lt, seg, wkN, if_pos, if_neg, tf9, tf26, tf38, tf46, hge', gt_iff_lt, krsC, krC, List.flatMap_cons] | refine w_pure (t6) ?_ | refine w_pure (t7) ?_ | refine w_pure (th) ?_ | refine w_drawnF (id := 25) tb13_25Ng23 pl13_25Ng23 92 (by kernel_rfl) (by kernel_rfl) (by simp) ?_
                refine hQ (by first | exact .inr rfl | exact .inl rfl) (by first | exact trivial | exact marks1) (by first | (simp -implicitDefEqProofs (maxSteps := 400000) (disch := first | with_reducible rfl | omega | (simp only [wkH] <;> omega) | decide) only [wkAll, wkL, Nat.reduceAdd, Nat.reduceLeDiff, loadOp, loadP, PK.agg, seg, if_pos, tf38, resP, resPs, resP1]; rfl) | rfl) ⟨6, by repeat' first | exact frz_scalar rfl | apply frz_tuple | apply frz_agg | apply frz_fsl | apply frz_gsl (by omega) | exact frzs_nil | apply frzs_cons⟩ (by first | exact keepsH0 | exact keeps1 (by assumption)) ?_
                repeat' first | exact nw_nil | exact nw_zsl | apply nw_tuple | apply nw_agg | exact nws_nil | apply nws_cons | exact nw_eq rfl | apply nw_eq
              | true =>
                rw [hh] at th
                rw [show whereL l = (r.b, 0, 0) by simp [whereL, portL, hx, hy, hh]] at hQ
                repeat' first | simp -implicitDefEqProofs (maxSteps := 400000) (disch := first | with_reducible rfl | omega | (simp only [wkH] <;> omega) | decide) only [wkAll, wkL, popO, wantedP, Nat.reduceAdd, Nat.reduceLeDiff, Int.reduceLE, Int.reduceLT, Int.reduceToNat, Int.reduceBEq, binP, unP, lenP, builtinP, indexAddrOp, loadOp, storeOp, loadP, fieldAddrOp, setL, PK.agg, gt_iff_lt, seg, wkN, if_pos, if_neg, tf9, tf26, tf38, tf46, hge', gt_iff_lt, krsC, krC, List.flatMap_cons] | refine w_pure (t6) ?_ | refine w_pure (t7) ?_ | refine w_pure (th) ?_ | refine w_drawnF (id := 25) tb13_25Ng23 pl13_25Ng23 92 (by kernel_rfl) (by kernel_rfl) (by simp) ?_
                refine hQ (by first | exact .inr rfl | exact .inl rfl) (by first | exact trivial | exact marks1) (by first | (simp -implicitDefEqProofs (maxSteps := 400000) (disch := first | with_reducible rfl | omega | (simp only [wkH] <;> omega) | decide) only [wkAll, wkL, Nat.reduceAdd, Nat.reduceLeDiff, loadOp, loadP, PK.agg, seg, if_pos, tf38, resP, resPs, resP1]; rfl) | rfl) ⟨6, by repeat' first | exact frz_scalar rfl | apply frz_tuple | apply frz_agg | apply frz_fsl | apply frz_gsl (by omega) | exact frzs_nil | apply frzs_cons | exact frzs_scalars (hsV)⟩ (by first | exact keepsH0 | exact keeps1 (by assumption)) (nw_eq ?_)
                rfl
            · rw [hy] at t7
              cases hh : hostL r.b with
              | false =>
                rw [hh] at th
                rw [show whereL l = (r.b, 0, 20) by simp [whereL, hx, hy, hh]] at hQ
                repeat' first | simp -implicitDefEqProofs (maxSteps := 400000) (disch := first | with_reducible rfl | omega | (simp only [wkH] <;> omega) | decide) only [wkAll, wkL, popO, wantedP, Nat.reduceAdd, Nat.reduceLeDiff, Int.reduceLE, Int.reduceLT, Int.reduceToNat, binP, unP, lenP, builtinP, indexAddrOp, loadOp, storeOp, loadP, fieldAddrOp, setL, PK.agg, gt_iff_lt, seg, wkN, if_pos, if_neg, tf9, tf26, tf38, tf46, hge', gt_iff_lt, krsC, krC, List.flatMap_cons] | refine w_pure (t6) ?_ | refine w_pure (t7) ?_ | refine w_pure (th) ?_ | refine w_drawnF (id := 25) tb13_25Ng23 pl13_25Ng23 92 (by kernel_rfl) (by kernel_rfl) (by simp) ?_
                refine hQ (by first | exact .inr rfl | exact .inl rfl) (by first | exact trivial | exact marks1) (by first | (simp -implicitDefEqProofs (maxSteps := 400000) (disch := first | with_reducible rfl | omega | (simp only [wkH] <;> omega) | decide) only [wkAll, wkL, Nat.reduceAdd, Nat.reduceLeDiff, loadOp, loadP, PK.agg, seg, if_pos, tf38, resP, resPs, resP1]; rfl) | rfl) ⟨6, by repeat' first | exact frz_scalar rfl | apply frz_tuple | apply frz_agg | apply frz_fsl | apply frz_gsl (by omega) | exact frzs_nil | apply frzs_cons⟩ (by first | exact keepsH0 | exact keeps1 (by assumption)) ?_
                repeat' first | exact nw_nil | exact nw_zsl | apply nw_tuple | apply nw_agg | exact nws_nil | apply nws_cons | exact nw_eq rfl | apply nw_eq
              | true =>
                rw [hh] at th
                rw [show whereL l = (r.b, (singL l 7).1, if (singL l 7).2 && portB (singL l 7).1 then 0 else 13) by simp [whereL, portL, hx, hy, hh]] at hQ
                cases h7 : (singL l 7).2 with
                | false =>
                  rw [h7] at s7 hQ
                  repeat' first | simp -implicitDefEqProofs (maxSteps := 400000) (disch := first | with_reducible rfl | omega | (simp only [wkH] <;> omega) | decide) only [wkAll, wkL, popO, wantedP, Nat.reduceAdd, Nat.reduceLeDiff, Int.reduceLE, Int.reduceLT, Int.reduceToNat, binP, unP, lenP, builtinP, indexAddrOp, loadOp, storeOp, loadP, fieldAddrOp, setL, PK.agg, gt_iff_lt, seg, wkN, if_pos, if_neg, tf9, tf26, tf38, tf46, hge', gt_iff_lt, krsC, krC, List.flatMap_cons] | refine w_pure (t6) ?_ | refine w_pure (t7) ?_ | refine w_pure (s7) ?_ | refine w_pure (th) ?_ | refine w_drawnF (id := 25) tb13_25Ng23 pl13_25Ng23 92 (by kernel_rfl) (by kernel_rfl) (by simp) ?_
                  refine hQ (by first | exact .inr rfl | exact .inl rfl) (by first | exact trivial | exact marks1) (by first | (simp -implicitDefEqProofs (maxSteps := 400000) (disch := first | with_reducible rfl | omega | (simp only [wkH] <;> omega) | decide) only [wkAll, wkL, Nat.reduceAdd, Nat.reduceLeDiff, loadOp, loadP, PK.agg, seg, if_pos, tf38, resP, resPs, resP1]; rfl) | rfl) ⟨6, by repeat' first | exact frz_scalar rfl | apply frz_tuple | apply frz_agg | apply frz_fsl | apply frz_gsl (by omega) | exact frzs_nil | apply frzs_cons⟩ (by first | exact keepsH0 | exact keeps1 (by assumption)) ?_
                  repeat' first | exact nw_nil | exact nw_zsl | apply nw_tuple | apply nw_agg | exact nws_nil | apply nws_cons | exact nw_eq rfl | apply nw_eq
                | true =>
                  cases h8 : portB (singL l 7).1 with
                  | false =>
                    rw [h7] at s7 hQ
                    rw [h8] at tp hQ
                    repeat' first | simp -implicitDefEqProofs (maxSteps := 400000) (disch := first | with_reducible rfl | omega | (simp only [wkH] <;> omega) | decide) only [wkAll, wkL, popO, wantedP, Nat.reduceAdd, Nat.reduceLeDiff, Int.reduceLE, Int.reduceLT, Int.reduceToNat, binP, unP, lenP, builtinP, indexAddrOp, loadOp, storeOp, loadP, fieldAddrOp, setL, PK.agg, gt_iff_lt, seg, wkN, if_pos, if_neg, tf9, tf26, tf38, tf46, hge', gt_iff_lt, krsC, krC, List.flatMap_cons] | refine w_pure (t6) ?_ | refine w_pure (t7) ?_ | refine w_pure (s7) ?_ | refine w_pure (tp) ?_ | refine w_pure (th) ?_ | refine w_drawnF (id := 25) tb13_25Ng23 pl13_25Ng23 92 (by kernel_rfl) (by kernel_rfl) (by simp) ?_
                    refine hQ (by first | exact .inr rfl | exact .inl rfl) (by first | exact trivial | exact marks1) (by first | (simp -implicitDefEqProofs (maxSteps := 400000) (disch := first | with_reducible rfl | omega | (simp only [wkH] <;> omega) | decide) only [wkAll, wkL, Nat.reduceAdd, Nat.reduceLeDiff, loadOp, loadP, PK.agg, seg, if_pos, tf38, resP, resPs, resP1]; rfl) | rfl) ⟨6, by repeat' first | exact frz_scalar rfl | apply frz_tuple | apply frz_agg | apply frz_fsl | apply frz_gsl (by omega) | exact frzs_nil | apply frzs_cons⟩ (by first | exact keepsH0 | exact keeps1 (by assumption)) ?_
                    repeat' first | exact nw_nil | exact nw_zsl | apply nw_tuple | apply nw_agg | exact nws_nil | apply nws_cons | exact nw_eq rfl | apply nw_eq
                  | true =>
                    rw [h7] at s7 hQ
                    rw [h8] at tp hQ
                    repeat' first | simp -implicitDefEqProofs (maxSteps := 400000) (disch := first | with_reducible rfl | omega | (simp only [wkH] <;> omega) | decide) only [wkAll, wkL, popO, wantedP, Nat.reduceAdd, Nat.reduceLeDiff, Int.reduceLE, Int.reduceLT, Int.reduceToNat, binP, unP, lenP, builtinP, indexAddrOp, loadOp, storeOp, loadP, fieldAddrOp, setL, PK.agg, gt_iff_lt, seg, wkN, if_pos, if_neg, tf3, tf9, tf26, tf38, tf46, hge', gt_iff_lt, krsC, krC, List.flatMap_cons] | refine w_pure (t6) ?_ | refine w_pure (t7) ?_ | refine w_pure (s7) ?_ | refine w_pure (tp) ?_ | refine w_pure (th) ?_ | refine w_drawnF (id := 25) tb13_25Ng23 pl13_25Ng23 92 (by kernel_rfl) (by kernel_rfl) (by simp) ?_
                    refine hQ (by first | exact .inr rfl | exact .inl rfl) (by first | exact trivial | exact marks1) (by first | (simp -implicitDefEqProofs (maxSteps := 400000) (disch := first | with_reducible rfl | omega | (simp only [wkH] <;> omega) | decide) only [wkAll, wkL, Nat.reduceAdd, Nat.reduceLeDiff, loadOp, loadP, PK.agg, seg, if_pos, tf38, resP, resPs, resP1]; rfl) | rfl) ⟨6, by repeat' first | exact frz_scalar rfl | apply frz_tuple | apply frz_agg | apply frz_fsl | apply frz_gsl (by omega) | exact frzs_nil | apply frzs_cons | exact frzs_scalars (hsV)⟩ (by first | exact keepsH0 | exact keeps1 (by assumption)) (nw_eq ?_)
                    rfl
            · have hy2 : (1 : Int) < ((findL l 7).length : Int) := by rw [hy]; simp; omega
              rw [show whereL l = ([], 0, 24) by rw [whereL, if_pos (.inr (by omega))]] at hQ
              repeat' first | simp -implicitDefEqProofs (maxSteps := 400000) (disch := first | with_reducible rfl | omega | (simp only [wkH] <;> omega) | decide) only [wkAll, wkL, popO, wantedP, Nat.reduceAdd, Nat.reduceLeDiff, Int.reduceLT, binP, lenP, builtinP, loadOp, storeOp, loadP, setL, PK.agg, gt_iff_lt, seg, wkN, if_pos, if_neg, tf26, tf38, hge', hy2, gt_iff_lt] | refine w_pure (t6) ?_ | refine w_pure (t7) ?_ | refine w_drawnF (id := 25) tb13_25Ng23 pl13_25Ng23 92 (by kernel_rfl) (by kernel_rfl) (by simp) ?_
              refine hQ (by first | exact .inr rfl | exact .inl rfl) (by first | exact trivial | exact marks1) (by first | (simp -implicitDefEqProofs (maxSteps := 400000) (disch := first | with_reducible rfl | omega | (simp only [wkH] <;> omega) | decide) only [wkAll, wkL, Nat.reduceAdd, Nat.reduceLeDiff, loadOp, loadP, PK.agg, seg, if_pos, tf38, resP, resPs, resP1]; rfl) | rfl) ⟨6, by repeat' first | exact frz_scalar rfl | apply frz_tuple | apply frz_agg | apply frz_fsl | apply frz_gsl (by omega) | exact frzs_nil | apply frzs_cons⟩ (by first | exact keepsH0 | exact keeps1 (by assumption)) ?_
              repeat' first | exact nw_nil | exact nw_zsl | apply nw_tuple | apply nw_agg | exact nws_nil | apply nws_cons | exact nw_eq rfl | apply nw_eq
          · have hx2 : (1 : Int) < ((findL l 6).length : Int) := by rw [hx]; simp; omega
            rw [show whereL l = ([], 0, 24) by rw [whereL, if_pos (.inl (by omega))]] at hQ
            repeat' first | simp -implicitDefEqProofs (maxSteps := 400000) (disch := first | with_reducible rfl | omega | (simp only [wkH] <;> omega) | decide) only [wkAll, wkL, popO, wantedP, Nat.reduceAdd, Nat.reduceLeDiff, binP, lenP, builtinP, loadOp, storeOp, loadP, setL, PK.agg, gt_iff_lt, seg, if_pos, tf26, tf38, hge', hx2, gt_iff_lt] | refine w_pure (t6) ?_ | refine w_drawnF (id := 25) tb13_25Ng23 pl13_25Ng23 92 (by kernel_rfl) (by kernel_rfl) (by simp) ?_
            refine hQ (by first | exact .inr rfl | exact .inl rfl) (by first | exact trivial | exact marks1) (by first | (simp -implicitDefEqProofs (maxSteps := 400000) (disch := first | with_reducible rfl | omega | (simp only [wkH] <;> omega) | decide) only [wkAll, wkL, Nat.reduceAdd, Nat.reduceLeDiff, loadOp, loadP, PK.agg, seg, if_pos, tf38, resP, resPs, resP1]; rfl) | rfl) ⟨6, by repeat' first | exact frz_scalar rfl | apply frz_tuple | apply frz_agg | apply frz_fsl | apply frz_gsl (by omega) | exact frzs_nil | apply frzs_cons⟩ (by first | exact keepsH0 | exact keeps1 (by assumption)) ?_
            repeat' first | exact nw_nil | exact nw_zsl | apply nw_tuple | apply nw_agg | exact nws_nil | apply nws_cons | exact nw_eq rfl | apply nw_eq
  · rw [show acceptL A l = (⟨0, [], [], 0⟩, 10) by
      have : ((singL l 1).2 && ((singL l 1).1 == 0)) = false := by
        rw [Bool.and_eq_false_iff]
        cases h : (singL l 1).2 with
        | false => exact .inl rfl
        | true => exact .inr (by rw [beq_eq_false_iff_ne]; exact fun e => c2 ⟨h, e⟩)
      rw [acceptL, hE, this]; simp [firE]]
    cases h : (singL l 1).2 with
    | false =>
      rw [h] at s1
      refine fn_H ([Go.ResultVar.cell 4 38, Go.ResultVar.tmp 5]) Tryz.func13 rfl rfl (by decide) fun ph hW Q hQ => ?_
      simp only [start, List.length_cons, List.length_nil, List.cons_append, List.nil_append, Nat.reduceAdd, Nat.reduceSub, List.replicate_succ, List.replicate_zero, Tryz.ntmps13]
      repeat' first | simp -implicitDefEqProofs (maxSteps := 400000) (disch := first | with_reducible rfl | omega | (simp only [wkH] <;> omega) | decide) only [wkAll, wkL, popO, wantedP, Nat.reduceAdd, Nat.reduceLeDiff, binP, unP, lenP, builtinP, loadOp, storeOp, loadP, buildP, placeF, fillP, setL, PK.agg, gt_iff_lt, seg, if_pos, if_neg, tf26, tf38, Tryz.ze38, c0', c1, gt_iff_lt] | refine w_pure (t2) ?_ | refine w_pure (tu) ?_ | refine w_pure (s1) ?_ | refine w_drawnF (id := 25) tb13_25Ng23 pl13_25Ng23 92 (by kernel_rfl) (by kernel_rfl) (by simp) ?_
      refine hQ (by first | exact .inr rfl | exact .inl rfl) (by first | exact trivial | exact marks1) (by first | (simp -implicitDefEqProofs (maxSteps := 400000) (disch := first | with_reducible rfl | omega | (simp only [wkH] <;> omega) | decide) only [wkAll, wkL, Nat.reduceAdd, Nat.reduceLeDiff, loadOp, loadP, PK.agg, seg, if_pos, tf38, resP, resPs, resP1]; rfl) | rfl) ⟨6, by repeat' first | exact frz_scalar rfl | apply frz_tuple | apply frz_agg | apply frz_fsl | apply frz_gsl (by omega) | exact frzs_nil | apply frzs_cons⟩ (by first | exact keepsH0 | exact keeps1 (by assumption)) ?_
      repeat' first | exact nw_nil | exact nw_zsl | apply nw_tuple | apply nw_agg | exact nws_nil | apply nws_cons | exact nw_eq rfl | apply nw_eq
    | true =>
      rw [h] at s1
      have c3' : ((singL l 1).1 != 0) = true := bneT fun e => c2 ⟨h, e⟩
      refine fn_H ([Go.ResultVar.cell 4 38, Go.ResultVar.tmp 5]) Tryz.func13 rfl rfl (by decide) fun ph hW Q hQ => ?_
      simp only [start, List.length_cons, List.length_nil, List.cons_append, List.nil_append, Nat.reduceAdd, Nat.reduceSub, List.replicate_succ, List.replicate_zero, Tryz.ntmps13]
      repeat' first | simp -implicitDefEqProofs (maxSteps := 400000) (disch := first | with_reducible rfl | omega | (simp only [wkH] <;> omega) | decide) only [wkAll, wkL, popO, wantedP, Nat.reduceAdd, Nat.reduceLeDiff, binP, unP, lenP, builtinP, loadOp, storeOp, loadP, buildP, placeF, fillP, setL, PK.agg, gt_iff_lt, seg, if_pos, if_neg, tf26, tf38, Tryz.ze38, c0', c1, c3', gt_iff_lt] | refine w_pure (t2) ?_ | refine w_pure (tu) ?_ | refine w_pure (s1) ?_ | refine w_drawnF (id := 25) tb13_25Ng23 pl13_25Ng23 92 (by kernel_rfl) (by kernel_rfl) (by simp) ?_
      refine hQ (by first | exact .inr rfl | exact .inl rfl) (by first | exact trivial | exact marks1) (by first | (simp -implicitDefEqProofs (maxSteps := 400000) (disch := first | with_reducible rfl | omega | (simp only [wkH] <;> omega) | decide) only [wkAll, wkL, Nat.reduceAdd, Nat.reduceLeDiff, loadOp, loadP, PK.agg, seg, if_pos, tf38, resP, resPs, resP1]; rfl) | rfl) ⟨6, by repeat' first | exact frz_scalar rfl | apply frz_tuple | apply frz_agg | apply frz_fsl | apply frz_gsl (by omega) | exact frzs_nil | apply frzs_cons⟩ (by first | exact keepsH0 | exact keeps1 (by assumption)) ?_
      repeat' first | exact nw_nil | exact nw_zsl | apply nw_tuple | apply nw_agg | exact nws_nil | apply nws_cons | exact nw_eq rfl | apply nw_eq
end Pv
