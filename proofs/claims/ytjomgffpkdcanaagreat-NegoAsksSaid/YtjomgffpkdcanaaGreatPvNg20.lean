/- Part of the proof: the layer of pure values, or walks through functions (PvNg20, PvNg21, PvNg15). -/
import Derived.Test.YtjomgffpkdcanaaGreatPvNg9
import Derived.Test.YtjomgffpkdcanaaGreatPvNg11
import Derived.Test.YtjomgffpkdcanaaGreatPvNg5
set_option linter.all false
--nosplit
--keep2
namespace Pv
set_option maxRecDepth 20000
set_option maxHeartbeats 4000000
open Go Go.Proofs Go.RowKit
variable {w0 : World}

theorem refHost19_ok (s : List UInt8) (hs : s.length < 2 ^ 50) : Fn (Cx w0) 26 [.str s] (.bool (hostL s)) := by
  refine fn_H ([Go.ResultVar.tmp 2]) Tryz.func26 rfl rfl (by decide) fun ph hW Q hQ => ?_
  simp only [start, List.length_cons, List.length_nil, List.cons_append, List.nil_append, Nat.reduceAdd, Nat.reduceSub, List.replicate_succ, List.replicate_zero, Tryz.ntmps26]
  repeat' first | simp -implicitDefEqProofs (maxSteps := 400000) (disch := first | with_reducible rfl | omega | (simp only [wkH] <;> omega) | decide) only [wkAll, wkL, popO, wantedP]
  refine w_loopH (α := Nat) ph ph.ob ph.ty (fun i => [.str s, .undef, .undef, .int .i64 i, .undef, .undef, .undef, .undef, .undef, .undef, .undef, .undef, .undef, .undef, .undef, .undef, .undef, .undef, .undef, .undef, .undef, .undef, .undef, .undef, .undef, .undef, .undef]) (fun i => []) (fun i => i ≤ s.length ∧ (s.take i).all okB = true) (fun i => s.length - i) 0 (by simp) (fun _ _ => by simp) (.eq (by simp [FadeTo]) rfl) ?_
  rintro i ⟨hi, hok⟩ K hK
  rcases Nat.lt_or_ge i s.length with h | h
  · obtain ⟨b, hb⟩ := get_someW h
    have hlt : (i : Int) < (s.length : Int) := by omega
    have hmem := List.mem_of_getElem? hb
    have hno : okB b = false → hostL s = false := by
      intro h; rw [hostL]
      have : s.all okB = false := by rw [List.all_eq_false]; exact ⟨b, hmem, by simp [h]⟩
      rw [this, Bool.and_false]
    by_cases h1 : b.toNat < 33
    · have h1' : ((b.toNat : Int)) < 33 := by omega
      rw [hno (by unfold okB; simp only [Bool.and_eq_false_iff, decide_eq_false_iff_not]; omega)] at hQ
      repeat' first | simp -implicitDefEqProofs (maxSteps := 400000) (disch := first | with_reducible rfl | omega | (simp only [wkH] <;> omega) | decide) only [wkAll, wkL, popO, wantedP, binP, lenP, builtinP, indexOp, if_pos, tf9, hlt, hb, h1']
      refine hQ (by first | exact .inr rfl | exact .inl rfl) (by first | exact trivial | exact marks1) (by first | (simp -implicitDefEqProofs (maxSteps := 400000) (disch := first | with_reducible rfl | omega | (simp only [wkH] <;> omega) | decide) only [wkL, resP, resPs, resP1]; rfl) | rfl) ⟨6, by repeat' first | exact frz_scalar rfl | apply frz_tuple | apply frz_agg | apply frz_fsl | apply frz_gsl (by omega) | exact frzs_nil | apply frzs_cons⟩ (by first | exact keepsH0 | exact keeps1 (by assumption)) (nw_eq ?_)
      rfl
    · have h1' : ¬ ((b.toNat : Int)) < 33 := by omega
      by_cases h2 : 126 < b.toNat
      · have h2' : (126 : Int) < (b.toNat : Int) := by omega
        rw [hno (by unfold okB; simp only [Bool.and_eq_false_iff, decide_eq_false_iff_not]; omega)] at hQ
        repeat' first | simp -implicitDefEqProofs (maxSteps := 400000) (disch := first | with_reducible rfl | omega | (simp only [wkH] <;> omega) | decide) only [wkAll, wkL, popO, wantedP, binP, lenP, builtinP, indexOp, gt_iff_lt, if_pos, if_neg, tf9, hlt, hb, h1', h2', gt_iff_lt]
        refine hQ (by first | exact .inr rfl | exact .inl rfl) (by first | exact trivial | exact marks1) (by first | (simp -implicitDefEqProofs (maxSteps := 400000) (disch := first | with_reducible rfl | omega | (simp only [wkH] <;> omega) | decide) only [wkL, resP, resPs, resP1]; rfl) | rfl) ⟨6, by repeat' first | exact frz_scalar rfl | apply frz_tuple | apply frz_agg | apply frz_fsl | apply frz_gsl (by omega) | exact frzs_nil | apply frzs_cons⟩ (by first | exact keepsH0 | exact keeps1 (by assumption)) (nw_eq ?_)
        rfl
      · have h2' : ¬ (126 : Int) < (b.toNat : Int) := by omega
        repeat' first | simp -implicitDefEqProofs (maxSteps := 400000) (disch := first | with_reducible rfl | omega | (simp only [wkH] <;> omega) | decide) only [wkAll, wkL, popO, wantedP, binP, lenP, builtinP, indexOp, gt_iff_lt, wkN, if_pos, if_neg, tf9, hlt, hb, h1', h2', gt_iff_lt]
        refine hK (i + 1) _ _ ⟨by omega, ?_⟩ (by omega) (.eq (by simp [FadeTo]) rfl)
        rw [take_snoc hb, List.all_append, hok]
        simp only [List.all_cons, List.all_nil, Bool.true_and, Bool.and_true, okB, Bool.and_eq_true, decide_eq_true_eq]
        omega
  · have hge : ¬ (i : Int) < (s.length : Int) := by omega
    rw [List.take_of_length_le h] at hok
    by_cases h1 : s = []
    · have c1 := strEqT h1
      rw [show hostL s = false by rw [hostL, decide_eq_true h1]; rfl] at hQ
      repeat' first | simp -implicitDefEqProofs (maxSteps := 400000) (disch := first | with_reducible rfl | omega | (simp only [wkH] <;> omega) | decide) only [wkAll, wkL, popO, wantedP, binP, lenP, builtinP, if_pos, if_neg, tf9, hge, c1]
      refine hQ (by first | exact .inr rfl | exact .inl rfl) (by first | exact trivial | exact marks1) (by first | (simp -implicitDefEqProofs (maxSteps := 400000) (disch := first | with_reducible rfl | omega | (simp only [wkH] <;> omega) | decide) only [wkL, resP, resPs, resP1]; rfl) | rfl) ⟨6, by repeat' first | exact frz_scalar rfl | apply frz_tuple | apply frz_agg | apply frz_fsl | apply frz_gsl (by omega) | exact frzs_nil | apply frzs_cons⟩ (by first | exact keepsH0 | exact keeps1 (by assumption)) (nw_eq ?_)
      rfl
    · have c1 := strEqF h1
      by_cases h2 : s.length ≤ 64
      · have c2 : (s.length : Int) ≤ 64 := by omega
        rw [show hostL s = true by rw [hostL, decide_eq_false h1, decide_eq_true h2, hok]; rfl] at hQ
        repeat' first | simp -implicitDefEqProofs (maxSteps := 400000) (disch := first | with_reducible rfl | omega | (simp only [wkH] <;> omega) | decide) only [wkAll, wkL, popO, wantedP, binP, lenP, builtinP, if_pos, tf9, hge, c1, c2]
        refine hQ (by first | exact .inr rfl | exact .inl rfl) (by first | exact trivial | exact marks1) (by first | (simp -implicitDefEqProofs (maxSteps := 400000) (disch := first | with_reducible rfl | omega | (simp only [wkH] <;> omega) | decide) only [wkL, resP, resPs, resP1]; rfl) | rfl) ⟨6, by repeat' first | exact frz_scalar rfl | apply frz_tuple | apply frz_agg | apply frz_fsl | apply frz_gsl (by omega) | exact frzs_nil | apply frzs_cons⟩ (by first | exact keepsH0 | exact keeps1 (by assumption)) (nw_eq ?_)
        rfl
      · have c2 : ¬ (s.length : Int) ≤ 64 := by omega
        rw [show hostL s = false by rw [hostL, decide_eq_false h2]; simp] at hQ
        repeat' first | simp -implicitDefEqProofs (maxSteps := 400000) (disch := first | with_reducible rfl | omega | (simp only [wkH] <;> omega) | decide) only [wkAll, wkL, popO, wantedP, binP, lenP, builtinP, if_pos, tf9, hge, c1, c2]
        refine hQ (by first | exact .inr rfl | exact .inl rfl) (by first | exact trivial | exact marks1) (by first | (simp -implicitDefEqProofs (maxSteps := 400000) (disch := first | with_reducible rfl | omega | (simp only [wkH] <;> omega) | decide) only [wkL, resP, resPs, resP1]; rfl) | rfl) ⟨6, by repeat' first | exact frz_scalar rfl | apply frz_tuple | apply frz_agg | apply frz_fsl | apply frz_gsl (by omega) | exact frzs_nil | apply frzs_cons⟩ (by first | exact keepsH0 | exact keeps1 (by assumption)) (nw_eq ?_)
        rfl
theorem refPort19_ok (n : Int) : Fn (Cx w0) 27 [.int .i64 n] (.bool (portB n)) := by
  by_cases h0 : 1 ≤ n
  · by_cases h1 : n ≤ 65535
    · rw [show portB n = true by simp [portB]; omega]
      refine fn_H ([Go.ResultVar.tmp 2]) Tryz.func27 rfl rfl (by decide) fun ph hW Q hQ => ?_
      simp only [start, List.length_cons, List.length_nil, List.cons_append, List.nil_append, Nat.reduceAdd, Nat.reduceSub, List.replicate_succ, List.replicate_zero, Tryz.ntmps27]
      repeat' first | simp -implicitDefEqProofs (maxSteps := 400000) (disch := first | with_reducible rfl | omega | (simp only [wkH] <;> omega) | decide) only [wkAll, wkL, popO, wantedP, binP, if_pos, h0, h1]
      refine hQ (by first | exact .inr rfl | exact .inl rfl) (by first | exact trivial | exact marks1) (by first | (simp -implicitDefEqProofs (maxSteps := 400000) (disch := first | with_reducible rfl | omega | (simp only [wkH] <;> omega) | decide) only [wkL, resP, resPs, resP1]; rfl) | rfl) ⟨6, by repeat' first | exact frz_scalar rfl | apply frz_tuple | apply frz_agg | apply frz_fsl | apply frz_gsl (by omega) | exact frzs_nil | apply frzs_cons⟩ (by first | exact keepsH0 | exact keeps1 (by assumption)) (nw_eq ?_)
      rfl
    · rw [show portB n = false by simp [portB]; omega]
      refine fn_H ([Go.ResultVar.tmp 2]) Tryz.func27 rfl rfl (by decide) fun ph hW Q hQ => ?_
      simp only [start, List.length_cons, List.length_nil, List.cons_append, List.nil_append, Nat.reduceAdd, Nat.reduceSub, List.replicate_succ, List.replicate_zero, Tryz.ntmps27]
      repeat' first | simp -implicitDefEqProofs (maxSteps := 400000) (disch := first | with_reducible rfl | omega | (simp only [wkH] <;> omega) | decide) only [wkAll, wkL, popO, wantedP, binP, if_pos, h0, h1]
      refine hQ (by first | exact .inr rfl | exact .inl rfl) (by first | exact trivial | exact marks1) (by first | (simp -implicitDefEqProofs (maxSteps := 400000) (disch := first | with_reducible rfl | omega | (simp only [wkH] <;> omega) | decide) only [wkL, resP, resPs, resP1]; rfl) | rfl) ⟨6, by repeat' first | exact frz_scalar rfl | apply frz_tuple | apply frz_agg | apply frz_fsl | apply frz_gsl (by omega) | exact frzs_nil | apply frzs_cons⟩ (by first | exact keepsH0 | exact keeps1 (by assumption)) (nw_eq ?_)
      rfl
  · rw [show portB n = false by simp [portB]; omega]
    refine fn_H ([Go.ResultVar.tmp 2]) Tryz.func27 rfl rfl (by decide) fun ph hW Q hQ => ?_
    simp only [start, List.length_cons, List.length_nil, List.cons_append, List.nil_append, Nat.reduceAdd, Nat.reduceSub, List.replicate_succ, List.replicate_zero, Tryz.ntmps27]
    repeat' first | simp -implicitDefEqProofs (maxSteps := 400000) (disch := first | with_reducible rfl | omega | (simp only [wkH] <;> omega) | decide) only [wkAll, wkL, popO, wantedP, binP, if_pos, if_neg, h0]
    refine hQ (by first | exact .inr rfl | exact .inl rfl) (by first | exact trivial | exact marks1) (by first | (simp -implicitDefEqProofs (maxSteps := 400000) (disch := first | with_reducible rfl | omega | (simp only [wkH] <;> omega) | decide) only [wkL, resP, resPs, resP1]; rfl) | rfl) ⟨6, by repeat' first | exact frz_scalar rfl | apply frz_tuple | apply frz_agg | apply frz_fsl | apply frz_gsl (by omega) | exact frzs_nil | apply frzs_cons⟩ (by first | exact keepsH0 | exact keeps1 (by assumption)) (nw_eq ?_)
    rfl
theorem refEnd_ok : Fn (Cx w0) 29 [] (.agg [.bool true, .int .i64 0, .str []]) := by
  refine fn_H ([Go.ResultVar.cell 0 46]) Tryz.func29 rfl rfl (by decide) fun ph hW Q hQ => ?_
  simp only [start, List.length_nil, List.nil_append, Nat.reduceSub, List.replicate_succ, List.replicate_zero, Tryz.ntmps29]
  repeat' first | simp -implicitDefEqProofs (maxSteps := 400000) (disch := first | with_reducible rfl | omega | (simp only [wkH] <;> omega) | decide) only [wkAll, wkL, popO, wantedP, ne_eq, Nat.reduceAdd, Nat.reduceLeDiff, Nat.reduceLT, storeOp, buildP, placeF, fillP, setL, gt_iff_lt, if_pos, if_neg, tf46, Tryz.ze46]
  refine hQ (by first | exact .inr rfl | exact .inl rfl) (by first | exact trivial | exact marks1) (by first | (simp -implicitDefEqProofs (maxSteps := 400000) (disch := first | with_reducible rfl | omega | (simp only [wkH] <;> omega) | decide) only [wkAll, wkL, Nat.reduceAdd, Nat.reduceLeDiff, loadOp, loadP, PK.agg, seg, if_pos, tf46, resP, resPs, resP1]; rfl) | rfl) ⟨6, by repeat' first | exact frz_scalar rfl | apply frz_tuple | apply frz_agg | apply frz_fsl | apply frz_gsl (by omega) | exact frzs_nil | apply frzs_cons⟩ (by first | exact keepsH0 | exact keeps1 (by assumption)) (nw_eq ?_)
  rfl
theorem refFailed_ok (k : Int) (hk : 0 ≤ k ∧ k < 2 ^ 62) : Fn (Cx w0) 37 [.int .i64 k] (.fsl 3 2 (krsC [⟨true, 2, twoL k⟩, ⟨true, 0, []⟩])) := by
  have tw := refTwo19_ok (w0 := w0) k hk
  have te := refEnd_ok (w0 := w0)
  refine fn_H ([Go.ResultVar.tmp 2]) Tryz.func37 rfl rfl (by decide) fun ph hW Q hQ => ?_
  simp only [start, List.length_cons, List.length_nil, List.cons_append, List.nil_append, Nat.reduceAdd, Nat.reduceSub, List.replicate_succ, List.replicate_zero, Tryz.ntmps37]
  repeat' first | simp -implicitDefEqProofs (maxSteps := 400000) (disch := first | with_reducible rfl | omega | (simp only [wkH] <;> omega) | decide) only [wkAll, wkL, popO, wantedP, ne_eq, Nat.reduceAdd, Nat.reduceMul, Nat.reduceLeDiff, Nat.reduceLT, buildP, buildSliceP, placeF, fillP, setL, gt_iff_lt, Nat.reducePow, reps, if_pos, if_neg, tf26, tf46, Tryz.ze46] | refine w_pure (tw) ?_ | refine w_pure (te) ?_
  refine hQ (by first | exact .inr rfl | exact .inl rfl) (by first | exact trivial | exact marks1) (by first | (simp -implicitDefEqProofs (maxSteps := 400000) (disch := first | with_reducible rfl | omega | (simp only [wkH] <;> omega) | decide) only [wkL, resP, resPs, resP1]; rfl) | rfl) ⟨6, by repeat' first | exact frz_scalar rfl | apply frz_tuple | apply frz_agg | apply frz_fsl | apply frz_gsl (by omega) | exact frzs_nil | apply frzs_cons | exact frz_whole (by omega) (by rw [h_shut0, h_get0]; rfl) rfl rfl⟩ (by first | exact keepsH0 | exact keeps1 (by assumption)) (nw_eq ?_)
  rfl
theorem refHas_ok (l : List Int) (x : Int) (hl : l.length < 2 ^ 40) : Fn (Cx w0) 39 [.fsl 1 l.length (intsC l), .int .i64 x] (.bool (l.any (fun y => x == y))) := by
  refine fn_H ([Go.ResultVar.tmp 4]) Tryz.func39 rfl rfl (by decide) fun ph hW Q hQ => ?_
  simp only [start, List.length_cons, List.length_nil, List.cons_append, List.nil_append, Nat.reduceAdd, Nat.reduceSub, List.replicate_succ, List.replicate_zero, Tryz.ntmps39]
  repeat' first | simp -implicitDefEqProofs (maxSteps := 400000) (disch := first | with_reducible rfl | omega | (simp only [wkH] <;> omega) | decide) only [wkAll, wkL, popO, wantedP]
  refine w_loopH (α := Nat) ph ph.ob ph.ty (fun i => [.fsl 1 l.length (intsC l), .int .i64 x, .undef, .undef, .undef, .int .i64 i, .undef, .undef, .undef, .undef, .undef, .undef, .undef, .undef, .undef, .undef, .undef, .undef]) (fun i => []) (fun i => i ≤ l.length ∧ (l.take i).any (fun y => x == y) = false) (fun i => l.length - i) 0 (by simp) (fun _ _ => by simp) (.eq (by simp [FadeTo]) rfl) ?_
  rintro i ⟨hi, hno⟩ K hK
  rcases Nat.lt_or_ge i l.length with h | h
  · obtain ⟨r, hr⟩ := get_some h
    have hd := intsC_drop l i r hr
    have hla := intsC_len l
    have hlt : (i : Int) < l.length := by omega
    have hsym : (r == x) = (x == r) := by rw [Bool.eq_iff_iff, beq_iff_eq, beq_iff_eq]; exact eq_comm
    cases hpr : (x == r) with
    | false =>
      repeat' first | simp -implicitDefEqProofs (maxSteps := 400000) (disch := first | with_reducible rfl | omega | (simp only [wkH] <;> omega) | decide) only [wkAll, wkL, popO, wantedP, Nat.reduceLeDiff, binP, lenP, builtinP, indexAddrOp, loadOp, loadP, PK.agg, seg, wkN, if_pos, if_neg, tf3, tf22, hd, hlt, hsym, hpr]
      exact hK (i + 1) _ _ ⟨by omega, by rw [take_snoc hr]; simp only [List.any_append, hno, List.any_cons, List.any_nil, hpr, Bool.or_false]⟩ (by omega) (.eq (by simp [FadeTo]) rfl)
    | true =>
      rw [show l.any (fun y => x == y) = true from List.any_eq_true.2 ⟨r, List.mem_of_getElem? hr, hpr⟩] at hQ
      repeat' first | simp -implicitDefEqProofs (maxSteps := 400000) (disch := first | with_reducible rfl | omega | (simp only [wkH] <;> omega) | decide) only [wkAll, wkL, popO, wantedP, Nat.reduceLeDiff, binP, lenP, builtinP, indexAddrOp, loadOp, loadP, PK.agg, seg, if_pos, if_neg, tf3, tf22, hd, hlt, hsym, hpr]
      refine hQ (by first | exact .inr rfl | exact .inl rfl) (by first | exact trivial | exact marks1) (by first | (simp -implicitDefEqProofs (maxSteps := 400000) (disch := first | with_reducible rfl | omega | (simp only [wkH] <;> omega) | decide) only [wkL, resP, resPs, resP1]; rfl) | rfl) ⟨6, by repeat' first | exact frz_scalar rfl | apply frz_tuple | apply frz_agg | apply frz_fsl | apply frz_gsl (by omega) | exact frzs_nil | apply frzs_cons⟩ (by first | exact keepsH0 | exact keeps1 (by assumption)) (nw_eq ?_)
      rfl
  · have hge : ¬ (i : Int) < l.length := by omega
    rw [List.take_of_length_le h] at hno
    rw [hno] at hQ
    repeat' first | simp -implicitDefEqProofs (maxSteps := 400000) (disch := first | with_reducible rfl | omega | (simp only [wkH] <;> omega) | decide) only [wkAll, wkL, popO, wantedP, binP, lenP, builtinP, if_pos, tf22, hge]
    refine hQ (by first | exact .inr rfl | exact .inl rfl) (by first | exact trivial | exact marks1) (by first | (simp -implicitDefEqProofs (maxSteps := 400000) (disch := first | with_reducible rfl | omega | (simp only [wkH] <;> omega) | decide) only [wkL, resP, resPs, resP1]; rfl) | rfl) ⟨6, by repeat' first | exact frz_scalar rfl | apply frz_tuple | apply frz_agg | apply frz_fsl | apply frz_gsl (by omega) | exact frzs_nil | apply frzs_cons⟩ (by first | exact keepsH0 | exact keeps1 (by assumption)) (nw_eq ?_)
    rfl
theorem refNumbers_ok (l : List KR) (k : Int) (hl : l.length < 2 ^ 40) (hb : ∀ r ∈ l, r.b.length < 2 ^ 50) : Fn (Cx w0) 38 [.fsl 3 l.length (krsC l), .int .i64 k] (.tuple [.fsl 1 (numL l k true).1.length (intsC (numL l k true).1), .bool (numL l k true).2]) := by
  have tf := refFind_ok (w0 := w0) l k hl
  have hle := find_leA l k
  match hf : findL l k with
  | [] =>
    rw [hf] at tf
    rw [show numL l k true = ([], false) by rw [numL, hf]]
    refine fn_H ([Go.ResultVar.tmp 4, Go.ResultVar.tmp 5]) Tryz.func38 rfl rfl (by decide) fun ph hW Q hQ => ?_
    simp only [start, List.length_cons, List.length_nil, List.cons_append, List.nil_append, Nat.reduceAdd, Nat.reduceSub, List.replicate_succ, List.replicate_zero, Tryz.ntmps38]
    repeat' first | simp -implicitDefEqProofs (maxSteps := 400000) (disch := first | with_reducible rfl | omega | (simp only [wkH] <;> omega) | decide) only [wkAll, wkL, popO, wantedP, Int.reduceBNe, binP, lenP, builtinP, wkN, if_pos, tf26] | refine w_pure (tf) ?_
    refine hQ (by first | exact .inr rfl | exact .inl rfl) (by first | exact trivial | exact marks1) (by first | (simp -implicitDefEqProofs (maxSteps := 400000) (disch := first | with_reducible rfl | omega | (simp only [wkH] <;> omega) | decide) only [wkL, resP, resPs, resP1]; rfl) | rfl) ⟨6, by repeat' first | exact frz_scalar rfl | apply frz_tuple | apply frz_agg | apply frz_fsl | apply frz_gsl (by omega) | exact frzs_nil | apply frzs_cons⟩ (by first | exact keepsH0 | exact keeps1 (by assumption)) ?_
    repeat' first | exact nw_nil | exact nw_zsl | apply nw_tuple | apply nw_agg | exact nws_nil | apply nws_cons | exact nw_eq rfl | apply nw_eq
  | r :: q :: t =>
    rw [hf] at tf
    rw [show numL l k true = ([], false) by rw [numL, hf]]
    obtain ⟨F, hF⟩ : ∃ F, F = r :: q :: t := ⟨_, rfl⟩
    rw [← hF] at tf
    have hl2 : 2 ≤ F.length := by rw [hF]; simp
    have hn : ((F.length : Int) != 1) = true := by rw [bne_iff_ne]; omega
    clear hf hF
    refine fn_H ([Go.ResultVar.tmp 4, Go.ResultVar.tmp 5]) Tryz.func38 rfl rfl (by decide) fun ph hW Q hQ => ?_
    simp only [start, List.length_cons, List.length_nil, List.cons_append, List.nil_append, Nat.reduceAdd, Nat.reduceSub, List.replicate_succ, List.replicate_zero, Tryz.ntmps38]
    repeat' first | simp -implicitDefEqProofs (maxSteps := 400000) (disch := first | with_reducible rfl | omega | (simp only [wkH] <;> omega) | decide) only [wkAll, wkL, popO, wantedP, binP, lenP, builtinP, if_pos, tf26, hn] | refine w_pure (tf) ?_
    refine hQ (by first | exact .inr rfl | exact .inl rfl) (by first | exact trivial | exact marks1) (by first | (simp -implicitDefEqProofs (maxSteps := 400000) (disch := first | with_reducible rfl | omega | (simp only [wkH] <;> omega) | decide) only [wkL, resP, resPs, resP1]; rfl) | rfl) ⟨6, by repeat' first | exact frz_scalar rfl | apply frz_tuple | apply frz_agg | apply frz_fsl | apply frz_gsl (by omega) | exact frzs_nil | apply frzs_cons⟩ (by first | exact keepsH0 | exact keeps1 (by assumption)) ?_
    repeat' first | exact nw_nil | exact nw_zsl | apply nw_tuple | apply nw_agg | exact nws_nil | apply nws_cons | exact nw_eq rfl | apply nw_eq
  | [r] =>
    rw [hf] at tf
    have hrb := hb r (find_mem (k := k) (by rw [hf]; simp))
    cases hrc : r.c with
    | false =>
      rw [show numL l k true = ([], false) by rw [numL, hf]; simp [hrc]]
      refine fn_H ([Go.ResultVar.tmp 4, Go.ResultVar.tmp 5]) Tryz.func38 rfl rfl (by decide) fun ph hW Q hQ => ?_
      simp only [start, List.length_cons, List.length_nil, List.cons_append, List.nil_append, Nat.reduceAdd, Nat.reduceSub, List.replicate_succ, List.replicate_zero, Tryz.ntmps38]
      repeat' first | simp -implicitDefEqProofs (maxSteps := 400000) (disch := first | with_reducible rfl | omega | (simp only [wkH] <;> omega) | decide) only [wkAll, wkL, popO, wantedP, Nat.reduceAdd, Nat.reduceLeDiff, Int.reduceLE, Int.reduceLT, Int.reduceToNat, binP, unP, lenP, builtinP, indexAddrOp, loadOp, loadP, fieldAddrOp, PK.agg, seg, wkN, if_pos, if_neg, tf4, tf26, tf46, krsC, krC, hrc, List.flatMap_cons, List.flatMap_nil] | refine w_pure (tf) ?_
      refine hQ (by first | exact .inr rfl | exact .inl rfl) (by first | exact trivial | exact marks1) (by first | (simp -implicitDefEqProofs (maxSteps := 400000) (disch := first | with_reducible rfl | omega | (simp only [wkH] <;> omega) | decide) only [wkL, resP, resPs, resP1]; rfl) | rfl) ⟨6, by repeat' first | exact frz_scalar rfl | apply frz_tuple | apply frz_agg | apply frz_fsl | apply frz_gsl (by omega) | exact frzs_nil | apply frzs_cons⟩ (by first | exact keepsH0 | exact keeps1 (by assumption)) ?_
      repeat' first | exact nw_nil | exact nw_zsl | apply nw_tuple | apply nw_agg | exact nws_nil | apply nws_cons | exact nw_eq rfl | apply nw_eq
    | true =>
      have tp := refToPairs_ok (w0 := w0) r.b hrb
      rw [show numL l k true = ((toPairsL r.b).1, decide ((toPairsL r.b).2 = 0) && decide ((toPairsL r.b).1 ≠ [])) by rw [numL, hf]; simp [hrc]]
      generalize toPairsL r.b = T at *
      obtain ⟨N, e⟩ := T
      simp only at tp ⊢
      by_cases he : e = 0
      · subst he
        by_cases hN : N = []
        · subst hN
          refine fn_H ([Go.ResultVar.tmp 4, Go.ResultVar.tmp 5]) Tryz.func38 rfl rfl (by decide) fun ph hW Q hQ => ?_
          simp only [start, List.length_cons, List.length_nil, List.cons_append, List.nil_append, Nat.reduceAdd, Nat.reduceSub, List.replicate_succ, List.replicate_zero, Tryz.ntmps38]
          repeat' first | simp -implicitDefEqProofs (maxSteps := 400000) (disch := first | with_reducible rfl | omega | (simp only [wkH] <;> omega) | decide) only [wkAll, wkL, popO, wantedP, Nat.reduceAdd, Nat.reduceLeDiff, Int.reduceLE, Int.reduceLT, Int.reduceToNat, binP, unP, lenP, builtinP, indexAddrOp, loadOp, loadP, fieldAddrOp, PK.agg, gt_iff_lt, seg, wkN, if_pos, if_neg, tf4, tf9, tf22, tf26, tf46, krsC, krC, hrc, List.flatMap_cons, List.flatMap_nil] | refine w_pure (tf) ?_ | refine w_pure (tp) ?_
          refine hQ (by first | exact .inr rfl | exact .inl rfl) (by first | exact trivial | exact marks1) (by first | (simp -implicitDefEqProofs (maxSteps := 400000) (disch := first | with_reducible rfl | omega | (simp only [wkH] <;> omega) | decide) only [wkL, resP, resPs, resP1]; rfl) | rfl) ⟨6, by repeat' first | exact frz_scalar rfl | apply frz_tuple | apply frz_agg | apply frz_fsl | apply frz_gsl (by omega) | exact frzs_nil | apply frzs_cons⟩ (by first | exact keepsH0 | exact keeps1 (by assumption)) ?_
          repeat' first | exact nw_nil | exact nw_zsl | apply nw_tuple | apply nw_agg | exact nws_nil | apply nws_cons | exact nw_eq rfl | apply nw_eq
        · have hNl : 0 < N.length := List.length_pos_iff.2 hN
          have hNl' : (0 : Int) < (N.length : Int) := by omega
          rw [show (decide ((0 : Int) = 0) && decide (N ≠ [])) = true by simp [hN]]
          refine fn_H ([Go.ResultVar.tmp 4, Go.ResultVar.tmp 5]) Tryz.func38 rfl rfl (by decide) fun ph hW Q hQ => ?_
          simp only [start, List.length_cons, List.length_nil, List.cons_append, List.nil_append, Nat.reduceAdd, Nat.reduceSub, List.replicate_succ, List.replicate_zero, Tryz.ntmps38]
          repeat' first | simp -implicitDefEqProofs (maxSteps := 400000) (disch := first | with_reducible rfl | omega | (simp only [wkH] <;> omega) | decide) only [wkAll, wkL, popO, wantedP, Nat.reduceAdd, Nat.reduceLeDiff, Int.reduceLE, Int.reduceLT, Int.reduceToNat, binP, unP, lenP, builtinP, indexAddrOp, loadOp, loadP, fieldAddrOp, PK.agg, gt_iff_lt, seg, wkN, if_pos, if_neg, tf4, tf9, tf22, tf26, tf46, krsC, krC, hrc, List.flatMap_cons, List.flatMap_nil, hNl', gt_iff_lt] | refine w_pure (tf) ?_ | refine w_pure (tp) ?_
          refine hQ (by first | exact .inr rfl | exact .inl rfl) (by first | exact trivial | exact marks1) (by first | (simp -implicitDefEqProofs (maxSteps := 400000) (disch := first | with_reducible rfl | omega | (simp only [wkH] <;> omega) | decide) only [wkL, resP, resPs, resP1]; rfl) | rfl) ⟨6, by repeat' first | exact frz_scalar rfl | apply frz_tuple | apply frz_agg | apply frz_fsl | apply frz_gsl (by omega) | exact frzs_nil | apply frzs_cons | exact frzs_scalars (intsC_ok _)⟩ (by first | exact keepsH0 | exact keeps1 (by assumption)) (nw_eq ?_)
          rfl
      · have he' : (e == 0) = false := by rw [beq_eq_false_iff_ne]; exact he
        rw [show (decide (e = 0) && decide (N ≠ [])) = false by simp [he]]
        refine fn_H ([Go.ResultVar.tmp 4, Go.ResultVar.tmp 5]) Tryz.func38 rfl rfl (by decide) fun ph hW Q hQ => ?_
        simp only [start, List.length_cons, List.length_nil, List.cons_append, List.nil_append, Nat.reduceAdd, Nat.reduceSub, List.replicate_succ, List.replicate_zero, Tryz.ntmps38]
        repeat' first | simp -implicitDefEqProofs (maxSteps := 400000) (disch := first | with_reducible rfl | omega | (simp only [wkH] <;> omega) | decide) only [wkAll, wkL, popO, wantedP, Nat.reduceAdd, Nat.reduceLeDiff, Int.reduceLE, Int.reduceLT, Int.reduceToNat, binP, unP, lenP, builtinP, indexAddrOp, loadOp, loadP, fieldAddrOp, PK.agg, seg, wkN, if_pos, if_neg, tf4, tf9, tf26, tf46, krsC, krC, hrc, List.flatMap_cons, List.flatMap_nil, he'] | refine w_pure (tf) ?_ | refine w_pure (tp) ?_
        refine hQ (by first | exact .inr rfl | exact .inl rfl) (by first | exact trivial | exact marks1) (by first | (simp -implicitDefEqProofs (maxSteps := 400000) (disch := first | with_reducible rfl | omega | (simp only [wkH] <;> omega) | decide) only [wkL, resP, resPs, resP1]; rfl) | rfl) ⟨6, by repeat' first | exact frz_scalar rfl | apply frz_tuple | apply frz_agg | apply frz_fsl | apply frz_gsl (by omega) | exact frzs_nil | apply frzs_cons | exact frzs_scalars (intsC_ok _)⟩ (by first | exact keepsH0 | exact keeps1 (by assumption)) (nw_eq ?_)
        rfl
end Pv

--nosplit
--keep2
namespace Pv
set_option maxRecDepth 20000
set_option maxHeartbeats 4000000
open Go Go.Proofs Go.RowKit
variable {w0 : World}

theorem refAsk_ok (l : List Int) (Nm : List UInt8) (P : Int) (hl : l.length < 2 ^ 40) (hN0 : Nm.length < 2 ^ 50) : Fn (Cx w0) 8 [.fsl 1 l.length (intsC l), .str Nm, .int .i64 P] (.tuple [.fsl 3 (askL l Nm P).1.length (krsC (askL l Nm P).1), .int .i64 (askL l Nm P).2]) := by
  have tp := refPairs_ok (w0 := w0) l hl
  have th := refHost19_ok (w0 := w0) Nm hN0
  have tpo := refPort19_ok (w0 := w0) P
  have t0 := refTwo19_ok (w0 := w0) 0 (by decide)
  have te := refEnd_ok (w0 := w0)
  by_cases hA : l = []
  · subst hA
    rw [show askL [] Nm P = ([], 11) by simp [askL, askE, firE]]
    refine fn_H ([Go.ResultVar.tmp 6, Go.ResultVar.tmp 7]) Tryz.func8 rfl rfl (by decide) fun ph hW Q hQ => ?_
    simp only [start, List.length_cons, List.length_nil, List.cons_append, List.nil_append, Nat.reduceAdd, Nat.reduceSub, List.replicate_succ, List.replicate_zero, Tryz.ntmps8]
    repeat' first | simp -implicitDefEqProofs (maxSteps := 400000) (disch := first | with_reducible rfl | omega | (simp only [wkH] <;> omega) | decide) only [wkAll, wkL, popO, wantedP, binP, lenP, builtinP, wkN, if_pos, tf22]
    refine hQ (by first | exact .inr rfl | exact .inl rfl) (by first | exact trivial | exact marks1) (by first | (simp -implicitDefEqProofs (maxSteps := 400000) (disch := first | with_reducible rfl | omega | (simp only [wkH] <;> omega) | decide) only [wkL, resP, resPs, resP1]; rfl) | rfl) ⟨6, by repeat' first | exact frz_scalar rfl | apply frz_tuple | apply frz_agg | apply frz_fsl | apply frz_gsl (by omega) | exact frzs_nil | apply frzs_cons⟩ (by first | exact keepsH0 | exact keeps1 (by assumption)) ?_
    repeat' first | exact nw_nil | exact nw_zsl | apply nw_tuple | apply nw_agg | exact nws_nil | apply nws_cons | exact nw_eq rfl | apply nw_eq
  have hlp := List.length_pos_iff.2 hA
  have hlz : ((l.length : Int) == 0) = false := by rw [beq_eq_false_iff_ne]; omega
  have hd : decide ((0 : Int) < (l.length : Int)) = true := by rw [decide_eq_true_iff]; omega
  have hE : firE (askE l Nm P) = if (pairsL l).2 = 0 then (if (decide (Nm = []) || hostL Nm) = true then (if (decide (P = 0) || portB P) = true then 0 else 13) else 20) else (pairsL l).2 := by
    rw [askE, hd]
    by_cases h : (pairsL l).2 = 0
    · rw [h]; simp [firE]
    · have : ((pairsL l).2 == 0) = false := by rw [beq_eq_false_iff_ne]; exact h
      rw [this]; simp [firE, h]
  have hL : askL l Nm P = if firE (askE l Nm P) ≠ 0 then ([], firE (askE l Nm P)) else (askR (pairsL l).1 Nm P, 0) := rfl
  rw [hE] at hL
  generalize pairsL l = T at *
  obtain ⟨B, e⟩ := T
  simp only at tp hL
  by_cases he : e = 0
  · rw [if_pos he] at hL
    have he' := bneF he
    by_cases h1 : (decide (Nm = []) || hostL Nm) = true
    · rw [if_pos h1] at hL
      by_cases h2 : (decide (P = 0) || portB P) = true
      · rw [if_pos h2, if_neg (by simp)] at hL
        rw [hL]
        have tw : P ≠ 0 → Fn (Cx w0) 28 [.int .i64 P] (.str (twoL P)) := fun h => refTwo19_ok P (by
          simp only [Bool.or_eq_true, decide_eq_true_eq, portB, Bool.and_eq_true] at h2; omega)
        by_cases hN : Nm = []
        all_goals by_cases hP : P = 0
        all_goals
          first | have cN := strEqT hN
                | (have cN := strEqF hN; rw [decide_eq_false hN, Bool.false_or] at h1; rw [h1] at th)
          first | have cP := bneF hP
                | (have cP := bneT hP; rw [decide_eq_false hP, Bool.false_or] at h2; rw [h2] at tpo)
          refine fn_H ([Go.ResultVar.tmp 6, Go.ResultVar.tmp 7]) Tryz.func8 rfl rfl (by decide) fun ph hW Q hQ => ?_
          simp only [start, List.length_cons, List.length_nil, List.cons_append, List.nil_append, Nat.reduceAdd, Nat.reduceSub, List.replicate_succ, List.replicate_zero, Tryz.ntmps8]
          repeat' first | simp -implicitDefEqProofs (maxSteps := 400000) (disch := first | with_reducible rfl | omega | (simp only [wkH] <;> omega) | decide) only [wkAll, wkL, popO, wantedP, ne_eq, Nat.reduceAdd, Nat.reduceMul, Nat.reduceLeDiff, Nat.reduceLT, reduceCtorEq, binP, unP, lenP, builtinP, appendT, appendP, srcP, buildP, buildSliceP, placeF, fillP, setL, gt_iff_lt, Nat.reducePow, reps, seg, if_pos, if_neg, tf22, tf26, tf46, Tryz.ze46, hlz, he', cN, cP] | refine w_pure (tp) ?_ | refine w_pure (th) ?_ | refine w_pure (tpo) ?_ | refine w_pure (t0) ?_ | refine w_pure (tw hP) ?_ | refine w_pure (te) ?_
          refine hQ (by first | exact .inr rfl | exact .inl rfl) (by first | exact trivial | exact marks1) (by first | (simp -implicitDefEqProofs (maxSteps := 400000) (disch := first | with_reducible rfl | omega | (simp only [wkH] <;> omega) | decide) only [wkL, resP, resPs, resP1]; rfl) | rfl) ⟨6, by repeat' first | exact frz_scalar rfl | apply frz_tuple | apply frz_agg | apply frz_fsl | apply frz_gsl (by omega) | exact frzs_nil | apply frzs_cons | exact frz_whole (by omega) (by rw [h_shut0, h_get]; rfl) rfl rfl⟩ (by first | exact keepsH0 | exact keeps1 (by assumption)) (nw_eq ?_)
          simp [askR, hN, hP, krsC, krC]
      · rw [if_neg h2, if_pos (by simp)] at hL
        rw [hL]
        have h2' : portB P = false := by simp only [Bool.or_eq_true, decide_eq_true_eq, not_or] at h2; simpa using h2.2
        have cP : (P != 0) = true := bneT (fun h => h2 (by simp [h]))
        rw [h2'] at tpo
        by_cases hN : Nm = []
        · have cN := strEqT hN
          refine fn_H ([Go.ResultVar.tmp 6, Go.ResultVar.tmp 7]) Tryz.func8 rfl rfl (by decide) fun ph hW Q hQ => ?_
          simp only [start, List.length_cons, List.length_nil, List.cons_append, List.nil_append, Nat.reduceAdd, Nat.reduceSub, List.replicate_succ, List.replicate_zero, Tryz.ntmps8]
          repeat' first | simp -implicitDefEqProofs (maxSteps := 400000) (disch := first | with_reducible rfl | omega | (simp only [wkH] <;> omega) | decide) only [wkAll, wkL, popO, wantedP, binP, unP, lenP, builtinP, if_pos, if_neg, tf22, hlz, he', cN, cP] | refine w_pure (tp) ?_ | refine w_pure (th) ?_ | refine w_pure (tpo) ?_
          refine hQ (by first | exact .inr rfl | exact .inl rfl) (by first | exact trivial | exact marks1) (by first | (simp -implicitDefEqProofs (maxSteps := 400000) (disch := first | with_reducible rfl | omega | (simp only [wkH] <;> omega) | decide) only [wkL, resP, resPs, resP1]; rfl) | rfl) ⟨6, by repeat' first | exact frz_scalar rfl | apply frz_tuple | apply frz_agg | apply frz_fsl | apply frz_gsl (by omega) | exact frzs_nil | apply frzs_cons⟩ (by first | exact keepsH0 | exact keeps1 (by assumption)) ?_
          repeat' first | exact nw_nil | exact nw_zsl | apply nw_tuple | apply nw_agg | exact nws_nil | apply nws_cons | exact nw_eq rfl | apply nw_eq
        · have cN := strEqF hN
          rw [decide_eq_false hN, Bool.false_or] at h1
          rw [h1] at th
          refine fn_H ([Go.ResultVar.tmp 6, Go.ResultVar.tmp 7]) Tryz.func8 rfl rfl (by decide) fun ph hW Q hQ => ?_
          simp only [start, List.length_cons, List.length_nil, List.cons_append, List.nil_append, Nat.reduceAdd, Nat.reduceSub, List.replicate_succ, List.replicate_zero, Tryz.ntmps8]
          repeat' first | simp -implicitDefEqProofs (maxSteps := 400000) (disch := first | with_reducible rfl | omega | (simp only [wkH] <;> omega) | decide) only [wkAll, wkL, popO, wantedP, binP, unP, lenP, builtinP, if_pos, tf22, hlz, he', cN, cP] | refine w_pure (tp) ?_ | refine w_pure (th) ?_ | refine w_pure (tpo) ?_
          refine hQ (by first | exact .inr rfl | exact .inl rfl) (by first | exact trivial | exact marks1) (by first | (simp -implicitDefEqProofs (maxSteps := 400000) (disch := first | with_reducible rfl | omega | (simp only [wkH] <;> omega) | decide) only [wkL, resP, resPs, resP1]; rfl) | rfl) ⟨6, by repeat' first | exact frz_scalar rfl | apply frz_tuple | apply frz_agg | apply frz_fsl | apply frz_gsl (by omega) | exact frzs_nil | apply frzs_cons⟩ (by first | exact keepsH0 | exact keeps1 (by assumption)) ?_
          repeat' first | exact nw_nil | exact nw_zsl | apply nw_tuple | apply nw_agg | exact nws_nil | apply nws_cons | exact nw_eq rfl | apply nw_eq
    · rw [if_neg h1, if_pos (by simp)] at hL
      rw [hL]
      have h1' : hostL Nm = false := by simp only [Bool.or_eq_true, decide_eq_true_eq, not_or] at h1; simpa using h1.2
      have cN : (!(Nm == [])) = true := strEqF (fun h => h1 (by simp [h]))
      rw [h1'] at th
      refine fn_H ([Go.ResultVar.tmp 6, Go.ResultVar.tmp 7]) Tryz.func8 rfl rfl (by decide) fun ph hW Q hQ => ?_
      simp only [start, List.length_cons, List.length_nil, List.cons_append, List.nil_append, Nat.reduceAdd, Nat.reduceSub, List.replicate_succ, List.replicate_zero, Tryz.ntmps8]
      repeat' first | simp -implicitDefEqProofs (maxSteps := 400000) (disch := first | with_reducible rfl | omega | (simp only [wkH] <;> omega) | decide) only [wkAll, wkL, popO, wantedP, binP, unP, lenP, builtinP, if_pos, tf22, hlz, he', cN] | refine w_pure (tp) ?_ | refine w_pure (th) ?_
      refine hQ (by first | exact .inr rfl | exact .inl rfl) (by first | exact trivial | exact marks1) (by first | (simp -implicitDefEqProofs (maxSteps := 400000) (disch := first | with_reducible rfl | omega | (simp only [wkH] <;> omega) | decide) only [wkL, resP, resPs, resP1]; rfl) | rfl) ⟨6, by repeat' first | exact frz_scalar rfl | apply frz_tuple | apply frz_agg | apply frz_fsl | apply frz_gsl (by omega) | exact frzs_nil | apply frzs_cons⟩ (by first | exact keepsH0 | exact keeps1 (by assumption)) ?_
      repeat' first | exact nw_nil | exact nw_zsl | apply nw_tuple | apply nw_agg | exact nws_nil | apply nws_cons | exact nw_eq rfl | apply nw_eq
  · rw [if_neg he, if_pos he] at hL
    rw [hL]
    have he' := bneT he
    refine fn_H ([Go.ResultVar.tmp 6, Go.ResultVar.tmp 7]) Tryz.func8 rfl rfl (by decide) fun ph hW Q hQ => ?_
    simp only [start, List.length_cons, List.length_nil, List.cons_append, List.nil_append, Nat.reduceAdd, Nat.reduceSub, List.replicate_succ, List.replicate_zero, Tryz.ntmps8]
    repeat' first | simp -implicitDefEqProofs (maxSteps := 400000) (disch := first | with_reducible rfl | omega | (simp only [wkH] <;> omega) | decide) only [wkAll, wkL, popO, wantedP, binP, lenP, builtinP, if_pos, tf22, hlz, he'] | refine w_pure (tp) ?_
    refine hQ (by first | exact .inr rfl | exact .inl rfl) (by first | exact trivial | exact marks1) (by first | (simp -implicitDefEqProofs (maxSteps := 400000) (disch := first | with_reducible rfl | omega | (simp only [wkH] <;> omega) | decide) only [wkL, resP, resPs, resP1]; rfl) | rfl) ⟨6, by repeat' first | exact frz_scalar rfl | apply frz_tuple | apply frz_agg | apply frz_fsl | apply frz_gsl (by omega) | exact frzs_nil | apply frzs_cons⟩ (by first | exact keepsH0 | exact keeps1 (by assumption)) ?_
    repeat' first | exact nw_nil | exact nw_zsl | apply nw_tuple | apply nw_agg | exact nws_nil | apply nws_cons | exact nw_eq rfl | apply nw_eq
end Pv

--nosplit
--keep2
namespace Pv
set_option maxRecDepth 20000
set_option maxHeartbeats 4000000
open Go Go.Proofs Go.RowKit
variable {w0 : World}

def awL : List KR := [⟨true, 1, [0, 0]⟩, ⟨true, 4, [0, 15]⟩, ⟨true, 0, []⟩]
def awC : List UInt8 := [99, 111, 111, 107]
def awA : List KR := [⟨true, 1, [0, 0]⟩, ⟨true, 4, [0, 15]⟩, ⟨false, 5, awC⟩, ⟨true, 0, []⟩]
def awB : List KR := [⟨true, 2, [0, 0]⟩, ⟨true, 0, []⟩]
theorem aw19_a : ask0L [15] = (awL, 0) := by decide +kernel
theorem aw19_b : ansL [17, 15] [awC] [] 0 awL = (awA, 15) := by decide +kernel
theorem aw19_c : ansL [] [] [] 0 (⟨true, 99, []⟩ :: awL) = (awB, 0) := by decide +kernel
theorem awake19_ok : Fn (Cx w0) 6 [] (.bool true) := by
  have t1 := negoAsk0_ok (w0 := w0) [15] (by decide)
  rw [aw19_a] at t1
  have t2 := negoAnswer_ok (w0 := w0) [17, 15] [awC] [] 0 awL (by decide) (by decide) (by decide) (by decide) (by decide) (by decide)
  rw [aw19_b] at t2
  have t3 := negoAnswer_ok (w0 := w0) [] [] [] 0 (⟨true, 99, []⟩ :: awL) (by decide) (by decide) (by decide) (by decide) (by decide) (by decide)
  rw [aw19_c] at t3
  refine fn_H ([Go.ResultVar.tmp 0]) Tryz.func6 rfl rfl (by decide) fun ph hW Q hQ => ?_
  simp only [start, List.length_nil, List.nil_append, Nat.reduceSub, List.replicate_succ, List.replicate_zero, Tryz.ntmps6]
  repeat' first | simp -implicitDefEqProofs (maxSteps := 400000) (disch := first | with_reducible rfl | omega | (simp only [wkH] <;> omega) | decide) only [wkAll, wkL, popO, wantedP, ne_eq, Nat.reduceLeDiff, Nat.reduceLT, buildSliceP, fillP, setL, gt_iff_lt, Nat.reducePow, reps, if_pos, if_neg, tf3, Tryz.ze3, tf22]
  refine w_frz (p := ph.n) (cells := [.int .i64 15]) (args' := [.fsl 1 1 [.int .i64 15], .str [], .int .i64 0]) (by rw [h_get0]; rfl) ⟨.inr ⟨0, 1, 1, some 1, rfl, rfl, by simp⟩, .inl rfl, .inl rfl, trivial⟩ ?_
  repeat' first | simp -implicitDefEqProofs (maxSteps := 400000) (disch := first | with_reducible rfl | omega | (simp only [wkH] <;> omega) | decide) only [wkAll, wkL, popO, wantedP, ne_eq, Nat.reduceAdd, Nat.reduceLeDiff, Nat.reduceLT, buildP, buildSliceP, placeF, fillP, setL, gt_iff_lt, Nat.reducePow, reps, if_pos, if_neg, tf3, Tryz.ze3, tf9, Tryz.ze9, tf22, tf23, tf25, Tryz.ze25] | refine w_pure (t1) ?_
  refine w_frzC 1 [.int .i64 17, .int .i64 15] (args' := [.agg [.fsl 1 2 [.int .i64 17, .int .i64 15], .str [], .int .i64 0, .sl (ph.n + 2) 0 1 1 (some 1)], .fsl 3 awL.length (krsC awL)]) (l' := [none, none, some (.own [.str [99, 111, 111, 107]])]) rfl ⟨.inr (.inr ⟨_, _, rfl, rfl, .inr ⟨0, 1, 2, some 2, rfl, rfl, by simp⟩, .inl rfl, .inl rfl, .inl rfl, trivial⟩), .inl rfl, trivial⟩ FB.refl ?_
  refine w_frzC 2 [.str [99, 111, 111, 107]] (args' := [.agg [.fsl 1 2 [.int .i64 17, .int .i64 15], .str [], .int .i64 0, .fsl 1 1 [.str [99, 111, 111, 107]]], .fsl 3 awL.length (krsC awL)]) (l' := [none, none, none]) rfl ⟨.inr (.inr ⟨_, _, rfl, rfl, .inl rfl, .inl rfl, .inl rfl, .inr ⟨0, 1, 1, some 1, rfl, rfl, by simp⟩, trivial⟩), .inl rfl, trivial⟩ FB.refl ?_
  refine w_pure t2 ?_
  repeat' first | simp -implicitDefEqProofs (maxSteps := 400000) (disch := first | with_reducible rfl | omega | (simp only [wkH] <;> omega) | decide) only [wkAll, wkL, popO, wantedP, ne_eq, Nat.reduceAdd, Nat.reduceLeDiff, Nat.reduceLT, reduceCtorEq, builtinP, appendT, appendP, srcP, buildP, buildSliceP, placeF, fillP, setL, gt_iff_lt, Nat.reducePow, reps, seg, if_pos, if_neg, tf25, Tryz.ze25, tf26, tf46, Tryz.ze46]
  refine PCalls.args (args' := [.agg [.fsl 1 0 [], .str [], .int .i64 0, .fsl 1 0 []], .sl (ph.n + 4) 0 3 4 none]) (nws_cons (nw_agg (nws_cons nw_nil (nws_cons (nw_eq rfl) (nws_cons (nw_eq rfl) (nws_cons nw_nil nws_nil))))) (nws_cons (nw_eq rfl) nws_nil)) ?_
  refine w_frz (p := ph.n + 4) (cells := krsC (⟨true, 99, []⟩ :: awL)) (args' := [.agg [.fsl 1 0 [], .str [], .int .i64 0, .fsl 1 0 []], .fsl 3 4 (krsC (⟨true, 99, []⟩ :: awL))]) (by rw [h_get]; rfl) ⟨.inl rfl, .inr ⟨0, 3, 4, none, rfl, rfl, by decide⟩, trivial⟩ ?_
  refine w_pure t3 ?_
  have kz : keysL 0 [] 15 = ([], [], 14) := by decide +kernel
  have ez : tlL 0 [] [] [] 1 = ([], 14) := by decide +kernel
  repeat' first | simp -implicitDefEqProofs (maxSteps := 400000) (disch := first | with_reducible rfl | omega | (simp only [wkH] <;> omega) | decide) only [wkAll, wkL, popO, wantedP, Nat.reduceAdd, Nat.reduceMul, Nat.reduceLeDiff, Int.reduceLE, Int.reduceLT, Int.reduceToNat, binP, lenP, builtinP, indexAddrOp, loadOp, loadP, fieldAddrOp, buildP, placeF, fillP, PK.agg, seg, wkN, if_pos, if_neg, tf3, tf9, tf26, tf46, tf60, Tryz.ze60, kz, ez, awL, awA, awB, awC, krsC, krC, List.flatMap_cons, List.flatMap_nil] | refine w_pure (negoKeys_ok (w0 := w0) _ 0 15 [] [] [] [] _ rfl rfl rfl rfl (fun m => by simp [scs_cons, scs_nil, sc_str, sc_int, sc_bool, sc_nilsl])) ?_ | refine w_pure (refExport16_ok (w0 := w0) _ 0 [] [] [] [] [] [] _ 1 rfl rfl rfl rfl (by decide) (by decide)) ?_
  refine hQ (by first | exact .inr rfl | exact .inl rfl) (by first | exact trivial | exact marks1) (by first | (simp -implicitDefEqProofs (maxSteps := 400000) (disch := first | with_reducible rfl | omega | (simp only [wkH] <;> omega) | decide) only [wkL, resP, resPs, resP1]; rfl) | rfl) ⟨6, by repeat' first | exact frz_scalar rfl | apply frz_tuple | apply frz_agg | apply frz_fsl | apply frz_gsl (by omega) | exact frzs_nil | apply frzs_cons⟩ (by first | exact keepsH0 | exact keeps1 (by assumption)) (nw_eq ?_)
  rfl
end Pv
