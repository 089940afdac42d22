/- Part of the proof: the layer of pure values, or walks through functions (PvNg20). -/
import Derived.Test.YtjomgffpkdcanaaGreatPvNg14
import Derived.Test.YtjomgffpkdcanaaGreatPvNg11
set_option linter.all false
--nosplit
--keep2
namespace Pv
set_option maxRecDepth 20000
set_option maxHeartbeats 4000000
open Go Go.Proofs Go.RowKit
variable {w0 : World}

theorem refHost19_ok (s : List UInt8) (hs : s.length < 2 ^ 50) : Fn (Cx w0) 26 [.str s] (.bool (hostL s)) := by
  refine fn_H ([Go.ResultVar.tmp 2]) Tryz.func26 rfl rfl (by decide) fun ph hW Q hQ => ?_
  simp only [start, List.length_cons, List.length_nil, List.cons_append, List.nil_append, Nat.reduceAdd, Nat.reduceSub, List.replicate_succ, List.replicate_zero, Tryz.ntmps26]
  repeat' first | simp -implicitDefEqProofs (maxSteps := 400000) (disch := first | with_reducible rfl | omega | (simp only [wkH] <;> omega) | decide) only [wkAll, wkL, popO, wantedP]
  refine w_loopH (α := Nat) ph ph.ob ph.ty (fun i => [.str s, .undef, .undef, .int .i64 i, .undef, .undef, .undef, .undef, .undef, .undef, .undef, .undef, .undef, .undef, .undef, .undef, .undef, .undef, .undef, .undef, .undef, .undef, .undef, .undef, .undef, .undef, .undef]) (fun i => []) (fun i => i ≤ s.length ∧ (s.take i).all okB = true) (fun i => s.length - i) 0 (by simp) (fun _ _ => by simp) (.eq (by simp [FadeTo]) rfl) ?_
  rintro i ⟨hi, hok⟩ K hK
  rcases Nat.lt_or_ge i s.length with h | h
  · obtain ⟨b, hb⟩ := get_someW h
    have hlt : (i : Int) < (s.length : Int) := by omega
    have hmem := List.mem_of_getElem? hb
    have hno : okB b = false → hostL s = false := by
      intro h; rw [hostL]
      have : s.all okB = false := by rw [List.all_eq_false]; exact ⟨b, hmem, by simp [h]⟩
      rw [this, Bool.and_false]
    by_cases h1 : b.toNat < 33
    · have h1' : ((b.toNat : Int)) < 33 := by omega
      rw [hno (by unfold okB; simp only [Bool.and_eq_false_iff, decide_eq_false_iff_not]; omega)] at hQ
      repeat' first | simp -implicitDefEqProofs (maxSteps := 400000) (disch := first | with_reducible rfl | omega | (simp only [wkH] <;> omega) | decide) only [wkAll, wkL, popO, wantedP, binP, lenP, builtinP, indexOp, if_pos, tf9, hlt, hb, h1']
      refine hQ (by first | exact .inr rfl | exact .inl rfl) (by first | exact trivial | exact marks1) (by first | (simp -implicitDefEqProofs (maxSteps := 400000) (disch := first | with_reducible rfl | omega | (simp only [wkH] <;> omega) | decide) only [wkL, resP, resPs, resP1]; rfl) | rfl) ⟨6, by repeat' first | exact frz_scalar rfl | apply frz_tuple | apply frz_agg | apply frz_fsl | apply frz_gsl (by omega) | exact frzs_nil | apply frzs_cons⟩ (by first | exact keepsH0 | exact keeps1 (by assumption)) (nw_eq ?_)
      rfl
    · have h1' : ¬ ((b.toNat : Int)) < 33 := by omega
      by_cases h2 : 126 < b.toNat
      · have h2' : (126 : Int) < (b.toNat : Int) := by omega
        rw [hno (by unfold okB; simp only [Bool.and_eq_false_iff, decide_eq_false_iff_not]; omega)] at hQ
        repeat' first | simp -implicitDefEqProofs (maxSteps := 400000) (disch := first | with_reducible rfl | omega | (simp only [wkH] <;> omega) | decide) only [wkAll, wkL, popO, wantedP, binP, lenP, builtinP, indexOp, gt_iff_lt, if_pos, if_neg, tf9, hlt, hb, h1', h2', gt_iff_lt]
        refine hQ (by first | exact .inr rfl | exact .inl rfl) (by first | exact trivial | exact marks1) (by first | (simp -implicitDefEqProofs (maxSteps := 400000) (disch := first | with_reducible rfl | omega | (simp only [wkH] <;> omega) | decide) only [wkL, resP, resPs, resP1]; rfl) | rfl) ⟨6, by repeat' first | exact frz_scalar rfl | apply frz_tuple | apply frz_agg | apply frz_fsl | apply frz_gsl (by omega) | exact frzs_nil | apply frzs_cons⟩ (by first | exact keepsH0 | exact keeps1 (by assumption)) (nw_eq ?_)
        rfl
      · have h2' : ¬ (126 : Int) < (b.toNat : Int) := by omega
        repeat' first | simp -implicitDefEqProofs (maxSteps := 400000) (disch := first | with_reducible rfl | omega | (simp only [wkH] <;> omega) | decide) only [wkAll, wkL, popO, wantedP, binP, lenP, builtinP, indexOp, gt_iff_lt, wkN, if_pos, if_neg, tf9, hlt, hb, h1', h2', gt_iff_lt]
        refine hK (i + 1) _ _ ⟨by omega, ?_⟩ (by omega) (.eq (by simp [FadeTo]) rfl)
        rw [take_snoc hb, List.all_append, hok]
        simp only [List.all_cons, List.all_nil, Bool.true_and, Bool.and_true, okB, Bool.and_eq_true, decide_eq_true_eq]
        omega
  · have hge : ¬ (i : Int) < (s.length : Int) := by omega
    rw [List.take_of_length_le h] at hok
    by_cases h1 : s = []
    · have c1 := strEqT h1
      rw [show hostL s = false by rw [hostL, decide_eq_true h1]; rfl] at hQ
      repeat' first | simp -implicitDefEqProofs (maxSteps := 400000) (disch := first | with_reducible rfl | omega | (simp only [wkH] <;> omega) | decide) only [wkAll, wkL, popO, wantedP, binP, lenP, builtinP, if_pos, if_neg, tf9, hge, c1]
      refine hQ (by first | exact .inr rfl | exact .inl rfl) (by first | exact trivial | exact marks1) (by first | (simp -implicitDefEqProofs (maxSteps := 400000) (disch := first | with_reducible rfl | omega | (simp only [wkH] <;> omega) | decide) only [wkL, resP, resPs, resP1]; rfl) | rfl) ⟨6, by repeat' first | exact frz_scalar rfl | apply frz_tuple | apply frz_agg | apply frz_fsl | apply frz_gsl (by omega) | exact frzs_nil | apply frzs_cons⟩ (by first | exact keepsH0 | exact keeps1 (by assumption)) (nw_eq ?_)
      rfl
    · have c1 := strEqF h1
      by_cases h2 : s.length ≤ 64
      · have c2 : (s.length : Int) ≤ 64 := by omega
        rw [show hostL s = true by rw [hostL, decide_eq_false h1, decide_eq_true h2, hok]; rfl] at hQ
        repeat' first | simp -implicitDefEqProofs (maxSteps := 400000) (disch := first | with_reducible rfl | omega | (simp only [wkH] <;> omega) | decide) only [wkAll, wkL, popO, wantedP, binP, lenP, builtinP, if_pos, tf9, hge, c1, c2]
        refine hQ (by first | exact .inr rfl | exact .inl rfl) (by first | exact trivial | exact marks1) (by first | (simp -implicitDefEqProofs (maxSteps := 400000) (disch := first | with_reducible rfl | omega | (simp only [wkH] <;> omega) | decide) only [wkL, resP, resPs, resP1]; rfl) | rfl) ⟨6, by repeat' first | exact frz_scalar rfl | apply frz_tuple | apply frz_agg | apply frz_fsl | apply frz_gsl (by omega) | exact frzs_nil | apply frzs_cons⟩ (by first | exact keepsH0 | exact keeps1 (by assumption)) (nw_eq ?_)
        rfl
      · have c2 : ¬ (s.length : Int) ≤ 64 := by omega
        rw [show hostL s = false by rw [hostL, decide_eq_false h2]; simp] at hQ
        repeat' first | simp -implicitDefEqProofs (maxSteps := 400000) (disch := first | with_reducible rfl | omega | (simp only [wkH] <;> omega) | decide) only [wkAll, wkL, popO, wantedP, binP, lenP, builtinP, if_pos, tf9, hge, c1, c2]
        refine hQ (by first | exact .inr rfl | exact .inl rfl) (by first | exact trivial | exact marks1) (by first | (simp -implicitDefEqProofs (maxSteps := 400000) (disch := first | with_reducible rfl | omega | (simp only [wkH] <;> omega) | decide) only [wkL, resP, resPs, resP1]; rfl) | rfl) ⟨6, by repeat' first | exact frz_scalar rfl | apply frz_tuple | apply frz_agg | apply frz_fsl | apply frz_gsl (by omega) | exact frzs_nil | apply frzs_cons⟩ (by first | exact keepsH0 | exact keeps1 (by assumption)) (nw_eq ?_)
        rfl
theorem refPort19_ok (n : Int) : Fn (Cx w0) 27 [.int .i64 n] (.bool (portB n)) := by
  by_cases h0 : 1 ≤ n
  · by_cases h1 : n ≤ 65535
    · rw [show portB n = true by simp [portB]; omega]
      refine fn_H ([Go.ResultVar.tmp 2]) Tryz.func27 rfl rfl (by decide) fun ph hW Q hQ => ?_
      simp only [start, List.length_cons, List.length_nil, List.cons_append, List.nil_append, Nat.reduceAdd, Nat.reduceSub, List.replicate_succ, List.replicate_zero, Tryz.ntmps27]
      repeat' first | simp -implicitDefEqProofs (maxSteps := 400000) (disch := first | with_reducible rfl | omega | (simp only [wkH] <;> omega) | decide) only [wkAll, wkL, popO, wantedP, binP, if_pos, h0, h1]
      refine hQ (by first | exact .inr rfl | exact .inl rfl) (by first | exact trivial | exact marks1) (by first | (simp -implicitDefEqProofs (maxSteps := 400000) (disch := first | with_reducible rfl | omega | (simp only [wkH] <;> omega) | decide) only [wkL, resP, resPs, resP1]; rfl) | rfl) ⟨6, by repeat' first | exact frz_scalar rfl | apply frz_tuple | apply frz_agg | apply frz_fsl | apply frz_gsl (by omega) | exact frzs_nil | apply frzs_cons⟩ (by first | exact keepsH0 | exact keeps1 (by assumption)) (nw_eq ?_)
      rfl
    · rw [show portB n = false by simp [portB]; omega]
      refine fn_H ([Go.ResultVar.tmp 2]) Tryz.func27 rfl rfl (by decide) fun ph hW Q hQ => ?_
      simp only [start, List.length_cons, List.length_nil, List.cons_append, List.nil_append, Nat.reduceAdd, Nat.reduceSub, List.replicate_succ, List.replicate_zero, Tryz.ntmps27]
      repeat' first | simp -implicitDefEqProofs (maxSteps := 400000) (disch := first | with_reducible rfl | omega | (simp only [wkH] <;> omega) | decide) only [wkAll, wkL, popO, wantedP, binP, if_pos, h0, h1]
      refine hQ (by first | exact .inr rfl | exact .inl rfl) (by first | exact trivial | exact marks1) (by first | (simp -implicitDefEqProofs (maxSteps := 400000) (disch := first | with_reducible rfl | omega | (simp only [wkH] <;> omega) | decide) only [wkL, resP, resPs, resP1]; rfl) | rfl) ⟨6, by repeat' first | exact frz_scalar rfl | apply frz_tuple | apply frz_agg | apply frz_fsl | apply frz_gsl (by omega) | exact frzs_nil | apply frzs_cons⟩ (by first | exact keepsH0 | exact keeps1 (by assumption)) (nw_eq ?_)
      rfl
  · rw [show portB n = false by simp [portB]; omega]
    refine fn_H ([Go.ResultVar.tmp 2]) Tryz.func27 rfl rfl (by decide) fun ph hW Q hQ => ?_
    simp only [start, List.length_cons, List.length_nil, List.cons_append, List.nil_append, Nat.reduceAdd, Nat.reduceSub, List.replicate_succ, List.replicate_zero, Tryz.ntmps27]
    repeat' first | simp -implicitDefEqProofs (maxSteps := 400000) (disch := first | with_reducible rfl | omega | (simp only [wkH] <;> omega) | decide) only [wkAll, wkL, popO, wantedP, binP, if_pos, if_neg, h0]
    refine hQ (by first | exact .inr rfl | exact .inl rfl) (by first | exact trivial | exact marks1) (by first | (simp -implicitDefEqProofs (maxSteps := 400000) (disch := first | with_reducible rfl | omega | (simp only [wkH] <;> omega) | decide) only [wkL, resP, resPs, resP1]; rfl) | rfl) ⟨6, by repeat' first | exact frz_scalar rfl | apply frz_tuple | apply frz_agg | apply frz_fsl | apply frz_gsl (by omega) | exact frzs_nil | apply frzs_cons⟩ (by first | exact keepsH0 | exact keeps1 (by assumption)) (nw_eq ?_)
    rfl
theorem refHas_ok (l : List Int) (x : Int) (hl : l.length < 2 ^ 40) : Fn (Cx w0) 39 [.fsl 1 l.length (intsC l), .int .i64 x] (.bool (l.any (fun y => x == y))) := by
  refine fn_H ([Go.ResultVar.tmp 4]) Tryz.func39 rfl rfl (by decide) fun ph hW Q hQ => ?_
  simp only [start, List.length_cons, List.length_nil, List.cons_append, List.nil_append, Nat.reduceAdd, Nat.reduceSub, List.replicate_succ, List.replicate_zero, Tryz.ntmps39]
  repeat' first | simp -implicitDefEqProofs (maxSteps := 400000) (disch := first | with_reducible rfl | omega | (simp only [wkH] <;> omega) | decide) only [wkAll, wkL, popO, wantedP]
  refine w_loopH (α := Nat) ph ph.ob ph.ty (fun i => [.fsl 1 l.length (intsC l), .int .i64 x, .undef, .undef, .undef, .int .i64 i, .undef, .undef, .undef, .undef, .undef, .undef, .undef, .undef, .undef, .undef, .undef, .undef]) (fun i => []) (fun i => i ≤ l.length ∧ (l.take i).any (fun y => x == y) = false) (fun i => l.length - i) 0 (by simp) (fun _ _ => by simp) (.eq (by simp [FadeTo]) rfl) ?_
  rintro i ⟨hi, hno⟩ K hK
  rcases Nat.lt_or_ge i l.length with h | h
  · obtain ⟨r, hr⟩ := get_some h
    have hd := intsC_drop l i r hr
    have hla := intsC_len l
    have hlt : (i : Int) < l.length := by omega
    have hsym : (r == x) = (x == r) := by rw [Bool.eq_iff_iff, beq_iff_eq, beq_iff_eq]; exact eq_comm
    cases hpr : (x == r) with
    | false =>
      repeat' first | simp -implicitDefEqProofs (maxSteps := 400000) (disch := first | with_reducible rfl | omega | (simp only [wkH] <;> omega) | decide) only [wkAll, wkL, popO, wantedP, Nat.reduceLeDiff, binP, lenP, builtinP, indexAddrOp, loadOp, loadP, PK.agg, seg, wkN, if_pos, if_neg, tf3, tf22, hd, hlt, hsym, hpr]
      exact hK (i + 1) _ _ ⟨by omega, by rw [take_snoc hr]; simp only [List.any_append, hno, List.any_cons, List.any_nil, hpr, Bool.or_false]⟩ (by omega) (.eq (by simp [FadeTo]) rfl)
    | true =>
      rw [show l.any (fun y => x == y) = true from List.any_eq_true.2 ⟨r, List.mem_of_getElem? hr, hpr⟩] at hQ
      repeat' first | simp -implicitDefEqProofs (maxSteps := 400000) (disch := first | with_reducible rfl | omega | (simp only [wkH] <;> omega) | decide) only [wkAll, wkL, popO, wantedP, Nat.reduceLeDiff, binP, lenP, builtinP, indexAddrOp, loadOp, loadP, PK.agg, seg, if_pos, if_neg, tf3, tf22, hd, hlt, hsym, hpr]
      refine hQ (by first | exact .inr rfl | exact .inl rfl) (by first | exact trivial | exact marks1) (by first | (simp -implicitDefEqProofs (maxSteps := 400000) (disch := first | with_reducible rfl | omega | (simp only [wkH] <;> omega) | decide) only [wkL, resP, resPs, resP1]; rfl) | rfl) ⟨6, by repeat' first | exact frz_scalar rfl | apply frz_tuple | apply frz_agg | apply frz_fsl | apply frz_gsl (by omega) | exact frzs_nil | apply frzs_cons⟩ (by first | exact keepsH0 | exact keeps1 (by assumption)) (nw_eq ?_)
      rfl
  · have hge : ¬ (i : Int) < l.length := by omega
    rw [List.take_of_length_le h] at hno
    rw [hno] at hQ
    repeat' first | simp -implicitDefEqProofs (maxSteps := 400000) (disch := first | with_reducible rfl | omega | (simp only [wkH] <;> omega) | decide) only [wkAll, wkL, popO, wantedP, binP, lenP, builtinP, if_pos, tf22, hge]
    refine hQ (by first | exact .inr rfl | exact .inl rfl) (by first | exact trivial | exact marks1) (by first | (simp -implicitDefEqProofs (maxSteps := 400000) (disch := first | with_reducible rfl | omega | (simp only [wkH] <;> omega) | decide) only [wkL, resP, resPs, resP1]; rfl) | rfl) ⟨6, by repeat' first | exact frz_scalar rfl | apply frz_tuple | apply frz_agg | apply frz_fsl | apply frz_gsl (by omega) | exact frzs_nil | apply frzs_cons⟩ (by first | exact keepsH0 | exact keeps1 (by assumption)) (nw_eq ?_)
    rfl
theorem sing_eq (l : List KR) (k : Int) : singL l k = match findL l k with | [r] => (match toPairsL r.b with | ([n], e) => if e = 0 then (n, true) else (0, false) | _ => (0, false)) | _ => (0, false) := by
  unfold singL numL
  rcases findL l k with _ | ⟨r, _ | ⟨q, t⟩⟩
  · rfl
  · simp only [Bool.false_eq_true, false_and, if_false]
    rcases toPairsL r.b with ⟨N, e⟩
    rcases N with _ | ⟨n, _ | ⟨m, t⟩⟩
    · simp
    · by_cases he : e = 0
      · simp [he]
      · simp [he]
    · simp only []
  · rfl
theorem refSingle_ok (l : List KR) (k : Int) (hl : l.length < 2 ^ 40) (hb : ∀ r ∈ l, r.b.length < 2 ^ 50) : Fn (Cx w0) 48 [.fsl 3 l.length (krsC l), .int .i64 k] (.tuple [.int .i64 (singL l k).1, .bool (singL l k).2]) := by
  have tf := refFind_ok (w0 := w0) l k hl
  have hle := find_leA l k
  rw [sing_eq]
  match hf : findL l k with
  | [] =>
    rw [hf] at tf
    refine fn_H ([Go.ResultVar.tmp 4, Go.ResultVar.tmp 5]) Tryz.func48 rfl rfl (by decide) fun ph hW Q hQ => ?_
    simp only [start, List.length_cons, List.length_nil, List.cons_append, List.nil_append, Nat.reduceAdd, Nat.reduceSub, List.replicate_succ, List.replicate_zero, Tryz.ntmps48]
    repeat' first | simp -implicitDefEqProofs (maxSteps := 400000) (disch := first | with_reducible rfl | omega | (simp only [wkH] <;> omega) | decide) only [wkAll, wkL, popO, wantedP, Int.reduceBNe, binP, lenP, builtinP, wkN, if_pos, tf26] | refine w_pure (tf) ?_
    refine hQ (by first | exact .inr rfl | exact .inl rfl) (by first | exact trivial | exact marks1) (by first | (simp -implicitDefEqProofs (maxSteps := 400000) (disch := first | with_reducible rfl | omega | (simp only [wkH] <;> omega) | decide) only [wkL, resP, resPs, resP1]; rfl) | rfl) ⟨6, by repeat' first | exact frz_scalar rfl | apply frz_tuple | apply frz_agg | apply frz_fsl | apply frz_gsl (by omega) | exact frzs_nil | apply frzs_cons⟩ (by first | exact keepsH0 | exact keeps1 (by assumption)) (nw_eq ?_)
    rfl
  | r :: q :: t =>
    rw [hf] at tf
    obtain ⟨F, hF⟩ : ∃ F, F = r :: q :: t := ⟨_, rfl⟩
    rw [← hF] at tf
    have hl2 : 2 ≤ F.length := by rw [hF]; simp
    have hn : ((F.length : Int) != 1) = true := by rw [bne_iff_ne]; omega
    clear hf hF
    refine fn_H ([Go.ResultVar.tmp 4, Go.ResultVar.tmp 5]) Tryz.func48 rfl rfl (by decide) fun ph hW Q hQ => ?_
    simp only [start, List.length_cons, List.length_nil, List.cons_append, List.nil_append, Nat.reduceAdd, Nat.reduceSub, List.replicate_succ, List.replicate_zero, Tryz.ntmps48]
    repeat' first | simp -implicitDefEqProofs (maxSteps := 400000) (disch := first | with_reducible rfl | omega | (simp only [wkH] <;> omega) | decide) only [wkAll, wkL, popO, wantedP, binP, lenP, builtinP, if_pos, tf26, hn] | refine w_pure (tf) ?_
    refine hQ (by first | exact .inr rfl | exact .inl rfl) (by first | exact trivial | exact marks1) (by first | (simp -implicitDefEqProofs (maxSteps := 400000) (disch := first | with_reducible rfl | omega | (simp only [wkH] <;> omega) | decide) only [wkL, resP, resPs, resP1]; rfl) | rfl) ⟨6, by repeat' first | exact frz_scalar rfl | apply frz_tuple | apply frz_agg | apply frz_fsl | apply frz_gsl (by omega) | exact frzs_nil | apply frzs_cons⟩ (by first | exact keepsH0 | exact keeps1 (by assumption)) (nw_eq ?_)
    rfl
  | [r] =>
    rw [hf] at tf
    have hrb := hb r (find_mem (k := k) (by rw [hf]; simp))
    have tp := refToPairs_ok (w0 := w0) r.b hrb
    simp only []
    generalize toPairsL r.b = T at *
    obtain ⟨N, e⟩ := T
    simp only at tp ⊢
    by_cases he : e = 0
    · subst he
      match N, tp with
      | [], tp =>
        refine fn_H ([Go.ResultVar.tmp 4, Go.ResultVar.tmp 5]) Tryz.func48 rfl rfl (by decide) fun ph hW Q hQ => ?_
        simp only [start, List.length_cons, List.length_nil, List.cons_append, List.nil_append, Nat.reduceAdd, Nat.reduceSub, List.replicate_succ, List.replicate_zero, Tryz.ntmps48]
        repeat' first | simp -implicitDefEqProofs (maxSteps := 400000) (disch := first | with_reducible rfl | omega | (simp only [wkH] <;> omega) | decide) only [wkAll, wkL, popO, wantedP, Nat.reduceLeDiff, Int.reduceLE, Int.reduceLT, Int.reduceToNat, Int.reduceBNe, binP, lenP, builtinP, indexAddrOp, loadOp, loadP, fieldAddrOp, PK.agg, seg, wkN, if_pos, if_neg, tf9, tf22, tf26, tf46, krsC, krC, List.flatMap_cons, List.flatMap_nil] | refine w_pure (tf) ?_ | refine w_pure (tp) ?_
        refine hQ (by first | exact .inr rfl | exact .inl rfl) (by first | exact trivial | exact marks1) (by first | (simp -implicitDefEqProofs (maxSteps := 400000) (disch := first | with_reducible rfl | omega | (simp only [wkH] <;> omega) | decide) only [wkL, resP, resPs, resP1]; rfl) | rfl) ⟨6, by repeat' first | exact frz_scalar rfl | apply frz_tuple | apply frz_agg | apply frz_fsl | apply frz_gsl (by omega) | exact frzs_nil | apply frzs_cons⟩ (by first | exact keepsH0 | exact keeps1 (by assumption)) (nw_eq ?_)
        rfl
      | [n], tp =>
        refine fn_H ([Go.ResultVar.tmp 4, Go.ResultVar.tmp 5]) Tryz.func48 rfl rfl (by decide) fun ph hW Q hQ => ?_
        simp only [start, List.length_cons, List.length_nil, List.cons_append, List.nil_append, Nat.reduceAdd, Nat.reduceSub, List.replicate_succ, List.replicate_zero, Tryz.ntmps48]
        repeat' first | simp -implicitDefEqProofs (maxSteps := 400000) (disch := first | with_reducible rfl | omega | (simp only [wkH] <;> omega) | decide) only [wkAll, wkL, popO, wantedP, Nat.reduceLeDiff, Int.reduceLE, Int.reduceLT, Int.reduceToNat, binP, lenP, builtinP, indexAddrOp, loadOp, loadP, fieldAddrOp, PK.agg, seg, wkN, if_pos, if_neg, tf3, tf9, tf22, tf26, tf46, krsC, krC, intsC, List.flatMap_cons, List.flatMap_nil] | refine w_pure (tf) ?_ | refine w_pure (tp) ?_
        refine hQ (by first | exact .inr rfl | exact .inl rfl) (by first | exact trivial | exact marks1) (by first | (simp -implicitDefEqProofs (maxSteps := 400000) (disch := first | with_reducible rfl | omega | (simp only [wkH] <;> omega) | decide) only [wkL, resP, resPs, resP1]; rfl) | rfl) ⟨6, by repeat' first | exact frz_scalar rfl | apply frz_tuple | apply frz_agg | apply frz_fsl | apply frz_gsl (by omega) | exact frzs_nil | apply frzs_cons⟩ (by first | exact keepsH0 | exact keeps1 (by assumption)) (nw_eq ?_)
        rfl
      | n :: m :: t, tp =>
        obtain ⟨F, hF⟩ : ∃ F, F = n :: m :: t := ⟨_, rfl⟩
        rw [← hF] at tp
        have hl2 : 2 ≤ F.length := by rw [hF]; simp
        have hn : ((F.length : Int) != 1) = true := by rw [bne_iff_ne]; omega
        refine fn_H ([Go.ResultVar.tmp 4, Go.ResultVar.tmp 5]) Tryz.func48 rfl rfl (by decide) fun ph hW Q hQ => ?_
        simp only [start, List.length_cons, List.length_nil, List.cons_append, List.nil_append, Nat.reduceAdd, Nat.reduceSub, List.replicate_succ, List.replicate_zero, Tryz.ntmps48]
        repeat' first | simp -implicitDefEqProofs (maxSteps := 400000) (disch := first | with_reducible rfl | omega | (simp only [wkH] <;> omega) | decide) only [wkAll, wkL, popO, wantedP, Nat.reduceLeDiff, Int.reduceLE, Int.reduceLT, Int.reduceToNat, binP, lenP, builtinP, indexAddrOp, loadOp, loadP, fieldAddrOp, PK.agg, seg, wkN, if_pos, if_neg, tf9, tf22, tf26, tf46, hn, krsC, krC, List.flatMap_cons, List.flatMap_nil] | refine w_pure (tf) ?_ | refine w_pure (tp) ?_
        refine hQ (by first | exact .inr rfl | exact .inl rfl) (by first | exact trivial | exact marks1) (by first | (simp -implicitDefEqProofs (maxSteps := 400000) (disch := first | with_reducible rfl | omega | (simp only [wkH] <;> omega) | decide) only [wkL, resP, resPs, resP1]; rfl) | rfl) ⟨6, by repeat' first | exact frz_scalar rfl | apply frz_tuple | apply frz_agg | apply frz_fsl | apply frz_gsl (by omega) | exact frzs_nil | apply frzs_cons⟩ (by first | exact keepsH0 | exact keeps1 (by assumption)) (nw_eq ?_)
        rfl
    · have he' : (e != 0) = true := by rw [bne_iff_ne]; exact he
      rw [show (match (N, e) with | ([n], e) => if e = 0 then (n, true) else ((0 : Int), false) | _ => (0, false)) = (0, false) by split <;> simp_all]
      refine fn_H ([Go.ResultVar.tmp 4, Go.ResultVar.tmp 5]) Tryz.func48 rfl rfl (by decide) fun ph hW Q hQ => ?_
      simp only [start, List.length_cons, List.length_nil, List.cons_append, List.nil_append, Nat.reduceAdd, Nat.reduceSub, List.replicate_succ, List.replicate_zero, Tryz.ntmps48]
      repeat' first | simp -implicitDefEqProofs (maxSteps := 400000) (disch := first | with_reducible rfl | omega | (simp only [wkH] <;> omega) | decide) only [wkAll, wkL, popO, wantedP, Nat.reduceLeDiff, Int.reduceLE, Int.reduceLT, Int.reduceToNat, binP, lenP, builtinP, indexAddrOp, loadOp, loadP, fieldAddrOp, PK.agg, seg, wkN, if_pos, if_neg, tf9, tf26, tf46, he', krsC, krC, List.flatMap_cons, List.flatMap_nil] | refine w_pure (tf) ?_ | refine w_pure (tp) ?_
      refine hQ (by first | exact .inr rfl | exact .inl rfl) (by first | exact trivial | exact marks1) (by first | (simp -implicitDefEqProofs (maxSteps := 400000) (disch := first | with_reducible rfl | omega | (simp only [wkH] <;> omega) | decide) only [wkL, resP, resPs, resP1]; rfl) | rfl) ⟨6, by repeat' first | exact frz_scalar rfl | apply frz_tuple | apply frz_agg | apply frz_fsl | apply frz_gsl (by omega) | exact frzs_nil | apply frzs_cons⟩ (by first | exact keepsH0 | exact keeps1 (by assumption)) (nw_eq ?_)
      rfl
end Pv
