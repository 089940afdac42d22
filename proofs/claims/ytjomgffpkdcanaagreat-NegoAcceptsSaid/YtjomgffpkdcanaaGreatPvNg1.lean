/- Part of the proof: the layer of pure values, or walks through functions (PvNg1, PvNg2). -/
import Derived.Test.YtjomgffpkdcanaaGreatPvKe5
set_option linter.all false
--nosplit
--keep2
namespace Pv
set_option maxRecDepth 20000
set_option maxHeartbeats 4000000
open Go Go.Proofs Go.RowKit
variable {w0 : World}

/-- How long a way's keys are. -/
def kszL (a : Int) : Int := if a = 15 then 32 else if a = 17 then 64 else 0
def portB (n : Int) : Bool := decide (0 < n) && decide (n < 65536)
def cookB (s : List UInt8) : Bool := decide (s ≠ []) && decide (s.length ≤ 256) && decide (s.length % 4 = 0)
theorem negoKeySize_ok (a : Int) : Fn (Cx w0) 35 [.int .i64 a] (.int .i64 (kszL a)) := by
  by_cases h1 : a = 15
  · subst h1
    refine fn_H ([Go.ResultVar.tmp 2]) Tryz.func35 rfl rfl (by decide) fun ph hW Q hQ => ?_
    simp only [start, List.length_cons, List.length_nil, List.cons_append, List.nil_append, Nat.reduceAdd, Nat.reduceSub, List.replicate_succ, List.replicate_zero, Tryz.ntmps35]
    repeat' first | simp -implicitDefEqProofs (maxSteps := 400000) (disch := first | with_reducible rfl | omega | (simp only [wkH] <;> omega) | decide) only [wkAll, wkL, popO, wantedP, binP, if_pos]
    refine hQ (by first | exact .inr rfl | exact .inl rfl) (by first | exact trivial | exact marks1) (by first | (simp -implicitDefEqProofs (maxSteps := 400000) (disch := first | with_reducible rfl | omega | (simp only [wkH] <;> omega) | decide) only [wkL, resP, resPs, resP1]; rfl) | rfl) ⟨6, by repeat' first | exact frz_scalar rfl | apply frz_tuple | apply frz_agg | apply frz_fsl | apply frz_gsl (by omega) | exact frzs_nil | apply frzs_cons⟩ (by first | exact keepsH0 | exact keeps1 (by assumption)) (nw_eq ?_)
    rfl
  · have h1' : (a == 15) = false := by rw [beq_eq_false_iff_ne]; exact h1
    by_cases h2 : a = 17
    · subst h2
      refine fn_H ([Go.ResultVar.tmp 2]) Tryz.func35 rfl rfl (by decide) fun ph hW Q hQ => ?_
      simp only [start, List.length_cons, List.length_nil, List.cons_append, List.nil_append, Nat.reduceAdd, Nat.reduceSub, List.replicate_succ, List.replicate_zero, Tryz.ntmps35]
      repeat' first | simp -implicitDefEqProofs (maxSteps := 400000) (disch := first | with_reducible rfl | omega | (simp only [wkH] <;> omega) | decide) only [wkAll, wkL, popO, wantedP, Int.reduceBEq, binP, if_pos]
      refine hQ (by first | exact .inr rfl | exact .inl rfl) (by first | exact trivial | exact marks1) (by first | (simp -implicitDefEqProofs (maxSteps := 400000) (disch := first | with_reducible rfl | omega | (simp only [wkH] <;> omega) | decide) only [wkL, resP, resPs, resP1]; rfl) | rfl) ⟨6, by repeat' first | exact frz_scalar rfl | apply frz_tuple | apply frz_agg | apply frz_fsl | apply frz_gsl (by omega) | exact frzs_nil | apply frzs_cons⟩ (by first | exact keepsH0 | exact keeps1 (by assumption)) (nw_eq ?_)
      rfl
    · have h2' : (a == 17) = false := by rw [beq_eq_false_iff_ne]; exact h2
      rw [show kszL a = 0 by rw [kszL, if_neg h1, if_neg h2]]
      refine fn_H ([Go.ResultVar.tmp 2]) Tryz.func35 rfl rfl (by decide) fun ph hW Q hQ => ?_
      simp only [start, List.length_cons, List.length_nil, List.cons_append, List.nil_append, Nat.reduceAdd, Nat.reduceSub, List.replicate_succ, List.replicate_zero, Tryz.ntmps35]
      repeat' first | simp -implicitDefEqProofs (maxSteps := 400000) (disch := first | with_reducible rfl | omega | (simp only [wkH] <;> omega) | decide) only [wkAll, wkL, popO, wantedP, binP, if_pos, h1', h2']
      refine hQ (by first | exact .inr rfl | exact .inl rfl) (by first | exact trivial | exact marks1) (by first | (simp -implicitDefEqProofs (maxSteps := 400000) (disch := first | with_reducible rfl | omega | (simp only [wkH] <;> omega) | decide) only [wkL, resP, resPs, resP1]; rfl) | rfl) ⟨6, by repeat' first | exact frz_scalar rfl | apply frz_tuple | apply frz_agg | apply frz_fsl | apply frz_gsl (by omega) | exact frzs_nil | apply frzs_cons⟩ (by first | exact keepsH0 | exact keeps1 (by assumption)) (nw_eq ?_)
      rfl
theorem refKeySize_ok (a : Int) : Fn (Cx w0) 40 [.int .i64 a] (.int .i64 (kszL a)) := by
  by_cases h1 : a = 15
  · subst h1
    refine fn_H ([Go.ResultVar.tmp 2]) Tryz.func40 rfl rfl (by decide) fun ph hW Q hQ => ?_
    simp only [start, List.length_cons, List.length_nil, List.cons_append, List.nil_append, Nat.reduceAdd, Nat.reduceSub, List.replicate_succ, List.replicate_zero, Tryz.ntmps40]
    repeat' first | simp -implicitDefEqProofs (maxSteps := 400000) (disch := first | with_reducible rfl | omega | (simp only [wkH] <;> omega) | decide) only [wkAll, wkL, popO, wantedP, binP, if_pos]
    refine hQ (by first | exact .inr rfl | exact .inl rfl) (by first | exact trivial | exact marks1) (by first | (simp -implicitDefEqProofs (maxSteps := 400000) (disch := first | with_reducible rfl | omega | (simp only [wkH] <;> omega) | decide) only [wkL, resP, resPs, resP1]; rfl) | rfl) ⟨6, by repeat' first | exact frz_scalar rfl | apply frz_tuple | apply frz_agg | apply frz_fsl | apply frz_gsl (by omega) | exact frzs_nil | apply frzs_cons⟩ (by first | exact keepsH0 | exact keeps1 (by assumption)) (nw_eq ?_)
    rfl
  · have h1' : (a == 15) = false := by rw [beq_eq_false_iff_ne]; exact h1
    by_cases h2 : a = 17
    · subst h2
      refine fn_H ([Go.ResultVar.tmp 2]) Tryz.func40 rfl rfl (by decide) fun ph hW Q hQ => ?_
      simp only [start, List.length_cons, List.length_nil, List.cons_append, List.nil_append, Nat.reduceAdd, Nat.reduceSub, List.replicate_succ, List.replicate_zero, Tryz.ntmps40]
      repeat' first | simp -implicitDefEqProofs (maxSteps := 400000) (disch := first | with_reducible rfl | omega | (simp only [wkH] <;> omega) | decide) only [wkAll, wkL, popO, wantedP, Int.reduceBEq, binP, if_pos]
      refine hQ (by first | exact .inr rfl | exact .inl rfl) (by first | exact trivial | exact marks1) (by first | (simp -implicitDefEqProofs (maxSteps := 400000) (disch := first | with_reducible rfl | omega | (simp only [wkH] <;> omega) | decide) only [wkL, resP, resPs, resP1]; rfl) | rfl) ⟨6, by repeat' first | exact frz_scalar rfl | apply frz_tuple | apply frz_agg | apply frz_fsl | apply frz_gsl (by omega) | exact frzs_nil | apply frzs_cons⟩ (by first | exact keepsH0 | exact keeps1 (by assumption)) (nw_eq ?_)
      rfl
    · have h2' : (a == 17) = false := by rw [beq_eq_false_iff_ne]; exact h2
      rw [show kszL a = 0 by rw [kszL, if_neg h1, if_neg h2]]
      refine fn_H ([Go.ResultVar.tmp 2]) Tryz.func40 rfl rfl (by decide) fun ph hW Q hQ => ?_
      simp only [start, List.length_cons, List.length_nil, List.cons_append, List.nil_append, Nat.reduceAdd, Nat.reduceSub, List.replicate_succ, List.replicate_zero, Tryz.ntmps40]
      repeat' first | simp -implicitDefEqProofs (maxSteps := 400000) (disch := first | with_reducible rfl | omega | (simp only [wkH] <;> omega) | decide) only [wkAll, wkL, popO, wantedP, binP, if_pos, h1', h2']
      refine hQ (by first | exact .inr rfl | exact .inl rfl) (by first | exact trivial | exact marks1) (by first | (simp -implicitDefEqProofs (maxSteps := 400000) (disch := first | with_reducible rfl | omega | (simp only [wkH] <;> omega) | decide) only [wkL, resP, resPs, resP1]; rfl) | rfl) ⟨6, by repeat' first | exact frz_scalar rfl | apply frz_tuple | apply frz_agg | apply frz_fsl | apply frz_gsl (by omega) | exact frzs_nil | apply frzs_cons⟩ (by first | exact keepsH0 | exact keeps1 (by assumption)) (nw_eq ?_)
      rfl
theorem strNe2 {s : List UInt8} (h : s ≠ []) : (!(s == [])) = true := by simpa using h
theorem tmod4 (n : Nat) : Int.tmod (n : Int) 4 = ((n % 4 : Nat) : Int) := by rw [Int.tmod_eq_emod_of_nonneg (by omega)]; rfl
theorem and3n (n : Nat) (hn : n < 2 ^ 62) : bitsP .and .i64 (n : Int) 3 = ((n % 4 : Nat) : Int) := by
  have := and_i64 n 3 (by omega) (by decide)
  rw [show ((3 : Nat) : Int) = 3 from rfl] at this
  rw [this]
  congr 1
  exact Nat.and_two_pow_sub_one_eq_mod n 2
theorem refCookie_ok (s : List UInt8) : Fn (Cx w0) 49 [.str s] (.bool (cookB s)) := by
  by_cases h0 : s = []
  · subst h0
    refine fn_H ([Go.ResultVar.tmp 2]) Tryz.func49 rfl rfl (by decide) fun ph hW Q hQ => ?_
    simp only [start, List.length_cons, List.length_nil, List.cons_append, List.nil_append, Nat.reduceAdd, Nat.reduceSub, List.replicate_succ, List.replicate_zero, Tryz.ntmps49]
    repeat' first | simp -implicitDefEqProofs (maxSteps := 400000) (disch := first | with_reducible rfl | omega | (simp only [wkH] <;> omega) | decide) only [wkAll, wkL, popO, wantedP, binP, if_neg]
    refine hQ (by first | exact .inr rfl | exact .inl rfl) (by first | exact trivial | exact marks1) (by first | (simp -implicitDefEqProofs (maxSteps := 400000) (disch := first | with_reducible rfl | omega | (simp only [wkH] <;> omega) | decide) only [wkL, resP, resPs, resP1]; rfl) | rfl) ⟨6, by repeat' first | exact frz_scalar rfl | apply frz_tuple | apply frz_agg | apply frz_fsl | apply frz_gsl (by omega) | exact frzs_nil | apply frzs_cons⟩ (by first | exact keepsH0 | exact keeps1 (by assumption)) (nw_eq ?_)
    rfl
  · have h0' := strNe2 h0
    by_cases h1 : s.length ≤ 256
    · have h1' : (s.length : Int) ≤ 256 := by omega
      have hm := tmod4 s.length
      by_cases h2 : s.length % 4 = 0
      · have h2' : (((s.length % 4 : Nat) : Int) == 0) = true := by rw [h2]; rfl
        rw [show cookB s = true by simp [cookB, h0, h1, h2]]
        refine fn_H ([Go.ResultVar.tmp 2]) Tryz.func49 rfl rfl (by decide) fun ph hW Q hQ => ?_
        simp only [start, List.length_cons, List.length_nil, List.cons_append, List.nil_append, Nat.reduceAdd, Nat.reduceSub, List.replicate_succ, List.replicate_zero, Tryz.ntmps49]
        repeat' first | simp -implicitDefEqProofs (maxSteps := 400000) (disch := first | with_reducible rfl | omega | (simp only [wkH] <;> omega) | decide) only [wkAll, wkL, popO, wantedP, Int.reduceEq, binP, lenP, builtinP, if_pos, if_neg, tf9, h0', h1', hm, h2']
        refine hQ (by first | exact .inr rfl | exact .inl rfl) (by first | exact trivial | exact marks1) (by first | (simp -implicitDefEqProofs (maxSteps := 400000) (disch := first | with_reducible rfl | omega | (simp only [wkH] <;> omega) | decide) only [wkL, resP, resPs, resP1]; rfl) | rfl) ⟨6, by repeat' first | exact frz_scalar rfl | apply frz_tuple | apply frz_agg | apply frz_fsl | apply frz_gsl (by omega) | exact frzs_nil | apply frzs_cons⟩ (by first | exact keepsH0 | exact keeps1 (by assumption)) (nw_eq ?_)
        rfl
      · have h2' : (((s.length % 4 : Nat) : Int) == 0) = false := by rw [beq_eq_false_iff_ne]; omega
        rw [show cookB s = false by simp [cookB, h2]]
        refine fn_H ([Go.ResultVar.tmp 2]) Tryz.func49 rfl rfl (by decide) fun ph hW Q hQ => ?_
        simp only [start, List.length_cons, List.length_nil, List.cons_append, List.nil_append, Nat.reduceAdd, Nat.reduceSub, List.replicate_succ, List.replicate_zero, Tryz.ntmps49]
        repeat' first | simp -implicitDefEqProofs (maxSteps := 400000) (disch := first | with_reducible rfl | omega | (simp only [wkH] <;> omega) | decide) only [wkAll, wkL, popO, wantedP, Int.reduceEq, binP, lenP, builtinP, if_pos, if_neg, tf9, h0', h1', hm, h2']
        refine hQ (by first | exact .inr rfl | exact .inl rfl) (by first | exact trivial | exact marks1) (by first | (simp -implicitDefEqProofs (maxSteps := 400000) (disch := first | with_reducible rfl | omega | (simp only [wkH] <;> omega) | decide) only [wkL, resP, resPs, resP1]; rfl) | rfl) ⟨6, by repeat' first | exact frz_scalar rfl | apply frz_tuple | apply frz_agg | apply frz_fsl | apply frz_gsl (by omega) | exact frzs_nil | apply frzs_cons⟩ (by first | exact keepsH0 | exact keeps1 (by assumption)) (nw_eq ?_)
        rfl
    · have h1' : ¬ (s.length : Int) ≤ 256 := by omega
      rw [show cookB s = false by simp [cookB]; omega]
      refine fn_H ([Go.ResultVar.tmp 2]) Tryz.func49 rfl rfl (by decide) fun ph hW Q hQ => ?_
      simp only [start, List.length_cons, List.length_nil, List.cons_append, List.nil_append, Nat.reduceAdd, Nat.reduceSub, List.replicate_succ, List.replicate_zero, Tryz.ntmps49]
      repeat' first | simp -implicitDefEqProofs (maxSteps := 400000) (disch := first | with_reducible rfl | omega | (simp only [wkH] <;> omega) | decide) only [wkAll, wkL, popO, wantedP, binP, lenP, builtinP, if_pos, if_neg, tf9, h0', h1']
      refine hQ (by first | exact .inr rfl | exact .inl rfl) (by first | exact trivial | exact marks1) (by first | (simp -implicitDefEqProofs (maxSteps := 400000) (disch := first | with_reducible rfl | omega | (simp only [wkH] <;> omega) | decide) only [wkL, resP, resPs, resP1]; rfl) | rfl) ⟨6, by repeat' first | exact frz_scalar rfl | apply frz_tuple | apply frz_agg | apply frz_fsl | apply frz_gsl (by omega) | exact frzs_nil | apply frzs_cons⟩ (by first | exact keepsH0 | exact keeps1 (by assumption)) (nw_eq ?_)
      rfl
theorem negoCookie_ok (s : List UInt8) (hs : s.length < 2 ^ 50) : Fn (Cx w0) 67 [.str s] (.bool (cookB s)) := by
  by_cases h0 : s = []
  · subst h0
    refine fn_H ([Go.ResultVar.tmp 2]) Tryz.func67 rfl rfl (by decide) fun ph hW Q hQ => ?_
    simp only [start, List.length_cons, List.length_nil, List.cons_append, List.nil_append, Nat.reduceAdd, Nat.reduceSub, List.replicate_succ, List.replicate_zero, Tryz.ntmps67]
    repeat' first | simp -implicitDefEqProofs (maxSteps := 400000) (disch := first | with_reducible rfl | omega | (simp only [wkH] <;> omega) | decide) only [wkAll, wkL, popO, wantedP, binP, if_neg]
    refine hQ (by first | exact .inr rfl | exact .inl rfl) (by first | exact trivial | exact marks1) (by first | (simp -implicitDefEqProofs (maxSteps := 400000) (disch := first | with_reducible rfl | omega | (simp only [wkH] <;> omega) | decide) only [wkL, resP, resPs, resP1]; rfl) | rfl) ⟨6, by repeat' first | exact frz_scalar rfl | apply frz_tuple | apply frz_agg | apply frz_fsl | apply frz_gsl (by omega) | exact frzs_nil | apply frzs_cons⟩ (by first | exact keepsH0 | exact keeps1 (by assumption)) (nw_eq ?_)
    rfl
  · have h0' := strNe2 h0
    by_cases h1 : s.length ≤ 256
    · have h1' : (s.length : Int) ≤ 256 := by omega
      have hm := and3n s.length (by omega)
      by_cases h2 : s.length % 4 = 0
      · have h2' : (((s.length % 4 : Nat) : Int) == 0) = true := by rw [h2]; rfl
        rw [show cookB s = true by simp [cookB, h0, h1, h2]]
        refine fn_H ([Go.ResultVar.tmp 2]) Tryz.func67 rfl rfl (by decide) fun ph hW Q hQ => ?_
        simp only [start, List.length_cons, List.length_nil, List.cons_append, List.nil_append, Nat.reduceAdd, Nat.reduceSub, List.replicate_succ, List.replicate_zero, Tryz.ntmps67]
        repeat' first | simp -implicitDefEqProofs (maxSteps := 400000) (disch := first | with_reducible rfl | omega | (simp only [wkH] <;> omega) | decide) only [wkAll, wkL, popO, wantedP, binP, lenP, builtinP, if_pos, tf9, h0', h1', hm, h2']
        refine hQ (by first | exact .inr rfl | exact .inl rfl) (by first | exact trivial | exact marks1) (by first | (simp -implicitDefEqProofs (maxSteps := 400000) (disch := first | with_reducible rfl | omega | (simp only [wkH] <;> omega) | decide) only [wkL, resP, resPs, resP1]; rfl) | rfl) ⟨6, by repeat' first | exact frz_scalar rfl | apply frz_tuple | apply frz_agg | apply frz_fsl | apply frz_gsl (by omega) | exact frzs_nil | apply frzs_cons⟩ (by first | exact keepsH0 | exact keeps1 (by assumption)) (nw_eq ?_)
        rfl
      · have h2' : (((s.length % 4 : Nat) : Int) == 0) = false := by rw [beq_eq_false_iff_ne]; omega
        rw [show cookB s = false by simp [cookB, h2]]
        refine fn_H ([Go.ResultVar.tmp 2]) Tryz.func67 rfl rfl (by decide) fun ph hW Q hQ => ?_
        simp only [start, List.length_cons, List.length_nil, List.cons_append, List.nil_append, Nat.reduceAdd, Nat.reduceSub, List.replicate_succ, List.replicate_zero, Tryz.ntmps67]
        repeat' first | simp -implicitDefEqProofs (maxSteps := 400000) (disch := first | with_reducible rfl | omega | (simp only [wkH] <;> omega) | decide) only [wkAll, wkL, popO, wantedP, binP, lenP, builtinP, if_pos, tf9, h0', h1', hm, h2']
        refine hQ (by first | exact .inr rfl | exact .inl rfl) (by first | exact trivial | exact marks1) (by first | (simp -implicitDefEqProofs (maxSteps := 400000) (disch := first | with_reducible rfl | omega | (simp only [wkH] <;> omega) | decide) only [wkL, resP, resPs, resP1]; rfl) | rfl) ⟨6, by repeat' first | exact frz_scalar rfl | apply frz_tuple | apply frz_agg | apply frz_fsl | apply frz_gsl (by omega) | exact frzs_nil | apply frzs_cons⟩ (by first | exact keepsH0 | exact keeps1 (by assumption)) (nw_eq ?_)
        rfl
    · have h1' : ¬ (s.length : Int) ≤ 256 := by omega
      rw [show cookB s = false by simp [cookB]; omega]
      refine fn_H ([Go.ResultVar.tmp 2]) Tryz.func67 rfl rfl (by decide) fun ph hW Q hQ => ?_
      simp only [start, List.length_cons, List.length_nil, List.cons_append, List.nil_append, Nat.reduceAdd, Nat.reduceSub, List.replicate_succ, List.replicate_zero, Tryz.ntmps67]
      repeat' first | simp -implicitDefEqProofs (maxSteps := 400000) (disch := first | with_reducible rfl | omega | (simp only [wkH] <;> omega) | decide) only [wkAll, wkL, popO, wantedP, binP, lenP, builtinP, if_pos, if_neg, tf9, h0', h1']
      refine hQ (by first | exact .inr rfl | exact .inl rfl) (by first | exact trivial | exact marks1) (by first | (simp -implicitDefEqProofs (maxSteps := 400000) (disch := first | with_reducible rfl | omega | (simp only [wkH] <;> omega) | decide) only [wkL, resP, resPs, resP1]; rfl) | rfl) ⟨6, by repeat' first | exact frz_scalar rfl | apply frz_tuple | apply frz_agg | apply frz_fsl | apply frz_gsl (by omega) | exact frzs_nil | apply frzs_cons⟩ (by first | exact keepsH0 | exact keeps1 (by assumption)) (nw_eq ?_)
      rfl
theorem negoPort_ok (n : Int) : Fn (Cx w0) 22 [.int .i64 n] (.bool (portB n)) := by
  by_cases h0 : 0 < n
  · by_cases h1 : n < 65536
    · rw [show portB n = true by simp [portB, h0, h1]]
      refine fn_H ([Go.ResultVar.tmp 2]) Tryz.func22 rfl rfl (by decide) fun ph hW Q hQ => ?_
      simp only [start, List.length_cons, List.length_nil, List.cons_append, List.nil_append, Nat.reduceAdd, Nat.reduceSub, List.replicate_succ, List.replicate_zero, Tryz.ntmps22]
      repeat' first | simp -implicitDefEqProofs (maxSteps := 400000) (disch := first | with_reducible rfl | omega | (simp only [wkH] <;> omega) | decide) only [wkAll, wkL, popO, wantedP, binP, gt_iff_lt, if_pos, h0, h1, gt_iff_lt]
      refine hQ (by first | exact .inr rfl | exact .inl rfl) (by first | exact trivial | exact marks1) (by first | (simp -implicitDefEqProofs (maxSteps := 400000) (disch := first | with_reducible rfl | omega | (simp only [wkH] <;> omega) | decide) only [wkL, resP, resPs, resP1]; rfl) | rfl) ⟨6, by repeat' first | exact frz_scalar rfl | apply frz_tuple | apply frz_agg | apply frz_fsl | apply frz_gsl (by omega) | exact frzs_nil | apply frzs_cons⟩ (by first | exact keepsH0 | exact keeps1 (by assumption)) (nw_eq ?_)
      rfl
    · rw [show portB n = false by simp [portB, h1]]
      refine fn_H ([Go.ResultVar.tmp 2]) Tryz.func22 rfl rfl (by decide) fun ph hW Q hQ => ?_
      simp only [start, List.length_cons, List.length_nil, List.cons_append, List.nil_append, Nat.reduceAdd, Nat.reduceSub, List.replicate_succ, List.replicate_zero, Tryz.ntmps22]
      repeat' first | simp -implicitDefEqProofs (maxSteps := 400000) (disch := first | with_reducible rfl | omega | (simp only [wkH] <;> omega) | decide) only [wkAll, wkL, popO, wantedP, binP, gt_iff_lt, if_pos, h0, h1, gt_iff_lt]
      refine hQ (by first | exact .inr rfl | exact .inl rfl) (by first | exact trivial | exact marks1) (by first | (simp -implicitDefEqProofs (maxSteps := 400000) (disch := first | with_reducible rfl | omega | (simp only [wkH] <;> omega) | decide) only [wkL, resP, resPs, resP1]; rfl) | rfl) ⟨6, by repeat' first | exact frz_scalar rfl | apply frz_tuple | apply frz_agg | apply frz_fsl | apply frz_gsl (by omega) | exact frzs_nil | apply frzs_cons⟩ (by first | exact keepsH0 | exact keeps1 (by assumption)) (nw_eq ?_)
      rfl
  · rw [show portB n = false by simp [portB, h0]]
    refine fn_H ([Go.ResultVar.tmp 2]) Tryz.func22 rfl rfl (by decide) fun ph hW Q hQ => ?_
    simp only [start, List.length_cons, List.length_nil, List.cons_append, List.nil_append, Nat.reduceAdd, Nat.reduceSub, List.replicate_succ, List.replicate_zero, Tryz.ntmps22]
    repeat' first | simp -implicitDefEqProofs (maxSteps := 400000) (disch := first | with_reducible rfl | omega | (simp only [wkH] <;> omega) | decide) only [wkAll, wkL, popO, wantedP, binP, gt_iff_lt, if_pos, if_neg, h0, gt_iff_lt]
    refine hQ (by first | exact .inr rfl | exact .inl rfl) (by first | exact trivial | exact marks1) (by first | (simp -implicitDefEqProofs (maxSteps := 400000) (disch := first | with_reducible rfl | omega | (simp only [wkH] <;> omega) | decide) only [wkL, resP, resPs, resP1]; rfl) | rfl) ⟨6, by repeat' first | exact frz_scalar rfl | apply frz_tuple | apply frz_agg | apply frz_fsl | apply frz_gsl (by omega) | exact frzs_nil | apply frzs_cons⟩ (by first | exact keepsH0 | exact keeps1 (by assumption)) (nw_eq ?_)
    rfl
end Pv

--nosplit
namespace Pv
set_option maxRecDepth 20000
set_option maxHeartbeats 4000000
open Go Go.Proofs Go.RowKit
variable {w0 : World}

theorem negoTwo_ok (n : Int) (h : -9223372036854775808 ≤ n ∧ n ≤ 9223372036854775807) : Fn (Cx w0) 24 [.int .i64 n] (.str (twoL n)) := by
  have hs : shrP .i64 n 8 = n / 256 := shr8 _ _ (by decide)
  have h1 : IntKind.wrap .i64 (n / 256) = n / 256 := IntWalk.i64_in _ (by omega)
  refine fn_H ([Go.ResultVar.tmp 2]) Tryz.func24 rfl rfl (by decide) fun ph hW Q hQ => ?_
  simp only [start, List.length_cons, List.length_nil, List.cons_append, List.nil_append, Nat.reduceAdd, Nat.reduceSub, List.replicate_succ, List.replicate_zero, Tryz.ntmps24]
  repeat' first | simp -implicitDefEqProofs (maxSteps := 400000) (disch := first | with_reducible rfl | omega | (simp only [wkH] <;> omega) | decide) only [wkAll, wkL, popO, wantedP, ne_eq, Nat.reduceAdd, Nat.reduceLeDiff, Nat.reduceLT, Int.reduceLE, binP, convP, buildSliceP, fillP, setL, gt_iff_lt, Nat.reducePow, reps, seg, wkN, if_pos, if_neg, tf3, tf5, Tryz.ze5, tf9, tf92, hs]
  refine hQ (by first | exact .inr rfl | exact .inl rfl) (by first | exact trivial | exact marks1) (by first | (simp -implicitDefEqProofs (maxSteps := 400000) (disch := first | with_reducible rfl | omega | (simp only [wkH] <;> omega) | decide) only [wkL, resP, resPs, resP1]; rfl) | rfl) ⟨6, by repeat' first | exact frz_scalar rfl | apply frz_tuple | apply frz_agg | apply frz_fsl | apply frz_gsl (by omega) | exact frzs_nil | apply frzs_cons⟩ (by first | exact keepsH0 | exact keeps1 (by assumption) | exact keepsH (fun _ _ h => h) (fun p hp => by simp only [upF]; (repeat rw [if_neg (by omega)])) | exact keeps1t (by assumption) (fun p hp => by simp only [upF]; (repeat rw [if_neg (by omega)])) | (subst hT; exact keepsH (fun _ _ h => h) fun _ _ => rfl)) (nw_eq ?_)
  simp [twoL, u8_wrap]
/-- The numbers of the one record of a kind. -/
def numL (l : List KR) (k : Int) (c : Bool) : List Int × Bool := match findL l k with
  | [r] => if c = true ∧ r.c = false then ([], false) else ((toPairsL r.b).1, decide ((toPairsL r.b).2 = 0) && decide ((toPairsL r.b).1 ≠ []))
  | _ => ([], false)
theorem find_leA (l : List KR) (k : Int) : (findL l k).length ≤ l.length := List.length_filter_le _ _
theorem find_mem {l : List KR} {k : Int} {r : KR} (h : r ∈ findL l k) : r ∈ l := (List.mem_filter.1 h).1
theorem negoNumbers_ok (l : List KR) (k : Int) (c : Bool) (hl : l.length < 2 ^ 40) (hb : ∀ r ∈ l, r.b.length < 2 ^ 50) : Fn (Cx w0) 30 [.fsl 3 l.length (krsC l), .int .i64 k, .bool c] (.tuple [.fsl 1 (numL l k c).1.length (intsC (numL l k c).1), .bool (numL l k c).2]) := by
  have tf := keFind_ok (w0 := w0) l k hl
  have hle := find_leA l k
  match hf : findL l k with
  | [] =>
    rw [hf] at tf
    rw [show numL l k c = ([], false) by rw [numL, hf]]
    refine fn_H ([Go.ResultVar.tmp 6, Go.ResultVar.tmp 7]) Tryz.func30 rfl rfl (by decide) fun ph hW Q hQ => ?_
    simp only [start, List.length_cons, List.length_nil, List.cons_append, List.nil_append, Nat.reduceAdd, Nat.reduceSub, List.replicate_succ, List.replicate_zero, Tryz.ntmps30]
    repeat' first | simp -implicitDefEqProofs (maxSteps := 400000) (disch := first | with_reducible rfl | omega | (simp only [wkH] <;> omega) | decide) only [wkAll, wkL, popO, wantedP, Int.reduceBNe, binP, lenP, builtinP, wkN, if_pos, tf26] | refine w_pure (tf) ?_
    refine hQ (by first | exact .inr rfl | exact .inl rfl) (by first | exact trivial | exact marks1) (by first | (simp -implicitDefEqProofs (maxSteps := 400000) (disch := first | with_reducible rfl | omega | (simp only [wkH] <;> omega) | decide) only [wkL, resP, resPs, resP1]; rfl) | rfl) ⟨6, by repeat' first | exact frz_scalar rfl | apply frz_tuple | apply frz_agg | apply frz_fsl | apply frz_gsl (by omega) | exact frzs_nil | apply frzs_cons⟩ (by first | exact keepsH0 | exact keeps1 (by assumption) | exact keepsH (fun _ _ h => h) (fun p hp => by simp only [upF]; (repeat rw [if_neg (by omega)])) | exact keeps1t (by assumption) (fun p hp => by simp only [upF]; (repeat rw [if_neg (by omega)])) | (subst hT; exact keepsH (fun _ _ h => h) fun _ _ => rfl)) ?_
    repeat' first | exact nw_nil | exact nw_zsl | apply nw_tuple | apply nw_agg | exact nws_nil | apply nws_cons | exact nw_eq rfl | apply nw_eq
  | r :: q :: t =>
    rw [hf] at tf
    rw [show numL l k c = ([], false) by rw [numL, hf]]
    obtain ⟨F, hF⟩ : ∃ F, F = r :: q :: t := ⟨_, rfl⟩
    rw [← hF] at tf
    have hl2 : 2 ≤ F.length := by rw [hF]; simp
    have hn : ((F.length : Int) != 1) = true := by rw [bne_iff_ne]; omega
    clear hf hF
    refine fn_H ([Go.ResultVar.tmp 6, Go.ResultVar.tmp 7]) Tryz.func30 rfl rfl (by decide) fun ph hW Q hQ => ?_
    simp only [start, List.length_cons, List.length_nil, List.cons_append, List.nil_append, Nat.reduceAdd, Nat.reduceSub, List.replicate_succ, List.replicate_zero, Tryz.ntmps30]
    repeat' first | simp -implicitDefEqProofs (maxSteps := 400000) (disch := first | with_reducible rfl | omega | (simp only [wkH] <;> omega) | decide) only [wkAll, wkL, popO, wantedP, binP, lenP, builtinP, if_pos, tf26, hn] | refine w_pure (tf) ?_
    refine hQ (by first | exact .inr rfl | exact .inl rfl) (by first | exact trivial | exact marks1) (by first | (simp -implicitDefEqProofs (maxSteps := 400000) (disch := first | with_reducible rfl | omega | (simp only [wkH] <;> omega) | decide) only [wkL, resP, resPs, resP1]; rfl) | rfl) ⟨6, by repeat' first | exact frz_scalar rfl | apply frz_tuple | apply frz_agg | apply frz_fsl | apply frz_gsl (by omega) | exact frzs_nil | apply frzs_cons⟩ (by first | exact keepsH0 | exact keeps1 (by assumption) | exact keepsH (fun _ _ h => h) (fun p hp => by simp only [upF]; (repeat rw [if_neg (by omega)])) | exact keeps1t (by assumption) (fun p hp => by simp only [upF]; (repeat rw [if_neg (by omega)])) | (subst hT; exact keepsH (fun _ _ h => h) fun _ _ => rfl)) ?_
    repeat' first | exact nw_nil | exact nw_zsl | apply nw_tuple | apply nw_agg | exact nws_nil | apply nws_cons | exact nw_eq rfl | apply nw_eq
  | [r] =>
    rw [hf] at tf
    have hrb := hb r (find_mem (k := k) (by rw [hf]; simp))
    by_cases hc : c = true ∧ r.c = false
    · obtain ⟨rfl, hrc⟩ := hc
      rw [show numL l k true = ([], false) by rw [numL, hf]; simp [hrc]]
      refine fn_H ([Go.ResultVar.tmp 6, Go.ResultVar.tmp 7]) Tryz.func30 rfl rfl (by decide) fun ph hW Q hQ => ?_
      simp only [start, List.length_cons, List.length_nil, List.cons_append, List.nil_append, Nat.reduceAdd, Nat.reduceSub, List.replicate_succ, List.replicate_zero, Tryz.ntmps30]
      repeat' first | simp -implicitDefEqProofs (maxSteps := 400000) (disch := first | with_reducible rfl | omega | (simp only [wkH] <;> omega) | decide) only [wkAll, wkL, popO, wantedP, Nat.reduceAdd, Nat.reduceLeDiff, Int.reduceLE, Int.reduceLT, Int.reduceToNat, binP, unP, lenP, builtinP, indexAddrOp, loadOp, loadP, fieldAddrOp, PK.agg, seg, wkN, if_pos, if_neg, tf4, tf26, tf46, krsC, krC, hrc, List.flatMap_cons, List.flatMap_nil] | refine w_pure (tf) ?_
      refine hQ (by first | exact .inr rfl | exact .inl rfl) (by first | exact trivial | exact marks1) (by first | (simp -implicitDefEqProofs (maxSteps := 400000) (disch := first | with_reducible rfl | omega | (simp only [wkH] <;> omega) | decide) only [wkL, resP, resPs, resP1]; rfl) | rfl) ⟨6, by repeat' first | exact frz_scalar rfl | apply frz_tuple | apply frz_agg | apply frz_fsl | apply frz_gsl (by omega) | exact frzs_nil | apply frzs_cons⟩ (by first | exact keepsH0 | exact keeps1 (by assumption) | exact keepsH (fun _ _ h => h) (fun p hp => by simp only [upF]; (repeat rw [if_neg (by omega)])) | exact keeps1t (by assumption) (fun p hp => by simp only [upF]; (repeat rw [if_neg (by omega)])) | (subst hT; exact keepsH (fun _ _ h => h) fun _ _ => rfl)) ?_
      repeat' first | exact nw_nil | exact nw_zsl | apply nw_tuple | apply nw_agg | exact nws_nil | apply nws_cons | exact nw_eq rfl | apply nw_eq
    · have tp := keToPairs_ok (w0 := w0) r.b hrb
      rw [show numL l k c = ((toPairsL r.b).1, decide ((toPairsL r.b).2 = 0) && decide ((toPairsL r.b).1 ≠ [])) by rw [numL, hf]; simp only [if_neg hc]]
      generalize toPairsL r.b = T at *
      obtain ⟨N, e⟩ := T
      simp only at tp ⊢
      by_cases he : e = 0
      · subst he
        by_cases hN : N = []
        · subst hN
          cases c with
          | false =>
            refine fn_H ([Go.ResultVar.tmp 6, Go.ResultVar.tmp 7]) Tryz.func30 rfl rfl (by decide) fun ph hW Q hQ => ?_
            simp only [start, List.length_cons, List.length_nil, List.cons_append, List.nil_append, Nat.reduceAdd, Nat.reduceSub, List.replicate_succ, List.replicate_zero, Tryz.ntmps30]
            repeat' first | simp -implicitDefEqProofs (maxSteps := 400000) (disch := first | with_reducible rfl | omega | (simp only [wkH] <;> omega) | decide) only [wkAll, wkL, popO, wantedP, Nat.reduceLeDiff, Int.reduceLE, Int.reduceLT, Int.reduceToNat, binP, lenP, builtinP, indexAddrOp, loadOp, loadP, fieldAddrOp, PK.agg, gt_iff_lt, seg, wkN, if_pos, if_neg, tf9, tf22, tf26, tf46, krsC, krC, List.flatMap_cons, List.flatMap_nil] | refine w_pure (tf) ?_ | refine w_pure (tp) ?_
            refine hQ (by first | exact .inr rfl | exact .inl rfl) (by first | exact trivial | exact marks1) (by first | (simp -implicitDefEqProofs (maxSteps := 400000) (disch := first | with_reducible rfl | omega | (simp only [wkH] <;> omega) | decide) only [wkL, resP, resPs, resP1]; rfl) | rfl) ⟨6, by repeat' first | exact frz_scalar rfl | apply frz_tuple | apply frz_agg | apply frz_fsl | apply frz_gsl (by omega) | exact frzs_nil | apply frzs_cons⟩ (by first | exact keepsH0 | exact keeps1 (by assumption) | exact keepsH (fun _ _ h => h) (fun p hp => by simp only [upF]; (repeat rw [if_neg (by omega)])) | exact keeps1t (by assumption) (fun p hp => by simp only [upF]; (repeat rw [if_neg (by omega)])) | (subst hT; exact keepsH (fun _ _ h => h) fun _ _ => rfl)) ?_
            repeat' first | exact nw_nil | exact nw_zsl | apply nw_tuple | apply nw_agg | exact nws_nil | apply nws_cons | exact nw_eq rfl | apply nw_eq
          | true =>
            have hrc : r.c = true := by simpa using hc
            refine fn_H ([Go.ResultVar.tmp 6, Go.ResultVar.tmp 7]) Tryz.func30 rfl rfl (by decide) fun ph hW Q hQ => ?_
            simp only [start, List.length_cons, List.length_nil, List.cons_append, List.nil_append, Nat.reduceAdd, Nat.reduceSub, List.replicate_succ, List.replicate_zero, Tryz.ntmps30]
            repeat' first | simp -implicitDefEqProofs (maxSteps := 400000) (disch := first | with_reducible rfl | omega | (simp only [wkH] <;> omega) | decide) only [wkAll, wkL, popO, wantedP, Nat.reduceAdd, Nat.reduceLeDiff, Int.reduceLE, Int.reduceLT, Int.reduceToNat, binP, unP, lenP, builtinP, indexAddrOp, loadOp, loadP, fieldAddrOp, PK.agg, gt_iff_lt, seg, wkN, if_pos, if_neg, tf4, tf9, tf22, tf26, tf46, krsC, krC, hrc, List.flatMap_cons, List.flatMap_nil] | refine w_pure (tf) ?_ | refine w_pure (tp) ?_
            refine hQ (by first | exact .inr rfl | exact .inl rfl) (by first | exact trivial | exact marks1) (by first | (simp -implicitDefEqProofs (maxSteps := 400000) (disch := first | with_reducible rfl | omega | (simp only [wkH] <;> omega) | decide) only [wkL, resP, resPs, resP1]; rfl) | rfl) ⟨6, by repeat' first | exact frz_scalar rfl | apply frz_tuple | apply frz_agg | apply frz_fsl | apply frz_gsl (by omega) | exact frzs_nil | apply frzs_cons⟩ (by first | exact keepsH0 | exact keeps1 (by assumption) | exact keepsH (fun _ _ h => h) (fun p hp => by simp only [upF]; (repeat rw [if_neg (by omega)])) | exact keeps1t (by assumption) (fun p hp => by simp only [upF]; (repeat rw [if_neg (by omega)])) | (subst hT; exact keepsH (fun _ _ h => h) fun _ _ => rfl)) ?_
            repeat' first | exact nw_nil | exact nw_zsl | apply nw_tuple | apply nw_agg | exact nws_nil | apply nws_cons | exact nw_eq rfl | apply nw_eq
        · have hNl : 0 < N.length := List.length_pos_iff.2 hN
          have hNl' : (0 : Int) < (N.length : Int) := by omega
          rw [show (decide ((0 : Int) = 0) && decide (N ≠ [])) = true by simp [hN]]
          cases c with
          | false =>
            refine fn_H ([Go.ResultVar.tmp 6, Go.ResultVar.tmp 7]) Tryz.func30 rfl rfl (by decide) fun ph hW Q hQ => ?_
            simp only [start, List.length_cons, List.length_nil, List.cons_append, List.nil_append, Nat.reduceAdd, Nat.reduceSub, List.replicate_succ, List.replicate_zero, Tryz.ntmps30]
            repeat' first | simp -implicitDefEqProofs (maxSteps := 400000) (disch := first | with_reducible rfl | omega | (simp only [wkH] <;> omega) | decide) only [wkAll, wkL, popO, wantedP, Nat.reduceLeDiff, Int.reduceLE, Int.reduceLT, Int.reduceToNat, binP, lenP, builtinP, indexAddrOp, loadOp, loadP, fieldAddrOp, PK.agg, gt_iff_lt, seg, wkN, if_pos, if_neg, tf9, tf22, tf26, tf46, krsC, krC, List.flatMap_cons, List.flatMap_nil, hNl', gt_iff_lt] | refine w_pure (tf) ?_ | refine w_pure (tp) ?_
            refine hQ (by first | exact .inr rfl | exact .inl rfl) (by first | exact trivial | exact marks1) (by first | (simp -implicitDefEqProofs (maxSteps := 400000) (disch := first | with_reducible rfl | omega | (simp only [wkH] <;> omega) | decide) only [wkL, resP, resPs, resP1]; rfl) | rfl) ⟨6, by repeat' first | exact frz_scalar rfl | apply frz_tuple | apply frz_agg | apply frz_fsl | apply frz_gsl (by omega) | exact frzs_nil | apply frzs_cons | exact frzs_scalars (intsC_ok _)⟩ (by first | exact keepsH0 | exact keeps1 (by assumption) | exact keepsH (fun _ _ h => h) (fun p hp => by simp only [upF]; (repeat rw [if_neg (by omega)])) | exact keeps1t (by assumption) (fun p hp => by simp only [upF]; (repeat rw [if_neg (by omega)])) | (subst hT; exact keepsH (fun _ _ h => h) fun _ _ => rfl)) (nw_eq ?_)
            rfl
          | true =>
            have hrc : r.c = true := by simpa using hc
            refine fn_H ([Go.ResultVar.tmp 6, Go.ResultVar.tmp 7]) Tryz.func30 rfl rfl (by decide) fun ph hW Q hQ => ?_
            simp only [start, List.length_cons, List.length_nil, List.cons_append, List.nil_append, Nat.reduceAdd, Nat.reduceSub, List.replicate_succ, List.replicate_zero, Tryz.ntmps30]
            repeat' first | simp -implicitDefEqProofs (maxSteps := 400000) (disch := first | with_reducible rfl | omega | (simp only [wkH] <;> omega) | decide) only [wkAll, wkL, popO, wantedP, Nat.reduceAdd, Nat.reduceLeDiff, Int.reduceLE, Int.reduceLT, Int.reduceToNat, binP, unP, lenP, builtinP, indexAddrOp, loadOp, loadP, fieldAddrOp, PK.agg, gt_iff_lt, seg, wkN, if_pos, if_neg, tf4, tf9, tf22, tf26, tf46, krsC, krC, hrc, List.flatMap_cons, List.flatMap_nil, hNl', gt_iff_lt] | refine w_pure (tf) ?_ | refine w_pure (tp) ?_
            refine hQ (by first | exact .inr rfl | exact .inl rfl) (by first | exact trivial | exact marks1) (by first | (simp -implicitDefEqProofs (maxSteps := 400000) (disch := first | with_reducible rfl | omega | (simp only [wkH] <;> omega) | decide) only [wkL, resP, resPs, resP1]; rfl) | rfl) ⟨6, by repeat' first | exact frz_scalar rfl | apply frz_tuple | apply frz_agg | apply frz_fsl | apply frz_gsl (by omega) | exact frzs_nil | apply frzs_cons | exact frzs_scalars (intsC_ok _)⟩ (by first | exact keepsH0 | exact keeps1 (by assumption) | exact keepsH (fun _ _ h => h) (fun p hp => by simp only [upF]; (repeat rw [if_neg (by omega)])) | exact keeps1t (by assumption) (fun p hp => by simp only [upF]; (repeat rw [if_neg (by omega)])) | (subst hT; exact keepsH (fun _ _ h => h) fun _ _ => rfl)) (nw_eq ?_)
            rfl
      · have he' : (e == 0) = false := by rw [beq_eq_false_iff_ne]; exact he
        rw [show (decide (e = 0) && decide (N ≠ [])) = false by simp [he]]
        cases c with
        | false =>
          refine fn_H ([Go.ResultVar.tmp 6, Go.ResultVar.tmp 7]) Tryz.func30 rfl rfl (by decide) fun ph hW Q hQ => ?_
          simp only [start, List.length_cons, List.length_nil, List.cons_append, List.nil_append, Nat.reduceAdd, Nat.reduceSub, List.replicate_succ, List.replicate_zero, Tryz.ntmps30]
          repeat' first | simp -implicitDefEqProofs (maxSteps := 400000) (disch := first | with_reducible rfl | omega | (simp only [wkH] <;> omega) | decide) only [wkAll, wkL, popO, wantedP, Nat.reduceLeDiff, Int.reduceLE, Int.reduceLT, Int.reduceToNat, binP, lenP, builtinP, indexAddrOp, loadOp, loadP, fieldAddrOp, PK.agg, seg, wkN, if_pos, if_neg, tf9, tf26, tf46, krsC, krC, List.flatMap_cons, List.flatMap_nil, he'] | refine w_pure (tf) ?_ | refine w_pure (tp) ?_
          refine hQ (by first | exact .inr rfl | exact .inl rfl) (by first | exact trivial | exact marks1) (by first | (simp -implicitDefEqProofs (maxSteps := 400000) (disch := first | with_reducible rfl | omega | (simp only [wkH] <;> omega) | decide) only [wkL, resP, resPs, resP1]; rfl) | rfl) ⟨6, by repeat' first | exact frz_scalar rfl | apply frz_tuple | apply frz_agg | apply frz_fsl | apply frz_gsl (by omega) | exact frzs_nil | apply frzs_cons | exact frzs_scalars (intsC_ok _)⟩ (by first | exact keepsH0 | exact keeps1 (by assumption) | exact keepsH (fun _ _ h => h) (fun p hp => by simp only [upF]; (repeat rw [if_neg (by omega)])) | exact keeps1t (by assumption) (fun p hp => by simp only [upF]; (repeat rw [if_neg (by omega)])) | (subst hT; exact keepsH (fun _ _ h => h) fun _ _ => rfl)) (nw_eq ?_)
          rfl
        | true =>
          have hrc : r.c = true := by simpa using hc
          refine fn_H ([Go.ResultVar.tmp 6, Go.ResultVar.tmp 7]) Tryz.func30 rfl rfl (by decide) fun ph hW Q hQ => ?_
          simp only [start, List.length_cons, List.length_nil, List.cons_append, List.nil_append, Nat.reduceAdd, Nat.reduceSub, List.replicate_succ, List.replicate_zero, Tryz.ntmps30]
          repeat' first | simp -implicitDefEqProofs (maxSteps := 400000) (disch := first | with_reducible rfl | omega | (simp only [wkH] <;> omega) | decide) only [wkAll, wkL, popO, wantedP, Nat.reduceAdd, Nat.reduceLeDiff, Int.reduceLE, Int.reduceLT, Int.reduceToNat, binP, unP, lenP, builtinP, indexAddrOp, loadOp, loadP, fieldAddrOp, PK.agg, seg, wkN, if_pos, if_neg, tf4, tf9, tf26, tf46, krsC, krC, hrc, List.flatMap_cons, List.flatMap_nil, he'] | refine w_pure (tf) ?_ | refine w_pure (tp) ?_
          refine hQ (by first | exact .inr rfl | exact .inl rfl) (by first | exact trivial | exact marks1) (by first | (simp -implicitDefEqProofs (maxSteps := 400000) (disch := first | with_reducible rfl | omega | (simp only [wkH] <;> omega) | decide) only [wkL, resP, resPs, resP1]; rfl) | rfl) ⟨6, by repeat' first | exact frz_scalar rfl | apply frz_tuple | apply frz_agg | apply frz_fsl | apply frz_gsl (by omega) | exact frzs_nil | apply frzs_cons | exact frzs_scalars (intsC_ok _)⟩ (by first | exact keepsH0 | exact keeps1 (by assumption) | exact keepsH (fun _ _ h => h) (fun p hp => by simp only [upF]; (repeat rw [if_neg (by omega)])) | exact keeps1t (by assumption) (fun p hp => by simp only [upF]; (repeat rw [if_neg (by omega)])) | (subst hT; exact keepsH (fun _ _ h => h) fun _ _ => rfl)) (nw_eq ?_)
          rfl
end Pv
