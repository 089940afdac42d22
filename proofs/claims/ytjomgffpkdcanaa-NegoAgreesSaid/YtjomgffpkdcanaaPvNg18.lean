/- Part of the proof: the layer of pure values, or walks through functions (PvNg18). -/
import Derived.Test.YtjomgffpkdcanaaPvEntry4
set_option linter.all false
--nosplit
--keep2
namespace Pv
set_option maxRecDepth 20000
set_option maxHeartbeats 4000000
open Go Go.Proofs Go.RowKit
variable {w0 : World}

theorem ask0_eq {A : List Int} (h : (ask0L A).2 = 0) : A ≠ [] ∧ (pairsL A).2 = 0 ∧ ask0L A = ([⟨true, 1, twoL 0⟩, ⟨true, 4, (pairsL A).1⟩, ⟨true, 0, []⟩], 0) := by
  unfold ask0L at h ⊢
  by_cases h1 : A = []
  · rw [if_pos h1] at h; cases h
  · rw [if_neg h1] at h ⊢
    by_cases h2 : (pairsL A).2 = 0
    · rw [if_neg (by simpa using h2)]; exact ⟨h1, h2, rfl⟩
    · rw [if_pos h2] at h; exact absurd h h2
theorem best_snoc (A l : List Int) (a : Int) : bestL A (l ++ [a]) = bestS A (bestL A l) a := by simp [bestL, List.foldl_append]
theorem pairs_le (A : List Int) : (pairsL A).1.length ≤ 1024 := by
  unfold pairsL
  split
  · simp
  · split
    · show (A.flatMap twoL).length ≤ 1024
      rw [twoLs_len]; omega
    · simp
theorem NegoAgrees_law (A S : List Int) (Hs : List UInt8) (P : Int) (C : List (List UInt8)) (hS2 : ∀ a ∈ S, -9223372036854775808 ≤ a ∧ a ≤ 9223372036854775807) : Fn (Cx w0) 4 [.fsl 1 A.length (intsC A), .agg [.fsl 1 S.length (intsC S), .str Hs, .int .i64 P, .fsl 1 C.length (C.map PV.str)]] (.bool true) := by
  have aw := awake19_ok (w0 := w0)
  by_cases g1 : A.length ≤ 400
  · have g1' : ¬ (400 : Int) < (A.length : Int) := by omega
    by_cases g2 : S.length ≤ 400
    · have g2' : ¬ (400 : Int) < (S.length : Int) := by omega
      by_cases g3 : C.length = 0
      · have g3' : ((C.length : Int) == 0) = true := by rw [g3]; rfl
        refine fn_H ([Go.ResultVar.tmp 4]) Try.func4 rfl rfl (by decide) fun ph hW Q hQ => ?_
        simp only [start, List.length_cons, List.length_nil, List.cons_append, List.nil_append, Nat.reduceAdd, Nat.reduceSub, List.replicate_succ, List.replicate_zero, Try.ntmps4]
        repeat' first | simp -implicitDefEqProofs (maxSteps := 400000) (disch := first | with_reducible rfl | omega | (simp only [wkH] <;> omega) | decide) only [wkAll, wkL, popO, wantedP, Nat.reduceAdd, Nat.reduceLeDiff, binP, lenP, builtinP, loadOp, loadP, fieldAddrOp, PK.agg, gt_iff_lt, seg, if_pos, if_neg, tf23, tf43, tf45, g1', g2', g3', gt_iff_lt] | refine w_pure (aw) ?_
        refine hQ (by first | exact .inr rfl | exact .inl rfl) (by first | exact trivial | exact marks1) (by first | (simp -implicitDefEqProofs (maxSteps := 400000) (disch := first | with_reducible rfl | omega | (simp only [wkH] <;> omega) | decide) only [wkL, resP, resPs, resP1]; rfl) | rfl) ⟨6, by repeat' first | exact frz_scalar rfl | apply frz_tuple | apply frz_agg | apply frz_fsl | apply frz_gsl (by omega) | exact frzs_nil | apply frzs_cons⟩ (by first | exact keepsH0 | exact keeps1 (by assumption)) (nw_eq ?_)
        rfl
      · have g3' : ((C.length : Int) == 0) = false := by rw [beq_eq_false_iff_ne]; omega
        by_cases g4 : C.length ≤ 8
        · have g4' : ¬ (8 : Int) < (C.length : Int) := by omega
          by_cases g5 : Hs = []
          · have g5' := strEqT g5
            by_cases g6 : P = 0
            · have g6' := bneF g6
              have ta := negoAsk0_ok (w0 := w0) A (by omega)
              refine fn_H ([Go.ResultVar.tmp 4]) Try.func4 rfl rfl (by decide) fun ph hW Q hQ => ?_
              simp only [start, List.length_cons, List.length_nil, List.cons_append, List.nil_append, Nat.reduceAdd, Nat.reduceSub, List.replicate_succ, List.replicate_zero, Try.ntmps4]
              repeat' first | simp -implicitDefEqProofs (maxSteps := 400000) (disch := first | with_reducible rfl | omega | (simp only [wkH] <;> omega) | decide) only [wkAll, wkL, popO, wantedP, Nat.reduceAdd, Nat.reduceLeDiff, binP, lenP, builtinP, loadOp, loadP, fieldAddrOp, PK.agg, gt_iff_lt, seg, if_pos, if_neg, tf3, tf9, tf23, tf43, tf45, g1', g2', g3', g4', g5', g6', gt_iff_lt]
              subst g5
              subst g6
              refine w_loopH (α := Nat) ph ph.ob ph.ty (fun i => [.fsl 1 A.length (intsC A), .undef, .undef, .ptr ph.n 0, .undef, .undef, .undef, .undef, .undef, .undef, .undef, .undef, .undef, .undef, .undef, .undef, .undef, .undef, .undef, .undef, .undef, .undef, .undef, .undef, .undef, .undef, .undef, .undef, .undef, .undef, .undef, .undef, .undef, .undef, .undef, .undef, .undef, .undef, .undef, .undef, .undef, .undef, .undef, .undef, .undef, .undef, .undef, .undef, .undef, .undef, .undef, .undef, .fsl 1 C.length (C.map PV.str), .int .i64 C.length, .int .i64 i, .undef, .undef, .undef, .undef, .undef, .undef, .undef, .undef, .undef, .undef, .undef, .undef, .undef, .undef, .undef, .undef, .undef, .undef, .undef, .undef, .undef, .undef, .undef, .undef, .undef, .undef, .undef, .undef, .undef, .undef, .undef, .undef, .undef, .undef, .undef, .undef, .undef, .undef, .undef, .undef, .undef, .undef, .undef, .undef, .undef, .undef, .undef, .undef, .undef, .undef, .undef, .undef, .undef, .undef, .undef, .undef, .undef, .undef, .undef, .undef, .undef, .undef, .undef, .undef, .undef, .undef, .undef, .undef, .undef, .undef, .undef, .undef, .undef, .undef, .undef, .undef, .undef, .undef, .undef, .undef, .undef, .undef, .undef, .undef, .undef, .undef]) (fun i => [some (.own [.fsl 1 S.length (intsC S), .str [], .int .i64 0, .fsl 1 C.length (C.map PV.str)])]) (fun i => i ≤ C.length ∧ ∀ s ∈ C.take i, cookB s = true) (fun i => C.length - i) 0 (by simp) (fun _ _ => by simp []) (.eq (by simp [FadeTo]) rfl) ?_
              rintro i ⟨hi, hck⟩ K hK
              rcases Nat.lt_or_ge i C.length with hlt | hge
              · obtain ⟨s, hs⟩ := get_some hlt
                have hlt' : (i : Int) < (C.length : Int) := by omega
                have hcs : (C.map PV.str)[i]? = some (.str s) := by rw [List.getElem?_map, hs]; rfl
                have tk := refCookie_ok (w0 := w0) s
                cases hc : cookB s with
                | false =>
                  rw [hc] at tk
                  repeat' first | simp -implicitDefEqProofs (maxSteps := 400000) (disch := first | with_reducible rfl | omega | (simp only [wkH] <;> omega) | decide) only [wkAll, wkL, popO, wantedP, binP, unP, indexAddrOp, loadOp, loadP, PK.agg, seg, if_pos, if_neg, tf9, tf23, List.getElem?_drop, hcs, hlt'] | refine w_pure (tk) ?_ | refine w_pure (aw) ?_
                  refine hQ (by first | exact .inr rfl | exact .inl rfl) (by first | exact trivial | exact marks1) (by first | (simp -implicitDefEqProofs (maxSteps := 400000) (disch := first | with_reducible rfl | omega | (simp only [wkH] <;> omega) | decide) only [wkL, resP, resPs, resP1]; rfl) | rfl) ⟨6, by repeat' first | exact frz_scalar rfl | apply frz_tuple | apply frz_agg | apply frz_fsl | apply frz_gsl (by omega) | exact frzs_nil | apply frzs_cons⟩ (by first | exact keepsH0 | exact keeps1 (by assumption)) (nw_eq ?_)
                  rfl
                | true =>
                  rw [hc] at tk
                  repeat' first | simp -implicitDefEqProofs (maxSteps := 400000) (disch := first | with_reducible rfl | omega | (simp only [wkH] <;> omega) | decide) only [wkAll, wkL, popO, wantedP, binP, unP, indexAddrOp, loadOp, loadP, PK.agg, seg, wkN, if_pos, if_neg, tf9, tf23, List.getElem?_drop, hcs, hlt'] | refine w_pure (tk) ?_
                  refine hK (i + 1) _ _ ⟨by omega, ?_⟩ (by omega) (.eq (by simp [FadeTo]) rfl)
                  rw [take_snoc hs]
                  intro x hx
                  rcases List.mem_append.1 hx with h | h
                  · exact hck x h
                  · rw [List.mem_singleton.1 h]; exact hc
              · have hge' : ¬ (i : Int) < (C.length : Int) := by omega
                rw [List.take_of_length_le hge] at hck
                clear hK
                repeat' first | simp -implicitDefEqProofs (maxSteps := 400000) (disch := first | with_reducible rfl | omega | (simp only [wkH] <;> omega) | decide) only [wkAll, wkL, popO, wantedP, Nat.reduceAdd, Nat.reduceLeDiff, binP, lenP, builtinP, loadOp, loadP, fieldAddrOp, PK.agg, seg, if_pos, if_neg, tf43, tf45, hge']
                refine w_loopH (α := Nat) ph ph.ob ph.ty (fun i => [.fsl 1 A.length (intsC A), .undef, .undef, .ptr ph.n 0, .undef, .undef, .undef, .int .i64 (bestL A (S.take i)), .undef, .undef, .undef, .undef, .undef, .undef, .undef, .undef, .undef, .undef, .undef, .undef, .undef, .undef, .undef, .undef, .undef, .undef, .undef, .undef, .undef, .undef, .undef, .undef, .undef, .undef, .undef, .undef, .undef, .undef, .undef, .undef, .undef, .undef, .undef, .undef, .undef, .undef, .undef, .undef, .undef, .undef, .undef, .undef, .undef, .undef, .undef, .undef, .undef, .undef, .undef, .undef, .undef, .undef, .undef, .undef, .fsl 1 S.length (intsC S), .int .i64 S.length, .int .i64 i, .undef, .undef, .undef, .undef, .undef, .undef, .undef, .undef, .undef, .undef, .undef, .undef, .undef, .undef, .undef, .undef, .undef, .undef, .undef, .undef, .undef, .undef, .undef, .undef, .undef, .undef, .undef, .undef, .undef, .undef, .undef, .undef, .undef, .undef, .undef, .undef, .undef, .undef, .undef, .undef, .undef, .undef, .undef, .undef, .undef, .undef, .undef, .undef, .undef, .undef, .undef, .undef, .undef, .undef, .undef, .undef, .undef, .undef, .undef, .undef, .undef, .undef, .undef, .undef, .undef, .undef, .undef, .undef, .undef, .undef, .undef, .undef, .undef, .undef]) (fun i => [some (.own [.fsl 1 S.length (intsC S), .str [], .int .i64 0, .fsl 1 C.length (C.map PV.str)])]) (fun i => i ≤ S.length) (fun i => S.length - i) 0 (by simp) (fun _ _ => by simp []) (.eq (by simp [FadeTo, bestL]) rfl) ?_
                intro j hj K hK
                rcases Nat.lt_or_ge j S.length with hlt | hge2
                · obtain ⟨a, ha⟩ := get_some hlt
                  have hd := intsC_drop S j a ha
                  have hla := intsC_len S
                  have hlt' : (j : Int) < (S.length : Int) := by omega
                  have hK1 := fun tm ph' => hK (j + 1) tm ph' (by omega) (by omega)
                  rw [take_snoc ha, best_snoc] at hK1
                  clear hK
                  generalize bestL A (S.take j) = b at *
                  repeat' first | simp -implicitDefEqProofs (maxSteps := 400000) (disch := first | with_reducible rfl | omega | (simp only [wkH] <;> omega) | decide) only [wkAll, wkL, popO, wantedP, Nat.reduceLeDiff, binP, lenP, builtinP, indexAddrOp, loadOp, loadP, PK.agg, seg, if_pos, if_neg, tf3, tf43, hd, hlt']
                  refine w_loopH (α := Nat) ph ph.ob ph.ty (fun i => [.fsl 1 A.length (intsC A), .undef, .undef, .ptr ph.n 0, .undef, .undef, .undef, .int .i64 b, .undef, .int .i64 a, .bool ((A.take i).any (fun y => a == y)), .undef, .undef, .undef, .undef, .undef, .undef, .undef, .undef, .undef, .undef, .undef, .undef, .undef, .undef, .undef, .undef, .undef, .undef, .undef, .undef, .undef, .undef, .undef, .undef, .undef, .undef, .undef, .undef, .undef, .undef, .undef, .undef, .undef, .undef, .undef, .undef, .undef, .undef, .undef, .undef, .undef, .undef, .undef, .undef, .undef, .undef, .undef, .undef, .undef, .undef, .undef, .undef, .undef, .fsl 1 S.length (intsC S), .int .i64 S.length, .int .i64 j, .undef, .undef, .undef, .fsl 1 A.length (intsC A), .int .i64 A.length, .int .i64 i, .undef, .undef, .undef, .undef, .undef, .undef, .undef, .undef, .undef, .undef, .undef, .undef, .undef, .undef, .undef, .undef, .undef, .undef, .undef, .undef, .undef, .undef, .undef, .undef, .undef, .undef, .undef, .undef, .undef, .undef, .undef, .undef, .undef, .undef, .undef, .undef, .undef, .undef, .undef, .undef, .undef, .undef, .undef, .undef, .undef, .undef, .undef, .undef, .undef, .undef, .undef, .undef, .undef, .undef, .undef, .undef, .undef, .undef, .undef, .undef, .undef, .undef, .undef, .undef, .undef, .undef, .undef, .undef]) (fun i => [some (.own [.fsl 1 S.length (intsC S), .str [], .int .i64 0, .fsl 1 C.length (C.map PV.str)])]) (fun i => i ≤ A.length) (fun i => A.length - i) 0 (by simp) (fun _ _ => by simp []) (.eq (by simp [FadeTo]) rfl) ?_
                  intro m hm K2 hK2
                  rcases Nat.lt_or_ge m A.length with hlt2 | hge3
                  · obtain ⟨x, hx⟩ := get_some hlt2
                    have hd2 := intsC_drop A m x hx
                    have hla2 := intsC_len A
                    have hlt2' : (m : Int) < (A.length : Int) := by omega
                    have hK3 := fun tm ph' => hK2 (m + 1) tm ph' (by omega) (by omega)
                    rw [take_snoc hx, List.any_append] at hK3
                    clear hK2
                    cases hin : (A.take m).any (fun y => a == y) with
                    | true =>
                      rw [hin, Bool.true_or] at hK3
                      repeat' first | simp -implicitDefEqProofs (maxSteps := 400000) (disch := first | with_reducible rfl | omega | (simp only [wkH] <;> omega) | decide) only [wkAll, wkL, popO, wantedP, Nat.reduceLeDiff, binP, indexAddrOp, loadOp, loadP, PK.agg, seg, wkN, if_pos, if_neg, tf3, tf43, hd2, hlt2']
                      exact hK3 _ _ (.eq (by simp [FadeTo]) rfl)
                    | false =>
                      rw [hin, Bool.false_or, List.any_cons, List.any_nil, Bool.or_false] at hK3
                      repeat' first | simp -implicitDefEqProofs (maxSteps := 400000) (disch := first | with_reducible rfl | omega | (simp only [wkH] <;> omega) | decide) only [wkAll, wkL, popO, wantedP, Nat.reduceLeDiff, binP, indexAddrOp, loadOp, loadP, PK.agg, seg, wkN, if_pos, if_neg, tf3, tf43, hd2, hlt2']
                      exact hK3 _ _ (.eq (by simp [FadeTo]) rfl)
                  · have hge3' : ¬ (m : Int) < (A.length : Int) := by omega
                    rw [List.take_of_length_le hge3]
                    clear hK2
                    unfold bestS at hK1
                    cases hin : A.any (fun y => a == y) with
                    | false =>
                      rw [if_neg (by rw [hin]; simp)] at hK1
                      repeat' first | simp -implicitDefEqProofs (maxSteps := 400000) (disch := first | with_reducible rfl | omega | (simp only [wkH] <;> omega) | decide) only [wkAll, wkL, popO, wantedP, binP, wkN, if_pos, if_neg, hge3']
                      exact hK1 _ _ (.eq (by simp [FadeTo]) rfl)
                    | true =>
                      by_cases hb : b = 0
                      · have hb' : (b == 0) = true := by rw [hb]; rfl
                        by_cases h15 : a = 15
                        · have h15' : (a == 15) = true := by rw [h15]; rfl
                          rw [if_pos ⟨hin, hb, .inl h15⟩] at hK1
                          repeat' first | simp -implicitDefEqProofs (maxSteps := 400000) (disch := first | with_reducible rfl | omega | (simp only [wkH] <;> omega) | decide) only [wkAll, wkL, popO, wantedP, binP, wkN, if_pos, hge3', hb', h15']
                          exact hK1 _ _ (.eq (by simp [FadeTo]) rfl)
                        · have h15' : (a == 15) = false := by rw [beq_eq_false_iff_ne]; exact h15
                          by_cases h17 : a = 17
                          · have h17' : (a == 17) = true := by rw [h17]; rfl
                            rw [if_pos ⟨hin, hb, .inr h17⟩] at hK1
                            repeat' first | simp -implicitDefEqProofs (maxSteps := 400000) (disch := first | with_reducible rfl | omega | (simp only [wkH] <;> omega) | decide) only [wkAll, wkL, popO, wantedP, binP, wkN, if_pos, if_neg, hge3', hb', h15', h17']
                            exact hK1 _ _ (.eq (by simp [FadeTo]) rfl)
                          · have h17' : (a == 17) = false := by rw [beq_eq_false_iff_ne]; exact h17
                            rw [if_neg (by rintro ⟨-, -, h | h⟩; exact h15 h; exact h17 h)] at hK1
                            repeat' first | simp -implicitDefEqProofs (maxSteps := 400000) (disch := first | with_reducible rfl | omega | (simp only [wkH] <;> omega) | decide) only [wkAll, wkL, popO, wantedP, binP, wkN, if_pos, if_neg, hge3', hb', h15', h17']
                            exact hK1 _ _ (.eq (by simp [FadeTo]) rfl)
                      · have hb' : (b == 0) = false := by rw [beq_eq_false_iff_ne]; exact hb
                        rw [if_neg (by rintro ⟨-, h, -⟩; exact hb h)] at hK1
                        repeat' first | simp -implicitDefEqProofs (maxSteps := 400000) (disch := first | with_reducible rfl | omega | (simp only [wkH] <;> omega) | decide) only [wkAll, wkL, popO, wantedP, binP, wkN, if_pos, if_neg, hge3', hb']
                        exact hK1 _ _ (.eq (by simp [FadeTo]) rfl)
                · have hge2' : ¬ (j : Int) < (S.length : Int) := by omega
                  rw [List.take_of_length_le hge2]
                  clear hK
                  have hbest := best_of A S
                  by_cases he : (ask0L A).2 = 0
                  · obtain ⟨hA0, hp0, hask⟩ := ask0_eq he
                    have hans := agree_ans S C hp0 hA0
                    have tn := negoAnswer_ok (w0 := w0) S C [] 0 [⟨true, 1, twoL 0⟩, ⟨true, 4, (pairsL A).1⟩, ⟨true, 0, []⟩] (by omega) (by omega) (by show 3 < 2 ^ 40; decide) (by
                      have := pairs_le A
                      intro r hr
                      simp only [List.mem_cons, List.not_mem_nil, or_false] at hr
                      rcases hr with rfl | rfl | rfl
                      · decide
                      · show (pairsL A).1.length < 2 ^ 50; omega
                      · decide) hS2 (by decide)
                    rw [hans] at tn
                    rw [hask] at ta
                    rcases idx_find (takeB A) S with ⟨q1, q2⟩ | ⟨k, a, q1, q2, q3, q4⟩
                    · rw [if_pos q1] at tn
                      rw [q2] at hbest
                      have tc := negoAccept_ok (w0 := w0) A [⟨true, 1, twoL 0⟩, ⟨true, 4, []⟩, ⟨true, 0, []⟩] (by omega) (by decide) (by decide)
                      have hn := acc_none A
                      have hn' : ((acceptL A [⟨true, 1, twoL 0⟩, ⟨true, 4, []⟩, ⟨true, 0, []⟩]).2 != 0) = true := by rw [bne_iff_ne]; exact hn
                      generalize acceptL A [⟨true, 1, twoL 0⟩, ⟨true, 4, []⟩, ⟨true, 0, []⟩] = d at *
                      generalize ([⟨true, 1, twoL 0⟩, ⟨true, 4, (pairsL A).1⟩, ⟨true, 0, []⟩] : List KR) = L1 at *
                      generalize ([⟨true, 1, twoL 0⟩, ⟨true, 4, []⟩, ⟨true, 0, []⟩] : List KR) = L2 at *
                      rw [hbest]
                      unfold dlC at tc
                      repeat' first | simp -implicitDefEqProofs (maxSteps := 400000) (disch := first | with_reducible rfl | omega | (simp only [wkH] <;> omega) | decide) only [wkAll, wkL, popO, wantedP, Nat.reduceAdd, Nat.reduceLeDiff, binP, loadOp, storeOp, loadP, setL, PK.agg, seg, if_pos, if_neg, tf45, tf53, Try.ze53, hge2', hn'] | refine w_pure (ta) ?_ | refine w_pure (tn) ?_ | refine w_pure (tc) ?_ | refine w_pure (aw) ?_
                      refine hQ (by first | exact .inr rfl | exact .inl rfl) (by first | exact trivial | exact marks1) (by first | (simp -implicitDefEqProofs (maxSteps := 400000) (disch := first | with_reducible rfl | omega | (simp only [wkH] <;> omega) | decide) only [wkL, resP, resPs, resP1]; rfl) | rfl) ⟨6, by repeat' first | exact frz_scalar rfl | apply frz_tuple | apply frz_agg | apply frz_fsl | apply frz_gsl (by omega) | exact frzs_nil | apply frzs_cons⟩ (by first | exact keepsH0 | exact keeps1 (by assumption)) (nw_eq ?_)
                      rfl
                    · rw [if_neg (by omega), q1, Int.toNat_natCast, show S.getD k 0 = a by rw [List.getD_eq_getElem?_getD, q2]; rfl] at tn
                      rw [q3] at hbest
                      have tc := negoAccept_ok (w0 := w0) A (outL a C [] 0) (by omega) (by rw [out_eq]; simp; omega) (by
                        intro r hr
                        rw [out_eq] at hr
                        simp only [List.mem_append, List.mem_cons, List.mem_map, List.not_mem_nil, or_false] at hr
                        rcases hr with ((rfl | rfl) | ⟨s, hs, rfl⟩) | rfl
                        · decide
                        · show (twoL a).length < 2 ^ 50; rw [twoL_len]; decide
                        · have := hck s hs
                          simp only [cookB, Bool.and_eq_true, decide_eq_true_eq] at this
                          show s.length < 2 ^ 50; omega
                        · decide)
                      rw [acc_some q4 (by omega) g4 hck] at tc
                      have ts := refSame19_ok (w0 := w0) ⟨a, C, [], 0⟩ ⟨a, C, [], 0⟩ (by show C.length < 2 ^ 40; omega) (by show C.length < 2 ^ 40; omega)
                      rw [decide_eq_true rfl] at ts
                      generalize outL a C [] 0 = L2 at *
                      generalize ([⟨true, 1, twoL 0⟩, ⟨true, 4, (pairsL A).1⟩, ⟨true, 0, []⟩] : List KR) = L1 at *
                      have ha0 : (a == 0) = false := by
                        rw [beq_eq_false_iff_ne]
                        rcases ((takeB_iff A a).1 q4).2 with rfl | rfl <;> decide
                      have hbest2 : bestL A S = a := hbest
                      rw [hbest2]
                      unfold dlC at tc ts
                      repeat' first | simp -implicitDefEqProofs (maxSteps := 400000) (disch := first | with_reducible rfl | omega | (simp only [wkH] <;> omega) | decide) only [wkAll, wkL, popO, wantedP, ne_eq, Nat.reduceAdd, Nat.reduceLeDiff, Nat.reduceLT, binP, loadOp, storeOp, loadP, fieldAddrOp, buildP, placeF, fillP, setL, PK.agg, gt_iff_lt, seg, if_pos, if_neg, tf23, tf45, tf53, Try.ze53, hge2', ha0] | refine w_pure (ta) ?_ | refine w_pure (tn) ?_ | refine w_pure (tc) ?_ | refine w_pure (ts) ?_ | refine w_pure (aw) ?_
                      refine hQ (by first | exact .inr rfl | exact .inl rfl) (by first | exact trivial | exact marks1) (by first | (simp -implicitDefEqProofs (maxSteps := 400000) (disch := first | with_reducible rfl | omega | (simp only [wkH] <;> omega) | decide) only [wkL, resP, resPs, resP1]; rfl) | rfl) ⟨6, by repeat' first | exact frz_scalar rfl | apply frz_tuple | apply frz_agg | apply frz_fsl | apply frz_gsl (by omega) | exact frzs_nil | apply frzs_cons⟩ (by first | exact keepsH0 | exact keeps1 (by assumption)) (nw_eq ?_)
                      rfl
                  · have he' : ((ask0L A).2 != 0) = true := by rw [bne_iff_ne]; exact he
                    generalize ask0L A = L1 at *
                    repeat' first | simp -implicitDefEqProofs (maxSteps := 400000) (disch := first | with_reducible rfl | omega | (simp only [wkH] <;> omega) | decide) only [wkAll, wkL, popO, wantedP, binP, if_pos, hge2', he'] | refine w_pure (ta) ?_ | refine w_pure (aw) ?_
                    refine hQ (by first | exact .inr rfl | exact .inl rfl) (by first | exact trivial | exact marks1) (by first | (simp -implicitDefEqProofs (maxSteps := 400000) (disch := first | with_reducible rfl | omega | (simp only [wkH] <;> omega) | decide) only [wkL, resP, resPs, resP1]; rfl) | rfl) ⟨6, by repeat' first | exact frz_scalar rfl | apply frz_tuple | apply frz_agg | apply frz_fsl | apply frz_gsl (by omega) | exact frzs_nil | apply frzs_cons⟩ (by first | exact keepsH0 | exact keeps1 (by assumption)) (nw_eq ?_)
                    rfl
            · have g6' := bneT g6
              refine fn_H ([Go.ResultVar.tmp 4]) Try.func4 rfl rfl (by decide) fun ph hW Q hQ => ?_
              simp only [start, List.length_cons, List.length_nil, List.cons_append, List.nil_append, Nat.reduceAdd, Nat.reduceSub, List.replicate_succ, List.replicate_zero, Try.ntmps4]
              repeat' first | simp -implicitDefEqProofs (maxSteps := 400000) (disch := first | with_reducible rfl | omega | (simp only [wkH] <;> omega) | decide) only [wkAll, wkL, popO, wantedP, Nat.reduceAdd, Nat.reduceLeDiff, binP, lenP, builtinP, loadOp, loadP, fieldAddrOp, PK.agg, gt_iff_lt, seg, if_pos, if_neg, tf3, tf9, tf23, tf43, tf45, g1', g2', g3', g4', g5', g6', gt_iff_lt] | refine w_pure (aw) ?_
              refine hQ (by first | exact .inr rfl | exact .inl rfl) (by first | exact trivial | exact marks1) (by first | (simp -implicitDefEqProofs (maxSteps := 400000) (disch := first | with_reducible rfl | omega | (simp only [wkH] <;> omega) | decide) only [wkL, resP, resPs, resP1]; rfl) | rfl) ⟨6, by repeat' first | exact frz_scalar rfl | apply frz_tuple | apply frz_agg | apply frz_fsl | apply frz_gsl (by omega) | exact frzs_nil | apply frzs_cons⟩ (by first | exact keepsH0 | exact keeps1 (by assumption)) (nw_eq ?_)
              rfl
          · have g5' := strEqF g5
            refine fn_H ([Go.ResultVar.tmp 4]) Try.func4 rfl rfl (by decide) fun ph hW Q hQ => ?_
            simp only [start, List.length_cons, List.length_nil, List.cons_append, List.nil_append, Nat.reduceAdd, Nat.reduceSub, List.replicate_succ, List.replicate_zero, Try.ntmps4]
            repeat' first | simp -implicitDefEqProofs (maxSteps := 400000) (disch := first | with_reducible rfl | omega | (simp only [wkH] <;> omega) | decide) only [wkAll, wkL, popO, wantedP, Nat.reduceAdd, Nat.reduceLeDiff, binP, lenP, builtinP, loadOp, loadP, fieldAddrOp, PK.agg, gt_iff_lt, seg, if_pos, if_neg, tf9, tf23, tf43, tf45, g1', g2', g3', g4', g5', gt_iff_lt] | refine w_pure (aw) ?_
            refine hQ (by first | exact .inr rfl | exact .inl rfl) (by first | exact trivial | exact marks1) (by first | (simp -implicitDefEqProofs (maxSteps := 400000) (disch := first | with_reducible rfl | omega | (simp only [wkH] <;> omega) | decide) only [wkL, resP, resPs, resP1]; rfl) | rfl) ⟨6, by repeat' first | exact frz_scalar rfl | apply frz_tuple | apply frz_agg | apply frz_fsl | apply frz_gsl (by omega) | exact frzs_nil | apply frzs_cons⟩ (by first | exact keepsH0 | exact keeps1 (by assumption)) (nw_eq ?_)
            rfl
        · have g4' : (8 : Int) < (C.length : Int) := by omega
          refine fn_H ([Go.ResultVar.tmp 4]) Try.func4 rfl rfl (by decide) fun ph hW Q hQ => ?_
          simp only [start, List.length_cons, List.length_nil, List.cons_append, List.nil_append, Nat.reduceAdd, Nat.reduceSub, List.replicate_succ, List.replicate_zero, Try.ntmps4]
          repeat' first | simp -implicitDefEqProofs (maxSteps := 400000) (disch := first | with_reducible rfl | omega | (simp only [wkH] <;> omega) | decide) only [wkAll, wkL, popO, wantedP, Nat.reduceAdd, Nat.reduceLeDiff, binP, lenP, builtinP, loadOp, loadP, fieldAddrOp, PK.agg, gt_iff_lt, seg, if_pos, if_neg, tf23, tf43, tf45, g1', g2', g3', g4', gt_iff_lt] | refine w_pure (aw) ?_
          refine hQ (by first | exact .inr rfl | exact .inl rfl) (by first | exact trivial | exact marks1) (by first | (simp -implicitDefEqProofs (maxSteps := 400000) (disch := first | with_reducible rfl | omega | (simp only [wkH] <;> omega) | decide) only [wkL, resP, resPs, resP1]; rfl) | rfl) ⟨6, by repeat' first | exact frz_scalar rfl | apply frz_tuple | apply frz_agg | apply frz_fsl | apply frz_gsl (by omega) | exact frzs_nil | apply frzs_cons⟩ (by first | exact keepsH0 | exact keeps1 (by assumption)) (nw_eq ?_)
          rfl
    · have g2' : (400 : Int) < (S.length : Int) := by omega
      refine fn_H ([Go.ResultVar.tmp 4]) Try.func4 rfl rfl (by decide) fun ph hW Q hQ => ?_
      simp only [start, List.length_cons, List.length_nil, List.cons_append, List.nil_append, Nat.reduceAdd, Nat.reduceSub, List.replicate_succ, List.replicate_zero, Try.ntmps4]
      repeat' first | simp -implicitDefEqProofs (maxSteps := 400000) (disch := first | with_reducible rfl | omega | (simp only [wkH] <;> omega) | decide) only [wkAll, wkL, popO, wantedP, Nat.reduceAdd, Nat.reduceLeDiff, binP, lenP, builtinP, loadOp, loadP, fieldAddrOp, PK.agg, gt_iff_lt, seg, if_pos, if_neg, tf43, tf45, g1', g2', gt_iff_lt] | refine w_pure (aw) ?_
      refine hQ (by first | exact .inr rfl | exact .inl rfl) (by first | exact trivial | exact marks1) (by first | (simp -implicitDefEqProofs (maxSteps := 400000) (disch := first | with_reducible rfl | omega | (simp only [wkH] <;> omega) | decide) only [wkL, resP, resPs, resP1]; rfl) | rfl) ⟨6, by repeat' first | exact frz_scalar rfl | apply frz_tuple | apply frz_agg | apply frz_fsl | apply frz_gsl (by omega) | exact frzs_nil | apply frzs_cons⟩ (by first | exact keepsH0 | exact keeps1 (by assumption)) (nw_eq ?_)
      rfl
  · have g1' : (400 : Int) < (A.length : Int) := by omega
    refine fn_H ([Go.ResultVar.tmp 4]) Try.func4 rfl rfl (by decide) fun ph hW Q hQ => ?_
    simp only [start, List.length_cons, List.length_nil, List.cons_append, List.nil_append, Nat.reduceAdd, Nat.reduceSub, List.replicate_succ, List.replicate_zero, Try.ntmps4]
    repeat' first | simp -implicitDefEqProofs (maxSteps := 400000) (disch := first | with_reducible rfl | omega | (simp only [wkH] <;> omega) | decide) only [wkAll, wkL, popO, wantedP, binP, lenP, builtinP, gt_iff_lt, if_pos, tf43, g1', gt_iff_lt] | refine w_pure (aw) ?_
    refine hQ (by first | exact .inr rfl | exact .inl rfl) (by first | exact trivial | exact marks1) (by first | (simp -implicitDefEqProofs (maxSteps := 400000) (disch := first | with_reducible rfl | omega | (simp only [wkH] <;> omega) | decide) only [wkL, resP, resPs, resP1]; rfl) | rfl) ⟨6, by repeat' first | exact frz_scalar rfl | apply frz_tuple | apply frz_agg | apply frz_fsl | apply frz_gsl (by omega) | exact frzs_nil | apply frzs_cons⟩ (by first | exact keepsH0 | exact keeps1 (by assumption)) (nw_eq ?_)
    rfl
theorem wf_i64 {n : Int} (h : (Lit.int .i64 n).wf = true) : -9223372036854775808 ≤ n ∧ n ≤ 9223372036854775807 := by
  have h1 : IntKind.min .i64 = -9223372036854775808 := by decide
  have h2 : IntKind.max .i64 = 9223372036854775807 := by decide
  have : IntKind.min .i64 ≤ n ∧ n ≤ IntKind.max .i64 := by simpa [Lit.wf] using h
  omega
theorem okR_intsW : ∀ {n : Nat} {ps : List PV}, OkR [.int .i64] n ps → ∃ l : List Int, ps = intsC l ∧ l.length = n ∧ ∀ a ∈ l, -9223372036854775808 ≤ a ∧ a ≤ 9223372036854775807
  | _, _, .nil _ => ⟨[], rfl, rfl, by simp⟩
  | _, _, .cons _ _ _ _ h hs => by
    obtain ⟨l, rfl, rfl, hl⟩ := okR_intsW hs
    cases h with
    | cons _ _ _ _ h1 h => cases h with
      | nil =>
        cases h1 with
        | int _ k hk =>
          refine ⟨k :: l, by simp [intsC], rfl, fun a ha => ?_⟩
          rcases List.mem_cons.1 ha with rfl | h
          · exact wf_i64 hk
          · exact hl a h
theorem okR_strsB : ∀ {n : Nat} {ps : List PV}, OkR [.str] n ps → ∃ l : List (List UInt8), ps = l.map PV.str ∧ l.length = n
  | _, _, .nil _ => ⟨[], rfl, rfl⟩
  | _, _, .cons _ _ _ _ h hs => by
    obtain ⟨l, rfl, rfl⟩ := okR_strsB hs
    cases h with
    | cons _ _ _ _ h1 h => cases h with
      | nil => cases h1 with | str s hs => exact ⟨s :: l, by simp, rfl⟩
theorem okL_conf {c : List PV} (h : OkL [.sl [.int .i64], .str, .int .i64, .sl [.str]] c) : ∃ (S : List Int) (Hs : List UInt8) (P : Int) (C : List (List UInt8)), c = [.fsl 1 S.length (intsC S), .str Hs, .int .i64 P, .fsl 1 C.length (C.map PV.str)] ∧ (∀ a ∈ S, -9223372036854775808 ≤ a ∧ a ≤ 9223372036854775807) ∧ -9223372036854775808 ≤ P ∧ P ≤ 9223372036854775807 := by
  cases h with | cons _ _ p1 ps1 g1 h =>
  cases h with | cons _ _ p2 ps2 g2 h =>
  cases h with | cons _ _ p3 ps3 g3 h =>
  cases h with | cons _ _ p4 ps4 g4 h =>
  cases h
  cases g1 with | sl _ n1 cs1 _ r1 =>
  cases g2 with | str Hs _ =>
  cases g3 with | int _ P wP =>
  cases g4 with | sl _ n4 cs4 _ r4 =>
  obtain ⟨S, rfl, rfl, hS⟩ := okR_intsW r1
  obtain ⟨C, rfl, rfl⟩ := okR_strsB r4
  exact ⟨S, Hs, P, C, rfl, hS, wf_i64 wP⟩
theorem NegoAgrees_ok (W : World) (n0 : Nat) (c0 : List PV) (o0 : OkR [.int .i64] n0 c0) (c1 : List PV) (o1 : OkL [.sl [.int .i64], .str, .int .i64, .sl [.str]] c1) : Fn (Cx W) 4 [.fsl 1 n0 c0, .agg c1] (.bool true) := by
  obtain ⟨A, rfl, rfl⟩ := okR_ints o0
  obtain ⟨S, Hs, P, C, rfl, hS, -⟩ := okL_conf o1
  exact NegoAgrees_law A S Hs P C hS
end Pv
