/- Part of the proof: the layer of pure values, or walks through functions (PvNg11, PvNg19). -/
import Derived.Test.YtjomgffpkdcanaaGreatPvNg9
import Derived.Test.YtjomgffpkdcanaaGreatPvNg5
set_option linter.all false
--nosplit
--keep2
namespace Pv
set_option maxRecDepth 20000
set_option maxHeartbeats 4000000
open Go Go.Proofs Go.RowKit
def tb9_12Ng11 : Tab := [[], [0], [], [2], [], [2, 3, 4], [2, 3, 4, 5], [2, 3, 4, 5, 6], [0, 1, 2, 3, 4, 5, 6, 7], [0, 1, 2, 3, 4, 5, 6, 7, 8], [0, 1, 2, 3, 4, 5, 6, 7, 8, 9]]
def pl9_12Ng11 : PT := (.mv 2 (.mv 3 (.mv 4 (.mv 5 (.mv 6 (.fx 0 [2, 3, 4, 5, 6] (.fx 1 [2, 3, 4, 5, 6] (.fx 7 [] (.fx 8 [] (.fx 9 [] (.fx 10 [] .nil .no) .no) .no) .no) (.fx 7 [] (.fx 1 [] (.fx 8 [] (.fx 9 [] (.fx 10 [] .nil .no) .no) .no) .no) .no)) (.fx 7 [] (.fx 0 [] (.fx 1 [] (.fx 8 [] (.fx 9 [] (.fx 10 [] .nil .no) .no) .no) .no) .no) .no)))))))
def tb9_22Ng11 : Tab := [[], [], [1], [0, 1, 2], [], [4], [], [4, 5, 6], [4, 5, 6, 7], [0, 1, 2, 3], [0, 1, 2, 3, 4, 5, 6, 7, 8, 9]]
def pl9_22Ng11 : Plan := [(0, true, []), (4, true, []), (5, true, []), (6, true, []), (7, true, []), (8, true, []), (1, false, [0, 4, 5, 6, 7, 8]), (2, false, [0, 4, 5, 6, 7, 8]), (3, false, [4, 5, 6, 7, 8]), (9, false, [4, 5, 6, 7, 8]), (10, false, [])]
variable {w0 : World}

/-- What a server answers. -/
def outL (a : Int) (C : List (List UInt8)) (Hs : List UInt8) (P : Int) : List KR := [⟨true, 1, twoL 0⟩, ⟨true, 4, twoL a⟩] ++ C.map (fun s => ⟨false, 5, s⟩) ++ (if Hs = [] then [] else [⟨true, 6, Hs⟩]) ++ (if P = 0 then [] else [⟨true, 7, twoL P⟩]) ++ [⟨true, 0, []⟩]
def ansL (A : List Int) (C : List (List UInt8)) (Hs : List UInt8) (P : Int) (l : List KR) : List KR × Int :=
  if 0 ≤ idxL unkR l then ([⟨true, 2, twoL 0⟩, ⟨true, 0, []⟩], 0)
  else if (numL l 1 true).2 = false ∨ (numL l 4 true).2 = false then ([⟨true, 2, twoL 1⟩, ⟨true, 0, []⟩], 0)
  else if (numL l 1 true).1.any (fun y => (0 : Int) == y) = false then ([⟨true, 1, []⟩, ⟨true, 0, []⟩], 0)
  else if idxL (takeB (numL l 4 true).1) A < 0 then ([⟨true, 1, twoL 0⟩, ⟨true, 4, []⟩, ⟨true, 0, []⟩], 0)
  else (outL (A.getD (idxL (takeB (numL l 4 true).1) A).toNat 0) C Hs P, A.getD (idxL (takeB (numL l 4 true).1) A).toNat 0)
theorem nums_of (s : List UInt8) : (toPairsL s).1.length ≤ 512 := by
  unfold toPairsL
  split
  · simp
  · split
    · simp
    · show (numsL s).length ≤ 512
      rw [nums_len]; omega
theorem numL_le (l : List KR) (k : Int) (c : Bool) : (numL l k c).1.length ≤ 512 := by
  unfold numL
  split
  · split
    · simp
    · exact nums_of _
  · simp
theorem idxL_lt {α : Type} {p : α → Bool} {l : List α} {k : Nat} (h : idxL p l = (k : Int)) : k < l.length := by
  unfold idxL at h
  split at h
  · rename_i i hi
    obtain ⟨h1, -⟩ := List.findIdx?_eq_some_iff_getElem.1 hi
    omega
  · omega
def cp2 (j : Nat) : Option Nat := if j = 0 then some 2 else none
def out0L (a : Int) (C : List (List UInt8)) : List KR := [⟨true, 1, twoL 0⟩, ⟨true, 4, twoL a⟩] ++ C.map (fun s => ⟨false, 5, s⟩)
theorem out0L_len (a : Int) (C : List (List UInt8)) : (out0L a C).length = 2 + C.length := by simp [out0L]; omega
theorem krsC_app (a b : List KR) : krsC (a ++ b) = krsC a ++ krsC b := by simp [krsC]
theorem krsC_cok (l : List KR) : (krsC l).all cellOk = true := by
  induction l with
  | nil => rfl
  | cons r l ih =>
    show (krC r ++ krsC l).all cellOk = true
    rw [List.all_append, ih]; rfl
theorem frz_whole {ph : PH} {n d p e l : Nat} {cap : Option Nat} {cells : List PV} (hn : n ≤ p) (hp : ph.get p = some cells) (hl : cells.length = l * e) (hs : cells.all scalarV = true) : frz ph n (d + 2) (.sl p 0 e l cap) = some (.fsl e l cells) :=
  frz_sl hn hp (by omega) (by
    have : seg cells 0 (l * e) = cells := by unfold seg; rw [List.drop_zero]; exact List.take_of_length_le (by omega)
    rw [this]; exact frzs_scalars hs)
theorem negoAnswer_ok (A : List Int) (C : List (List UInt8)) (Hs : List UInt8) (P : Int) (l : List KR) (hA : A.length < 2 ^ 40) (hC : C.length < 2 ^ 40) (hl : l.length < 2 ^ 40) (hb : ∀ r ∈ l, r.b.length < 2 ^ 50) (hA2 : ∀ a ∈ A, -9223372036854775808 ≤ a ∧ a ≤ 9223372036854775807) (hP : -9223372036854775808 ≤ P ∧ P ≤ 9223372036854775807) : Fn (Cx w0) 9 [.agg [.fsl 1 A.length (intsC A), .str Hs, .int .i64 P, .fsl 1 C.length (C.map PV.str)], .fsl 3 l.length (krsC l)] (.tuple [.fsl 3 (ansL A C Hs P l).1.length (krsC (ansL A C Hs P l).1), .int .i64 (ansL A C Hs P l).2]) := by
  have t1 := negoNumbers_ok (w0 := w0) l 1 true hl hb
  have t2 := negoNumbers_ok (w0 := w0) l 4 true hl hb
  have tu := keUnknown_ok (w0 := w0) l hl
  have n1 := numL_le l 1 true
  have n2 := numL_le l 4 true
  have tc := contains_ok (w0 := w0) (numL l 1 true).1 0 (by omega)
  have m0 := must_ok (w0 := w0) 0 [] (by decide) (by simp)
  by_cases h1 : 0 ≤ idxL unkR l
  · rw [show ansL A C Hs P l = ([⟨true, 2, twoL 0⟩, ⟨true, 0, []⟩], 0) by rw [ansL, if_pos h1]]
    refine fn_H ([Go.ResultVar.tmp 4, Go.ResultVar.tmp 5]) Tryz.func9 rfl rfl (by decide) fun ph hW Q hQ => ?_
    simp only [start, List.length_cons, List.length_nil, List.cons_append, List.nil_append, Nat.reduceAdd, Nat.reduceSub, List.replicate_succ, List.replicate_zero, Tryz.ntmps9]
    repeat' first | simp -implicitDefEqProofs (maxSteps := 400000) (disch := first | with_reducible rfl | omega | (simp only [wkH] <;> omega) | decide) only [wkAll, wkL, popO, wantedP, ne_eq, Nat.reduceAdd, Nat.reduceLeDiff, Nat.reduceLT, binP, storeOp, buildSliceP, fillP, setL, gt_iff_lt, Nat.reducePow, reps, if_pos, if_neg, tf3, Tryz.ze3, tf22, Tryz.ze22, h1] | refine w_pure (t1) ?_ | refine w_pure (t2) ?_ | refine w_pure (tu) ?_ | refine And.intro ?_ ?_ | refine w_drawnTF (id := 12) tb9_12Ng11 pl9_12Ng11 [0, 1, 2, 3, 4, 5, 6, 7, 8, 9, 10] 71 (by kernel_rfl) (by kernel_rfl) (by simp) ?_ | refine w_drawnF (id := 22) tb9_22Ng11 pl9_22Ng11 112 (by kernel_rfl) (by kernel_rfl) (by simp) ?_
    refine w_frz (p := ph.n + 2) (cells := [.int .i64 0]) (args' := [.int .i64 2, .fsl 1 1 [.int .i64 0]]) (by rw [h_get]; rfl) ⟨.inl rfl, .inr ⟨0, 1, 1, some 1, rfl, rfl, by simp⟩, trivial⟩ ?_
    refine w_pure (must_ok (w0 := w0) 2 [0] (by decide) (by simp)) ?_
    repeat' first | simp -implicitDefEqProofs (maxSteps := 400000) (disch := first | with_reducible rfl | omega | (simp only [wkH] <;> omega) | decide) only [wkAll, wkL, popO, wantedP, ne_eq, Nat.reduceAdd, Nat.reduceMul, Nat.reduceLeDiff, Nat.reduceLT, buildSliceP, fillP, setL, gt_iff_lt, Nat.reducePow, reps, if_pos, if_neg, tf26, tf46, Tryz.ze46, krC] | refine w_pureN m0 (nws_cons (nw_eq rfl) (nws_cons nw_nil nws_nil)) ?_ | refine And.intro ?_ ?_ | refine w_drawnTF (id := 12) tb9_12Ng11 pl9_12Ng11 [0, 1, 2, 3, 4, 5, 6, 7, 8, 9, 10] 71 (by kernel_rfl) (by kernel_rfl) (by simp) ?_ | refine w_drawnF (id := 22) tb9_22Ng11 pl9_22Ng11 112 (by kernel_rfl) (by kernel_rfl) (by simp) ?_
    refine hQ (by first | exact .inr rfl | exact .inl rfl) (by first | exact trivial | exact marks1) (by first | (simp -implicitDefEqProofs (maxSteps := 400000) (disch := first | with_reducible rfl | omega | (simp only [wkH] <;> omega) | decide) only [wkL, resP, resPs, resP1]; rfl) | rfl) ⟨6, by repeat' first | exact frz_scalar rfl | apply frz_tuple | apply frz_agg | apply frz_fsl | apply frz_gsl (by omega) | exact frzs_nil | apply frzs_cons | exact frz_sl (cells := krsC [⟨true, 2, twoL 0⟩, ⟨true, 0, []⟩]) (qs := krsC [⟨true, 2, twoL 0⟩, ⟨true, 0, []⟩]) (by omega) (by rw [h_shut0, h_get]; rfl) (by simp [krsC, krC]) (frzs_scalars rfl)⟩ (by first | exact keepsH0 | exact keeps1 (by assumption)) (nw_eq ?_)
    rfl
  by_cases h2 : (numL l 1 true).2 = false ∨ (numL l 4 true).2 = false
  · rw [show ansL A C Hs P l = ([⟨true, 2, twoL 1⟩, ⟨true, 0, []⟩], 0) by rw [ansL, if_neg h1, if_pos h2]]
    obtain ⟨b1, hb1⟩ : ∃ b, b = (numL l 1 true).2 := ⟨_, rfl⟩
    obtain ⟨b2, hb2⟩ : ∃ b, b = (numL l 4 true).2 := ⟨_, rfl⟩
    rw [← hb1] at t1 h2
    rw [← hb2] at t2 h2
    have hor : b1 = false ∨ (b1 = true ∧ b2 = false) := by
      clear t1 t2 hb1 hb2 hb
      rcases h2 with h | h
      · exact .inl h
      · rcases b1 with _ | _
        · exact .inl rfl
        · exact .inr ⟨rfl, h⟩
    rcases hor with rfl | ⟨rfl, rfl⟩
    all_goals
      refine fn_H ([Go.ResultVar.tmp 4, Go.ResultVar.tmp 5]) Tryz.func9 rfl rfl (by decide) fun ph hW Q hQ => ?_
      simp only [start, List.length_cons, List.length_nil, List.cons_append, List.nil_append, Nat.reduceAdd, Nat.reduceSub, List.replicate_succ, List.replicate_zero, Tryz.ntmps9]
      repeat' first | simp -implicitDefEqProofs (maxSteps := 400000) (disch := first | with_reducible rfl | omega | (simp only [wkH] <;> omega) | decide) only [wkAll, wkL, popO, wantedP, ne_eq, Nat.reduceAdd, Nat.reduceLeDiff, Nat.reduceLT, binP, unP, storeOp, buildSliceP, fillP, setL, gt_iff_lt, Nat.reducePow, reps, if_pos, if_neg, tf3, Tryz.ze3, tf22, Tryz.ze22, h1] | refine w_pure (t1) ?_ | refine w_pure (t2) ?_ | refine w_pure (tu) ?_ | refine And.intro ?_ ?_ | refine w_drawnTF (id := 12) tb9_12Ng11 pl9_12Ng11 [0, 1, 2, 3, 4, 5, 6, 7, 8, 9, 10] 71 (by kernel_rfl) (by kernel_rfl) (by simp) ?_ | refine w_drawnF (id := 22) tb9_22Ng11 pl9_22Ng11 112 (by kernel_rfl) (by kernel_rfl) (by simp) ?_
      refine w_frz (p := ph.n + 2) (cells := [.int .i64 1]) (args' := [.int .i64 2, .fsl 1 1 [.int .i64 1]]) (by rw [h_get]; rfl) ⟨.inl rfl, .inr ⟨0, 1, 1, some 1, rfl, rfl, by simp⟩, trivial⟩ ?_
      refine w_pure (must_ok (w0 := w0) 2 [1] (by decide) (by simp)) ?_
      repeat' first | simp -implicitDefEqProofs (maxSteps := 400000) (disch := first | with_reducible rfl | omega | (simp only [wkH] <;> omega) | decide) only [wkAll, wkL, popO, wantedP, ne_eq, Nat.reduceAdd, Nat.reduceMul, Nat.reduceLeDiff, Nat.reduceLT, buildSliceP, fillP, setL, gt_iff_lt, Nat.reducePow, reps, if_pos, if_neg, tf26, tf46, Tryz.ze46, krC] | refine w_pureN m0 (nws_cons (nw_eq rfl) (nws_cons nw_nil nws_nil)) ?_ | refine And.intro ?_ ?_ | refine w_drawnTF (id := 12) tb9_12Ng11 pl9_12Ng11 [0, 1, 2, 3, 4, 5, 6, 7, 8, 9, 10] 71 (by kernel_rfl) (by kernel_rfl) (by simp) ?_ | refine w_drawnF (id := 22) tb9_22Ng11 pl9_22Ng11 112 (by kernel_rfl) (by kernel_rfl) (by simp) ?_
      refine hQ (by first | exact .inr rfl | exact .inl rfl) (by first | exact trivial | exact marks1) (by first | (simp -implicitDefEqProofs (maxSteps := 400000) (disch := first | with_reducible rfl | omega | (simp only [wkH] <;> omega) | decide) only [wkL, resP, resPs, resP1]; rfl) | rfl) ⟨6, by repeat' first | exact frz_scalar rfl | apply frz_tuple | apply frz_agg | apply frz_fsl | apply frz_gsl (by omega) | exact frzs_nil | apply frzs_cons | exact frz_sl (cells := krsC [⟨true, 2, twoL 1⟩, ⟨true, 0, []⟩]) (qs := krsC [⟨true, 2, twoL 1⟩, ⟨true, 0, []⟩]) (by omega) (by rw [h_shut0, h_get]; rfl) (by simp [krsC, krC]) (frzs_scalars rfl)⟩ (by first | exact keepsH0 | exact keeps1 (by assumption)) (nw_eq ?_)
      rfl
  have hb1 : (numL l 1 true).2 = true := eq_true_of_ne_false fun h => h2 (.inl h)
  have hb2 : (numL l 4 true).2 = true := eq_true_of_ne_false fun h => h2 (.inr h)
  rw [hb1] at t1
  rw [hb2] at t2
  have m1 := must_ok (w0 := w0) 1 [] (by decide) (by simp)
  have m4 := must_ok (w0 := w0) 4 [] (by decide) (by simp)
  by_cases h3 : (numL l 1 true).1.any (fun y => (0 : Int) == y) = false
  · rw [show ansL A C Hs P l = ([⟨true, 1, []⟩, ⟨true, 0, []⟩], 0) by rw [ansL, if_neg h1, if_neg h2, if_pos h3]]
    rw [h3] at tc
    refine fn_H ([Go.ResultVar.tmp 4, Go.ResultVar.tmp 5]) Tryz.func9 rfl rfl (by decide) fun ph hW Q hQ => ?_
    simp only [start, List.length_cons, List.length_nil, List.cons_append, List.nil_append, Nat.reduceAdd, Nat.reduceSub, List.replicate_succ, List.replicate_zero, Tryz.ntmps9]
    repeat' first | simp -implicitDefEqProofs (maxSteps := 400000) (disch := first | with_reducible rfl | omega | (simp only [wkH] <;> omega) | decide) only [wkAll, wkL, popO, wantedP, ne_eq, Nat.reduceAdd, Nat.reduceMul, Nat.reduceLeDiff, Nat.reduceLT, binP, unP, storeOp, buildSliceP, fillP, setL, gt_iff_lt, Nat.reducePow, reps, if_pos, if_neg, tf22, Tryz.ze22, tf26, tf46, Tryz.ze46, h1, krC] | refine w_pure (t1) ?_ | refine w_pure (t2) ?_ | refine w_pure (tu) ?_ | refine w_pure (tc) ?_ | refine w_pureN m1 (nws_cons (nw_eq rfl) (nws_cons nw_nil nws_nil)) ?_ | refine w_pureN m0 (nws_cons (nw_eq rfl) (nws_cons nw_nil nws_nil)) ?_ | refine And.intro ?_ ?_ | refine w_drawnTF (id := 12) tb9_12Ng11 pl9_12Ng11 [0, 1, 2, 3, 4, 5, 6, 7, 8, 9, 10] 71 (by kernel_rfl) (by kernel_rfl) (by simp) ?_ | refine w_drawnF (id := 22) tb9_22Ng11 pl9_22Ng11 112 (by kernel_rfl) (by kernel_rfl) (by simp) ?_
    refine hQ (by first | exact .inr rfl | exact .inl rfl) (by first | exact trivial | exact marks1) (by first | (simp -implicitDefEqProofs (maxSteps := 400000) (disch := first | with_reducible rfl | omega | (simp only [wkH] <;> omega) | decide) only [wkL, resP, resPs, resP1]; rfl) | rfl) ⟨6, by repeat' first | exact frz_scalar rfl | apply frz_tuple | apply frz_agg | apply frz_fsl | apply frz_gsl (by omega) | exact frzs_nil | apply frzs_cons | exact frz_sl (cells := krsC [⟨true, 1, []⟩, ⟨true, 0, []⟩]) (qs := krsC [⟨true, 1, []⟩, ⟨true, 0, []⟩]) (by omega) (by rw [h_shut0, h_get]; rfl) (by simp [krsC, krC]) (frzs_scalars rfl)⟩ (by first | exact keepsH0 | exact keeps1 (by assumption)) (nw_eq ?_)
    rfl
  have h3' : (numL l 1 true).1.any (fun y => (0 : Int) == y) = true := by simpa using h3
  rw [h3'] at tc
  obtain ⟨W, hW4⟩ : ∃ W, W = (numL l 4 true).1 := ⟨_, rfl⟩
  rw [← hW4] at t2 n2
  have ta := fun (H1 : PH) (c : Nat) (hc : H1.get c = some [.fsl 1 W.length (intsC W)]) => indexF_ok (w0 := w0) H1 34 c [.fsl 1 W.length (intsC W)] (takeB W) hc (fun H2 h2 x => answer1_ok W (by omega) x c H2 h2) A hA
  by_cases h5 : idxL (takeB W) A < 0
  · rw [show ansL A C Hs P l = ([⟨true, 1, twoL 0⟩, ⟨true, 4, []⟩, ⟨true, 0, []⟩], 0) by rw [ansL, if_neg h1, if_neg h2, if_neg h3, if_pos (by rw [← hW4]; exact h5)]]
    refine fn_H ([Go.ResultVar.tmp 4, Go.ResultVar.tmp 5]) Tryz.func9 rfl rfl (by decide) fun ph hW Q hQ => ?_
    simp only [start, List.length_cons, List.length_nil, List.cons_append, List.nil_append, Nat.reduceAdd, Nat.reduceSub, List.replicate_succ, List.replicate_zero, Tryz.ntmps9]
    repeat' first | simp -implicitDefEqProofs (maxSteps := 400000) (disch := first | with_reducible rfl | omega | (simp only [wkH] <;> omega) | decide) only [wkAll, wkL, popO, wantedP, Nat.reduceAdd, Nat.reduceLeDiff, binP, unP, loadOp, storeOp, loadP, fieldAddrOp, setL, PK.agg, seg, if_pos, if_neg, tf22, Tryz.ze22, tf25, h1] | refine w_pure (t1) ?_ | refine w_pure (t2) ?_ | refine w_pure (tu) ?_ | refine w_pure (tc) ?_ | refine And.intro ?_ ?_ | refine w_drawnTF (id := 12) tb9_12Ng11 pl9_12Ng11 [0, 1, 2, 3, 4, 5, 6, 7, 8, 9, 10] 71 (by kernel_rfl) (by kernel_rfl) (by simp) ?_ | refine w_drawnF (id := 22) tb9_22Ng11 pl9_22Ng11 112 (by kernel_rfl) (by kernel_rfl) (by simp) ?_
    refine w_eff (ta _ (ph.n + 1) (by rw [h_get]; rfl)) ?_
    repeat' first | simp -implicitDefEqProofs (maxSteps := 400000) (disch := first | with_reducible rfl | omega | (simp only [wkH] <;> omega) | decide) only [wkAll, wkL, popO, wantedP, ne_eq, Nat.reduceAdd, Nat.reduceLeDiff, Nat.reduceLT, binP, buildSliceP, fillP, setL, gt_iff_lt, Nat.reducePow, reps, if_pos, if_neg, tf3, Tryz.ze3, tf22, h5] | refine And.intro ?_ ?_ | refine w_drawnTF (id := 12) tb9_12Ng11 pl9_12Ng11 [0, 1, 2, 3, 4, 5, 6, 7, 8, 9, 10] 71 (by kernel_rfl) (by kernel_rfl) (by simp) ?_ | refine w_drawnF (id := 22) tb9_22Ng11 pl9_22Ng11 112 (by kernel_rfl) (by kernel_rfl) (by simp) ?_
    refine w_frz (p := ph.n + 2) (cells := [.int .i64 0]) (args' := [.int .i64 1, .fsl 1 1 [.int .i64 0]]) (by rw [h_get]; rfl) ⟨.inl rfl, .inr ⟨0, 1, 1, some 1, rfl, rfl, by simp⟩, trivial⟩ ?_
    refine w_pure (must_ok (w0 := w0) 1 [0] (by decide) (by simp)) ?_
    repeat' first | simp -implicitDefEqProofs (maxSteps := 400000) (disch := first | with_reducible rfl | omega | (simp only [wkH] <;> omega) | decide) only [wkAll, wkL, popO, wantedP, ne_eq, Nat.reduceAdd, Nat.reduceMul, Nat.reduceLeDiff, Nat.reduceLT, buildSliceP, fillP, setL, gt_iff_lt, Nat.reducePow, reps, if_pos, if_neg, tf26, tf46, Tryz.ze46, krC] | refine w_pureN m4 (nws_cons (nw_eq rfl) (nws_cons nw_nil nws_nil)) ?_ | refine w_pureN m0 (nws_cons (nw_eq rfl) (nws_cons nw_nil nws_nil)) ?_ | refine And.intro ?_ ?_ | refine w_drawnTF (id := 12) tb9_12Ng11 pl9_12Ng11 [0, 1, 2, 3, 4, 5, 6, 7, 8, 9, 10] 71 (by kernel_rfl) (by kernel_rfl) (by simp) ?_ | refine w_drawnF (id := 22) tb9_22Ng11 pl9_22Ng11 112 (by kernel_rfl) (by kernel_rfl) (by simp) ?_
    refine hQ (by first | exact .inr rfl | exact .inl rfl) (by first | exact trivial | exact marks1) (by first | (simp -implicitDefEqProofs (maxSteps := 400000) (disch := first | with_reducible rfl | omega | (simp only [wkH] <;> omega) | decide) only [wkL, resP, resPs, resP1]; rfl) | rfl) ⟨6, by repeat' first | exact frz_scalar rfl | apply frz_tuple | apply frz_agg | apply frz_fsl | apply frz_gsl (by omega) | exact frzs_nil | apply frzs_cons | exact frz_sl (cells := krsC [⟨true, 1, twoL 0⟩, ⟨true, 4, []⟩, ⟨true, 0, []⟩]) (qs := krsC [⟨true, 1, twoL 0⟩, ⟨true, 4, []⟩, ⟨true, 0, []⟩]) (by omega) (by rw [h_shut0, h_get]; rfl) (by simp [krsC, krC]) (frzs_scalars rfl)⟩ (by first | exact keepsH0 | exact keeps1 (by assumption)) (nw_eq ?_)
    rfl
  · obtain ⟨k, hk⟩ : ∃ k : Nat, idxL (takeB W) A = (k : Int) := ⟨(idxL (takeB W) A).toNat, by omega⟩
    have hk0 : ¬ (k : Int) < 0 := by omega
    have hkl := idxL_lt hk
    obtain ⟨a, ha⟩ := get_some hkl
    have hda := intsC_drop A k a ha
    have hla := intsC_len A
    have hlt : (k : Int) < (A.length : Int) := by omega
    have hga : A.getD k 0 = a := by rw [List.getD_eq_getElem?_getD, ha]; rfl
    have har := hA2 a (List.mem_of_getElem? ha)
    rw [show ansL A C Hs P l = (outL a C Hs P, a) by rw [ansL, if_neg h1, if_neg h2, if_neg h3, if_neg (by rw [← hW4]; exact h5), ← hW4, hk, Int.toNat_natCast, hga]]
    refine fn_H ([Go.ResultVar.tmp 4, Go.ResultVar.tmp 5]) Tryz.func9 rfl rfl (by decide) fun ph hW Q hQ => ?_
    simp only [start, List.length_cons, List.length_nil, List.cons_append, List.nil_append, Nat.reduceAdd, Nat.reduceSub, List.replicate_succ, List.replicate_zero, Tryz.ntmps9]
    repeat' first | simp -implicitDefEqProofs (maxSteps := 400000) (disch := first | with_reducible rfl | omega | (simp only [wkH] <;> omega) | decide) only [wkAll, wkL, popO, wantedP, Nat.reduceAdd, Nat.reduceLeDiff, binP, unP, loadOp, storeOp, loadP, fieldAddrOp, setL, PK.agg, seg, if_pos, if_neg, tf22, Tryz.ze22, tf25, h1] | refine w_pure (t1) ?_ | refine w_pure (t2) ?_ | refine w_pure (tu) ?_ | refine w_pure (tc) ?_ | refine And.intro ?_ ?_ | refine w_drawnTF (id := 12) tb9_12Ng11 pl9_12Ng11 [0, 1, 2, 3, 4, 5, 6, 7, 8, 9, 10] 71 (by kernel_rfl) (by kernel_rfl) (by simp) ?_ | refine w_drawnF (id := 22) tb9_22Ng11 pl9_22Ng11 112 (by kernel_rfl) (by kernel_rfl) (by simp) ?_
    refine w_eff (ta _ (ph.n + 1) (by rw [h_get]; rfl)) ?_
    rw [hk]
    repeat' first | simp -implicitDefEqProofs (maxSteps := 400000) (disch := first | with_reducible rfl | omega | (simp only [wkH] <;> omega) | decide) only [wkAll, wkL, popO, wantedP, ne_eq, Nat.reduceAdd, Nat.reduceMul, Nat.reduceLeDiff, Nat.reduceLT, binP, lenP, builtinP, indexAddrOp, loadOp, loadP, fieldAddrOp, buildSliceP, fillP, setL, PK.agg, gt_iff_lt, Nat.reducePow, reps, seg, if_pos, if_neg, t_nil, t_no, t_mv, t_fx, t_op, t_true, t_mvk, t_se, tf3, Tryz.ze3, tf22, tf23, tf25, tf26, tf46, Tryz.ze46, pl9_12Ng11, hk0, hda, hlt, krC] | refine w_frz (p := ph.n + 2) (cells := [.int .i64 0]) (args' := [.int .i64 1, .fsl 1 1 [.int .i64 0]]) (by rw [h_get]; rfl) ⟨.inl rfl, .inr ⟨0, 1, 1, some 1, rfl, rfl, by simp⟩, trivial⟩ ?_ | refine w_frz (p := ph.n + 3) (cells := [.int .i64 0]) (args' := [.int .i64 1, .fsl 1 1 [.int .i64 0]]) (by rw [h_get]; rfl) ⟨.inl rfl, .inr ⟨0, 1, 1, some 1, rfl, rfl, by simp⟩, trivial⟩ ?_ | refine w_frz (p := ph.n + 2) (cells := [.int .i64 a]) (args' := [.int .i64 4, .fsl 1 1 [.int .i64 a]]) (by rw [h_get]; rfl) ⟨.inl rfl, .inr ⟨0, 1, 1, some 1, rfl, rfl, by simp⟩, trivial⟩ ?_ | refine w_frz (p := ph.n + 3) (cells := [.int .i64 a]) (args' := [.int .i64 4, .fsl 1 1 [.int .i64 a]]) (by rw [h_get]; rfl) ⟨.inl rfl, .inr ⟨0, 1, 1, some 1, rfl, rfl, by simp⟩, trivial⟩ ?_ | refine w_pure (must_ok (w0 := w0) 1 [0] (by decide) (by simp)) ?_ | refine w_pure (must_ok (w0 := w0) 4 [a] (by show 1 < 2 ^ 40; decide) (by simpa using har)) ?_ | refine And.intro ?_ ?_ | refine w_drawnTF (id := 12) tb9_12Ng11 pl9_12Ng11 [0, 1, 2, 3, 4, 5, 6, 7, 8, 9, 10] 71 (by kernel_rfl) (by kernel_rfl) (by simp) ?_ | refine w_drawnF (id := 22) tb9_22Ng11 pl9_22Ng11 112 (by kernel_rfl) (by kernel_rfl) (by simp) ?_
    all_goals
      have e0 : ([PV.bool true, PV.int IntKind.i64 1, PV.str (List.flatMap twoL [0]), PV.bool true, PV.int IntKind.i64 4, PV.str (List.flatMap twoL [a])] : List PV) = krsC (out0L a (C.take 0)) := by simp [out0L, krsC, krC]
      rw [e0]
      refine w_loopJ (α := Nat × List (Option Blk)) ph.ob ph.ty (fun a => H ph a.2 ph.ob ph.ty) (fun B b => [.undef, .undef, .ptr ph.n 0, .undef, .undef, .undef, .undef, .undef, .undef, .undef, .int .i64 k, .sl B.n 0 3 (2 + b.1) (cp2 b.1), .undef, .undef, .undef, .undef, .undef, .undef, .undef, .undef, .undef, .undef, .undef, .undef, .undef, .undef, .undef, .undef, .undef, .undef, .undef, .undef, .undef, .undef, .undef, .undef, .undef, .undef, .undef, .undef, .undef, .undef, .undef, .undef, .undef, .undef, .undef, .undef, .undef, .undef, .undef, .undef, .undef, .undef, .undef, .undef, .undef, .undef, .undef, .undef, .undef, .undef, .undef, .undef, .undef, .undef, .undef, .undef, .undef, .undef, .undef, .undef, .fsl 1 C.length (C.map PV.str), .int .i64 C.length, .int .i64 b.1, .undef, .undef, .undef, .undef, .undef, .undef, .undef, .undef, .undef, .undef, .undef, .undef, .undef, .undef, .undef, .undef, .undef, .undef, .undef, .undef, .undef, .undef, .undef, .undef, .undef, .undef, .undef, .undef, .undef, .undef, .undef, .undef, .undef, .undef, .undef, .undef, .undef]) (fun b => [some (.own (krsC (out0L a (C.take b.1))))]) (fun b => b.1 ≤ C.length ∧ ∃ J', b.2 = some (.own [.fsl 1 A.length (intsC A), .str Hs, .int .i64 P, .fsl 1 C.length (C.map PV.str)]) :: J') (fun b => C.length - b.1) (0, [some (.own [.fsl 1 A.length (intsC A), .str Hs, .int .i64 P, .fsl 1 C.length (C.map PV.str)]), some (.own [.fsl 1 W.length (intsC W)]), none, none]) ⟨by simp, _, rfl⟩ (fun a _ => by simp [h_n]; omega) (.eq (by simp [FadeTo, h_n, cp2]) (by simp [h_app])) ?_
      rintro ⟨i, J⟩ ⟨hi, J', hJ⟩ B hB K hK
      simp only at hi hB hJ ⊢
      subst hJ
      have hBn : ph.n < B.n := by rw [hB, h_n]; simp
      have hBg : B.get ph.n = some [.fsl 1 A.length (intsC A), .str Hs, .int .i64 P, .fsl 1 C.length (C.map PV.str)] := by rw [hB, h_get0]; rfl
      have hkeep : ∀ {l : List (Option Blk)}, Keeps ph (H B l ph.ob ph.ty) := by intro l; rw [hB, h_app]; exact keepsH0
      rcases Nat.lt_or_ge i C.length with hlt | hge
      · have hlt' : (i : Int) < (C.length : Int) := by omega
        obtain ⟨s, hs⟩ := get_some hlt
        have hcs : (C.map PV.str)[i]? = some (.str s) := by rw [List.getElem?_map, hs]; rfl
        have hn : out0L a (C.take (i + 1)) = out0L a (C.take i) ++ [⟨false, 5, s⟩] := by rw [take_snoc hs]; simp [out0L]
        have hK1 := fun J2 tm ph' h => hK (i + 1, some (.own [.fsl 1 A.length (intsC A), .str Hs, .int .i64 P, .fsl 1 C.length (C.map PV.str)]) :: J2) tm ph' ⟨by show i + 1 ≤ _; omega, J2, rfl⟩ (by show C.length - (i + 1) < C.length - i; omega) h
        simp only [show cp2 (i + 1) = none from rfl] at hK1
        clear hK
        have hol : (krsC (out0L a (C.take i))).length = (2 + i) * 3 := by rw [krsC_len, out0L_len, List.length_take]; omega
        have hok : (krsC (out0L a (C.take i))).all cellOk = true := krsC_cok _
        have hn2 : krsC (out0L a (C.take i)) ++ [.bool false, .int .i64 5, .str s] = krsC (out0L a (C.take (i + 1))) := by rw [hn, krsC_app]; rfl
        generalize krsC (out0L a (C.take i)) = o at *
        rcases Nat.eq_zero_or_pos i with rfl | hp
        · rw [show cp2 0 = some 2 from rfl]
          have hlt0 : (0 : Int) < (C.length : Int) := by omega
          have ht6 : List.take 6 o = o := List.take_of_length_le (by omega)
          have hol6 : o.length = 6 := by omega
          repeat' first | simp -implicitDefEqProofs (maxSteps := 400000) (disch := first | with_reducible rfl | omega | (simp only [wkH] <;> omega) | decide) only [wkAll, wkL, popO, wantedP, ne_eq, Nat.reduceAdd, Nat.reduceMul, Nat.reduceLeDiff, Nat.reduceLT, reduceCtorEq, Int.reduceLE, Int.reduceToNat, Int.reduceAdd, binP, builtinP, appendT, appendP, srcP, indexAddrOp, loadOp, loadP, buildP, buildSliceP, placeF, fillP, setL, PK.agg, gt_iff_lt, Nat.reducePow, reps, seg, wkN, if_pos, if_neg, tf9, tf23, tf26, tf46, Tryz.ze46, hlt0, hcs, hol6, hok, ht6, hn2] | refine And.intro ?_ ?_ | refine w_drawnTF (id := 12) tb9_12Ng11 pl9_12Ng11 [0, 1, 2, 3, 4, 5, 6, 7, 8, 9, 10] 71 (by kernel_rfl) (by kernel_rfl) (by simp) ?_ | refine w_drawnF (id := 22) tb9_22Ng11 pl9_22Ng11 112 (by kernel_rfl) (by kernel_rfl) (by simp) ?_
          exact hK1 (J' ++ [some (.own o), some (.own [.bool false, .int .i64 5, .str s])]) _ _ (.eq (by subst hB; simp [FadeTo, h_n, Nat.add_assoc]) (by subst hB; simp [h_app]))
        · rw [show cp2 i = none by unfold cp2; rw [if_neg (by omega)]]
          have hmx : ((2 + i + 1) * 32 ≤ 140737488355328) = True := by simp; omega
          repeat' first | simp -implicitDefEqProofs (maxSteps := 400000) (disch := first | with_reducible rfl | omega | (simp only [wkH] <;> omega) | decide) only [wkAll, wkL, popO, wantedP, ne_eq, Nat.reduceAdd, Nat.reduceLeDiff, Nat.reduceLT, reduceCtorEq, binP, builtinP, appendT, appendP, srcP, indexAddrOp, loadOp, loadP, buildP, buildSliceP, placeF, fillP, setL, PK.agg, gt_iff_lt, Nat.reducePow, reps, seg, wkN, if_pos, if_neg, tf9, tf23, tf26, tf46, Tryz.ze46, hlt', List.getElem?_drop, hcs, hol, hok, hmx, hn2] | refine And.intro ?_ ?_ | refine w_drawnTF (id := 12) tb9_12Ng11 pl9_12Ng11 [0, 1, 2, 3, 4, 5, 6, 7, 8, 9, 10] 71 (by kernel_rfl) (by kernel_rfl) (by simp) ?_ | refine w_drawnF (id := 22) tb9_22Ng11 pl9_22Ng11 112 (by kernel_rfl) (by kernel_rfl) (by simp) ?_
          exact hK1 (J' ++ [none, some (.own [.bool false, .int .i64 5, .str s])]) _ _ (.eq (by subst hB; simp [FadeTo, h_n, Nat.add_assoc]) (by subst hB; simp [h_app]))
      · have hge' : ¬ (i : Int) < (C.length : Int) := by omega
        have hi2 : i = C.length := by omega
        rw [List.take_of_length_le hge]
        clear hK
        have hol : (krsC (out0L a C)).length = (2 + i) * 3 := by rw [krsC_len, out0L_len]; omega
        have hok : (krsC (out0L a C)).all cellOk = true := krsC_cok _
        have hsc : (krsC (out0L a C)).all scalarV = true := krsC_ok _
        have hol2 : (out0L a C).length = 2 + i := by rw [out0L_len]; omega
        have houtl : (outL a C Hs P).length = 2 + i + (if Hs = [] then 0 else 1) + (if P = 0 then 0 else 1) + 1 := by
          rw [← hol2]; unfold outL out0L; split <;> split <;> simp
        have hout : krsC (outL a C Hs P) = krsC (out0L a C) ++ (if Hs = [] then [] else [.bool true, .int .i64 6, .str Hs]) ++ (if P = 0 then [] else [.bool true, .int .i64 7, .str (twoL P)]) ++ [.bool true, .int .i64 0, .str []] := by
          unfold outL out0L; split <;> split <;> simp [krsC, krC]
        rw [hout, houtl] at hQ
        generalize krsC (out0L a C) = o at *
        have m7 := must_ok (w0 := w0) 7 [P] (by show 1 < 2 ^ 40; decide) (by simpa using hP)
        have hmx : ∀ c, c ≤ 4 → ((2 + i + c) * 32 ≤ 140737488355328) = True := by intro c hc; simp; omega
        have hmx1 := hmx 1 (by omega)
        have hmx2 : ((2 + i + 1 + 1) * 32 ≤ 140737488355328) = True := hmx 2 (by omega)
        have hmx3 : ((2 + i + 1 + 1 + 1) * 32 ≤ 140737488355328) = True := hmx 3 (by omega)
        have hm1 : ((2 + i + 1) * 3 = (2 + i) * 3 + 3) = True := by simp; omega
        have hm2 : ((2 + i + 1 + 1) * 3 = (2 + i) * 3 + 3 + 3) = True := by simp; omega
        have ht : List.take ((2 + i) * 3) o = o := List.take_of_length_le (by omega)
        clear houtl hout hmx
        rcases Nat.eq_zero_or_pos i with hz | hp
        all_goals by_cases hH : Hs = []
        all_goals by_cases hPz : P = 0
        all_goals first
          | rw [show cp2 i = some 2 by rw [hz]; rfl]
          | rw [show cp2 i = none by unfold cp2; rw [if_neg (by omega)]]
        all_goals
          first | have cH := strEqT hH | have cH := strEqF hH
          first | have cP := bneF hPz | have cP := bneT hPz
          repeat' first | simp -implicitDefEqProofs (maxSteps := 400000) (disch := first | with_reducible rfl | omega | (simp only [wkH] <;> omega) | decide) only [wkAll, wkL, popO, wantedP, ne_eq, Nat.reduceAdd, Nat.reduceLeDiff, Nat.reduceLT, reduceCtorEq, binP, builtinP, appendT, appendP, srcP, indexAddrOp, loadOp, loadP, fieldAddrOp, buildP, buildSliceP, placeF, fillP, setL, PK.agg, gt_iff_lt, Nat.reducePow, reps, seg, if_pos, if_neg, tf3, Tryz.ze3, tf9, tf22, tf25, tf26, tf46, Tryz.ze46, pl9_22Ng11, hge', h_getlt hBn, hBg, cH, cP, hol, hok, hda, hlt, krC, hmx1, hmx2, hmx3, hm1, hm2, ht, List.all_append] | refine w_frz (p := B.n + 1) (cells := [.int .i64 P]) (args' := [.int .i64 7, .fsl 1 1 [.int .i64 P]]) (by rw [h_get]; rfl) ⟨.inl rfl, .inr ⟨0, 1, 1, some 1, rfl, rfl, by simp⟩, trivial⟩ ?_ | refine w_frz (p := B.n + 3) (cells := [.int .i64 P]) (args' := [.int .i64 7, .fsl 1 1 [.int .i64 P]]) (by rw [h_get]; rfl) ⟨.inl rfl, .inr ⟨0, 1, 1, some 1, rfl, rfl, by simp⟩, trivial⟩ ?_ | refine w_pure m7 ?_ | refine w_pureN m0 (nws_cons (nw_eq rfl) (nws_cons nw_nil nws_nil)) ?_ | refine And.intro ?_ ?_ | refine w_drawnTF (id := 12) tb9_12Ng11 pl9_12Ng11 [0, 1, 2, 3, 4, 5, 6, 7, 8, 9, 10] 71 (by kernel_rfl) (by kernel_rfl) (by simp) ?_ | refine w_drawnF (id := 22) tb9_22Ng11 pl9_22Ng11 112 (by kernel_rfl) (by kernel_rfl) (by simp) ?_
          refine hQ (by first | exact .inr rfl | exact .inl rfl) (by first | exact trivial | exact marks1) (by first | (simp -implicitDefEqProofs (maxSteps := 400000) (disch := first | with_reducible rfl | omega | (simp only [wkH] <;> omega) | decide) only [wkL, resP, resPs, resP1]; rfl) | rfl) ⟨6, by repeat' first | exact frz_scalar rfl | apply frz_tuple | apply frz_agg | apply frz_fsl | apply frz_gsl (by omega) | exact frzs_nil | apply frzs_cons | exact frz_whole (by omega) (by rw [h_shut0, h_get]; rfl) (by simp only [List.length_append, List.length_cons, List.length_nil, hol]; omega) (by simp only [List.all_append, hsc]; rfl)⟩ (by first | exact hkeep | exact keepsH0) (nw_eq ?_)
          simp [hH, hPz, List.append_assoc, Nat.add_assoc]
end Pv

--nosplit
--keep2
namespace Pv
set_option maxRecDepth 20000
set_option maxHeartbeats 4000000
open Go Go.Proofs Go.RowKit
variable {w0 : World}

def askE (A : List Int) (Nm : List UInt8) (P : Int) : List (Int × Bool) := [(11, decide (0 < (A.length : Int))), ((pairsL A).2, (pairsL A).2 == 0), (20, decide (Nm = []) || hostL Nm), (13, decide (P = 0) || portB P)]
def askR (b : List UInt8) (Nm : List UInt8) (P : Int) : List KR := [⟨true, 1, twoL 0⟩, ⟨true, 4, b⟩] ++ (if Nm = [] then [] else [⟨false, 6, Nm⟩]) ++ (if P = 0 then [] else [⟨false, 7, twoL P⟩]) ++ [⟨true, 0, []⟩]
/-- What is asked for. -/
def askL (A : List Int) (Nm : List UInt8) (P : Int) : List KR × Int := if firE (askE A Nm P) ≠ 0 then ([], firE (askE A Nm P)) else (askR (pairsL A).1 Nm P, 0)
theorem negoAsk_ok (l : List Int) (Nm : List UInt8) (P : Int) (hl : l.length < 2 ^ 40) (hP : -9223372036854775808 ≤ P ∧ P ≤ 9223372036854775807) : Fn (Cx w0) 7 [.fsl 1 l.length (intsC l), .str Nm, .int .i64 P] (.tuple [.fsl 3 (askL l Nm P).1.length (krsC (askL l Nm P).1), .int .i64 (askL l Nm P).2]) := by
  have tp := kePairs_ok (w0 := w0) l hl
  have th := negoHost_ok (w0 := w0) Nm
  have tpo := negoPort_ok (w0 := w0) P
  have tw := negoTwo_ok (w0 := w0) P hP
  obtain ⟨B, hB⟩ : ∃ B, B = (pairsL l).1 := ⟨_, rfl⟩
  obtain ⟨e, he⟩ : ∃ e, e = (pairsL l).2 := ⟨_, rfl⟩
  rw [← hB, ← he] at tp
  obtain ⟨d, hd⟩ : ∃ d, d = decide ((0 : Int) < (l.length : Int)) := ⟨_, rfl⟩
  obtain ⟨z, hz⟩ : ∃ z, z = (e == 0) := ⟨_, rfl⟩
  have hE : ∀ h3 h4, h3 = (decide (Nm = []) || hostL Nm) → h4 = (decide (P = 0) || portB P) → askE l Nm P = [(11, d), (e, z), (20, h3), (13, h4)] := by
    rintro h3 h4 rfl rfl; rw [askE, ← hd, ← he, ← hz]
  have hne : firE (askE l Nm P) ≠ 0 → askL l Nm P = ([], firE (askE l Nm P)) := fun h => by rw [askL, if_pos h]
  have hzz : firE (askE l Nm P) = 0 → askL l Nm P = (askR B Nm P, 0) := fun h => by rw [askL, if_neg (by simpa using h), ← hB]
  have m0 := must_ok (w0 := w0) 0 [] (by decide) (by simp)
  have hcc : ∀ (X Y : Bool) {ph : PH} (H1 : PH) (c : List PV), H1 = H ph [some (.own [.int .i64 11]), some (.own [.bool d]), some (.own [.int .i64 e]), some (.own [.bool z]), some (.own [.int .i64 20]), some (.own [.bool X]), some (.own [.int .i64 13]), some (.own [.bool Y]), some (.own c)] ph.ob ph.ty → c = [.func 56 [] [.ptr (ph.n + 1) 0, .ptr ph.n 0], .func 56 [] [.ptr (ph.n + 2 + 1) 0, .ptr (ph.n + 2) 0], .func 56 [] [.ptr (ph.n + 4 + 1) 0, .ptr (ph.n + 4) 0], .func 56 [] [.ptr (ph.n + 6 + 1) 0, .ptr (ph.n + 6) 0]] → ∀ (i : Nat) (x : Int × Bool), [((11 : Int), d), (e, z), (20, X), (13, Y)][i]? = some x → ∃ a b, c[i]? = some (.func 56 [] [.ptr a 0, .ptr b 0]) ∧ H1.get a = some [.bool x.2] ∧ H1.get b = some [.int .i64 x.1] := by
    rintro X Y ph H1 c rfl rfl i x hx
    match i, hx with
    | 0, hx => cases hx; exact ⟨ph.n + 1, ph.n, rfl, by rw [h_get]; rfl, by rw [h_get0]; rfl⟩
    | 1, hx => cases hx; exact ⟨ph.n + 3, ph.n + 2, rfl, by rw [h_get]; rfl, by rw [h_get]; rfl⟩
    | 2, hx => cases hx; exact ⟨ph.n + 5, ph.n + 4, rfl, by rw [h_get]; rfl, by rw [h_get]; rfl⟩
    | 3, hx => cases hx; exact ⟨ph.n + 7, ph.n + 6, rfl, by rw [h_get]; rfl, by rw [h_get]; rfl⟩
    | i + 4, hx => simp at hx
  by_cases hN : Nm = []
  all_goals by_cases hPz : P = 0
  all_goals
    first | have cN := strEqT hN | have cN := strEqF hN
    first | have cN2 : (Nm == []) = true := by rw [beq_iff_eq]; exact hN
          | have cN2 : (Nm == []) = false := by rw [beq_eq_false_iff_ne]; exact hN
    first | have cP := bneF hPz | have cP := bneT hPz
    first | have cP2 : (P == 0) = true := by rw [beq_iff_eq]; exact hPz
          | have cP2 : (P == 0) = false := by rw [beq_eq_false_iff_ne]; exact hPz
    by_cases hf : firE (askE l Nm P) = 0
    · rw [hzz hf]
      refine fn_H ([Go.ResultVar.tmp 6, Go.ResultVar.tmp 7]) Tryz.func7 rfl rfl (by decide) fun ph hW Q hQ => ?_
      simp only [start, List.length_cons, List.length_nil, List.cons_append, List.nil_append, Nat.reduceAdd, Nat.reduceSub, List.replicate_succ, List.replicate_zero, Tryz.ntmps7]
      repeat' first | simp -implicitDefEqProofs (maxSteps := 400000) (disch := first | with_reducible rfl | omega | (simp only [wkH] <;> omega) | decide) only [wkAll, wkL, popO, wantedP, ne_eq, Nat.reduceAdd, Nat.reduceLeDiff, Nat.reduceLT, binP, lenP, builtinP, buildSliceP, fillP, setL, gt_iff_lt, Nat.reducePow, reps, if_pos, if_neg, tf22, tf66, Tryz.ze66, tf102, gt_iff_lt, ← hd, ← hz, cN2, cP2] | refine w_pure (tp) ?_ | refine w_pure (th) ?_ | refine w_pure (tpo) ?_ | refine w_effA (so_ok _ _ _) ?_
      refine w_eff (firstSo_ok _ (ph.n + 8) _ [(11, d), (e, z), (20, _), (13, _)] _ (by show 4 < 2 ^ 40; decide) (by rw [h_get]; rfl) rfl (hcc _ _ _ _ rfl rfl)) ?_
      rw [← hE _ _ (by simp [hN]) (by simp [hPz]), hf]
      repeat' first | simp -implicitDefEqProofs (maxSteps := 400000) (disch := first | with_reducible rfl | omega | (simp only [wkH] <;> omega) | decide) only [wkAll, wkL, popO, wantedP, ne_eq, Nat.reduceAdd, Nat.reduceMul, Nat.reduceLeDiff, Nat.reduceLT, reduceCtorEq, binP, builtinP, appendT, appendP, srcP, buildP, buildSliceP, placeF, fillP, setL, gt_iff_lt, Nat.reducePow, reps, seg, if_pos, if_neg, tf3, Tryz.ze3, tf22, tf26, tf46, Tryz.ze46, cN, cP, krC] | refine w_frz (p := ph.n + 9) (cells := [.int .i64 0]) (args' := [.int .i64 1, .fsl 1 1 [.int .i64 0]]) (by rw [h_get]; rfl) ⟨.inl rfl, .inr ⟨0, 1, 1, some 1, rfl, rfl, by simp⟩, trivial⟩ ?_ | refine w_pure (must_ok (w0 := w0) 1 [0] (by decide) (by simp)) ?_ | refine w_pure (tw) ?_ | refine w_pureN m0 (nws_cons (nw_eq rfl) (nws_cons nw_nil nws_nil)) ?_
      refine hQ (by first | exact .inr rfl | exact .inl rfl) (by first | exact trivial | exact marks1) (by first | (simp -implicitDefEqProofs (maxSteps := 400000) (disch := first | with_reducible rfl | omega | (simp only [wkH] <;> omega) | decide) only [wkL, resP, resPs, resP1]; rfl) | rfl) ⟨6, by repeat' first | exact frz_scalar rfl | apply frz_tuple | apply frz_agg | apply frz_fsl | apply frz_gsl (by omega) | exact frzs_nil | apply frzs_cons | exact frz_whole (by omega) (by rw [h_shut0, h_get]; rfl) rfl rfl⟩ (by first | exact keepsH0 | exact keeps1 (by assumption)) (nw_eq ?_)
      simp [askR, hN, hPz, krsC, krC]
    · rw [hne hf]
      have hf' : (firE (askE l Nm P) != 0) = true := by rw [bne_iff_ne]; exact hf
      refine fn_H ([Go.ResultVar.tmp 6, Go.ResultVar.tmp 7]) Tryz.func7 rfl rfl (by decide) fun ph hW Q hQ => ?_
      simp only [start, List.length_cons, List.length_nil, List.cons_append, List.nil_append, Nat.reduceAdd, Nat.reduceSub, List.replicate_succ, List.replicate_zero, Tryz.ntmps7]
      repeat' first | simp -implicitDefEqProofs (maxSteps := 400000) (disch := first | with_reducible rfl | omega | (simp only [wkH] <;> omega) | decide) only [wkAll, wkL, popO, wantedP, ne_eq, Nat.reduceAdd, Nat.reduceLeDiff, Nat.reduceLT, binP, lenP, builtinP, buildSliceP, fillP, setL, gt_iff_lt, Nat.reducePow, reps, if_pos, if_neg, tf22, tf66, Tryz.ze66, tf102, gt_iff_lt, ← hd, ← hz, cN2, cP2] | refine w_pure (tp) ?_ | refine w_pure (th) ?_ | refine w_pure (tpo) ?_ | refine w_effA (so_ok _ _ _) ?_
      refine w_eff (firstSo_ok _ (ph.n + 8) _ [(11, d), (e, z), (20, _), (13, _)] _ (by show 4 < 2 ^ 40; decide) (by rw [h_get]; rfl) rfl (hcc _ _ _ _ rfl rfl)) ?_
      rw [← hE _ _ (by simp [hN]) (by simp [hPz])]
      repeat' first | simp -implicitDefEqProofs (maxSteps := 400000) (disch := first | with_reducible rfl | omega | (simp only [wkH] <;> omega) | decide) only [wkAll, wkL, popO, wantedP, binP, if_pos, hf']
      refine hQ (by first | exact .inr rfl | exact .inl rfl) (by first | exact trivial | exact marks1) (by first | (simp -implicitDefEqProofs (maxSteps := 400000) (disch := first | with_reducible rfl | omega | (simp only [wkH] <;> omega) | decide) only [wkL, resP, resPs, resP1]; rfl) | rfl) ⟨6, by repeat' first | exact frz_scalar rfl | apply frz_tuple | apply frz_agg | apply frz_fsl | apply frz_gsl (by omega) | exact frzs_nil | apply frzs_cons⟩ (by first | exact keepsH0 | exact keeps1 (by assumption)) ?_
      repeat' first | exact nw_nil | exact nw_zsl | apply nw_tuple | apply nw_agg | exact nws_nil | apply nws_cons | exact nw_eq rfl | apply nw_eq
end Pv
