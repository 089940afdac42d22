/- Part of the proof: the layer of pure values, or walks through functions (PvAe3, PvAe4, PvAeT). -/
import Derived.Test.YtjomgffpkdcanaaGreatDoorPvAe1
import Derived.Test.YtjomgffpkdcanaaGreatDoorPvRb3
set_option linter.all false
--nosplit
--keep2
namespace Pv
set_option maxRecDepth 20000
set_option maxHeartbeats 4000000
open Go Go.Proofs Go.RowKit
def tb71_2Ae3 : Tab := [[], [], [1], [1, 2], [0], [0, 1, 2, 3, 4]]
def pl71_2Ae3 : Plan := [(0, true, []), (1, true, []), (2, true, []), (3, true, []), (4, false, [1, 2, 3]), (5, false, [])]
def tb71_3Ae3 : Tab := [[], [], [], [], [2], [2, 3, 4], [2, 3, 4, 5], [0], [0, 1, 2, 3, 4, 5, 6, 7], [0, 1, 2, 3, 4, 5, 6, 7, 8]]
def pl71_3Ae3 : Plan := [(0, true, []), (1, true, []), (2, true, []), (3, true, []), (4, true, []), (5, true, []), (6, true, []), (7, true, []), (8, true, []), (9, false, [])]
def tb72_4Ae3 : Tab := [[], [], [], [], [], [4], [3, 4, 5], [2, 3, 4, 5, 6], [2, 3, 4, 5, 6, 7], [2, 3, 4, 5, 6, 7, 8], [2, 3, 4, 5, 6, 7, 8, 9], [2, 3, 4, 5, 6, 7, 8, 9, 10], [0], [0, 1, 2, 3, 4, 5, 6, 7, 8, 9, 10, 11, 12], [0, 1, 2, 3, 4, 5, 6, 7, 8, 9, 10, 11, 12, 13]]
def pl72_4Ae3 : Plan := [(0, true, []), (1, true, []), (2, true, []), (3, true, []), (4, true, []), (5, true, []), (6, true, []), (7, true, []), (8, true, []), (9, true, []), (10, true, []), (11, true, []), (12, true, []), (13, true, []), (14, false, [])]
variable {w0 : World}

theorem setL_all : ∀ (c d : List PV), c.length = d.length → setL c 0 d = d := by
  intro c d h
  have key : ∀ (d a r : List PV), r.length = d.length → setL (a ++ r) a.length d = a ++ d := by
    intro d
    induction d with
    | nil => intro a r h; have : r = [] := List.length_eq_zero_iff.1 (by simpa using h); subst this; simp [setL]
    | cons x d ih =>
      intro a r h
      cases r with
      | nil => simp at h
      | cons y r =>
        rw [setL, show (a ++ y :: r).set a.length x = (a ++ [x]) ++ r by rw [List.set_append_right _ _ (Nat.le_refl _)]; simp]
        have := ih (a ++ [x]) r (by simpa using h)
        rw [List.length_append, List.length_singleton] at this
        rw [this]; simp
  exact key d [] c h
theorem become8_ok (ph : PH) (p q off : Nat) (b : List UInt8) (C : List PV) (f : UInt8 → UInt8) (hb : b.length = 16) (h : ph.get p = some (bytesPV b)) (hq : ph.get q = some C) (hne : q ≠ p) (hlen : off + 256 ≤ C.length) (ht : ∀ v : UInt8, C[off + v.toNat]? = some (.int .u8 (f v).toNat)) :
    Eff (Cx w0) 71 [.ptr p 0, .ptr q off] ph (.tuple []) (ph.put p (bytesPV (b.map f))) := by
  have hp := PH.get_lt h
  have hqn := PH.get_lt hq
  have hx : (b.map f).length = 16 := by rw [List.length_map, hb]
  refine eff_of ([]) Tryz.func71 rfl rfl (by decide) (PH.n_put ..) (fun hW => hW.put hp (scs_b16 _)) fun hW Q hQ => ?_
  simp only [start, List.length_cons, List.length_nil, List.cons_append, List.nil_append, Nat.reduceAdd, Nat.reduceSub, List.replicate_succ, List.replicate_zero, Tryz.ntmps71]
  repeat' first | simp -implicitDefEqProofs (maxSteps := 400000) (disch := first | with_reducible rfl | omega | (simp only [wkH] <;> omega) | decide) only [wkAll, wkL, popO, wantedP, if_true, if_false, reduceIte, ne_eq, Nat.reduceAdd, Nat.reduceSub, Nat.reduceMul, Nat.reduceLeDiff, Nat.reduceLT, ofCells, ofCell, reduceCtorEq, Int.reduceLE, Int.reduceLT, Int.reduceToNat, Int.reduceAdd, Int.reduceSub, Int.reduceMul, Int.reduceNeg, Int.reduceBEq, Int.reduceBNe, Int.reduceEq, eqCell, eqCells, binP, unP, convP, lenP, builtinP, sliceDataP, unsafeStringP, appendT, appendS, appendP, copyP, srcP, mmsP, mmP, indexOp, indexAddrOp, sliceOp, bndsP, bndP, capw, capCut, loadOp, storeOp, loadP, fieldOp, fieldAddrOp, arrayAtOp, buildP, buildSliceP, makeSliceP, placeF, fillP, setL, PK.agg, isZero, gt_iff_lt, Nat.reducePow, Nat.reduceGT, reps, seg, wkN, if_pos, if_neg, tf3, Tryz.ze3, tf5, Tryz.ze5, tf121, Tryz.ze121, tf142, Tryz.ze142, pl71_2Ae3, pl71_3Ae3, bytesPV_cok] | refine w_drawnF (id := 2) tb71_2Ae3 pl71_2Ae3 13 (by kernel_rfl) (by kernel_rfl) (by simp) ?_ | refine w_drawnF (id := 3) tb71_3Ae3 pl71_3Ae3 22 (by kernel_rfl) (by kernel_rfl) (by simp) ?_
  refine w_loopB (α := Nat) ph.n ph.ob ph.ty (fun i => ph.put p (bytesPV (midB (b.map f) b i))) (fun i => [.ptr p 0, .ptr q off, .undef, .undef, .undef, .undef, .ptr p 0, .int .i64 i, .undef, .undef, .undef, .undef, .undef, .undef, .undef, .undef, .undef, .undef, .undef, .undef, .undef, .undef, .undef]) (fun i => []) (fun i => i ≤ 16) (fun i => 16 - i) 0 (by simp) (fun _ _ => PH.n_put ..) (fun _ _ => by simp) (.eq (by simp [FadeTo]) (by rw [midB_0, put_self h])) ?_
  intro i hi B hB hn K hK
  have e2 : B.get p = some (bytesPV (midB (b.map f) b i)) := by rw [hB]; exact get_putS _ hp
  have e3 : B.get q = some C := by rw [hB, get_putO _ hp hne]; exact hq
  have hpB : p < B.n := by rw [hn]; exact hp
  have hqB : q < B.n := by rw [hn]; exact hqn
  have hml := midB_len (m := b.map f) (l := b) (by omega) i
  rw [← hn]
  rcases Nat.lt_or_ge i 16 with hlt | hge
  · have hlt' : (i : Int) < 16 := by omega
    obtain ⟨x, hbx⟩ := get_someW (show i < b.length by omega)
    have hm : (b.map f)[i]? = some (f x) := by rw [List.getElem?_map, hbx]; rfl
    have ha := midB_at (m := b.map f) (l := b) (by omega) (i := i) (by omega)
    rw [hbx] at ha
    have hs := midB_set (m := b.map f) (l := b) (by omega) hm
    have ht' := ht x
    have hx2 : (x.toNat : Int) < 256 := by have := x.toNat_lt; omega
    repeat' first | simp -implicitDefEqProofs (maxSteps := 400000) (disch := first | with_reducible rfl | omega | (simp only [wkH] <;> omega) | decide) only [wkAll, wkL, popO, wantedP, if_true, if_false, reduceIte, ne_eq, Nat.reduceAdd, Nat.reduceSub, Nat.reduceMul, Nat.reduceLeDiff, Nat.reduceLT, ofCells, ofCell, reduceCtorEq, Int.reduceLE, Int.reduceLT, Int.reduceToNat, Int.reduceAdd, Int.reduceSub, Int.reduceMul, Int.reduceNeg, Int.reduceBEq, Int.reduceBNe, Int.reduceEq, eqCell, eqCells, binP, unP, convP, lenP, builtinP, sliceDataP, unsafeStringP, appendT, appendS, appendP, copyP, srcP, mmsP, mmP, indexOp, indexAddrOp, sliceOp, bndsP, bndP, capw, capCut, loadOp, storeOp, loadP, fieldOp, fieldAddrOp, arrayAtOp, buildP, buildSliceP, makeSliceP, placeF, fillP, setL, PK.agg, isZero, gt_iff_lt, Nat.reducePow, Nat.reduceGT, reps, seg, wkN, if_pos, if_neg, tf3, Tryz.ze3, tf5, Tryz.ze5, tf121, Tryz.ze121, tf142, Tryz.ze142, pl71_2Ae3, pl71_3Ae3, hlt', h_getlt hpB, h_getlt hqB, h_putlt hpB, e2, e3, hml, hb, ha, ht', hx2, bytesPV_set, hs] | refine w_drawnF (id := 2) tb71_2Ae3 pl71_2Ae3 13 (by kernel_rfl) (by kernel_rfl) (by simp) ?_ | refine w_drawnF (id := 3) tb71_3Ae3 pl71_3Ae3 22 (by kernel_rfl) (by kernel_rfl) (by simp) ?_
    refine hK (i + 1) _ _ (by omega) (by omega) (.eq (by simp [FadeTo, hn]) (by rw [hB, put_putS]))
  · have hge' : ¬ (i : Int) < 16 := by omega
    have : i = 16 := by omega
    subst this
    rw [midB_all (by omega) (by omega)] at hB
    repeat' first | simp -implicitDefEqProofs (maxSteps := 400000) (disch := first | with_reducible rfl | omega | (simp only [wkH] <;> omega) | decide) only [wkAll, wkL, popO, wantedP, if_true, if_false, reduceIte, ne_eq, Nat.reduceAdd, Nat.reduceSub, Nat.reduceMul, Nat.reduceLeDiff, Nat.reduceLT, ofCells, ofCell, reduceCtorEq, Int.reduceLE, Int.reduceLT, Int.reduceToNat, Int.reduceAdd, Int.reduceSub, Int.reduceMul, Int.reduceNeg, Int.reduceBEq, Int.reduceBNe, Int.reduceEq, eqCell, eqCells, binP, unP, convP, lenP, builtinP, sliceDataP, unsafeStringP, appendT, appendS, appendP, copyP, srcP, mmsP, mmP, indexOp, indexAddrOp, sliceOp, bndsP, bndP, capw, capCut, loadOp, storeOp, loadP, fieldOp, fieldAddrOp, arrayAtOp, buildP, buildSliceP, makeSliceP, placeF, fillP, setL, PK.agg, isZero, gt_iff_lt, Nat.reducePow, Nat.reduceGT, reps, seg, wkN, if_pos, if_neg, tf3, Tryz.ze3, tf5, Tryz.ze5, tf121, Tryz.ze121, tf142, Tryz.ze142, pl71_2Ae3, pl71_3Ae3, hge'] | refine w_drawnF (id := 2) tb71_2Ae3 pl71_2Ae3 13 (by kernel_rfl) (by kernel_rfl) (by simp) ?_ | refine w_drawnF (id := 3) tb71_3Ae3 pl71_3Ae3 22 (by kernel_rfl) (by kernel_rfl) (by simp) ?_
    subst hB
    refine hQ (by first | exact .inr rfl | exact .inl rfl) (by first | exact trivial | exact marks1) (by first | (simp -implicitDefEqProofs (maxSteps := 400000) (disch := first | with_reducible rfl | omega | (simp only [wkH] <;> omega) | decide) only [wkAll, wkL, popO, wantedP, if_true, if_false, reduceIte, ne_eq, Nat.reduceAdd, Nat.reduceSub, Nat.reduceMul, Nat.reduceLeDiff, Nat.reduceLT, ofCells, ofCell, reduceCtorEq, Int.reduceLE, Int.reduceLT, Int.reduceToNat, Int.reduceAdd, Int.reduceSub, Int.reduceMul, Int.reduceNeg, Int.reduceBEq, Int.reduceBNe, Int.reduceEq, eqCell, eqCells, loadOp, storeOp, loadP, setL, PK.agg, isZero, gt_iff_lt, Nat.reducePow, Nat.reduceGT, reps, seg, wkN, if_pos, if_neg, tf3, Tryz.ze3, tf5, Tryz.ze5, tf121, Tryz.ze121, tf142, Tryz.ze142, pl71_2Ae3, pl71_3Ae3, resP, resPs, resP1]; rfl) | rfl) ⟨6, by repeat' first | exact frz_scalar rfl | apply frz_tuple | apply frz_agg | apply frz_fsl | apply frz_gsl (by omega) | exact frzs_nil | apply frzs_cons⟩ (by first | exact keepsH0 | exact keeps1 (by assumption)) (nw_eq ?_)
    rfl

theorem shift_at (b : List UInt8) (hb : b.length = 16) (i : Nat) (h : i < 16) : (shiftL b)[i]? = b[(i + 4 * (i % 4) + 64) % 16]? := by
  rw [shiftL, List.getElem?_map, List.getElem?_range h, Option.map_some, List.getD_eq_getElem?_getD, show (i + 4 * (i % 4) + 64) % 16 = (i + 4 * (i % 4)) % 16 by omega, List.getElem?_eq_getElem (show (i + 4 * (i % 4)) % 16 < b.length by omega)]; rfl
theorem backS_at (b : List UInt8) (hb : b.length = 16) (i : Nat) (h : i < 16) : (backS b)[i]? = b[(i + 64 - 4 * (i % 4)) % 16]? := by
  rw [backS, List.getElem?_map, List.getElem?_range h, Option.map_some, List.getD_eq_getElem?_getD, show (i + 64 - 4 * (i % 4)) % 16 = (i + 12 * (i % 4)) % 16 by omega, List.getElem?_eq_getElem (show (i + 12 * (i % 4)) % 16 < b.length by omega)]; rfl
theorem turnE_ok (ph : PH) (p : Nat) (by_ : Int) (b m : List UInt8) (hby : by_ = 4 ∧ m = shiftL b ∨ by_ = -4 ∧ m = backS b) (hb : b.length = 16) (h : ph.get p = some (bytesPV b)) : Eff (Cx w0) 72 [.ptr p 0, .int .i64 by_] ph (.tuple []) (ph.put p (bytesPV m)) := by
  have hp := PH.get_lt h
  have hml : m.length = 16 := by rcases hby with ⟨_, rfl⟩ | ⟨_, rfl⟩ <;> rfl
  refine eff_of ([]) Tryz.func72 rfl rfl (by decide) (PH.n_put ..) (fun hW => hW.put hp (scs_b16 _)) fun hW Q hQ => ?_
  simp only [start, List.length_cons, List.length_nil, List.cons_append, List.nil_append, Nat.reduceAdd, Nat.reduceSub, List.replicate_succ, List.replicate_zero, Tryz.ntmps72]
  have ht16 : (bytesPV b).take 16 = bytesPV b := List.take_of_length_le (by rw [bytesPV_len]; omega)
  have hsL : ∀ c : List PV, c.length = 16 → setL c 0 (bytesPV b) = bytesPV b := fun c hc => setL_all _ _ (by rw [hc, bytesPV_len, hb])
  repeat' first | simp -implicitDefEqProofs (maxSteps := 400000) (disch := first | with_reducible rfl | omega | (simp only [wkH] <;> omega) | decide) only [wkAll, wkL, popO, wantedP, if_true, if_false, reduceIte, ne_eq, Nat.reduceAdd, Nat.reduceSub, Nat.reduceMul, Nat.reduceLeDiff, Nat.reduceLT, ofCells, ofCell, reduceCtorEq, Int.reduceLE, Int.reduceLT, Int.reduceToNat, Int.reduceAdd, Int.reduceSub, Int.reduceMul, Int.reduceNeg, Int.reduceBEq, Int.reduceBNe, Int.reduceEq, eqCell, eqCells, binP, unP, convP, lenP, builtinP, sliceDataP, unsafeStringP, appendT, appendS, appendP, copyP, srcP, mmsP, mmP, indexOp, indexAddrOp, sliceOp, bndsP, bndP, capw, capCut, loadOp, storeOp, loadP, fieldOp, fieldAddrOp, arrayAtOp, buildP, buildSliceP, makeSliceP, placeF, fillP, setL, PK.agg, isZero, gt_iff_lt, Nat.reducePow, Nat.reduceGT, reps, seg, wkN, if_pos, if_neg, tf3, Tryz.ze3, tf5, Tryz.ze5, tf121, Tryz.ze121, pl72_4Ae3, bytesPV_cok, h_getlt hp, h, hb, ht16, hsL] | refine w_drawnF (id := 4) tb72_4Ae3 pl72_4Ae3 26 (by kernel_rfl) (by kernel_rfl) (by simp) ?_
  refine w_loopB (α := Nat) ph.n ph.ob ph.ty (fun i => ph.put p (bytesPV (midB m b i))) (fun i => [.ptr p 0, .int .i64 by_, .undef, .undef, .ptr ph.n 0, .undef, .undef, .undef, .undef, .int .i64 i, .undef, .undef, .undef, .undef, .undef, .undef, .undef, .undef, .undef, .undef, .undef, .undef, .undef, .undef, .undef, .undef, .undef]) (fun i => [some (.own (bytesPV b))]) (fun i => i ≤ 16) (fun i => 16 - i) 0 (by simp) (fun _ _ => PH.n_put ..) (fun _ _ => by simp) (.eq (by simp [FadeTo]) (by rw [midB_0, put_self h])) ?_
  intro i hi B hB hn K hK
  have e2 : B.get p = some (bytesPV (midB m b i)) := by rw [hB]; exact get_putS _ hp
  have hpB : p < B.n := by rw [hn]; exact hp
  have hl2 := midB_len (m := m) (l := b) (by omega) i
  rw [← hn]
  rcases Nat.lt_or_ge i 16 with hlt | hge
  · have hlt' : (i : Int) < 16 := by omega
    have q1 : Int.tmod (i : Int) 4 = ((i % 4 : Nat) : Int) := by rw [Int.tmod_eq_emod_of_nonneg (by omega)]; rfl
    obtain ⟨j, hj, q2, hmj⟩ : ∃ j : Nat, j < 2 ^ 20 ∧ (i : Int) + by_ * ((i % 4 : Nat) : Int) + 64 = (j : Int) ∧ m[i]? = b[j % 16]? := by
      rcases hby with ⟨rfl, rfl⟩ | ⟨rfl, rfl⟩
      · exact ⟨i + 4 * (i % 4) + 64, by omega, by omega, shift_at b hb i hlt⟩
      · exact ⟨i + 64 - 4 * (i % 4), by omega, by omega, backS_at b hb i hlt⟩
    obtain ⟨x, hbx⟩ := get_someW (show j % 16 < b.length by omega)
    rw [hbx] at hmj
    have hs := midB_set (m := m) (l := b) (by omega) hmj
    have q3 : Int.tmod (j : Int) 16 = ((j % 16 : Nat) : Int) := by rw [Int.tmod_eq_emod_of_nonneg (by omega)]; rfl
    have q4 : ((j % 16 : Nat) : Int) < 16 := by omega
    have w1 : IntKind.wrap .i64 (by_ * ((i % 4 : Nat) : Int)) = by_ * ((i % 4 : Nat) : Int) := by
      rcases hby with ⟨rfl, _⟩ | ⟨rfl, _⟩ <;> exact IntWalk.i64_in _ (by omega)
    have w2 : IntKind.wrap .i64 ((i : Int) + by_ * ((i % 4 : Nat) : Int)) = (i : Int) + by_ * ((i % 4 : Nat) : Int) := by
      rcases hby with ⟨rfl, _⟩ | ⟨rfl, _⟩ <;> exact IntWalk.i64_in _ (by omega)
    have w3 : IntKind.wrap .i64 (j : Int) = (j : Int) := IntWalk.i64_in _ (by omega)
    repeat' first | simp -implicitDefEqProofs (maxSteps := 400000) (disch := first | with_reducible rfl | omega | (simp only [wkH] <;> omega) | decide) only [wkAll, wkL, popO, wantedP, if_true, if_false, reduceIte, ne_eq, Nat.reduceAdd, Nat.reduceSub, Nat.reduceMul, Nat.reduceLeDiff, Nat.reduceLT, ofCells, ofCell, reduceCtorEq, Int.reduceLE, Int.reduceLT, Int.reduceToNat, Int.reduceAdd, Int.reduceSub, Int.reduceMul, Int.reduceNeg, Int.reduceBEq, Int.reduceBNe, Int.reduceEq, eqCell, eqCells, binP, unP, convP, lenP, builtinP, sliceDataP, unsafeStringP, appendT, appendS, appendP, copyP, srcP, mmsP, mmP, indexOp, indexAddrOp, sliceOp, bndsP, bndP, capw, capCut, loadOp, storeOp, loadP, fieldOp, fieldAddrOp, arrayAtOp, buildP, buildSliceP, makeSliceP, placeF, fillP, setL, PK.agg, isZero, gt_iff_lt, Nat.reducePow, Nat.reduceGT, reps, seg, wkN, if_pos, if_neg, tf3, Tryz.ze3, tf5, Tryz.ze5, tf121, Tryz.ze121, pl72_4Ae3, hlt', h_getlt hpB, h_putlt hpB, e2, hl2, hb, q1, w1, w2, q2, w3, q3, q4, hbx, bytesPV_set, hs] | refine w_drawnF (id := 4) tb72_4Ae3 pl72_4Ae3 26 (by kernel_rfl) (by kernel_rfl) (by simp) ?_
    refine hK (i + 1) _ _ (by omega) (by omega) (.eq (by simp [FadeTo, hn]) (by rw [hB, put_putS]))
  · have hge' : ¬ (i : Int) < 16 := by omega
    have : i = 16 := by omega
    subst this
    rw [midB_all (by omega) (by omega)] at hB
    repeat' first | simp -implicitDefEqProofs (maxSteps := 400000) (disch := first | with_reducible rfl | omega | (simp only [wkH] <;> omega) | decide) only [wkAll, wkL, popO, wantedP, if_true, if_false, reduceIte, ne_eq, Nat.reduceAdd, Nat.reduceSub, Nat.reduceMul, Nat.reduceLeDiff, Nat.reduceLT, ofCells, ofCell, reduceCtorEq, Int.reduceLE, Int.reduceLT, Int.reduceToNat, Int.reduceAdd, Int.reduceSub, Int.reduceMul, Int.reduceNeg, Int.reduceBEq, Int.reduceBNe, Int.reduceEq, eqCell, eqCells, binP, unP, convP, lenP, builtinP, sliceDataP, unsafeStringP, appendT, appendS, appendP, copyP, srcP, mmsP, mmP, indexOp, indexAddrOp, sliceOp, bndsP, bndP, capw, capCut, loadOp, storeOp, loadP, fieldOp, fieldAddrOp, arrayAtOp, buildP, buildSliceP, makeSliceP, placeF, fillP, setL, PK.agg, isZero, gt_iff_lt, Nat.reducePow, Nat.reduceGT, reps, seg, wkN, if_pos, if_neg, tf3, Tryz.ze3, tf5, Tryz.ze5, tf121, Tryz.ze121, pl72_4Ae3, hge'] | refine w_drawnF (id := 4) tb72_4Ae3 pl72_4Ae3 26 (by kernel_rfl) (by kernel_rfl) (by simp) ?_
    subst hB
    refine hQ (by first | exact .inr rfl | exact .inl rfl) (by first | exact trivial | exact marks1) (by first | (simp -implicitDefEqProofs (maxSteps := 400000) (disch := first | with_reducible rfl | omega | (simp only [wkH] <;> omega) | decide) only [wkAll, wkL, popO, wantedP, if_true, if_false, reduceIte, ne_eq, Nat.reduceAdd, Nat.reduceSub, Nat.reduceMul, Nat.reduceLeDiff, Nat.reduceLT, ofCells, ofCell, reduceCtorEq, Int.reduceLE, Int.reduceLT, Int.reduceToNat, Int.reduceAdd, Int.reduceSub, Int.reduceMul, Int.reduceNeg, Int.reduceBEq, Int.reduceBNe, Int.reduceEq, eqCell, eqCells, loadOp, storeOp, loadP, setL, PK.agg, isZero, gt_iff_lt, Nat.reducePow, Nat.reduceGT, reps, seg, wkN, if_pos, if_neg, tf3, Tryz.ze3, tf5, Tryz.ze5, tf121, Tryz.ze121, pl72_4Ae3, resP, resPs, resP1]; rfl) | rfl) ⟨6, by repeat' first | exact frz_scalar rfl | apply frz_tuple | apply frz_agg | apply frz_fsl | apply frz_gsl (by omega) | exact frzs_nil | apply frzs_cons⟩ (by first | exact keepsH0 | exact keeps1 (by assumption)) (nw_eq ?_)
    rfl
end Pv

--nosplit
--keep2
namespace Pv
set_option maxRecDepth 20000
set_option maxHeartbeats 4000000
open Go Go.Proofs Go.RowKit
def tb73_9Ae4 : Tab := [[], [], [0], [0, 1, 2], [0, 1, 2, 3], [], [], [], [7], [7, 8], [], [], [10, 11], [10, 11, 12], [7, 8, 9, 10, 11, 12, 13], [7, 8, 9, 10, 11, 12, 13, 14], [7, 8, 9, 10, 11, 12, 13, 14, 15], [5], [5, 17], [5, 6, 17, 18], [5, 6, 7, 8, 9, 10, 11, 12, 13, 14, 15, 16, 17, 18, 19], [5, 6, 7, 8, 9, 10, 11, 12, 13, 14, 15, 16, 17, 18, 19, 20], [0, 1, 2, 3, 4, 5, 6, 7, 8, 9, 10, 11, 12, 13, 14, 15, 16, 17, 18, 19, 20, 21], [0], [0, 1, 2, 3, 4, 5, 6, 7, 8, 9, 10, 11, 12, 13, 14, 15, 16, 17, 18, 19, 20, 21, 22, 23], [0, 1, 2, 3, 4, 5, 6, 7, 8, 9, 10, 11, 12, 13, 14, 15, 16, 17, 18, 19, 20, 21, 22, 23, 24]]
def pl73_9Ae4 : Plan := [(0, true, []), (1, true, []), (2, true, []), (3, true, []), (4, true, []), (5, true, []), (6, true, []), (7, true, []), (8, true, []), (9, true, []), (10, true, []), (11, true, []), (12, true, []), (13, true, []), (14, true, []), (15, true, []), (16, true, []), (17, true, []), (18, true, []), (19, true, []), (20, true, []), (21, true, []), (22, true, []), (23, true, []), (24, true, []), (25, false, [])]
variable {w0 : World}

/-- The first k terms of a mixed byte. -/
def mixP (m b : List UInt8) (i : Nat) : Nat → UInt8
  | 0 => 0
  | k + 1 => mixP m b i k ^^^ gm (b.getD (i / 4 * 4 + (i + k) % 4) 0) (m.getD k 0)
theorem mixP_4 (m b : List UInt8) (i : Nat) : mixP m b i 4 = mixAt m b i := by
  simp only [mixP, mixAt, Nat.add_zero, UInt8.zero_xor]
theorem mix_at (m b : List UInt8) (i : Nat) (h : i < 16) : (mixL m b)[i]? = some (mixAt m b i) := by
  rw [mixL, List.getElem?_map, List.getElem?_range h]; rfl
theorem mix8_ok (ph : PH) (p q : Nat) (b m : List UInt8) (C : List PV) (hb : b.length = 16) (hm4 : m.length = 4) (h : ph.get p = some (bytesPV b)) (hq : ph.get q = some C) (hne : q ≠ p) (hlen : 516 + 4096 ≤ C.length) (hk16 : ∀ (k : Nat) (x : UInt8), m[k]? = some x → x.toNat < 16)
    (ht : ∀ (k : Nat) (x v : UInt8), m[k]? = some x → C[516 + x.toNat * 256 + v.toNat]? = some (.int .u8 (gm v x).toNat)) :
    Eff (Cx w0) 73 [.ptr q 0, .ptr p 0, .agg (bytesPV m)] ph (.tuple []) (ph.put p (bytesPV (mixL m b))) := by
  have hp := PH.get_lt h
  have hqn := PH.get_lt hq
  have hx : (mixL m b).length = 16 := mix_len m b
  refine eff_of ([]) Tryz.func73 rfl rfl (by decide) (PH.n_put ..) (fun hW => hW.put hp (scs_b16 _)) fun hW Q hQ => ?_
  simp only [start, List.length_cons, List.length_nil, List.cons_append, List.nil_append, Nat.reduceAdd, Nat.reduceSub, List.replicate_succ, List.replicate_zero, Tryz.ntmps73]
  have ht16 : (bytesPV b).take 16 = bytesPV b := List.take_of_length_le (by rw [bytesPV_len]; omega)
  have hsL : ∀ c : List PV, c.length = 16 → setL c 0 (bytesPV b) = bytesPV b := fun c hc => setL_all _ _ (by rw [hc, bytesPV_len, hb])
  repeat' first | simp -implicitDefEqProofs (maxSteps := 400000) (disch := first | with_reducible rfl | omega | (simp only [wkH] <;> omega) | decide) only [wkAll, wkL, popO, wantedP, if_true, if_false, reduceIte, ne_eq, Nat.reduceAdd, Nat.reduceSub, Nat.reduceMul, Nat.reduceLeDiff, Nat.reduceLT, ofCells, ofCell, reduceCtorEq, Int.reduceLE, Int.reduceLT, Int.reduceToNat, Int.reduceAdd, Int.reduceSub, Int.reduceMul, Int.reduceNeg, Int.reduceBEq, Int.reduceBNe, Int.reduceEq, eqCell, eqCells, binP, unP, convP, lenP, builtinP, sliceDataP, unsafeStringP, appendT, appendS, appendP, copyP, srcP, mmsP, mmP, indexOp, indexAddrOp, sliceOp, bndsP, bndP, capw, capCut, loadOp, storeOp, loadP, fieldOp, fieldAddrOp, arrayAtOp, buildP, buildSliceP, makeSliceP, placeF, fillP, setL, PK.agg, isZero, gt_iff_lt, Nat.reducePow, Nat.reduceGT, reps, seg, wkN, if_pos, if_neg, tf3, Tryz.ze3, tf5, Tryz.ze5, tf9, Tryz.ze9, tf21, Tryz.ze21, tf99, Tryz.ze99, tf121, Tryz.ze121, tf135, Tryz.ze135, tf137, Tryz.ze137, tf139, Tryz.ze139, tf141, Tryz.ze141, tf142, Tryz.ze142, tf143, Tryz.ze143, tf144, Tryz.ze144, tf146, Tryz.ze146, tf155, Tryz.ze155, pl73_9Ae4, bytesPV_cok, h_getlt hp, h, hb, ht16, hsL] | refine w_drawnF (id := 9) tb73_9Ae4 pl73_9Ae4 50 (by kernel_rfl) (by kernel_rfl) (by simp) ?_
  refine w_loopB (α := Nat) ph.n ph.ob ph.ty (fun i => ph.put p (bytesPV (midB (mixL m b) b i))) (fun i => [.ptr q 0, .ptr p 0, .undef, .undef, .undef, .ptr ph.n 0, .ptr (ph.n + 1) 0, .undef, .undef, .undef, .undef, .undef, .undef, .int .i64 i, .undef, .undef, .undef, .undef, .undef, .undef, .undef, .undef, .undef, .undef, .undef, .undef, .undef, .undef, .undef, .undef, .undef, .undef, .undef, .undef, .undef, .undef, .undef, .undef, .undef, .undef, .undef, .undef, .undef, .undef, .undef, .undef, .undef, .undef, .undef, .undef, .undef, .undef]) (fun i => [some (.own (bytesPV m)), some (.own (bytesPV b))]) (fun i => i ≤ 16) (fun i => 16 - i) 0 (by simp) (fun _ _ => PH.n_put ..) (fun _ _ => by simp) (.eq (by simp [FadeTo]) (by rw [midB_0, put_self h])) ?_
  intro i hi B hB hn K hK
  have e2 : B.get p = some (bytesPV (midB (mixL m b) b i)) := by rw [hB]; exact get_putS _ hp
  have hpB : p < B.n := by rw [hn]; exact hp
  have hl2 := midB_len (m := mixL m b) (l := b) (by omega) i
  rcases Nat.lt_or_ge i 16 with hlt | hge
  · have hlt' : (i : Int) < 16 := by omega
    have hm := mix_at m b i hlt
    have hs := midB_set (m := mixL m b) (l := b) (by omega) hm
    have h4 : (bytesPV m).take 4 = bytesPV m := List.take_of_length_le (by rw [bytesPV_len]; omega)
    have z0 : (bytesPV (midB (mixL m b) b i)).set i (.int .u8 0) = bytesPV ((midB (mixL m b) b i).set i 0) := bytesPV_set _ i 0
    generalize hcur : midB (mixL m b) b i = cur at *
    rw [← hn]
    repeat' first | simp -implicitDefEqProofs (maxSteps := 400000) (disch := first | with_reducible rfl | omega | (simp only [wkH] <;> omega) | decide) only [wkAll, wkL, popO, wantedP, if_true, if_false, reduceIte, ne_eq, Nat.reduceAdd, Nat.reduceSub, Nat.reduceMul, Nat.reduceLeDiff, Nat.reduceLT, ofCells, ofCell, reduceCtorEq, Int.reduceLE, Int.reduceLT, Int.reduceToNat, Int.reduceAdd, Int.reduceSub, Int.reduceMul, Int.reduceNeg, Int.reduceBEq, Int.reduceBNe, Int.reduceEq, eqCell, eqCells, binP, unP, convP, lenP, builtinP, sliceDataP, unsafeStringP, appendT, appendS, appendP, copyP, srcP, mmsP, mmP, indexOp, indexAddrOp, sliceOp, bndsP, bndP, capw, capCut, loadOp, storeOp, loadP, fieldOp, fieldAddrOp, arrayAtOp, buildP, buildSliceP, makeSliceP, placeF, fillP, setL, PK.agg, isZero, gt_iff_lt, Nat.reducePow, Nat.reduceGT, reps, seg, wkN, if_pos, if_neg, tf3, Tryz.ze3, tf5, Tryz.ze5, tf9, Tryz.ze9, tf21, Tryz.ze21, tf99, Tryz.ze99, tf121, Tryz.ze121, tf135, Tryz.ze135, tf137, Tryz.ze137, tf139, Tryz.ze139, tf141, Tryz.ze141, tf142, Tryz.ze142, tf143, Tryz.ze143, tf144, Tryz.ze144, tf146, Tryz.ze146, tf155, Tryz.ze155, pl73_9Ae4, hlt', h_getlt hpB, h_putlt hpB, e2, hl2, hb, z0, h4, hm4, wkP, hp_getS hpB, hp_putS hpB] | refine w_drawnF (id := 9) tb73_9Ae4 pl73_9Ae4 50 (by kernel_rfl) (by kernel_rfl) (by simp) ?_
    rw [hn]
    refine w_loopB (α := Nat) ph.n ph.ob ph.ty (fun k => ph.put p (bytesPV (cur.set i (mixP m b i k)))) (fun k => [.ptr q 0, .ptr p 0, .undef, .undef, .undef, .ptr ph.n 0, .ptr (ph.n + 1) 0, .int .i64 i, .undef, .undef, .undef, .undef, .undef, .int .i64 i, .undef, .undef, .undef, .undef, .undef, .undef, .agg (bytesPV m), .int .i64 k, .undef, .undef, .undef, .undef, .undef, .undef, .undef, .undef, .undef, .undef, .undef, .undef, .undef, .undef, .undef, .undef, .undef, .undef, .undef, .undef, .undef, .undef, .undef, .undef, .undef, .undef, .undef, .undef, .undef, .undef]) (fun k => [some (.own (bytesPV m)), some (.own (bytesPV b))]) (fun k => k ≤ 4) (fun k => 4 - k) 0 (by simp) (fun _ _ => PH.n_put ..) (fun _ _ => by simp) (.eq (by simp [FadeTo, hn]) (by rw [hB, put_putS]; rfl)) ?_
    intro k hk B2 hB2 hn2 K2 hK2
    have hpB2 : p < B2.n := by rw [hn2]; exact hp
    have hqB2 : q < B2.n := by rw [hn2]; exact hqn
    have e3 : B2.get p = some (bytesPV (cur.set i (mixP m b i k))) := by rw [hB2]; exact get_putS _ hp
    have e4 : B2.get q = some C := by rw [hB2, get_putO _ hp hne]; exact hq
    rw [← hn2]
    rcases Nat.lt_or_ge k 4 with hlt4 | hge4
    · have hk' : (k : Int) < 4 := by omega
      obtain ⟨x, hx4⟩ := get_someW (show k < m.length by omega)
      have hx16 := hk16 k x hx4
      have hx16' : (x.toNat : Int) < 16 := by omega
      have d1 : Int.tdiv (i : Int) 4 = ((i / 4 : Nat) : Int) := by rw [Int.tdiv_eq_ediv_of_nonneg (by omega)]; rfl
      have d2 : ((i / 4 : Nat) : Int) * 4 = ((i / 4 * 4 : Nat) : Int) := by omega
      have d3 : (i : Int) + (k : Int) = ((i + k : Nat) : Int) := by omega
      have d4 : Int.tmod ((i + k : Nat) : Int) 4 = (((i + k) % 4 : Nat) : Int) := by rw [Int.tmod_eq_emod_of_nonneg (by omega)]; rfl
      have d5 : ((i / 4 * 4 : Nat) : Int) + (((i + k) % 4 : Nat) : Int) = ((i / 4 * 4 + (i + k) % 4 : Nat) : Int) := by omega
      obtain ⟨j, hj⟩ : ∃ j, j = i / 4 * 4 + (i + k) % 4 := ⟨_, rfl⟩
      have hj16 : j < 16 := by omega
      rw [← hj] at d5
      have d6 : (j : Int) < 16 := by omega
      obtain ⟨v, hv⟩ := get_someW (show j < b.length by omega)
      have hv2 : (v.toNat : Int) < 256 := by have := v.toNat_lt; omega
      have htv := ht k x v hx4
      have hg : (cur.set i (mixP m b i k))[i]? = some (mixP m b i k) := by rw [List.getElem?_set_self (by omega)]
      have hl3 : (cur.set i (mixP m b i k)).length = 16 := by rw [List.length_set]; omega
      have hnx : mixP m b i (k + 1) = mixP m b i k ^^^ gm v x := by
        rw [mixP, ← hj, List.getD_eq_getElem?_getD, hv, List.getD_eq_getElem?_getD, hx4]; rfl
      have hss : (cur.set i (mixP m b i k)).set i (mixP m b i k ^^^ gm v x) = cur.set i (mixP m b i (k + 1)) := by rw [List.set_set, hnx]
      have c1 : 516 + x.toNat * 256 + 256 ≤ C.length := by omega
      generalize gm v x = g at *
      generalize mixP m b i k = mk at *
      generalize hcs : cur.set i mk = cs at *
      repeat' first | simp -implicitDefEqProofs (maxSteps := 400000) (disch := first | with_reducible rfl | omega | (simp only [wkH] <;> omega) | decide) only [wkAll, wkL, popO, wantedP, if_true, if_false, reduceIte, ne_eq, Nat.reduceAdd, Nat.reduceSub, Nat.reduceMul, Nat.reduceLeDiff, Nat.reduceLT, ofCells, ofCell, reduceCtorEq, Int.reduceLE, Int.reduceLT, Int.reduceToNat, Int.reduceAdd, Int.reduceSub, Int.reduceMul, Int.reduceNeg, Int.reduceBEq, Int.reduceBNe, Int.reduceEq, eqCell, eqCells, binP, unP, convP, lenP, builtinP, sliceDataP, unsafeStringP, appendT, appendS, appendP, copyP, srcP, mmsP, mmP, indexOp, indexAddrOp, sliceOp, bndsP, bndP, capw, capCut, loadOp, storeOp, loadP, fieldOp, fieldAddrOp, arrayAtOp, buildP, buildSliceP, makeSliceP, placeF, fillP, setL, PK.agg, isZero, gt_iff_lt, Nat.reducePow, Nat.reduceGT, reps, seg, wkN, if_pos, if_neg, tf3, Tryz.ze3, tf5, Tryz.ze5, tf9, Tryz.ze9, tf21, Tryz.ze21, tf99, Tryz.ze99, tf121, Tryz.ze121, tf135, Tryz.ze135, tf137, Tryz.ze137, tf139, Tryz.ze139, tf141, Tryz.ze141, tf142, Tryz.ze142, tf143, Tryz.ze143, tf144, Tryz.ze144, tf146, Tryz.ze146, tf155, Tryz.ze155, pl73_9Ae4, hk', h_getlt hpB2, h_getlt hqB2, h_putlt hpB2, e3, e4, hx4, hx16', d1, d2, d3, d4, d5, d6, hv, hv2, htv, hg, hl3, hm4, xor_u8, bytesPV_set, hss] | refine w_drawnF (id := 9) tb73_9Ae4 pl73_9Ae4 50 (by kernel_rfl) (by kernel_rfl) (by simp) ?_
      refine hK2 (k + 1) _ _ (by omega) (by omega) (.eq (by simp [FadeTo, hn2]) (by rw [hB2, put_putS]))
    · have hk' : ¬ (k : Int) < 4 := by omega
      have : k = 4 := by omega
      subst this
      rw [mixP_4] at hB2 e3
      rw [hs] at hB2
      repeat' first | simp -implicitDefEqProofs (maxSteps := 400000) (disch := first | with_reducible rfl | omega | (simp only [wkH] <;> omega) | decide) only [wkAll, wkL, popO, wantedP, if_true, if_false, reduceIte, ne_eq, Nat.reduceAdd, Nat.reduceSub, Nat.reduceMul, Nat.reduceLeDiff, Nat.reduceLT, ofCells, ofCell, reduceCtorEq, Int.reduceLE, Int.reduceLT, Int.reduceToNat, Int.reduceAdd, Int.reduceSub, Int.reduceMul, Int.reduceNeg, Int.reduceBEq, Int.reduceBNe, Int.reduceEq, eqCell, eqCells, binP, unP, convP, lenP, builtinP, sliceDataP, unsafeStringP, appendT, appendS, appendP, copyP, srcP, mmsP, mmP, indexOp, indexAddrOp, sliceOp, bndsP, bndP, capw, capCut, loadOp, storeOp, loadP, fieldOp, fieldAddrOp, arrayAtOp, buildP, buildSliceP, makeSliceP, placeF, fillP, setL, PK.agg, isZero, gt_iff_lt, Nat.reducePow, Nat.reduceGT, reps, seg, wkN, if_pos, if_neg, tf3, Tryz.ze3, tf5, Tryz.ze5, tf9, Tryz.ze9, tf21, Tryz.ze21, tf99, Tryz.ze99, tf121, Tryz.ze121, tf135, Tryz.ze135, tf137, Tryz.ze137, tf139, Tryz.ze139, tf141, Tryz.ze141, tf142, Tryz.ze142, tf143, Tryz.ze143, tf144, Tryz.ze144, tf146, Tryz.ze146, tf155, Tryz.ze155, pl73_9Ae4, hk'] | refine w_drawnF (id := 9) tb73_9Ae4 pl73_9Ae4 50 (by kernel_rfl) (by kernel_rfl) (by simp) ?_
      refine hK (i + 1) _ _ (by omega) (by omega) (.eq (by simp [FadeTo, hn2]) (by rw [hB2]))
  · have hge' : ¬ (i : Int) < 16 := by omega
    have : i = 16 := by omega
    subst this
    rw [midB_all (by omega) (by omega)] at hB
    rw [← hn]
    repeat' first | simp -implicitDefEqProofs (maxSteps := 400000) (disch := first | with_reducible rfl | omega | (simp only [wkH] <;> omega) | decide) only [wkAll, wkL, popO, wantedP, if_true, if_false, reduceIte, ne_eq, Nat.reduceAdd, Nat.reduceSub, Nat.reduceMul, Nat.reduceLeDiff, Nat.reduceLT, ofCells, ofCell, reduceCtorEq, Int.reduceLE, Int.reduceLT, Int.reduceToNat, Int.reduceAdd, Int.reduceSub, Int.reduceMul, Int.reduceNeg, Int.reduceBEq, Int.reduceBNe, Int.reduceEq, eqCell, eqCells, binP, unP, convP, lenP, builtinP, sliceDataP, unsafeStringP, appendT, appendS, appendP, copyP, srcP, mmsP, mmP, indexOp, indexAddrOp, sliceOp, bndsP, bndP, capw, capCut, loadOp, storeOp, loadP, fieldOp, fieldAddrOp, arrayAtOp, buildP, buildSliceP, makeSliceP, placeF, fillP, setL, PK.agg, isZero, gt_iff_lt, Nat.reducePow, Nat.reduceGT, reps, seg, wkN, if_pos, if_neg, tf3, Tryz.ze3, tf5, Tryz.ze5, tf9, Tryz.ze9, tf21, Tryz.ze21, tf99, Tryz.ze99, tf121, Tryz.ze121, tf135, Tryz.ze135, tf137, Tryz.ze137, tf139, Tryz.ze139, tf141, Tryz.ze141, tf142, Tryz.ze142, tf143, Tryz.ze143, tf144, Tryz.ze144, tf146, Tryz.ze146, tf155, Tryz.ze155, pl73_9Ae4, hge'] | refine w_drawnF (id := 9) tb73_9Ae4 pl73_9Ae4 50 (by kernel_rfl) (by kernel_rfl) (by simp) ?_
    subst hB
    refine hQ (by first | exact .inr rfl | exact .inl rfl) (by first | exact trivial | exact marks1) (by first | (simp -implicitDefEqProofs (maxSteps := 400000) (disch := first | with_reducible rfl | omega | (simp only [wkH] <;> omega) | decide) only [wkAll, wkL, popO, wantedP, if_true, if_false, reduceIte, ne_eq, Nat.reduceAdd, Nat.reduceSub, Nat.reduceMul, Nat.reduceLeDiff, Nat.reduceLT, ofCells, ofCell, reduceCtorEq, Int.reduceLE, Int.reduceLT, Int.reduceToNat, Int.reduceAdd, Int.reduceSub, Int.reduceMul, Int.reduceNeg, Int.reduceBEq, Int.reduceBNe, Int.reduceEq, eqCell, eqCells, loadOp, storeOp, loadP, setL, PK.agg, isZero, gt_iff_lt, Nat.reducePow, Nat.reduceGT, reps, seg, wkN, if_pos, if_neg, tf3, Tryz.ze3, tf5, Tryz.ze5, tf9, Tryz.ze9, tf21, Tryz.ze21, tf99, Tryz.ze99, tf121, Tryz.ze121, tf135, Tryz.ze135, tf137, Tryz.ze137, tf139, Tryz.ze139, tf141, Tryz.ze141, tf142, Tryz.ze142, tf143, Tryz.ze143, tf144, Tryz.ze144, tf146, Tryz.ze146, tf155, Tryz.ze155, pl73_9Ae4, resP, resPs, resP1]; rfl) | rfl) ⟨6, by repeat' first | exact frz_scalar rfl | apply frz_tuple | apply frz_agg | apply frz_fsl | apply frz_gsl (by omega) | exact frzs_nil | apply frzs_cons⟩ (by first | exact keepsH0 | exact keeps1 (by assumption)) (nw_eq ?_)
    rfl
end Pv

namespace Pv
open Go
set_option maxRecDepth 100000

/-! ### A cipher's tables, in plain Lean -/
def ks : List UInt8 := [1, 2, 3, 9, 11, 13, 14]
/-- A column of the tables of products: k of them. -/
def byI (T : List UInt8) (i : Nat) : Nat → List UInt8
  | 0 => T
  | k + 1 => (byI T i k).set (512 + (ks.getD k 0).toNat * 256 + i) (gm (UInt8.ofNat i) (ks.getD k 0))
/-- The tables (what bytes become, and back, and products), i places of them. -/
def tabI : Nat → List UInt8
  | 0 => List.replicate 4608 0
  | i + 1 => byI (((tabI i).set i (sbox (UInt8.ofNat i))).set (256 + (sbox (UInt8.ofNat i)).toNat) (UInt8.ofNat i)) i 7
theorem byI_len (T : List UInt8) (i : Nat) : ∀ k, (byI T i k).length = T.length
  | 0 => rfl
  | k + 1 => by rw [byI, List.length_set, byI_len T i k]
theorem tabI_len : ∀ i, (tabI i).length = 4608
  | 0 => List.length_replicate
  | i + 1 => by rw [tabI, byI_len, List.length_set, List.length_set, tabI_len i]
theorem byI_low (T : List UInt8) (i : Nat) : ∀ k (j : Nat), j < 512 → (byI T i k)[j]? = T[j]?
  | 0, _, _ => rfl
  | k + 1, j, h => by rw [byI, List.getElem?_set_ne (by omega), byI_low T i k j h]
theorem byI_old (T : List UInt8) (i : Nat) (hi : i < 256) (x : UInt8) (v : Nat) (hv : v < 256) (hne : v ≠ i) : ∀ k, (byI T i k)[512 + x.toNat * 256 + v]? = T[512 + x.toNat * 256 + v]?
  | 0 => rfl
  | k + 1 => by rw [byI, List.getElem?_set_ne (by omega), byI_old T i hi x v hv hne k]
theorem ks_16 : ∀ k : Fin 7, (ks.getD k.val 0).toNat < 16 := by decide
theorem byI_new (T : List UInt8) (i : Nat) (hi : i < 256) (hT : T.length = 4608) : ∀ k, k ≤ 7 → ∀ j, j < k → (byI T i k)[512 + (ks.getD j 0).toNat * 256 + i]? = some (gm (UInt8.ofNat i) (ks.getD j 0))
  | 0, _, _, h => by omega
  | k + 1, hk, j, h => by
    have hj := ks_16 ⟨j, by omega⟩
    have hk' := ks_16 ⟨k, by omega⟩
    simp only at hj hk'
    rw [byI]
    by_cases he : (ks.getD k 0).toNat = (ks.getD j 0).toNat
    · rw [he, List.getElem?_set_self (by rw [byI_len, hT]; omega), UInt8.toNat_inj.1 he]
    · rw [List.getElem?_set_ne (by omega)]
      rcases Nat.lt_or_ge j k with h1 | h1
      · exact byI_new T i hi hT k (by omega) j h1
      · have : j = k := by omega
        subst this; exact absurd rfl he
theorem tabI_at : ∀ i, i ≤ 256 → (∀ v, v < i → (tabI i)[v]? = some (sbox (UInt8.ofNat v))) ∧ (∀ v, v < 256 → (tabI i)[256 + v]? = (backI i)[v]?) ∧ (∀ j, j < 7 → ∀ v, v < i → (tabI i)[512 + (ks.getD j 0).toNat * 256 + v]? = some (gm (UInt8.ofNat v) (ks.getD j 0)))
  | 0, _ => ⟨fun v h => by omega, fun v h => by rw [tabI, backI, List.getElem?_replicate, List.getElem?_replicate, if_pos (by omega), if_pos h], fun j _ v h => by omega⟩
  | i + 1, h => by
    obtain ⟨h1, h2, h3⟩ := tabI_at i (by omega)
    have hs := (sbox (UInt8.ofNat i)).toNat_lt
    have hl := tabI_len i
    refine ⟨fun v hv => ?_, fun v hv => ?_, fun j hj v hv => ?_⟩
    · rw [tabI, byI_low _ _ _ _ (by omega), List.getElem?_set_ne (by omega)]
      by_cases he : v = i
      · subst he; rw [List.getElem?_set_self (by omega)]
      · rw [List.getElem?_set_ne (by omega), h1 v (by omega)]
    · rw [tabI, byI_low _ _ _ _ (by omega), backI]
      by_cases he : v = (sbox (UInt8.ofNat i)).toNat
      · subst he; rw [List.getElem?_set_self (by rw [List.length_set]; omega), List.getElem?_set_self (by rw [backI_len]; omega)]
      · rw [List.getElem?_set_ne (by omega), List.getElem?_set_ne (by omega), List.getElem?_set_ne (by omega), h2 v hv]
    · have hk := ks_16 ⟨j, hj⟩
      simp only at hk
      by_cases he : v = i
      · subst he
        rw [tabI]
        exact byI_new _ v (by omega) (by rw [List.length_set, List.length_set, hl]) 7 (Nat.le_refl _) j hj
      · rw [tabI, byI_old _ _ (by omega) _ _ (by omega) he, List.getElem?_set_ne (by omega), List.getElem?_set_ne (by omega), h3 j hj v (by omega)]
def tabL : List UInt8 := tabI 256
theorem tabL_len : tabL.length = 4608 := tabI_len 256
theorem tab_sub (v : UInt8) : tabL[v.toNat]? = some (sbox v) := by
  have := (tabI_at 256 (Nat.le_refl _)).1 v.toNat v.toNat_lt
  rwa [UInt8.ofNat_toNat] at this
theorem tab_by (x v : UInt8) (h : x ∈ ks) : tabL[512 + x.toNat * 256 + v.toNat]? = some (gm v x) := by
  obtain ⟨j, hj, rfl⟩ := List.getElem_of_mem h
  have := (tabI_at 256 (Nat.le_refl _)).2.2 j hj v.toNat v.toNat_lt
  rwa [List.getD_eq_getElem?_getD, List.getElem?_eq_getElem hj, Option.getD_some, UInt8.ofNat_toNat] at this
theorem tabI0 : tabI 0 = List.replicate 4608 0 := rfl
theorem tabI_next (i : Nat) : tabI (i + 1) = byI (((tabI i).set i (sbox (UInt8.ofNat i))).set (256 + (sbox (UInt8.ofNat i)).toNat) (UInt8.ofNat i)) i 7 := rfl
theorem byI_next (T : List UInt8) (i k : Nat) : byI T i (k + 1) = (byI T i k).set (512 + (ks.getD k 0).toNat * 256 + i) (gm (UInt8.ofNat i) (ks.getD k 0)) := rfl
theorem byI_0 (T : List UInt8) (i : Nat) : byI T i 0 = T := rfl
theorem tabL_eq : tabL = tabI 256 := rfl
attribute [irreducible] tabL tabI byI

/-! ### A cipher's cells -/
/-- key; done, the lock's state and its other word; the tables; the round keys. -/
def cC (key : List UInt8) (d s : Int) (T : List UInt8) (r : PV) : List PV := .str key :: .int .u32 d :: .int .i32 s :: .int .u32 0 :: (bytesPV T ++ [r])
section
variable {key : List UInt8} {d s : Int} {T : List UInt8} {r : PV}
theorem cC_len : (cC key d s T r).length = T.length + 5 := by simp [cC, bytesPV]
theorem cC_get {j : Nat} (h : j < T.length) : (cC key d s T r)[4 + j]? = (T[j]?).map fun b => .int .u8 (b.toNat : Int) := by
  rw [cC, show 4 + j = j + 1 + 1 + 1 + 1 by omega]; simp only [List.getElem?_cons_succ]
  rw [List.getElem?_append_left (by rw [bytesPV_len]; exact h), bytesPV_get]
theorem cC_set {j : Nat} {x : UInt8} (h : j < T.length) : (cC key d s T r).set (4 + j) (.int .u8 (x.toNat : Int)) = cC key d s (T.set j x) r := by
  rw [cC, show 4 + j = j + 1 + 1 + 1 + 1 by omega]; simp only [List.set_cons_succ]
  rw [List.set_append_left _ _ (by rw [bytesPV_len]; exact h), show (bytesPV T).set j (.int .u8 (x.toNat : Int)) = bytesPV (T.set j x) by simp [bytesPV, List.map_set]]; rfl
theorem cC_r (h : T.length = 4608) : (cC key d s T r)[4612]? = some r := by
  rw [cC, show 4612 = 4608 + 1 + 1 + 1 + 1 by omega]; simp only [List.getElem?_cons_succ]
  rw [List.getElem?_append_right (by rw [bytesPV_len, h]; omega), bytesPV_len, h]; rfl
theorem cC_setr {r' : PV} (h : T.length = 4608) : (cC key d s T r).set 4612 r' = cC key d s T r' := by
  rw [cC, show 4612 = 4608 + 1 + 1 + 1 + 1 by omega]; simp only [List.set_cons_succ]
  rw [List.set_append_right _ _ (by rw [bytesPV_len, h]; omega), bytesPV_len, h]; rfl
theorem cC_0 : (cC key d s T r)[0]? = some (.str key) := rfl
theorem cC_1 : (cC key d s T r)[1]? = some (.int .u32 d) := rfl
theorem cC_2 : (cC key d s T r)[2]? = some (.int .i32 s) := rfl
theorem cC_scs {n : Nat} (h : Sc n r) : Scs n (cC key d s T r) := by
  have e : Scs n (bytesPV T ++ [r]) = (Scs n (bytesPV T) ∧ Scs n [r]) := scs_append
  refine ⟨trivial, trivial, trivial, trivial, ?_⟩
  rw [e]; exact ⟨scs_scalars (bytesPV_scalar T), h, trivial⟩
theorem cC_cok (h : cellOk r = true) : (cC key d s T r).all cellOk = true := by
  rw [cC]; simp [cellOk, bytesPV, h] ; cases r <;> simp_all [cellOk]
end
theorem nil_cC {n sz : Nat} (key : List UInt8) (d s : Int) (T : List UInt8) : NilL n sz (cC key d s T .nilsl) (cC key d s T (.gsl n sz 0 [])) := by
  have : ∀ l : List PV, NilL n sz (l ++ [.nilsl]) (l ++ [.gsl n sz 0 []]) := by
    intro l
    induction l with
    | nil => exact ⟨.inr (.inr ⟨rfl, rfl⟩), trivial⟩
    | cons v l ih => exact ⟨.inl rfl, ih⟩
  exact this (.str key :: .int .u32 d :: .int .i32 s :: .int .u32 0 :: bytesPV T)
theorem rvs_last {G : Ghost} {a b : PV} (hab : ∀ v, RV G a v → RV G b v) : ∀ (l : List PV) (vals : List Value), RVs G (l ++ [a]) vals → RVs G (l ++ [b]) vals
  | [], vals, h => by
    cases h with
    | cons _ v _ vs h1 h2 => exact .cons _ _ _ _ (hab _ h1) h2
  | p :: l, vals, h => by
    cases h with
    | cons _ v _ vs h1 h2 => exact .cons _ _ _ _ h1 (rvs_last hab l vs h2)
theorem cC_tell {G : Ghost} (key : List UInt8) (d s : Int) (T : List UInt8) {p e n : Nat} {c : List PV} (vals : List Value) (h : RVs G (cC key d s T (.gsl p e n c)) vals) : RVs G (cC key d s T (.fsl e n c)) vals :=
  rvs_last (fun _ hv => hv.deg) (.str key :: .int .u32 d :: .int .i32 s :: .int .u32 0 :: bytesPV T) vals h
theorem cC_zero (key : List UInt8) : [PV.str key, .int .u32 0, .int .i32 0, .int .u32 0] ++ List.replicate 4608 (.int .u8 0) ++ [.nilsl] = cC key 0 0 (tabI 0) .nilsl := by
  rw [cC, tabI0, bytesPV, List.map_replicate]; rfl
end Pv
