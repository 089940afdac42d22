/- Part of the proof: the layer of pure values, or walks through functions (PvAe16, PvGc3, PvGc4, PvGc5, PvGc8). -/
import Derived.Test.YtbocckencbkdeaaGreatPvEntry
import Derived.Test.YtbocckencbkdeaaGreatPvGcE
import Derived.Test.YtbocckencbkdeaaGreatPvH5
set_option linter.all false
--nosplit
--keep2
namespace Pv
set_option maxRecDepth 20000
set_option maxHeartbeats 4000000
open Go Go.Proofs Go.RowKit
def tb81_3Ae16 : Tab := [[], [], [], [], [2, 3], [2, 3, 4], [], [], [6, 7], [6, 7, 8], [2, 3, 4, 5, 6, 7, 8, 9], [0, 1, 2, 3, 4, 5, 6, 7, 8, 9, 10], [0, 1, 2, 3, 4, 5, 6, 7, 8, 9, 10, 11]]
def pl81_3Ae16 : Plan := [(0, true, []), (1, true, []), (2, true, []), (3, true, []), (4, true, []), (5, true, []), (6, true, []), (7, true, []), (8, true, []), (9, true, []), (10, true, []), (11, true, []), (12, false, [])]
variable {w0 : World}

/-! ### Answers that lie on the heap -/
/-- A call that answers v and leaves blocks behind. -/
def EffA (X : Ctx) (f : FuncId) (args : List PV) (ph : PH) (v : PV) (bl : List (Option Blk)) : Prop := ∀ K : PV → PH → Prop, K v (H ph bl ph.ob ph.ty) → PCalls X f args ph K
theorem h_app {b : PH} {l m : List (Option Blk)} {ob ob' : Nat → Option PObj} {ty ty' : Nat → Option TypeId} : H (H b l ob ty) m ob' ty' = H b (l ++ m) ob' ty' := by simp [H]
theorem w_effA {X : Ctx} {f : FuncId} {args : List PV} {b : PH} {l bl : List (Option Blk)} {ob : Nat → Option PObj} {ty : Nat → Option TypeId} {v : PV} {K : PV → PH → Prop} (h : EffA X f args (H b l ob ty) v bl) (k : K v (H b (l ++ bl) ob ty)) : PCalls X f args (H b l ob ty) K :=
  h K (by rw [h_app]; exact k)
/-- **A loop** whose base grows. -/
theorem w_loopJ {X : Ctx} {ph : PH} {ρ : Option Nat} {n0 : Nat} {Q : Exit → PSt → PH → Prop} {α : Type} {c : Code} {tm : List PV} {ms : List Nat} (ob : Nat → Option PObj) (ty : Nat → Option TypeId) (b : α → PH) (st : PH → α → List PV) (hl : α → List (Option Blk)) (Inv : α → Prop) (μ : α → Nat) (a0 : α) (h0 : Inv a0) (hn : ∀ a, Inv a → n0 ≤ (b a).n + (hl a).length)
    (hi : HTo (b a0) (hl a0) ob ty (st (b a0) a0) tm ph)
    (round : ∀ a, Inv a → ∀ B, B = b a → ∀ K : PSt → PH → Prop, (∀ a' tm ph', Inv a' → μ a' < μ a → HTo (b a') (hl a') ob ty (st (b a') a') tm ph' → K ⟨tm, ms⟩ ph') → vc X ρ n0 c (PExit.seq K Q) ⟨st B a, ms⟩ (H B (hl a) ob ty)) : vc X ρ n0 (.loop c) Q ⟨tm, ms⟩ ph := by
  show PWp X ρ n0 (.loop c) Q ⟨tm, ms⟩ ph
  refine PWp.weak (s' := ⟨st (b a0) a0, ms⟩) (ph' := H (b a0) (hl a0) ob ty) (hi.weak (hn _ h0)) rfl ?_
  refine pwp_loopN (I := fun j s' ph' => ∃ a, Inv a ∧ μ a = j ∧ HTo (b a) (hl a) ob ty (st (b a) a) s'.tm ph' ∧ s'.ms = ms) (μ a0) ⟨a0, h0, rfl, .same (by
    clear hi round
    generalize st (b a0) a0 = s
    induction s with
    | nil => trivial
    | cons p ps ih => exact ⟨.inr rfl, ih⟩), rfl⟩ ?_
  rintro j s' ph' ⟨a, hI, rfl, hT, hm⟩
  refine PWp.weak (s' := ⟨st (b a) a, ms⟩) (ph' := H (b a) (hl a) ob ty) (hT.weak (hn a hI)) hm.symm ?_
  refine vc_ok _ _ _ _ (round a hI _ rfl _ ?_)
  intro a' tm' ph' h1 h2 h3
  exact ⟨μ a', h2, a', h1, rfl, h3, rfl⟩

/-! ### The document's own steps -/
theorem refSized_ok (key : List UInt8) : Fn (Cx w0) 78 [.str key] (.bool (decide (goodK key))) := by
  obtain ⟨b1, b2, q1, q0, hbb⟩ : ∃ b1 b2 : Bool, ((key.length : Int) == 16) = b1 ∧ ((key.length : Int) == 32) = b2 ∧ decide (goodK key) = (b1 || b2) := ⟨_, _, rfl, rfl, by
    have hA : ((key.length : Int) == 16) = decide (key.length = 16) := by rw [Bool.eq_iff_iff, beq_iff_eq, decide_eq_true_iff]; omega
    have hB : ((key.length : Int) == 32) = decide (key.length = 32) := by rw [Bool.eq_iff_iff, beq_iff_eq, decide_eq_true_iff]; omega
    rw [hA, hB, Bool.eq_iff_iff, Bool.or_eq_true, decide_eq_true_iff, decide_eq_true_iff, decide_eq_true_iff]; exact Iff.rfl⟩
  rw [hbb]
  cases b1 <;> cases b2
  all_goals
    refine fn_H ([Go.ResultVar.tmp 2]) Tryz.func78 rfl rfl (by decide) fun ph hW Q hQ => ?_
    simp only [start, List.length_cons, List.length_nil, List.cons_append, List.nil_append, Nat.reduceAdd, Nat.reduceSub, List.replicate_succ, List.replicate_zero, Tryz.ntmps78]
    repeat' first | simp -implicitDefEqProofs (maxSteps := 400000) (disch := first | with_reducible rfl | omega | (simp only [wkH] <;> omega) | decide) only [wkAll, wkL, popO, wantedP, if_true, if_false, reduceIte, ne_eq, Nat.reduceAdd, Nat.reduceSub, Nat.reduceMul, Nat.reduceLeDiff, Nat.reduceLT, ofCells, ofCell, reduceCtorEq, Int.reduceLE, Int.reduceLT, Int.reduceToNat, Int.reduceAdd, Int.reduceSub, Int.reduceMul, Int.reduceNeg, Int.reduceBEq, Int.reduceBNe, Int.reduceEq, eqCell, eqCells, binP, unP, convP, lenP, builtinP, sliceDataP, unsafeStringP, appendT, appendS, appendP, copyP, srcP, mmsP, mmP, indexOp, indexAddrOp, sliceOp, bndsP, bndP, capw, capCut, loadOp, storeOp, loadP, fieldOp, fieldAddrOp, arrayAtOp, buildP, buildSliceP, makeSliceP, placeF, fillP, setL, PK.agg, isZero, gt_iff_lt, Nat.reducePow, Nat.reduceGT, reps, seg, wkN, if_pos, if_neg, tf3, Tryz.ze3, tf9, Tryz.ze9, q1, q0]
    refine hQ (by first | exact .inr rfl | exact .inl rfl) (by first | exact trivial | exact marks1) (by first | (simp -implicitDefEqProofs (maxSteps := 400000) (disch := first | with_reducible rfl | omega | (simp only [wkH] <;> omega) | decide) only [wkAll, wkL, popO, wantedP, if_true, if_false, reduceIte, ne_eq, Nat.reduceAdd, Nat.reduceSub, Nat.reduceMul, Nat.reduceLeDiff, Nat.reduceLT, ofCells, ofCell, reduceCtorEq, Int.reduceLE, Int.reduceLT, Int.reduceToNat, Int.reduceAdd, Int.reduceSub, Int.reduceMul, Int.reduceNeg, Int.reduceBEq, Int.reduceBNe, Int.reduceEq, eqCell, eqCells, loadOp, storeOp, loadP, setL, PK.agg, isZero, gt_iff_lt, Nat.reducePow, Nat.reduceGT, reps, seg, wkN, if_pos, if_neg, tf3, Tryz.ze3, tf9, Tryz.ze9, resP, resPs, resP1]; rfl) | rfl) ⟨6, by repeat' first | exact frz_scalar rfl | apply frz_tuple | apply frz_agg | apply frz_fsl | apply frz_gsl (by omega) | exact frzs_nil | apply frzs_cons⟩ (by first | exact keepsH0 | exact keeps1 (by assumption)) (nw_eq ?_)
    rfl
theorem bd {k : List UInt8} {i : Nat} {y : UInt8} (h : k[i]? = some y) : (List.drop i (bytesPV k))[0]? = some (.int .u8 (y.toNat : Int)) := by rw [List.getElem?_drop, Nat.add_zero, bytesPV, List.getElem?_map, h]; rfl
theorem refPlus_ok (ph : PH) (p : Nat) (cp : Option Nat) (b k : List UInt8) (hb : b.length = 16) (hk : k.length = 16) (h : ph.get p = some (bytesPV b)) : Eff (Cx w0) 81 [.sl p 0 1 16 cp, .fsl 1 16 (bytesPV k)] ph (.tuple []) (ph.put p (bytesPV (xorB b k))) := by
  have hp := PH.get_lt h
  have hx : (xorB b k).length = 16 := by rw [xorB_len, hb, hk]; rfl
  refine eff_of ([]) Tryz.func81 rfl rfl (by decide) (PH.n_put ..) (fun hW => hW.put hp (scs_b16 _)) fun hW Q hQ => ?_
  simp only [start, List.length_cons, List.length_nil, List.cons_append, List.nil_append, Nat.reduceAdd, Nat.reduceSub, List.replicate_succ, List.replicate_zero, Tryz.ntmps81]
  repeat' first | simp -implicitDefEqProofs (maxSteps := 400000) (disch := first | with_reducible rfl | omega | (simp only [wkH] <;> omega) | decide) only [wkAll, wkL, popO, wantedP, if_true, if_false, reduceIte, ne_eq, Nat.reduceAdd, Nat.reduceSub, Nat.reduceMul, Nat.reduceLeDiff, Nat.reduceLT, ofCells, ofCell, reduceCtorEq, Int.reduceLE, Int.reduceLT, Int.reduceToNat, Int.reduceAdd, Int.reduceSub, Int.reduceMul, Int.reduceNeg, Int.reduceBEq, Int.reduceBNe, Int.reduceEq, eqCell, eqCells, binP, unP, convP, lenP, builtinP, sliceDataP, unsafeStringP, appendT, appendS, appendP, copyP, srcP, mmsP, mmP, indexOp, indexAddrOp, sliceOp, bndsP, bndP, capw, capCut, loadOp, storeOp, loadP, fieldOp, fieldAddrOp, arrayAtOp, buildP, buildSliceP, makeSliceP, placeF, fillP, setL, PK.agg, isZero, gt_iff_lt, Nat.reducePow, Nat.reduceGT, reps, seg, wkN, if_pos, if_neg, tf3, Tryz.ze3, tf5, Tryz.ze5, tf30, Tryz.ze30, pl81_3Ae16] | refine w_drawnF (id := 3) tb81_3Ae16 pl81_3Ae16 21 (by kernel_rfl) (by kernel_rfl) (by simp) ?_
  refine w_loopB (α := Nat) ph.n ph.ob ph.ty (fun i => ph.put p (bytesPV (midB (xorB b k) b i))) (fun i => [.sl p 0 1 16 cp, .fsl 1 16 (bytesPV k), .undef, .undef, .int .i64 i, .undef, .undef, .undef, .undef, .undef, .undef, .undef, .undef, .undef, .undef, .undef, .undef, .undef, .undef, .undef, .undef]) (fun i => []) (fun i => i ≤ 16) (fun i => 16 - i) 0 (by simp) (fun _ _ => PH.n_put ..) (fun _ _ => by simp) (.eq (by simp [FadeTo]) (by rw [midB_0, put_self h])) ?_
  intro i hi B hB hn K hK
  have e2 : B.get p = some (bytesPV (midB (xorB b k) b i)) := by rw [hB]; exact get_putS _ hp
  have hpB : p < B.n := by rw [hn]; exact hp
  have hml := midB_len (m := xorB b k) (l := b) (by omega) i
  rcases Nat.lt_or_ge i 16 with hlt | hge
  · have hlt' : (i : Int) < 16 := by omega
    obtain ⟨x, hbx⟩ := get_someW (show i < b.length by omega)
    obtain ⟨y, hky⟩ := get_someW (show i < k.length by omega)
    have hkd := bd hky
    have hm : (xorB b k)[i]? = some (x ^^^ y) := by rw [xorB, List.getElem?_zipWith, hbx, hky]
    have ha := midB_at (m := xorB b k) (l := b) (by omega) (i := i) (by omega)
    rw [hbx] at ha
    have hs := midB_set (m := xorB b k) (l := b) (by omega) hm
    repeat' first | simp -implicitDefEqProofs (maxSteps := 400000) (disch := first | with_reducible rfl | omega | (simp only [wkH] <;> omega) | decide) only [wkAll, wkL, popO, wantedP, if_true, if_false, reduceIte, ne_eq, Nat.reduceAdd, Nat.reduceSub, Nat.reduceMul, Nat.reduceLeDiff, Nat.reduceLT, ofCells, ofCell, reduceCtorEq, Int.reduceLE, Int.reduceLT, Int.reduceToNat, Int.reduceAdd, Int.reduceSub, Int.reduceMul, Int.reduceNeg, Int.reduceBEq, Int.reduceBNe, Int.reduceEq, eqCell, eqCells, binP, unP, convP, lenP, builtinP, sliceDataP, unsafeStringP, appendT, appendS, appendP, copyP, srcP, mmsP, mmP, indexOp, indexAddrOp, sliceOp, bndsP, bndP, capw, capCut, loadOp, storeOp, loadP, fieldOp, fieldAddrOp, arrayAtOp, buildP, buildSliceP, makeSliceP, placeF, fillP, setL, PK.agg, isZero, gt_iff_lt, Nat.reducePow, Nat.reduceGT, reps, seg, wkN, if_pos, if_neg, tf3, Tryz.ze3, tf5, Tryz.ze5, tf30, Tryz.ze30, pl81_3Ae16, hlt', h_getlt hpB, h_putlt hpB, e2, hml, hb, hk, ha, hky, hkd, xor_u8, bytesPV_set, hs] | refine w_drawnF (id := 3) tb81_3Ae16 pl81_3Ae16 21 (by kernel_rfl) (by kernel_rfl) (by simp) ?_
    refine hK (i + 1) _ _ (by omega) (by omega) (.eq (by simp [FadeTo, hn]) (by rw [hB, put_putS]))
  · have hge' : ¬ (i : Int) < 16 := by omega
    have : i = 16 := by omega
    subst this
    rw [midB_all (by omega) (by omega)] at hB
    repeat' first | simp -implicitDefEqProofs (maxSteps := 400000) (disch := first | with_reducible rfl | omega | (simp only [wkH] <;> omega) | decide) only [wkAll, wkL, popO, wantedP, if_true, if_false, reduceIte, ne_eq, Nat.reduceAdd, Nat.reduceSub, Nat.reduceMul, Nat.reduceLeDiff, Nat.reduceLT, ofCells, ofCell, reduceCtorEq, Int.reduceLE, Int.reduceLT, Int.reduceToNat, Int.reduceAdd, Int.reduceSub, Int.reduceMul, Int.reduceNeg, Int.reduceBEq, Int.reduceBNe, Int.reduceEq, eqCell, eqCells, binP, unP, convP, lenP, builtinP, sliceDataP, unsafeStringP, appendT, appendS, appendP, copyP, srcP, mmsP, mmP, indexOp, indexAddrOp, sliceOp, bndsP, bndP, capw, capCut, loadOp, storeOp, loadP, fieldOp, fieldAddrOp, arrayAtOp, buildP, buildSliceP, makeSliceP, placeF, fillP, setL, PK.agg, isZero, gt_iff_lt, Nat.reducePow, Nat.reduceGT, reps, seg, wkN, if_pos, if_neg, tf3, Tryz.ze3, tf5, Tryz.ze5, tf30, Tryz.ze30, pl81_3Ae16, hge'] | refine w_drawnF (id := 3) tb81_3Ae16 pl81_3Ae16 21 (by kernel_rfl) (by kernel_rfl) (by simp) ?_
    subst hB
    refine hQ (by first | exact .inr rfl | exact .inl rfl) (by first | exact trivial | exact marks1) (by first | (simp -implicitDefEqProofs (maxSteps := 400000) (disch := first | with_reducible rfl | omega | (simp only [wkH] <;> omega) | decide) only [wkAll, wkL, popO, wantedP, if_true, if_false, reduceIte, ne_eq, Nat.reduceAdd, Nat.reduceSub, Nat.reduceMul, Nat.reduceLeDiff, Nat.reduceLT, ofCells, ofCell, reduceCtorEq, Int.reduceLE, Int.reduceLT, Int.reduceToNat, Int.reduceAdd, Int.reduceSub, Int.reduceMul, Int.reduceNeg, Int.reduceBEq, Int.reduceBNe, Int.reduceEq, eqCell, eqCells, loadOp, storeOp, loadP, setL, PK.agg, isZero, gt_iff_lt, Nat.reducePow, Nat.reduceGT, reps, seg, wkN, if_pos, if_neg, tf3, Tryz.ze3, tf5, Tryz.ze5, tf30, Tryz.ze30, pl81_3Ae16, resP, resPs, resP1]; rfl) | rfl) ⟨6, by repeat' first | exact frz_scalar rfl | apply frz_tuple | apply frz_agg | apply frz_fsl | apply frz_gsl (by omega) | exact frzs_nil | apply frzs_cons⟩ (by first | exact keepsH0 | exact keeps1 (by assumption)) (nw_eq ?_)
    rfl
/-- The rows turned, k cells told. -/
def turI (bk : Bool) (b : List UInt8) : Nat → List UInt8
  | 0 => List.replicate 16 0
  | k + 1 => (turI bk b k).set (if bk then 4 * ((k / 4 + k % 4) % 4) + k % 4 else k) (b.getD (if bk then k else 4 * ((k / 4 + k % 4) % 4) + k % 4) 0)
theorem turI_len (bk : Bool) (b : List UInt8) : ∀ k, (turI bk b k).length = 16
  | 0 => rfl
  | k + 1 => by rw [turI, List.length_set, turI_len bk b k]
theorem turI_tn {b : List UInt8} {k : Nat} {x : UInt8} (h : b[k]? = some x) : turI true b (k + 1) = (turI true b k).set (4 * ((k / 4 + k % 4) % 4) + k % 4) x := by rw [turI, if_pos rfl, if_pos rfl, List.getD_eq_getElem?_getD, h]; rfl
theorem turI_fn {b : List UInt8} {k : Nat} {x : UInt8} (h : b[4 * ((k / 4 + k % 4) % 4) + k % 4]? = some x) : turI false b (k + 1) = (turI false b k).set k x := by rw [turI, if_neg (by decide), if_neg (by decide), List.getD_eq_getElem?_getD, h]; rfl
theorem refTurned_ok (ph : PH) (p : Nat) (cp : Option Nat) (bk : Bool) (b : List UInt8) (hb : b.length = 16) (h : ph.get p = some (bytesPV b)) : EffA (Cx w0) 82 [.sl p 0 1 16 cp, .bool bk] ph (.sl ph.n 0 1 16 (some 16)) [some (.own (bytesPV (if bk then backS b else shiftL b)))] := by
  intro Kf hKf
  have hp := PH.get_lt h
  rw [show ph = H ph [] ph.ob ph.ty from (h_start ph).symm]
  refine w_inl ([Go.ResultVar.tmp 4]) Tryz.func82 rfl rfl (by decide) fun _ hI => ?_
  simp only [start, List.length_cons, List.length_nil, List.cons_append, List.nil_append, Nat.reduceAdd, Nat.reduceSub, List.replicate_succ, List.replicate_zero, Tryz.ntmps82]
  have z16 : bytesPV (List.replicate 16 0) = [.int .u8 0, .int .u8 0, .int .u8 0, .int .u8 0, .int .u8 0, .int .u8 0, .int .u8 0, .int .u8 0, .int .u8 0, .int .u8 0, .int .u8 0, .int .u8 0, .int .u8 0, .int .u8 0, .int .u8 0, .int .u8 0] := rfl
  repeat' first | simp -implicitDefEqProofs (maxSteps := 400000) (disch := first | with_reducible rfl | omega | (simp only [wkH] <;> omega) | decide) only [wkAll, wkL, popO, wantedP, if_true, if_false, reduceIte, ne_eq, Nat.reduceAdd, Nat.reduceSub, Nat.reduceMul, Nat.reduceLeDiff, Nat.reduceLT, ofCells, ofCell, reduceCtorEq, Int.reduceLE, Int.reduceLT, Int.reduceToNat, Int.reduceAdd, Int.reduceSub, Int.reduceMul, Int.reduceNeg, Int.reduceBEq, Int.reduceBNe, Int.reduceEq, eqCell, eqCells, binP, unP, convP, lenP, builtinP, sliceDataP, unsafeStringP, appendT, appendS, appendP, copyP, srcP, mmsP, mmP, indexOp, indexAddrOp, sliceOp, bndsP, bndP, capw, capCut, loadOp, storeOp, loadP, fieldOp, fieldAddrOp, arrayAtOp, buildP, buildSliceP, makeSliceP, placeF, fillP, setL, PK.agg, isZero, gt_iff_lt, Nat.reducePow, Nat.reduceGT, reps, seg, wkN, if_pos, if_neg, tf3, Tryz.ze3, tf5, Tryz.ze5, tf30, Tryz.ze30]
  refine w_loopH (α := Nat) ph ph.ob ph.ty (fun c => [.sl p 0 1 16 cp, .bool bk, .undef, .undef, .undef, .sl ph.n 0 1 16 (some 16), .int .i64 c, .undef, .undef, .undef, .undef, .undef, .undef, .undef, .undef, .undef, .undef, .undef, .undef, .undef, .undef, .undef, .undef, .undef, .undef, .undef, .undef, .undef, .undef, .undef, .undef, .undef, .undef, .undef, .undef, .undef, .undef, .undef, .undef, .undef, .undef, .undef, .undef, .undef, .undef, .undef, .undef, .undef, .undef, .undef, .undef]) (fun c => [some (.own (bytesPV (turI bk b (4 * c))))]) (fun c => c ≤ 4) (fun c => 4 - c) 0 (by simp) (fun _ _ => by simp [h_n]) (.eq (by simp [FadeTo]) (by simp [turI]; rfl)) ?_
  intro c hc K hK
  rcases Nat.lt_or_ge c 4 with hlt | hge
  · have hlt' : (c : Int) < 4 := by omega
    repeat' first | simp -implicitDefEqProofs (maxSteps := 400000) (disch := first | with_reducible rfl | omega | (simp only [wkH] <;> omega) | decide) only [wkAll, wkL, popO, wantedP, if_true, if_false, reduceIte, ne_eq, Nat.reduceAdd, Nat.reduceSub, Nat.reduceMul, Nat.reduceLeDiff, Nat.reduceLT, ofCells, ofCell, reduceCtorEq, Int.reduceLE, Int.reduceLT, Int.reduceToNat, Int.reduceAdd, Int.reduceSub, Int.reduceMul, Int.reduceNeg, Int.reduceBEq, Int.reduceBNe, Int.reduceEq, eqCell, eqCells, binP, unP, convP, lenP, builtinP, sliceDataP, unsafeStringP, appendT, appendS, appendP, copyP, srcP, mmsP, mmP, indexOp, indexAddrOp, sliceOp, bndsP, bndP, capw, capCut, loadOp, storeOp, loadP, fieldOp, fieldAddrOp, arrayAtOp, buildP, buildSliceP, makeSliceP, placeF, fillP, setL, PK.agg, isZero, gt_iff_lt, Nat.reducePow, Nat.reduceGT, reps, seg, wkN, if_pos, if_neg, tf3, Tryz.ze3, tf5, Tryz.ze5, tf30, Tryz.ze30, hlt']
    refine w_loopH (α := Nat) ph ph.ob ph.ty (fun r => [.sl p 0 1 16 cp, .bool bk, .undef, .undef, .undef, .sl ph.n 0 1 16 (some 16), .int .i64 c, .int .i64 r, .undef, .undef, .undef, .undef, .undef, .undef, .undef, .undef, .undef, .undef, .undef, .undef, .undef, .undef, .undef, .undef, .undef, .undef, .undef, .undef, .undef, .undef, .undef, .undef, .undef, .undef, .undef, .undef, .undef, .undef, .undef, .undef, .undef, .undef, .undef, .undef, .undef, .undef, .undef, .undef, .undef, .undef, .undef]) (fun r => [some (.own (bytesPV (turI bk b (4 * c + r))))]) (fun r => r ≤ 4) (fun r => 4 - r) 0 (by simp) (fun _ _ => by simp [h_n]) (.eq (by simp [FadeTo]) rfl) ?_
    intro r hr K2 hK2
    have hl := turI_len bk b (4 * c + r)
    rcases Nat.lt_or_ge r 4 with hlt4 | hge4
    · have hr' : (r : Int) < 4 := by omega
      obtain ⟨i, hi⟩ : ∃ i, i = 4 * c + r := ⟨_, rfl⟩
      obtain ⟨j, hj⟩ : ∃ j, j = 4 * ((c + r) % 4) + r := ⟨_, rfl⟩
      have hi16 : i < 16 := by omega
      have hj16 : j < 16 := by omega
      have hj2 : 4 * ((i / 4 + i % 4) % 4) + i % 4 = j := by omega
      have d1 : (c : Int) + (r : Int) = ((c + r : Nat) : Int) := by omega
      have d2 : Int.tmod ((c + r : Nat) : Int) 4 = (((c + r) % 4 : Nat) : Int) := by rw [Int.tmod_eq_emod_of_nonneg (by omega)]; rfl
      have d3 : 4 * (((c + r) % 4 : Nat) : Int) = ((4 * ((c + r) % 4) : Nat) : Int) := by omega
      have d4 : ((4 * ((c + r) % 4) : Nat) : Int) + (r : Int) = (j : Int) := by omega
      have d5 : 4 * (c : Int) = ((4 * c : Nat) : Int) := by omega
      have d6 : ((4 * c : Nat) : Int) + (r : Int) = (i : Int) := by omega
      have d7 : (i : Int) < 16 := by omega
      have d8 : (j : Int) < 16 := by omega
      obtain ⟨x, hx⟩ := get_someW (show i < b.length by omega)
      obtain ⟨y, hy⟩ := get_someW (show j < b.length by omega)
      rw [← hi] at hl ⊢
      have hK3 := fun tm ph' => hK2 (r + 1) tm ph' (by omega) (by omega)
      rw [show 4 * c + (r + 1) = i + 1 by omega] at hK3
      cases bk
      · rw [turI_fn (by rw [hj2]; exact hy)] at hK3
        clear hK hK2
        generalize turI false b i = T at *
        repeat' first | simp -implicitDefEqProofs (maxSteps := 400000) (disch := first | with_reducible rfl | omega | (simp only [wkH] <;> omega) | decide) only [wkAll, wkL, popO, wantedP, if_true, if_false, reduceIte, ne_eq, Nat.reduceAdd, Nat.reduceSub, Nat.reduceMul, Nat.reduceLeDiff, Nat.reduceLT, ofCells, ofCell, reduceCtorEq, Int.reduceLE, Int.reduceLT, Int.reduceToNat, Int.reduceAdd, Int.reduceSub, Int.reduceMul, Int.reduceNeg, Int.reduceBEq, Int.reduceBNe, Int.reduceEq, eqCell, eqCells, binP, unP, convP, lenP, builtinP, sliceDataP, unsafeStringP, appendT, appendS, appendP, copyP, srcP, mmsP, mmP, indexOp, indexAddrOp, sliceOp, bndsP, bndP, capw, capCut, loadOp, storeOp, loadP, fieldOp, fieldAddrOp, arrayAtOp, buildP, buildSliceP, makeSliceP, placeF, fillP, setL, PK.agg, isZero, gt_iff_lt, Nat.reducePow, Nat.reduceGT, reps, seg, wkN, if_pos, if_neg, tf3, Tryz.ze3, tf5, Tryz.ze5, tf30, Tryz.ze30, hr', d1, d2, d3, d4, d5, d6, d7, d8, h_getlt hp, h, hb, hl, hx, hy, bytesPV_set]
        exact hK3 _ _ (.eq (by simp [FadeTo]) rfl)
      · rw [turI_tn hx, hj2] at hK3
        clear hK hK2
        generalize turI true b i = T at *
        repeat' first | simp -implicitDefEqProofs (maxSteps := 400000) (disch := first | with_reducible rfl | omega | (simp only [wkH] <;> omega) | decide) only [wkAll, wkL, popO, wantedP, if_true, if_false, reduceIte, ne_eq, Nat.reduceAdd, Nat.reduceSub, Nat.reduceMul, Nat.reduceLeDiff, Nat.reduceLT, ofCells, ofCell, reduceCtorEq, Int.reduceLE, Int.reduceLT, Int.reduceToNat, Int.reduceAdd, Int.reduceSub, Int.reduceMul, Int.reduceNeg, Int.reduceBEq, Int.reduceBNe, Int.reduceEq, eqCell, eqCells, binP, unP, convP, lenP, builtinP, sliceDataP, unsafeStringP, appendT, appendS, appendP, copyP, srcP, mmsP, mmP, indexOp, indexAddrOp, sliceOp, bndsP, bndP, capw, capCut, loadOp, storeOp, loadP, fieldOp, fieldAddrOp, arrayAtOp, buildP, buildSliceP, makeSliceP, placeF, fillP, setL, PK.agg, isZero, gt_iff_lt, Nat.reducePow, Nat.reduceGT, reps, seg, wkN, if_pos, if_neg, tf3, Tryz.ze3, tf5, Tryz.ze5, tf30, Tryz.ze30, hr', d1, d2, d3, d4, d5, d6, d7, d8, h_getlt hp, h, hb, hl, hx, hy, bytesPV_set]
        exact hK3 _ _ (.eq (by simp [FadeTo]) rfl)
    · have hr' : ¬ (r : Int) < 4 := by omega
      have : r = 4 := by omega
      subst this
      repeat' first | simp -implicitDefEqProofs (maxSteps := 400000) (disch := first | with_reducible rfl | omega | (simp only [wkH] <;> omega) | decide) only [wkAll, wkL, popO, wantedP, if_true, if_false, reduceIte, ne_eq, Nat.reduceAdd, Nat.reduceSub, Nat.reduceMul, Nat.reduceLeDiff, Nat.reduceLT, ofCells, ofCell, reduceCtorEq, Int.reduceLE, Int.reduceLT, Int.reduceToNat, Int.reduceAdd, Int.reduceSub, Int.reduceMul, Int.reduceNeg, Int.reduceBEq, Int.reduceBNe, Int.reduceEq, eqCell, eqCells, binP, unP, convP, lenP, builtinP, sliceDataP, unsafeStringP, appendT, appendS, appendP, copyP, srcP, mmsP, mmP, indexOp, indexAddrOp, sliceOp, bndsP, bndP, capw, capCut, loadOp, storeOp, loadP, fieldOp, fieldAddrOp, arrayAtOp, buildP, buildSliceP, makeSliceP, placeF, fillP, setL, PK.agg, isZero, gt_iff_lt, Nat.reducePow, Nat.reduceGT, reps, seg, wkN, if_pos, if_neg, tf3, Tryz.ze3, tf5, Tryz.ze5, tf30, Tryz.ze30, hr']
      refine hK (c + 1) _ _ (by omega) (by omega) (.eq (by simp [FadeTo]) rfl)
  · have hge' : ¬ (c : Int) < 4 := by omega
    have : c = 4 := by omega
    subst this
    have e : turI bk b (4 * 4) = if bk then backS b else shiftL b := by cases bk <;> rfl
    rw [e] at *
    repeat' first | simp -implicitDefEqProofs (maxSteps := 400000) (disch := first | with_reducible rfl | omega | (simp only [wkH] <;> omega) | decide) only [wkAll, wkL, popO, wantedP, if_true, if_false, reduceIte, ne_eq, Nat.reduceAdd, Nat.reduceSub, Nat.reduceMul, Nat.reduceLeDiff, Nat.reduceLT, ofCells, ofCell, reduceCtorEq, Int.reduceLE, Int.reduceLT, Int.reduceToNat, Int.reduceAdd, Int.reduceSub, Int.reduceMul, Int.reduceNeg, Int.reduceBEq, Int.reduceBNe, Int.reduceEq, eqCell, eqCells, binP, unP, convP, lenP, builtinP, sliceDataP, unsafeStringP, appendT, appendS, appendP, copyP, srcP, mmsP, mmP, indexOp, indexAddrOp, sliceOp, bndsP, bndP, capw, capCut, loadOp, storeOp, loadP, fieldOp, fieldAddrOp, arrayAtOp, buildP, buildSliceP, makeSliceP, placeF, fillP, setL, PK.agg, isZero, gt_iff_lt, Nat.reducePow, Nat.reduceGT, reps, seg, wkN, if_pos, if_neg, tf3, Tryz.ze3, tf5, Tryz.ze5, tf30, Tryz.ze30, hge']
    refine hI (by first | exact .inr rfl | exact .inl rfl) trivial (by first | (simp -implicitDefEqProofs (maxSteps := 400000) (disch := first | with_reducible rfl | omega | (simp only [wkH] <;> omega) | decide) only [wkAll, wkL, popO, wantedP, if_true, if_false, reduceIte, ne_eq, Nat.reduceAdd, Nat.reduceSub, Nat.reduceMul, Nat.reduceLeDiff, Nat.reduceLT, ofCells, ofCell, reduceCtorEq, Int.reduceLE, Int.reduceLT, Int.reduceToNat, Int.reduceAdd, Int.reduceSub, Int.reduceMul, Int.reduceNeg, Int.reduceBEq, Int.reduceBNe, Int.reduceEq, eqCell, eqCells, loadOp, storeOp, loadP, setL, PK.agg, isZero, gt_iff_lt, Nat.reducePow, Nat.reduceGT, reps, seg, wkN, if_pos, if_neg, tf3, Tryz.ze3, tf5, Tryz.ze5, tf30, Tryz.ze30, resP, resPs, resP1]; rfl) | rfl) ?_
    exact hKf
end Pv

--nosplit
--keep2
namespace Pv
set_option maxRecDepth 20000
set_option maxHeartbeats 4000000
open Go Go.Proofs Go.RowKit
variable {w0 : World}

end Pv

--nosplit
--keep2
namespace Pv
set_option maxRecDepth 20000
set_option maxHeartbeats 4000000
open Go Go.Proofs Go.RowKit
def tb31_5Gc4 : Tab := [[], [], [], [], [2, 3], [], [], [5, 6], [2, 3, 4, 5, 6, 7], [0, 1, 2, 3, 4, 5, 6, 7, 8], [0, 1, 2, 3, 4, 5, 6, 7, 8, 9]]
def pl31_5Gc4 : Plan := [(0, true, []), (1, true, []), (2, true, []), (3, true, []), (4, true, []), (5, true, []), (6, true, []), (7, true, []), (8, true, []), (9, true, []), (10, false, [])]
variable {w0 : World}

theorem mkBm (ph : PH) (k : Nat) (h : k < 2 ^ 46) : makeSliceP Tryz.prog 30 (.int .i64 k) (.int .i64 k) ph = some (.sl ph.n 0 1 k (some k), ph.push (bytesPV (List.replicate k 0))) := by
  have e : reps k [PV.int .u8 0] = bytesPV (List.replicate k 0) := by
    clear h
    induction k with
    | zero => rfl
    | succ k ih =>
      show (List.replicate (k + 1) [PV.int .u8 0]).flatten = _
      rw [List.replicate_succ, List.flatten_cons, show (List.replicate k [PV.int .u8 0]).flatten = reps k [PV.int .u8 0] from rfl, ih]; rfl
  simp only [makeSliceP, Tryz.sl30, Tryz.sz5, Tryz.by5, Tryz.ze5, PV.cells, List.length_cons, List.length_nil]
  have h1 : (0 : Int) ≤ (k : Int) := by omega
  simp [e]
  omega
theorem refXor_ok (a b : List UInt8) (h : a.length ≤ b.length) (ha : a.length < 2 ^ 46) : Fn (Cx w0) 31 [.str a, .str b] (.str (xorB a b)) := by
  have hxl : (xorB a b).length = a.length := by rw [xorB_len]; omega
  obtain ⟨n, hn⟩ : ∃ n, n = a.length := ⟨_, rfl⟩
  obtain ⟨Z, hZ⟩ : ∃ Z : List UInt8, Z = List.replicate n 0 := ⟨_, rfl⟩
  have hZl : Z.length = n := by rw [hZ]; simp
  refine fn_H ([Go.ResultVar.tmp 4]) Tryz.func31 rfl rfl (by decide) fun ph hW Q hQ => ?_
  simp only [start, List.length_cons, List.length_nil, List.cons_append, List.nil_append, Nat.reduceAdd, Nat.reduceSub, List.replicate_succ, List.replicate_zero, Tryz.ntmps31]
  repeat' first | simp -implicitDefEqProofs (maxSteps := 400000) (disch := first | with_reducible rfl | omega | (simp only [wkH] <;> omega) | decide) only [wkAll, wkL, popO, wantedP, if_true, if_false, reduceIte, ne_eq, Nat.reduceAdd, Nat.reduceSub, Nat.reduceMul, Nat.reduceLeDiff, Nat.reduceLT, ofCells, ofCell, reduceCtorEq, Int.reduceLE, Int.reduceLT, Int.reduceToNat, Int.reduceAdd, Int.reduceSub, Int.reduceMul, Int.reduceNeg, Int.reduceBEq, Int.reduceBNe, Int.reduceEq, eqCell, eqCells, binP, unP, convP, lenP, builtinP, sliceDataP, unsafeStringP, appendT, appendS, appendP, copyP, srcP, mmsP, mmP, indexOp, indexAddrOp, sliceOp, bndsP, bndP, capw, capCut, loadOp, storeOp, loadP, fieldOp, fieldAddrOp, arrayAtOp, buildP, buildSliceP, makeSliceP, placeF, fillP, setL, PK.agg, isZero, gt_iff_lt, Nat.reducePow, Nat.reduceGT, reps, seg, wkN, if_pos, if_neg, tf3, Tryz.ze3, tf5, Tryz.ze5, tf9, Tryz.ze9, tf30, Tryz.ze30, pl31_5Gc4, -makeSliceP, mkBm, h_push, h_n, ← hn, ← hZ] | refine w_drawnF (id := 5) tb31_5Gc4 pl31_5Gc4 26 (by kernel_rfl) (by kernel_rfl) (by simp) ?_
  refine w_loopH (α := Nat) ph ph.ob ph.ty (fun i => [.str a, .str b, .undef, .undef, .undef, .sl ph.n 0 1 n (some n), .int .i64 i, .undef, .undef, .undef, .undef, .undef, .undef, .undef, .undef, .undef, .undef, .undef, .undef, .undef, .undef, .undef, .undef, .undef, .undef, .undef, .undef, .undef]) (fun i => [some (.own (bytesPV (midB (xorB a b) Z i)))]) (fun i => i ≤ n) (fun i => n - i) 0 (by simp) (fun _ _ => by simp) (.eq (by simp [FadeTo]) (by rw [midB_0])) ?_
  intro i hi K hK
  have hml := midB_len (m := xorB a b) (l := Z) (by omega) i
  rcases Nat.lt_or_ge i n with hlt | hge
  · have hlt' : (i : Int) < (n : Int) := by omega
    obtain ⟨x, hx⟩ := get_someW (show i < a.length by omega)
    obtain ⟨y, hy⟩ := get_someW (show i < b.length by omega)
    have hib : (i : Int) < (b.length : Int) := by omega
    have hm : (xorB a b)[i]? = some (x ^^^ y) := by rw [xorB, List.getElem?_zipWith, hx, hy]
    have hs := midB_set (m := xorB a b) (l := Z) (by omega) hm
    repeat' first | simp -implicitDefEqProofs (maxSteps := 400000) (disch := first | with_reducible rfl | omega | (simp only [wkH] <;> omega) | decide) only [wkAll, wkL, popO, wantedP, if_true, if_false, reduceIte, ne_eq, Nat.reduceAdd, Nat.reduceSub, Nat.reduceMul, Nat.reduceLeDiff, Nat.reduceLT, ofCells, ofCell, reduceCtorEq, Int.reduceLE, Int.reduceLT, Int.reduceToNat, Int.reduceAdd, Int.reduceSub, Int.reduceMul, Int.reduceNeg, Int.reduceBEq, Int.reduceBNe, Int.reduceEq, eqCell, eqCells, binP, unP, convP, lenP, builtinP, sliceDataP, unsafeStringP, appendT, appendS, appendP, copyP, srcP, mmsP, mmP, indexOp, indexAddrOp, sliceOp, bndsP, bndP, capw, capCut, loadOp, storeOp, loadP, fieldOp, fieldAddrOp, arrayAtOp, buildP, buildSliceP, makeSliceP, placeF, fillP, setL, PK.agg, isZero, gt_iff_lt, Nat.reducePow, Nat.reduceGT, reps, seg, wkN, if_pos, if_neg, tf3, Tryz.ze3, tf5, Tryz.ze5, tf9, Tryz.ze9, tf30, Tryz.ze30, pl31_5Gc4, ← hn, hlt', hib, hml, hZl, hx, hy, xor_u8, bytesPV_set, hs] | refine w_drawnF (id := 5) tb31_5Gc4 pl31_5Gc4 26 (by kernel_rfl) (by kernel_rfl) (by simp) ?_
    exact hK (i + 1) _ _ (by omega) (by omega) (.eq (by simp [FadeTo]) rfl)
  · have hge' : ¬ (i : Int) < (n : Int) := by omega
    have : i = n := by omega
    subst this
    rw [midB_all (by omega) (by omega)]
    have k4 : List.take i (bytesPV (xorB a b)) = bytesPV (xorB a b) := List.take_of_length_le (by rw [bytesPV_len]; omega)
    repeat' first | simp -implicitDefEqProofs (maxSteps := 400000) (disch := first | with_reducible rfl | omega | (simp only [wkH] <;> omega) | decide) only [wkAll, wkL, popO, wantedP, if_true, if_false, reduceIte, ne_eq, Nat.reduceAdd, Nat.reduceSub, Nat.reduceMul, Nat.reduceLeDiff, Nat.reduceLT, ofCells, ofCell, reduceCtorEq, Int.reduceLE, Int.reduceLT, Int.reduceToNat, Int.reduceAdd, Int.reduceSub, Int.reduceMul, Int.reduceNeg, Int.reduceBEq, Int.reduceBNe, Int.reduceEq, eqCell, eqCells, binP, unP, convP, lenP, builtinP, sliceDataP, unsafeStringP, appendT, appendS, appendP, copyP, srcP, mmsP, mmP, indexOp, indexAddrOp, sliceOp, bndsP, bndP, capw, capCut, loadOp, storeOp, loadP, fieldOp, fieldAddrOp, arrayAtOp, buildP, buildSliceP, makeSliceP, placeF, fillP, setL, PK.agg, isZero, gt_iff_lt, Nat.reducePow, Nat.reduceGT, reps, seg, wkN, if_pos, if_neg, tf3, Tryz.ze3, tf5, Tryz.ze5, tf9, Tryz.ze9, tf30, Tryz.ze30, pl31_5Gc4, ← hn, hge', k4, hxl, bytesX_bytesPV] | refine w_drawnF (id := 5) tb31_5Gc4 pl31_5Gc4 26 (by kernel_rfl) (by kernel_rfl) (by simp) ?_
    refine hQ (by first | exact .inr rfl | exact .inl rfl) (by first | exact trivial | exact marks1) (by first | (simp -implicitDefEqProofs (maxSteps := 400000) (disch := first | with_reducible rfl | omega | (simp only [wkH] <;> omega) | decide) only [wkAll, wkL, popO, wantedP, if_true, if_false, reduceIte, ne_eq, Nat.reduceAdd, Nat.reduceSub, Nat.reduceMul, Nat.reduceLeDiff, Nat.reduceLT, ofCells, ofCell, reduceCtorEq, Int.reduceLE, Int.reduceLT, Int.reduceToNat, Int.reduceAdd, Int.reduceSub, Int.reduceMul, Int.reduceNeg, Int.reduceBEq, Int.reduceBNe, Int.reduceEq, eqCell, eqCells, loadOp, storeOp, loadP, setL, PK.agg, isZero, gt_iff_lt, Nat.reducePow, Nat.reduceGT, reps, seg, wkN, if_pos, if_neg, tf3, Tryz.ze3, tf5, Tryz.ze5, tf9, Tryz.ze9, tf30, Tryz.ze30, pl31_5Gc4, resP, resPs, resP1]; rfl) | rfl) ⟨6, by repeat' first | exact frz_scalar rfl | apply frz_tuple | apply frz_agg | apply frz_fsl | apply frz_gsl (by omega) | exact frzs_nil | apply frzs_cons⟩ (by first | exact keepsH0 | exact keeps1 (by assumption)) (nw_eq ?_)
    rfl
end Pv

--nosplit
--keep2
namespace Pv
set_option maxRecDepth 20000
set_option maxHeartbeats 4000000
open Go Go.Proofs Go.RowKit
variable {w0 : World}

/-- The last blocks that a call leaves are told no more. -/
theorem EffA.cut {X : Ctx} {f : FuncId} {args : List PV} {ph : PH} {v : PV} {bl : List (Option Blk)} (g : List (Option Blk)) (h : EffA X f args ph v (bl ++ g)) (h1 : Sc (ph.n + bl.length) v) (h2 : ∀ x ∈ bl, ∀ c, x = some (Blk.own c) → Scs (ph.n + bl.length) c) : EffA X f args ph v bl := by
  intro K hK G w rargs hr ha
  have hb := hr.wf
  have hto : HTo ph bl ph.ob ph.ty [v] [v] (H ph (bl ++ g) ph.ob ph.ty) := .cut g hb (by simp [FadeTo]) rfl ⟨h1, trivial⟩ h2
  have key : ∀ v' w', CPost X ph.n G (fun u ph' => u = v ∧ ph' = H ph (bl ++ g) ph.ob ph.ty) v' w' → CPost X ph.n G K v' w' := by
    rintro v' w' ⟨G2, pv, ph', k1, k2, k3, k4, rfl, rfl⟩
    obtain ⟨G3, m1, m2, m3⟩ := hto.weak (X := X) (n0 := ph.n) (by omega) G2 w' [v'] k2 (.cons _ _ _ _ k3 .nil)
    cases m3 with
    | cons _ _ _ _ m3 _ => exact ⟨G3, _, _, k1.trans m1, m2, m3, by rw [h_n]; omega, hK⟩
  rcases h (fun u ph' => u = v ∧ ph' = H ph (bl ++ g) ph.ob ph.ty) ⟨rfl, rfl⟩ G w rargs hr ha with ⟨v, w', e, hc⟩ | ⟨w', e, hc⟩
  · exact .inl ⟨v, w', e, key _ _ hc⟩
  · refine .inr ⟨w', e, Calls.mono hc ?_⟩
    intro e w he
    cases e with
    | returned v => exact key _ _ he
    | _ => exact he
end Pv

--nosplit
--keep2
namespace Pv
set_option maxRecDepth 20000
set_option maxHeartbeats 4000000
open Go Go.Proofs Go.RowKit
variable {w0 : World}

end Pv
