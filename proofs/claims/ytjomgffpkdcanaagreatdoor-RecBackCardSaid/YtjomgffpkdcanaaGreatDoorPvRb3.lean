/- Part of the proof: the layer of pure values, or walks through functions (PvRb3, PvH4, PvRb4, PvAesH, PvAesE). -/
import Derived.Test.YtjomgffpkdcanaaGreatDoorPvRb2
import Derived.Test.YtjomgffpkdcanaaGreatDoorPvH
import Derived.Test.YtjomgffpkdcanaaGreatDoorPvDrawP
set_option linter.all false
--nosplit
--keep2
namespace Pv
set_option maxRecDepth 20000
set_option maxHeartbeats 4000000
open Go Go.Proofs Go.RowKit
def tb22_7Rb3 : Tab := [[], [], [1], [0, 1, 2], [0, 1, 2, 3], [], [5], [], [7], [7, 8], [5, 6, 7, 8, 9], [5, 6, 7, 8, 9, 10], [0, 1, 2, 3, 4, 5, 6, 7, 8, 9, 10, 11], [0, 1, 2, 3, 4, 5, 6, 7, 8, 9, 10, 11, 12], [0, 1, 2, 3, 4, 5, 6, 7, 8, 9, 10, 11, 12, 13]]
def pl22_7Rb3 : Plan := [(0, true, []), (1, true, []), (2, true, []), (3, true, []), (4, true, []), (5, true, []), (6, true, []), (7, true, []), (8, true, []), (9, true, []), (10, true, []), (11, true, []), (12, true, []), (13, true, []), (14, false, [])]
variable {w0 : World}

def nB (seq : Int) (v : UInt8) (k : Int) : UInt8 := v ^^^ u8 (shrP .u64 seq k)
def nonceL : List UInt8 → Int → List UInt8
  | [a0, a1, a2, a3, a4, a5, a6, a7, a8, a9, a10, a11], q => [a0, a1, a2, a3, nB q a4 56, nB q a5 48, nB q a6 40, nB q a7 32, nB q a8 24, nB q a9 16, nB q a10 8, nB q a11 0]
  | _, _ => []
theorem twelve {s : List UInt8} (h : s.length = 12) : ∃ a0 a1 a2 a3 a4 a5 a6 a7 a8 a9 a10 a11, s = [a0, a1, a2, a3, a4, a5, a6, a7, a8, a9, a10, a11] := by
  match s, h with
  | [a0, a1, a2, a3, a4, a5, a6, a7, a8, a9, a10, a11], _ => exact ⟨_, _, _, _, _, _, _, _, _, _, _, _, rfl⟩
theorem nonce_len {s : List UInt8} (h : s.length = 12) (q : Int) : (nonceL s q).length = 12 := by
  obtain ⟨a0, a1, a2, a3, a4, a5, a6, a7, a8, a9, a10, a11, rfl⟩ := twelve h; rfl
def nonG (key iv : List UInt8) (q : Int) : List UInt8 × Int := if key.length = 16 ∧ iv.length = 12 then (nonceL iv q, 0) else ([], 10)
theorem recNonce_ok (key iv : List UInt8) (q : Int) : Fn (Cx w0) 22 [.agg [.str key, .str iv, .int .u64 q]] (.tuple [.str (nonG key iv q).1, .int .i64 (nonG key iv q).2]) := by
  by_cases h1 : key.length = 16
  · have h1' : ((key.length : Int) != 16) = false := by rw [h1]; rfl
    by_cases h2 : iv.length = 12
    · have h2' : ((iv.length : Int) != 12) = false := by rw [h2]; rfl
      rw [show nonG key iv q = (nonceL iv q, 0) by rw [nonG, if_pos ⟨h1, h2⟩]]
      obtain ⟨a0, a1, a2, a3, a4, a5, a6, a7, a8, a9, a10, a11, rfl⟩ := twelve h2
      have hx : ∀ (v : UInt8) (n : Int), bitsP .xor .u8 (v.toNat : Int) (IntKind.wrap .u8 n) = ((v ^^^ u8 n).toNat : Int) := by
        intro v n
        have : IntKind.wrap .u8 n = ((u8 n).toNat : Int) := by rw [u8_toNat]; simp [IntKind.wrap, IntKind.bits, IntKind.signed]
        rw [this, xor_u8]
      have ht : ∀ b0 b1 b2 b3 b4 b5 b6 b7 b8 b9 b10 b11 : UInt8, List.take 12 (bytesPV [b0, b1, b2, b3, b4, b5, b6, b7, b8, b9, b10, b11]) = bytesPV [b0, b1, b2, b3, b4, b5, b6, b7, b8, b9, b10, b11] := fun _ _ _ _ _ _ _ _ _ _ _ _ => rfl
      refine fn_H ([Go.ResultVar.tmp 2, Go.ResultVar.tmp 3]) Tryz.func22 rfl rfl (by decide) fun ph hW Q hQ => ?_
      simp only [start, List.length_cons, List.length_nil, List.cons_append, List.nil_append, Nat.reduceAdd, Nat.reduceSub, List.replicate_succ, List.replicate_zero, Tryz.ntmps22]
      repeat' first | simp -implicitDefEqProofs (maxSteps := 400000) (disch := first | with_reducible rfl | omega | (simp only [wkH] <;> omega) | decide) only [wkAll, wkL, popO, wantedP, if_true, if_false, reduceIte, ne_eq, Nat.reduceAdd, Nat.reduceSub, Nat.reduceMul, Nat.reduceLeDiff, Nat.reduceLT, ofCells, ofCell, reduceCtorEq, Int.reduceLE, Int.reduceLT, Int.reduceToNat, Int.reduceAdd, Int.reduceSub, Int.reduceMul, Int.reduceNeg, Int.reduceBEq, Int.reduceBNe, Int.reduceEq, eqCell, eqCells, binP, unP, convP, lenP, builtinP, sliceDataP, unsafeStringP, appendT, appendS, appendP, copyP, srcP, mmsP, mmP, indexOp, indexAddrOp, sliceOp, bndsP, bndP, capw, capCut, loadOp, storeOp, loadP, fieldOp, fieldAddrOp, arrayAtOp, buildP, buildSliceP, makeSliceP, placeF, fillP, setL, PK.agg, isZero, gt_iff_lt, Nat.reducePow, Nat.reduceGT, reps, seg, wkN, if_pos, if_neg, tf3, Tryz.ze3, tf5, Tryz.ze5, tf9, Tryz.ze9, tf22, Tryz.ze22, tf24, Tryz.ze24, tf49, Tryz.ze49, pl22_7Rb3, h1', h2'] | refine w_drawnF (id := 7) tb22_7Rb3 pl22_7Rb3 36 (by kernel_rfl) (by kernel_rfl) (by simp) ?_
      refine w_unr 9 ?_
      repeat' first | simp -implicitDefEqProofs (maxSteps := 400000) (disch := first | with_reducible rfl | omega | (simp only [wkH] <;> omega) | decide) only [wkAll, wkL, popO, wantedP, if_true, if_false, reduceIte, ne_eq, Nat.reduceAdd, Nat.reduceSub, Nat.reduceMul, Nat.reduceLeDiff, Nat.reduceLT, ofCells, ofCell, reduceCtorEq, Int.reduceLE, Int.reduceLT, Int.reduceToNat, Int.reduceAdd, Int.reduceSub, Int.reduceMul, Int.reduceNeg, Int.reduceBEq, Int.reduceBNe, Int.reduceEq, eqCell, eqCells, binP, unP, convP, lenP, builtinP, sliceDataP, unsafeStringP, appendT, appendS, appendP, copyP, srcP, mmsP, mmP, indexOp, indexAddrOp, sliceOp, bndsP, bndP, capw, capCut, loadOp, storeOp, loadP, fieldOp, fieldAddrOp, arrayAtOp, buildP, buildSliceP, makeSliceP, placeF, fillP, setL, PK.agg, isZero, gt_iff_lt, Nat.reducePow, Nat.reduceGT, reps, seg, wkN, if_pos, if_neg, tf3, Tryz.ze3, tf5, Tryz.ze5, tf9, Tryz.ze9, tf22, Tryz.ze22, tf24, Tryz.ze24, tf49, Tryz.ze49, pl22_7Rb3, unr_succ, hx, bytesPV_setb, List.set_cons_succ, List.set_cons_zero, ht, bytesOf_bytesPV] | refine w_drawnF (id := 7) tb22_7Rb3 pl22_7Rb3 36 (by kernel_rfl) (by kernel_rfl) (by simp) ?_
      refine hQ (by first | exact .inr rfl | exact .inl rfl) (by first | exact trivial | exact marks1) (by first | (simp -implicitDefEqProofs (maxSteps := 400000) (disch := first | with_reducible rfl | omega | (simp only [wkH] <;> omega) | decide) only [wkAll, wkL, popO, wantedP, if_true, if_false, reduceIte, ne_eq, Nat.reduceAdd, Nat.reduceSub, Nat.reduceMul, Nat.reduceLeDiff, Nat.reduceLT, ofCells, ofCell, reduceCtorEq, Int.reduceLE, Int.reduceLT, Int.reduceToNat, Int.reduceAdd, Int.reduceSub, Int.reduceMul, Int.reduceNeg, Int.reduceBEq, Int.reduceBNe, Int.reduceEq, eqCell, eqCells, loadOp, storeOp, loadP, setL, PK.agg, isZero, gt_iff_lt, Nat.reducePow, Nat.reduceGT, reps, seg, wkN, if_pos, if_neg, tf3, Tryz.ze3, tf5, Tryz.ze5, tf9, Tryz.ze9, tf22, Tryz.ze22, tf24, Tryz.ze24, tf49, Tryz.ze49, pl22_7Rb3, resP, resPs, resP1]; rfl) | rfl) ⟨6, by repeat' first | exact frz_scalar rfl | apply frz_tuple | apply frz_agg | apply frz_fsl | apply frz_gsl (by omega) | exact frzs_nil | apply frzs_cons⟩ (by first | exact keepsH0 | exact keeps1 (by assumption)) (nw_eq ?_)
      rfl
    · have h2' : ((iv.length : Int) != 12) = true := by rw [bne_iff_ne]; omega
      rw [show nonG key iv q = ([], 10) by rw [nonG, if_neg (fun h => h2 h.2)]]
      refine fn_H ([Go.ResultVar.tmp 2, Go.ResultVar.tmp 3]) Tryz.func22 rfl rfl (by decide) fun ph hW Q hQ => ?_
      simp only [start, List.length_cons, List.length_nil, List.cons_append, List.nil_append, Nat.reduceAdd, Nat.reduceSub, List.replicate_succ, List.replicate_zero, Tryz.ntmps22]
      repeat' first | simp -implicitDefEqProofs (maxSteps := 400000) (disch := first | with_reducible rfl | omega | (simp only [wkH] <;> omega) | decide) only [wkAll, wkL, popO, wantedP, if_true, if_false, reduceIte, ne_eq, Nat.reduceAdd, Nat.reduceSub, Nat.reduceMul, Nat.reduceLeDiff, Nat.reduceLT, ofCells, ofCell, reduceCtorEq, Int.reduceLE, Int.reduceLT, Int.reduceToNat, Int.reduceAdd, Int.reduceSub, Int.reduceMul, Int.reduceNeg, Int.reduceBEq, Int.reduceBNe, Int.reduceEq, eqCell, eqCells, binP, unP, convP, lenP, builtinP, sliceDataP, unsafeStringP, appendT, appendS, appendP, copyP, srcP, mmsP, mmP, indexOp, indexAddrOp, sliceOp, bndsP, bndP, capw, capCut, loadOp, storeOp, loadP, fieldOp, fieldAddrOp, arrayAtOp, buildP, buildSliceP, makeSliceP, placeF, fillP, setL, PK.agg, isZero, gt_iff_lt, Nat.reducePow, Nat.reduceGT, reps, seg, wkN, if_pos, if_neg, tf3, Tryz.ze3, tf5, Tryz.ze5, tf9, Tryz.ze9, tf22, Tryz.ze22, tf24, Tryz.ze24, tf49, Tryz.ze49, pl22_7Rb3, h1', h2'] | refine w_drawnF (id := 7) tb22_7Rb3 pl22_7Rb3 36 (by kernel_rfl) (by kernel_rfl) (by simp) ?_
      refine hQ (by first | exact .inr rfl | exact .inl rfl) (by first | exact trivial | exact marks1) (by first | (simp -implicitDefEqProofs (maxSteps := 400000) (disch := first | with_reducible rfl | omega | (simp only [wkH] <;> omega) | decide) only [wkAll, wkL, popO, wantedP, if_true, if_false, reduceIte, ne_eq, Nat.reduceAdd, Nat.reduceSub, Nat.reduceMul, Nat.reduceLeDiff, Nat.reduceLT, ofCells, ofCell, reduceCtorEq, Int.reduceLE, Int.reduceLT, Int.reduceToNat, Int.reduceAdd, Int.reduceSub, Int.reduceMul, Int.reduceNeg, Int.reduceBEq, Int.reduceBNe, Int.reduceEq, eqCell, eqCells, loadOp, storeOp, loadP, setL, PK.agg, isZero, gt_iff_lt, Nat.reducePow, Nat.reduceGT, reps, seg, wkN, if_pos, if_neg, tf3, Tryz.ze3, tf5, Tryz.ze5, tf9, Tryz.ze9, tf22, Tryz.ze22, tf24, Tryz.ze24, tf49, Tryz.ze49, pl22_7Rb3, resP, resPs, resP1]; rfl) | rfl) ⟨6, by repeat' first | exact frz_scalar rfl | apply frz_tuple | apply frz_agg | apply frz_fsl | apply frz_gsl (by omega) | exact frzs_nil | apply frzs_cons⟩ (by first | exact keepsH0 | exact keeps1 (by assumption)) (nw_eq ?_)
      rfl
  · have h1' : ((key.length : Int) != 16) = true := by rw [bne_iff_ne]; omega
    rw [show nonG key iv q = ([], 10) by rw [nonG, if_neg (fun h => h1 h.1)]]
    refine fn_H ([Go.ResultVar.tmp 2, Go.ResultVar.tmp 3]) Tryz.func22 rfl rfl (by decide) fun ph hW Q hQ => ?_
    simp only [start, List.length_cons, List.length_nil, List.cons_append, List.nil_append, Nat.reduceAdd, Nat.reduceSub, List.replicate_succ, List.replicate_zero, Tryz.ntmps22]
    repeat' first | simp -implicitDefEqProofs (maxSteps := 400000) (disch := first | with_reducible rfl | omega | (simp only [wkH] <;> omega) | decide) only [wkAll, wkL, popO, wantedP, if_true, if_false, reduceIte, ne_eq, Nat.reduceAdd, Nat.reduceSub, Nat.reduceMul, Nat.reduceLeDiff, Nat.reduceLT, ofCells, ofCell, reduceCtorEq, Int.reduceLE, Int.reduceLT, Int.reduceToNat, Int.reduceAdd, Int.reduceSub, Int.reduceMul, Int.reduceNeg, Int.reduceBEq, Int.reduceBNe, Int.reduceEq, eqCell, eqCells, binP, unP, convP, lenP, builtinP, sliceDataP, unsafeStringP, appendT, appendS, appendP, copyP, srcP, mmsP, mmP, indexOp, indexAddrOp, sliceOp, bndsP, bndP, capw, capCut, loadOp, storeOp, loadP, fieldOp, fieldAddrOp, arrayAtOp, buildP, buildSliceP, makeSliceP, placeF, fillP, setL, PK.agg, isZero, gt_iff_lt, Nat.reducePow, Nat.reduceGT, reps, seg, wkN, if_pos, if_neg, tf3, Tryz.ze3, tf5, Tryz.ze5, tf9, Tryz.ze9, tf22, Tryz.ze22, tf24, Tryz.ze24, tf49, Tryz.ze49, pl22_7Rb3, h1'] | refine w_drawnF (id := 7) tb22_7Rb3 pl22_7Rb3 36 (by kernel_rfl) (by kernel_rfl) (by simp) ?_
    refine hQ (by first | exact .inr rfl | exact .inl rfl) (by first | exact trivial | exact marks1) (by first | (simp -implicitDefEqProofs (maxSteps := 400000) (disch := first | with_reducible rfl | omega | (simp only [wkH] <;> omega) | decide) only [wkAll, wkL, popO, wantedP, if_true, if_false, reduceIte, ne_eq, Nat.reduceAdd, Nat.reduceSub, Nat.reduceMul, Nat.reduceLeDiff, Nat.reduceLT, ofCells, ofCell, reduceCtorEq, Int.reduceLE, Int.reduceLT, Int.reduceToNat, Int.reduceAdd, Int.reduceSub, Int.reduceMul, Int.reduceNeg, Int.reduceBEq, Int.reduceBNe, Int.reduceEq, eqCell, eqCells, loadOp, storeOp, loadP, setL, PK.agg, isZero, gt_iff_lt, Nat.reducePow, Nat.reduceGT, reps, seg, wkN, if_pos, if_neg, tf3, Tryz.ze3, tf5, Tryz.ze5, tf9, Tryz.ze9, tf22, Tryz.ze22, tf24, Tryz.ze24, tf49, Tryz.ze49, pl22_7Rb3, resP, resPs, resP1]; rfl) | rfl) ⟨6, by repeat' first | exact frz_scalar rfl | apply frz_tuple | apply frz_agg | apply frz_fsl | apply frz_gsl (by omega) | exact frzs_nil | apply frzs_cons⟩ (by first | exact keepsH0 | exact keeps1 (by assumption)) (nw_eq ?_)
    rfl
end Pv

namespace Pv
open Go Go.RowKit
variable {X : Ctx} {ph : PH} {ρ : Option Nat} {n0 : Nat} {Q : Exit → PSt → PH → Prop}

/-- **A loop** that writes into blocks that were there: the base turns with the rounds. -/
theorem w_loopB {α : Type} {c : Code} {tm : List PV} {ms : List Nat} (n : Nat) (ob : Nat → Option PObj) (ty : Nat → Option TypeId) (b : α → PH) (st : α → List PV) (hl : α → List (Option Blk)) (Inv : α → Prop) (μ : α → Nat) (a0 : α) (h0 : Inv a0) (hb : ∀ a, Inv a → (b a).n = n) (hn : ∀ a, Inv a → n0 ≤ n + (hl a).length)
    (hi : HTo (b a0) (hl a0) ob ty (st a0) tm ph)
    (round : ∀ a, Inv a → ∀ B, B = b a → B.n = n → ∀ K : PSt → PH → Prop, (∀ a' tm ph', Inv a' → μ a' < μ a → HTo (b a') (hl a') ob ty (st a') tm ph' → K ⟨tm, ms⟩ ph') → vc X ρ n0 c (PExit.seq K Q) ⟨st a, ms⟩ (H B (hl a) ob ty)) : vc X ρ n0 (.loop c) Q ⟨tm, ms⟩ ph := by
  show PWp X ρ n0 (.loop c) Q ⟨tm, ms⟩ ph
  have hn' : ∀ a, Inv a → n0 ≤ (b a).n + (hl a).length := fun a h => by rw [hb a h]; exact hn a h
  refine PWp.weak (s' := ⟨st a0, ms⟩) (ph' := H (b a0) (hl a0) ob ty) (hi.weak (hn' _ h0)) rfl ?_
  refine pwp_loopN (I := fun j s' ph' => ∃ a, Inv a ∧ μ a = j ∧ HTo (b a) (hl a) ob ty (st a) s'.tm ph' ∧ s'.ms = ms) (μ a0) ⟨a0, h0, rfl, .same (by
    clear hi round
    generalize st a0 = s
    induction s with
    | nil => trivial
    | cons p ps ih => exact ⟨.inr rfl, ih⟩), rfl⟩ ?_
  rintro j s' ph' ⟨a, hI, rfl, hT, hm⟩
  refine PWp.weak (s' := ⟨st a, ms⟩) (ph' := H (b a) (hl a) ob ty) (hT.weak (hn' a hI)) hm.symm ?_
  refine vc_ok _ _ _ _ (round a hI _ rfl (hb a hI) _ ?_)
  intro a' tm' ph' h1 h2 h3
  exact ⟨μ a', h2, a', h1, rfl, h3, rfl⟩

theorem put_putS (p : Nat) (c d : List PV) : (ph.put p c).put p d = ph.put p d := by simp [PH.put]
theorem get_putS {p : Nat} (c : List PV) (h : p < ph.n) : (ph.put p c).get p = some c := by rw [PH.get_put h, if_pos rfl]
theorem get_putO {p q : Nat} (c : List PV) (h : p < ph.n) (hne : q ≠ p) : (ph.put p c).get q = ph.get q := by rw [PH.get_put h, if_neg hne]

/-! A base that has been written into. -/
section
variable {B : PH} {p q k : Nat} {c d : List PV} {l : List (Option Blk)} {ob : Nat → Option PObj} {ty : Nat → Option TypeId}
theorem hp_get : (H (B.put p c) l ob ty).get (B.n + k) = (l[k]?).join.bind Blk.cells := by have := h_get (b := B.put p c) (l := l) (ob := ob) (ty := ty) (k := k); rwa [PH.n_put] at this
theorem hp_get0 : (H (B.put p c) l ob ty).get B.n = (l[0]?).join.bind Blk.cells := hp_get (k := 0)
theorem hp_put : (H (B.put p c) l ob ty).put (B.n + k) d = H (B.put p c) (l.set k (some (.own d))) ob ty := by have := h_put (b := B.put p c) (l := l) (ob := ob) (ty := ty) (k := k) (c := d); rwa [PH.n_put] at this
theorem hp_put0 : (H (B.put p c) l ob ty).put B.n d = H (B.put p c) (l.set 0 (some (.own d))) ob ty := hp_put (k := 0)
theorem hp_getS (hp : p < B.n) : (H (B.put p c) l ob ty).get p = some c := by rw [h_getlt (by rw [PH.n_put]; exact hp)]; exact get_putS _ hp
theorem hp_putS (hp : p < B.n) : (H (B.put p c) l ob ty).put p d = H (B.put p d) l ob ty := by rw [h_putlt (by rw [PH.n_put]; exact hp), put_putS]
theorem hp_n : (B.put p c).n = B.n := PH.n_put ..
end
/-- .. as one. -/
theorem wkP : type_of% (And.intro (And.intro @hp_get @hp_get0) (And.intro (And.intro @hp_put @hp_put0) @hp_n)) := And.intro (And.intro @hp_get @hp_get0) (And.intro (And.intro @hp_put @hp_put0) @hp_n)
end Pv

--nosplit
--keep2
namespace Pv
set_option maxRecDepth 20000
set_option maxHeartbeats 4000000
open Go Go.Proofs Go.RowKit
def tb15_7Rb4 : Tab := [[], [0], [0, 1], [], [3], [0, 1, 2, 3, 4]]
def pl15_7Rb4 : Plan := [(0, true, []), (1, true, []), (2, true, []), (3, true, []), (4, true, []), (5, false, [])]
variable {w0 : World}

theorem recBegin_ok (ph : PH) (key iv : List UInt8) (q : Int) (hk : key.length = 16) (hi : iv.length = 12) (hq : q ≠ 18446744073709551615) : EffA (Cx w0) 15 [.agg [.str key, .str iv, .int .u64 q]] ph (.tuple [.ptr (ph.n + 1) 0, .int .i64 0]) [some (.own [.str key, .str iv, .int .u64 q]), some (.own [.str key, .str iv, .int .u64 q, .int .u64 q, .str (nonceL iv q)])] := by
  have tn := recNonce_ok (w0 := w0) key iv q
  rw [show nonG key iv q = (nonceL iv q, 0) by rw [nonG, if_pos ⟨hk, hi⟩]] at tn
  have hq' : (q == 18446744073709551615) = false := by rw [beq_eq_false_iff_ne]; exact hq
  intro Kf hKf
  rw [show ph = H ph [] ph.ob ph.ty from (h_start ph).symm]
  refine w_inl ([Go.ResultVar.tmp 2, Go.ResultVar.tmp 3]) Tryz.func15 rfl rfl (by decide) fun _ hI => ?_
  simp only [start, List.length_cons, List.length_nil, List.cons_append, List.nil_append, Nat.reduceAdd, Nat.reduceSub, List.replicate_succ, List.replicate_zero, Tryz.ntmps15]
  have hIb := @hI
  repeat' first | simp -implicitDefEqProofs (maxSteps := 400000) (disch := first | with_reducible rfl | omega | (simp only [wkH] <;> omega) | decide) only [wkAll, wkL, popO, wantedP, if_true, if_false, reduceIte, ne_eq, Nat.reduceAdd, Nat.reduceSub, Nat.reduceMul, Nat.reduceLeDiff, Nat.reduceLT, ofCells, ofCell, reduceCtorEq, Int.reduceLE, Int.reduceLT, Int.reduceToNat, Int.reduceAdd, Int.reduceSub, Int.reduceMul, Int.reduceNeg, Int.reduceBEq, Int.reduceBNe, Int.reduceEq, eqCell, eqCells, binP, unP, convP, lenP, builtinP, sliceDataP, unsafeStringP, appendT, appendS, appendP, copyP, srcP, mmsP, mmP, indexOp, indexAddrOp, sliceOp, bndsP, bndP, capw, capCut, loadOp, storeOp, loadP, fieldOp, fieldAddrOp, arrayAtOp, buildP, buildSliceP, makeSliceP, placeF, fillP, setL, PK.agg, isZero, gt_iff_lt, Nat.reducePow, Nat.reduceGT, reps, seg, wkN, if_pos, if_neg, tf9, Tryz.ze9, tf22, Tryz.ze22, tf24, Tryz.ze24, tf29, Tryz.ze29, tf56, Tryz.ze56, tf58, Tryz.ze58, pl15_7Rb4, hq'] | refine w_pure (tn) ?_ | refine w_drawnF (id := 7) tb15_7Rb4 pl15_7Rb4 28 (by kernel_rfl) (by kernel_rfl) (by simp) ?_
  refine w_inl ([]) Tryz.func23 rfl rfl (by decide) fun _ hI => ?_
  simp only [start, List.length_cons, List.length_nil, List.cons_append, List.nil_append, Nat.reduceAdd, Nat.reduceSub, List.replicate_succ, List.replicate_zero, Tryz.ntmps23]
  repeat' first | simp -implicitDefEqProofs (maxSteps := 400000) (disch := first | with_reducible rfl | omega | (simp only [wkH] <;> omega) | decide) only [wkAll, wkL, popO, wantedP, if_true, if_false, reduceIte, ne_eq, Nat.reduceAdd, Nat.reduceSub, Nat.reduceMul, Nat.reduceLeDiff, Nat.reduceLT, ofCells, ofCell, reduceCtorEq, Int.reduceLE, Int.reduceLT, Int.reduceToNat, Int.reduceAdd, Int.reduceSub, Int.reduceMul, Int.reduceNeg, Int.reduceBEq, Int.reduceBNe, Int.reduceEq, eqCell, eqCells, binP, unP, convP, lenP, builtinP, sliceDataP, unsafeStringP, appendT, appendS, appendP, copyP, srcP, mmsP, mmP, indexOp, indexAddrOp, sliceOp, bndsP, bndP, capw, capCut, loadOp, storeOp, loadP, fieldOp, fieldAddrOp, arrayAtOp, buildP, buildSliceP, makeSliceP, placeF, fillP, setL, PK.agg, isZero, gt_iff_lt, Nat.reducePow, Nat.reduceGT, reps, seg, wkN, if_pos, if_neg, tf22, Tryz.ze22, tf56, Tryz.ze56, tf98, Tryz.ze98] | refine w_eff (store64_ok (by rw [h_get]; rfl) rfl) ?_
  refine hI (by first | exact .inr rfl | exact .inl rfl) trivial (by first | (simp -implicitDefEqProofs (maxSteps := 400000) (disch := first | with_reducible rfl | omega | (simp only [wkH] <;> omega) | decide) only [wkAll, wkL, popO, wantedP, if_true, if_false, reduceIte, ne_eq, Nat.reduceAdd, Nat.reduceSub, Nat.reduceMul, Nat.reduceLeDiff, Nat.reduceLT, ofCells, ofCell, reduceCtorEq, Int.reduceLE, Int.reduceLT, Int.reduceToNat, Int.reduceAdd, Int.reduceSub, Int.reduceMul, Int.reduceNeg, Int.reduceBEq, Int.reduceBNe, Int.reduceEq, eqCell, eqCells, loadOp, storeOp, loadP, setL, PK.agg, isZero, gt_iff_lt, Nat.reducePow, Nat.reduceGT, reps, seg, wkN, if_pos, if_neg, tf22, Tryz.ze22, tf56, Tryz.ze56, tf98, Tryz.ze98, resP, resPs, resP1]; rfl) | rfl) ?_
  repeat' first | simp -implicitDefEqProofs (maxSteps := 400000) (disch := first | with_reducible rfl | omega | (simp only [wkH] <;> omega) | decide) only [wkAll, wkL, popO, wantedP, if_true, if_false, reduceIte, ne_eq, Nat.reduceAdd, Nat.reduceSub, Nat.reduceMul, Nat.reduceLeDiff, Nat.reduceLT, ofCells, ofCell, reduceCtorEq, Int.reduceLE, Int.reduceLT, Int.reduceToNat, Int.reduceAdd, Int.reduceSub, Int.reduceMul, Int.reduceNeg, Int.reduceBEq, Int.reduceBNe, Int.reduceEq, eqCell, eqCells, binP, unP, convP, lenP, builtinP, sliceDataP, unsafeStringP, appendT, appendS, appendP, copyP, srcP, mmsP, mmP, indexOp, indexAddrOp, sliceOp, bndsP, bndP, capw, capCut, loadOp, storeOp, loadP, fieldOp, fieldAddrOp, arrayAtOp, buildP, buildSliceP, makeSliceP, placeF, fillP, setL, PK.agg, isZero, gt_iff_lt, Nat.reducePow, Nat.reduceGT, reps, seg, wkN, if_pos, if_neg, tf9, Tryz.ze9, tf22, Tryz.ze22, tf24, Tryz.ze24, tf29, Tryz.ze29, tf56, Tryz.ze56, tf58, Tryz.ze58, pl15_7Rb4] | refine w_drawnF (id := 7) tb15_7Rb4 pl15_7Rb4 28 (by kernel_rfl) (by kernel_rfl) (by simp) ?_
  have hI := @hIb
  refine hI (by first | exact .inr rfl | exact .inl rfl) trivial (by first | (simp -implicitDefEqProofs (maxSteps := 400000) (disch := first | with_reducible rfl | omega | (simp only [wkH] <;> omega) | decide) only [wkAll, wkL, popO, wantedP, if_true, if_false, reduceIte, ne_eq, Nat.reduceAdd, Nat.reduceSub, Nat.reduceMul, Nat.reduceLeDiff, Nat.reduceLT, ofCells, ofCell, reduceCtorEq, Int.reduceLE, Int.reduceLT, Int.reduceToNat, Int.reduceAdd, Int.reduceSub, Int.reduceMul, Int.reduceNeg, Int.reduceBEq, Int.reduceBNe, Int.reduceEq, eqCell, eqCells, loadOp, storeOp, loadP, setL, PK.agg, isZero, gt_iff_lt, Nat.reducePow, Nat.reduceGT, reps, seg, wkN, if_pos, if_neg, tf9, Tryz.ze9, tf22, Tryz.ze22, tf24, Tryz.ze24, tf29, Tryz.ze29, tf56, Tryz.ze56, tf58, Tryz.ze58, pl15_7Rb4, resP, resPs, resP1]; rfl) | rfl) ?_
  exact hKf
theorem recBeginE_ok (ph : PH) (key iv : List UInt8) (q : Int) (h : ¬ (key.length = 16 ∧ iv.length = 12)) : EffA (Cx w0) 15 [.agg [.str key, .str iv, .int .u64 q]] ph (.tuple [.nilptr, .int .i64 10]) [some (.own [.str key, .str iv, .int .u64 q])] := by
  have tn := recNonce_ok (w0 := w0) key iv q
  rw [show nonG key iv q = ([], 10) by rw [nonG, if_neg h]] at tn
  intro Kf hKf
  rw [show ph = H ph [] ph.ob ph.ty from (h_start ph).symm]
  refine w_inl ([Go.ResultVar.tmp 2, Go.ResultVar.tmp 3]) Tryz.func15 rfl rfl (by decide) fun _ hI => ?_
  simp only [start, List.length_cons, List.length_nil, List.cons_append, List.nil_append, Nat.reduceAdd, Nat.reduceSub, List.replicate_succ, List.replicate_zero, Tryz.ntmps15]
  repeat' first | simp -implicitDefEqProofs (maxSteps := 400000) (disch := first | with_reducible rfl | omega | (simp only [wkH] <;> omega) | decide) only [wkAll, wkL, popO, wantedP, if_true, if_false, reduceIte, ne_eq, Nat.reduceAdd, Nat.reduceSub, Nat.reduceMul, Nat.reduceLeDiff, Nat.reduceLT, ofCells, ofCell, reduceCtorEq, Int.reduceLE, Int.reduceLT, Int.reduceToNat, Int.reduceAdd, Int.reduceSub, Int.reduceMul, Int.reduceNeg, Int.reduceBEq, Int.reduceBNe, Int.reduceEq, eqCell, eqCells, binP, unP, convP, lenP, builtinP, sliceDataP, unsafeStringP, appendT, appendS, appendP, copyP, srcP, mmsP, mmP, indexOp, indexAddrOp, sliceOp, bndsP, bndP, capw, capCut, loadOp, storeOp, loadP, fieldOp, fieldAddrOp, arrayAtOp, buildP, buildSliceP, makeSliceP, placeF, fillP, setL, PK.agg, isZero, gt_iff_lt, Nat.reducePow, Nat.reduceGT, reps, seg, wkN, if_pos, if_neg, tf9, Tryz.ze9, tf22, Tryz.ze22, tf24, Tryz.ze24, tf29, Tryz.ze29, tf56, Tryz.ze56, tf58, Tryz.ze58, pl15_7Rb4] | refine w_pure (tn) ?_ | refine w_drawnF (id := 7) tb15_7Rb4 pl15_7Rb4 28 (by kernel_rfl) (by kernel_rfl) (by simp) ?_
  refine hI (by first | exact .inr rfl | exact .inl rfl) trivial (by first | (simp -implicitDefEqProofs (maxSteps := 400000) (disch := first | with_reducible rfl | omega | (simp only [wkH] <;> omega) | decide) only [wkAll, wkL, popO, wantedP, if_true, if_false, reduceIte, ne_eq, Nat.reduceAdd, Nat.reduceSub, Nat.reduceMul, Nat.reduceLeDiff, Nat.reduceLT, ofCells, ofCell, reduceCtorEq, Int.reduceLE, Int.reduceLT, Int.reduceToNat, Int.reduceAdd, Int.reduceSub, Int.reduceMul, Int.reduceNeg, Int.reduceBEq, Int.reduceBNe, Int.reduceEq, eqCell, eqCells, loadOp, storeOp, loadP, setL, PK.agg, isZero, gt_iff_lt, Nat.reducePow, Nat.reduceGT, reps, seg, wkN, if_pos, if_neg, tf9, Tryz.ze9, tf22, Tryz.ze22, tf24, Tryz.ze24, tf29, Tryz.ze29, tf56, Tryz.ze56, tf58, Tryz.ze58, pl15_7Rb4, resP, resPs, resP1]; rfl) | rfl) ?_
  exact hKf
theorem recBeginM_ok (ph : PH) (key iv : List UInt8) (hk : key.length = 16) (hi : iv.length = 12) : EffA (Cx w0) 15 [.agg [.str key, .str iv, .int .u64 18446744073709551615]] ph (.tuple [.nilptr, .int .i64 18]) [some (.own [.str key, .str iv, .int .u64 18446744073709551615])] := by
  have tn := recNonce_ok (w0 := w0) key iv 18446744073709551615
  rw [show nonG key iv 18446744073709551615 = (nonceL iv 18446744073709551615, 0) by rw [nonG, if_pos ⟨hk, hi⟩]] at tn
  intro Kf hKf
  rw [show ph = H ph [] ph.ob ph.ty from (h_start ph).symm]
  refine w_inl ([Go.ResultVar.tmp 2, Go.ResultVar.tmp 3]) Tryz.func15 rfl rfl (by decide) fun _ hI => ?_
  simp only [start, List.length_cons, List.length_nil, List.cons_append, List.nil_append, Nat.reduceAdd, Nat.reduceSub, List.replicate_succ, List.replicate_zero, Tryz.ntmps15]
  repeat' first | simp -implicitDefEqProofs (maxSteps := 400000) (disch := first | with_reducible rfl | omega | (simp only [wkH] <;> omega) | decide) only [wkAll, wkL, popO, wantedP, if_true, if_false, reduceIte, ne_eq, Nat.reduceAdd, Nat.reduceSub, Nat.reduceMul, Nat.reduceLeDiff, Nat.reduceLT, ofCells, ofCell, reduceCtorEq, Int.reduceLE, Int.reduceLT, Int.reduceToNat, Int.reduceAdd, Int.reduceSub, Int.reduceMul, Int.reduceNeg, Int.reduceBEq, Int.reduceBNe, Int.reduceEq, eqCell, eqCells, binP, unP, convP, lenP, builtinP, sliceDataP, unsafeStringP, appendT, appendS, appendP, copyP, srcP, mmsP, mmP, indexOp, indexAddrOp, sliceOp, bndsP, bndP, capw, capCut, loadOp, storeOp, loadP, fieldOp, fieldAddrOp, arrayAtOp, buildP, buildSliceP, makeSliceP, placeF, fillP, setL, PK.agg, isZero, gt_iff_lt, Nat.reducePow, Nat.reduceGT, reps, seg, wkN, if_pos, if_neg, tf9, Tryz.ze9, tf22, Tryz.ze22, tf24, Tryz.ze24, tf29, Tryz.ze29, tf56, Tryz.ze56, tf58, Tryz.ze58, pl15_7Rb4] | refine w_pure (tn) ?_ | refine w_drawnF (id := 7) tb15_7Rb4 pl15_7Rb4 28 (by kernel_rfl) (by kernel_rfl) (by simp) ?_
  refine hI (by first | exact .inr rfl | exact .inl rfl) trivial (by first | (simp -implicitDefEqProofs (maxSteps := 400000) (disch := first | with_reducible rfl | omega | (simp only [wkH] <;> omega) | decide) only [wkAll, wkL, popO, wantedP, if_true, if_false, reduceIte, ne_eq, Nat.reduceAdd, Nat.reduceSub, Nat.reduceMul, Nat.reduceLeDiff, Nat.reduceLT, ofCells, ofCell, reduceCtorEq, Int.reduceLE, Int.reduceLT, Int.reduceToNat, Int.reduceAdd, Int.reduceSub, Int.reduceMul, Int.reduceNeg, Int.reduceBEq, Int.reduceBNe, Int.reduceEq, eqCell, eqCells, loadOp, storeOp, loadP, setL, PK.agg, isZero, gt_iff_lt, Nat.reducePow, Nat.reduceGT, reps, seg, wkN, if_pos, if_neg, tf9, Tryz.ze9, tf22, Tryz.ze22, tf24, Tryz.ze24, tf29, Tryz.ze29, tf56, Tryz.ze56, tf58, Tryz.ze58, pl15_7Rb4, resP, resPs, resP1]; rfl) | rfl) ?_
  exact hKf
theorem recDone_ok (ph : PH) (p : Nat) (key iv nn : List UInt8) (q : Int) (hq : 0 ≤ q ∧ q < 18446744073709551615) (hp : ph.get p = some [.str key, .str iv, .int .u64 q, .int .u64 q, .str nn]) : Eff (Cx w0) 18 [.ptr p 0] ph (.agg [.str key, .str iv, .int .u64 (q + 1)]) (ph.put p [.str key, .str iv, .int .u64 (q + 1), .int .u64 (q + 1), .str nn]) := by
  have hpl := PH.get_lt hp
  have hpl2 : ∀ C, p < (ph.put p C).n := fun C => by rw [PH.n_put]; exact hpl
  have g2 : ∀ C l ob ty, (H (ph.put p C) l ob ty).get p = some C := fun C l ob ty => by rw [h_getlt (hpl2 C), PH.get_put hpl, if_pos rfl]
  have u2 : ∀ C D l ob ty, (H (ph.put p C) l ob ty).put p D = H (ph.put p D) l ob ty := fun C D l ob ty => by rw [h_putlt (hpl2 C), Pv.put_put]
  have hwr : IntKind.wrap .u64 (q + 1) = q + 1 := IntWalk.u64_in _ (by omega)
  refine eff_of ([Go.ResultVar.cell 2 24]) Tryz.func18 rfl rfl (by decide) (PH.n_put ..) (fun hW => hW.put hpl ⟨trivial, trivial, trivial, trivial, trivial, trivial⟩) fun hW Q hQ => ?_
  simp only [start, List.length_cons, List.length_nil, List.cons_append, List.nil_append, Nat.reduceAdd, Nat.reduceSub, List.replicate_succ, List.replicate_zero, Tryz.ntmps18]
  repeat' first | simp -implicitDefEqProofs (maxSteps := 400000) (disch := first | with_reducible rfl | omega | (simp only [wkH] <;> omega) | decide) only [wkAll, wkL, popO, wantedP, if_true, if_false, reduceIte, ne_eq, Nat.reduceAdd, Nat.reduceSub, Nat.reduceMul, Nat.reduceLeDiff, Nat.reduceLT, ofCells, ofCell, reduceCtorEq, Int.reduceLE, Int.reduceLT, Int.reduceToNat, Int.reduceAdd, Int.reduceSub, Int.reduceMul, Int.reduceNeg, Int.reduceBEq, Int.reduceBNe, Int.reduceEq, eqCell, eqCells, binP, unP, convP, lenP, builtinP, sliceDataP, unsafeStringP, appendT, appendS, appendP, copyP, srcP, mmsP, mmP, indexOp, indexAddrOp, sliceOp, bndsP, bndP, capw, capCut, loadOp, storeOp, loadP, fieldOp, fieldAddrOp, arrayAtOp, buildP, buildSliceP, makeSliceP, placeF, fillP, setL, PK.agg, isZero, gt_iff_lt, Nat.reducePow, Nat.reduceGT, reps, seg, wkN, if_pos, if_neg, tf9, Tryz.ze9, tf22, Tryz.ze22, tf24, Tryz.ze24, tf56, Tryz.ze56, tf58, Tryz.ze58]
  refine w_inl ([Go.ResultVar.tmp 4]) Tryz.func33 rfl rfl (by decide) fun _ hI => ?_
  simp only [start, List.length_cons, List.length_nil, List.cons_append, List.nil_append, Nat.reduceAdd, Nat.reduceSub, List.replicate_succ, List.replicate_zero, Tryz.ntmps33]
  repeat' first | simp -implicitDefEqProofs (maxSteps := 400000) (disch := first | with_reducible rfl | omega | (simp only [wkH] <;> omega) | decide) only [wkAll, wkL, popO, wantedP, if_true, if_false, reduceIte, ne_eq, Nat.reduceAdd, Nat.reduceSub, Nat.reduceMul, Nat.reduceLeDiff, Nat.reduceLT, ofCells, ofCell, reduceCtorEq, Int.reduceLE, Int.reduceLT, Int.reduceToNat, Int.reduceAdd, Int.reduceSub, Int.reduceMul, Int.reduceNeg, Int.reduceBEq, Int.reduceBNe, Int.reduceEq, eqCell, eqCells, binP, unP, convP, lenP, builtinP, sliceDataP, unsafeStringP, appendT, appendS, appendP, copyP, srcP, mmsP, mmP, indexOp, indexAddrOp, sliceOp, bndsP, bndP, capw, capCut, loadOp, storeOp, loadP, fieldOp, fieldAddrOp, arrayAtOp, buildP, buildSliceP, makeSliceP, placeF, fillP, setL, PK.agg, isZero, gt_iff_lt, Nat.reducePow, Nat.reduceGT, reps, seg, wkN, if_pos, if_neg, tf22, Tryz.ze22, tf56, Tryz.ze56, tf98, Tryz.ze98] | refine w_eff (add64_ok (x := q) (s := q + 1) (by rw [h_getlt hpl]; exact hp) rfl hwr) ?_
  refine hI (by first | exact .inr rfl | exact .inl rfl) trivial (by first | (simp -implicitDefEqProofs (maxSteps := 400000) (disch := first | with_reducible rfl | omega | (simp only [wkH] <;> omega) | decide) only [wkAll, wkL, popO, wantedP, if_true, if_false, reduceIte, ne_eq, Nat.reduceAdd, Nat.reduceSub, Nat.reduceMul, Nat.reduceLeDiff, Nat.reduceLT, ofCells, ofCell, reduceCtorEq, Int.reduceLE, Int.reduceLT, Int.reduceToNat, Int.reduceAdd, Int.reduceSub, Int.reduceMul, Int.reduceNeg, Int.reduceBEq, Int.reduceBNe, Int.reduceEq, eqCell, eqCells, loadOp, storeOp, loadP, setL, PK.agg, isZero, gt_iff_lt, Nat.reducePow, Nat.reduceGT, reps, seg, wkN, if_pos, if_neg, tf22, Tryz.ze22, tf56, Tryz.ze56, tf98, Tryz.ze98, resP, resPs, resP1]; rfl) | rfl) ?_
  repeat' first | simp -implicitDefEqProofs (maxSteps := 400000) (disch := first | with_reducible rfl | omega | (simp only [wkH] <;> omega) | decide) only [wkAll, wkL, popO, wantedP, if_true, if_false, reduceIte, ne_eq, Nat.reduceAdd, Nat.reduceSub, Nat.reduceMul, Nat.reduceLeDiff, Nat.reduceLT, ofCells, ofCell, reduceCtorEq, Int.reduceLE, Int.reduceLT, Int.reduceToNat, Int.reduceAdd, Int.reduceSub, Int.reduceMul, Int.reduceNeg, Int.reduceBEq, Int.reduceBNe, Int.reduceEq, eqCell, eqCells, binP, unP, convP, lenP, builtinP, sliceDataP, unsafeStringP, appendT, appendS, appendP, copyP, srcP, mmsP, mmP, indexOp, indexAddrOp, sliceOp, bndsP, bndP, capw, capCut, loadOp, storeOp, loadP, fieldOp, fieldAddrOp, arrayAtOp, buildP, buildSliceP, makeSliceP, placeF, fillP, setL, PK.agg, isZero, gt_iff_lt, Nat.reducePow, Nat.reduceGT, reps, seg, wkN, if_pos, if_neg, tf9, Tryz.ze9, tf22, Tryz.ze22, tf24, Tryz.ze24, tf56, Tryz.ze56, tf58, Tryz.ze58, h_getlt hpl, h_putlt hpl, hp, g2, u2, wkP]
  refine hQ (by first | exact .inr rfl | exact .inl rfl) (by first | exact trivial | exact marks1) (by first | (simp -implicitDefEqProofs (maxSteps := 400000) (disch := first | with_reducible rfl | omega | (simp only [wkH] <;> omega) | decide) only [wkAll, wkL, popO, wantedP, if_true, if_false, reduceIte, ne_eq, Nat.reduceAdd, Nat.reduceSub, Nat.reduceMul, Nat.reduceLeDiff, Nat.reduceLT, ofCells, ofCell, reduceCtorEq, Int.reduceLE, Int.reduceLT, Int.reduceToNat, Int.reduceAdd, Int.reduceSub, Int.reduceMul, Int.reduceNeg, Int.reduceBEq, Int.reduceBNe, Int.reduceEq, eqCell, eqCells, loadOp, storeOp, loadP, setL, PK.agg, isZero, gt_iff_lt, Nat.reducePow, Nat.reduceGT, reps, seg, wkN, if_pos, if_neg, tf9, Tryz.ze9, tf22, Tryz.ze22, tf24, Tryz.ze24, tf56, Tryz.ze56, tf58, Tryz.ze58, resP, resPs, resP1, wkP]; rfl) | rfl) ⟨6, by repeat' first | exact frz_scalar rfl | apply frz_tuple | apply frz_agg | apply frz_fsl | apply frz_gsl (by omega) | exact frzs_nil | apply frzs_cons⟩ (by first | exact keepsH0 | exact keeps1 (by assumption)) (nw_eq ?_)
  rfl
end Pv

namespace Pv
open Go
set_option maxRecDepth 100000

/-! ### Bytes as a field, in plain Lean -/
/-- A byte by x. -/
def xt (a : UInt8) : UInt8 := (a <<< 1) ^^^ ((a >>> 7) * 27)
def gmR : Nat → UInt8 → UInt8 → UInt8 → UInt8
  | 0, r, _, _ => r
  | n + 1, r, a, b => gmR n (r ^^^ (a * (b &&& 1))) (xt a) (b >>> 1)
def gm (a b : UInt8) : UInt8 := gmR 8 0 a b

theorem byte_all {p : UInt8 → Prop} (h : ∀ i : Fin 256, p (UInt8.ofNat i.val)) (b : UInt8) : p b := by
  have := h ⟨b.toNat, b.toNat_lt⟩
  rwa [UInt8.ofNat_toNat] at this
theorem shr_xor (a b : UInt8) (k : UInt8) : (a ^^^ b) >>> k = (a >>> k) ^^^ (b >>> k) := UInt8.shiftRight_xor
theorem xor4 (a b c d : UInt8) : (a ^^^ b) ^^^ (c ^^^ d) = (a ^^^ c) ^^^ (b ^^^ d) := by
  rw [UInt8.xor_assoc, UInt8.xor_assoc, ← UInt8.xor_assoc b c d, UInt8.xor_comm b c, UInt8.xor_assoc c b d]
theorem gmR_b0 : ∀ (n : Nat) (r a : UInt8), gmR n r a 0 = r
  | 0, _, _ => rfl
  | n + 1, r, a => by rw [gmR, show (0 : UInt8) >>> 1 = 0 by decide, gmR_b0 n]; simp
/-! ### What a byte becomes -/
def invS : Nat → UInt8 → UInt8 → UInt8
  | 0, r, _ => r
  | n + 1, r, s => invS n (gm r (gm s s)) (gm s s)
def invB (b : UInt8) : UInt8 := invS 7 1 b
def rotB (b : UInt8) (n : UInt8) : UInt8 := (b <<< n) ||| (b >>> (8 - n))
def subB (b : UInt8) : UInt8 := invB b ^^^ rotB (invB b) 1 ^^^ rotB (invB b) 2 ^^^ rotB (invB b) 3 ^^^ rotB (invB b) 4 ^^^ 99
def boxL : List UInt8 := [0x63,0x7c,0x77,0x7b,0xf2,0x6b,0x6f,0xc5,0x30,0x01,0x67,0x2b,0xfe,0xd7,0xab,0x76,0xca,0x82,0xc9,0x7d,0xfa,0x59,0x47,0xf0,0xad,0xd4,0xa2,0xaf,0x9c,0xa4,0x72,0xc0,0xb7,0xfd,0x93,0x26,0x36,0x3f,0xf7,0xcc,0x34,0xa5,0xe5,0xf1,0x71,0xd8,0x31,0x15,0x04,0xc7,0x23,0xc3,0x18,0x96,0x05,0x9a,0x07,0x12,0x80,0xe2,0xeb,0x27,0xb2,0x75,0x09,0x83,0x2c,0x1a,0x1b,0x6e,0x5a,0xa0,0x52,0x3b,0xd6,0xb3,0x29,0xe3,0x2f,0x84,0x53,0xd1,0x00,0xed,0x20,0xfc,0xb1,0x5b,0x6a,0xcb,0xbe,0x39,0x4a,0x4c,0x58,0xcf,0xd0,0xef,0xaa,0xfb,0x43,0x4d,0x33,0x85,0x45,0xf9,0x02,0x7f,0x50,0x3c,0x9f,0xa8,0x51,0xa3,0x40,0x8f,0x92,0x9d,0x38,0xf5,0xbc,0xb6,0xda,0x21,0x10,0xff,0xf3,0xd2,0xcd,0x0c,0x13,0xec,0x5f,0x97,0x44,0x17,0xc4,0xa7,0x7e,0x3d,0x64,0x5d,0x19,0x73,0x60,0x81,0x4f,0xdc,0x22,0x2a,0x90,0x88,0x46,0xee,0xb8,0x14,0xde,0x5e,0x0b,0xdb,0xe0,0x32,0x3a,0x0a,0x49,0x06,0x24,0x5c,0xc2,0xd3,0xac,0x62,0x91,0x95,0xe4,0x79,0xe7,0xc8,0x37,0x6d,0x8d,0xd5,0x4e,0xa9,0x6c,0x56,0xf4,0xea,0x65,0x7a,0xae,0x08,0xba,0x78,0x25,0x2e,0x1c,0xa6,0xb4,0xc6,0xe8,0xdd,0x74,0x1f,0x4b,0xbd,0x8b,0x8a,0x70,0x3e,0xb5,0x66,0x48,0x03,0xf6,0x0e,0x61,0x35,0x57,0xb9,0x86,0xc1,0x1d,0x9e,0xe1,0xf8,0x98,0x11,0x69,0xd9,0x8e,0x94,0x9b,0x1e,0x87,0xe9,0xce,0x55,0x28,0xdf,0x8c,0xa1,0x89,0x0d,0xbf,0xe6,0x42,0x68,0x41,0x99,0x2d,0x0f,0xb0,0x54,0xbb,0x16]
/-- What a byte becomes, by the document's table. -/
def sbox (b : UInt8) : UInt8 := boxL.getD b.toNat 0
theorem sub_box (b : UInt8) : subB b = sbox b := byte_all (p := fun b => subB b = sbox b) (by decide +kernel) b
/-- The first i bytes, each at the place that it becomes. -/
def backI : Nat → List UInt8
  | 0 => List.replicate 256 0
  | i + 1 => (backI i).set (sbox (UInt8.ofNat i)).toNat (UInt8.ofNat i)
def backL : List UInt8 := backI 256
theorem backI_len : ∀ i, (backI i).length = 256
  | 0 => rfl
  | i + 1 => by rw [backI, List.length_set, backI_len i]
def ibox (b : UInt8) : UInt8 := backL.getD b.toNat 0
attribute [irreducible] boxL

end Pv

namespace Pv
open Go
set_option maxRecDepth 100000

/-! ### AES, in plain Lean -/
/-- Four bytes more of a key's words: w: those there are; c: the constant; i: which word. -/
def kT (nk : Nat) (t : List UInt8) (c : UInt8) (i : Nat) : List UInt8 :=
  if i % nk = 0 then [sbox (t.getD 1 0) ^^^ c, sbox (t.getD 2 0), sbox (t.getD 3 0), sbox (t.getD 0 0)]
  else if nk = 8 ∧ i % 8 = 4 then [sbox (t.getD 0 0), sbox (t.getD 1 0), sbox (t.getD 2 0), sbox (t.getD 3 0)]
  else [t.getD 0 0, t.getD 1 0, t.getD 2 0, t.getD 3 0]
def xorB (a b : List UInt8) : List UInt8 := List.zipWith (· ^^^ ·) a b
def kI (key : List UInt8) (nk : Nat) : Nat → List UInt8 × UInt8
  | 0 => (key, 1)
  | j + 1 => ((kI key nk j).1 ++ xorB (((kI key nk j).1.drop (4 * j)).take 4) (kT nk (((kI key nk j).1.drop (4 * (nk + j) - 4)).take 4) (kI key nk j).2 (nk + j)),
      if (nk + j) % nk = 0 then gm (kI key nk j).2 2 else (kI key nk j).2)
def wordsL (key : List UInt8) : List UInt8 := (kI key (key.length / 4) (3 * (key.length / 4) + 28)).1
def goodK (key : List UInt8) : Prop := key.length = 16 ∨ key.length = 32
instance (key : List UInt8) : Decidable (goodK key) := by unfold goodK; infer_instance

theorem xorB_len (a b : List UInt8) : (xorB a b).length = min a.length b.length := by simp [xorB]
theorem kT_len (nk : Nat) (t : List UInt8) (c : UInt8) (i : Nat) : (kT nk t c i).length = 4 := by unfold kT; split; rfl; split <;> rfl
theorem kI_len {key : List UInt8} {nk : Nat} (h : key.length = 4 * nk) (h0 : 0 < nk) : ∀ j, (kI key nk j).1.length = 4 * (nk + j)
  | 0 => h
  | j + 1 => by
    rw [kI, List.length_append, kI_len h h0 j, xorB_len, kT_len, List.length_take, List.length_drop, kI_len h h0 j]; omega
theorem words_len {key : List UInt8} (h : goodK key) : (wordsL key).length = 16 * (key.length / 4 + 7) := by
  rw [wordsL, kI_len (by rcases h with h | h <;> omega) (by rcases h with h | h <;> omega)]; omega

/-- The i-th round key. -/
def rkL (w : List UInt8) (i : Nat) : List UInt8 := (w.drop (16 * i)).take 16
theorem rk_len {w : List UInt8} {i : Nat} (h : 16 * (i + 1) ≤ w.length) : (rkL w i).length = 16 := by
  rw [rkL, List.length_take, List.length_drop]; omega
def shiftL (b : List UInt8) : List UInt8 := (List.range 16).map fun i => b.getD ((i + 4 * (i % 4)) % 16) 0
def backS (b : List UInt8) : List UInt8 := (List.range 16).map fun i => b.getD ((i + 12 * (i % 4)) % 16) 0
def mixAt (m : List UInt8) (b : List UInt8) (i : Nat) : UInt8 :=
  gm (b.getD (i / 4 * 4 + i % 4) 0) (m.getD 0 0) ^^^ gm (b.getD (i / 4 * 4 + (i + 1) % 4) 0) (m.getD 1 0) ^^^ gm (b.getD (i / 4 * 4 + (i + 2) % 4) 0) (m.getD 2 0) ^^^ gm (b.getD (i / 4 * 4 + (i + 3) % 4) 0) (m.getD 3 0)
def mixL (m : List UInt8) (b : List UInt8) : List UInt8 := (List.range 16).map (mixAt m b)
def mE : List UInt8 := [2, 3, 1, 1]
def mD : List UInt8 := [14, 11, 13, 9]
theorem shift_len (b : List UInt8) : (shiftL b).length = 16 := rfl
theorem mix_len (m b : List UInt8) : (mixL m b).length = 16 := rfl

theorem sixteen {b : List UInt8} (h : b.length = 16) : ∃ b0 b1 b2 b3 b4 b5 b6 b7 b8 b9 b10 b11 b12 b13 b14 b15, b = [b0, b1, b2, b3, b4, b5, b6, b7, b8, b9, b10, b11, b12, b13, b14, b15] := by
  match b, h with
  | [b0, b1, b2, b3, b4, b5, b6, b7, b8, b9, b10, b11, b12, b13, b14, b15], _ => exact ⟨_, _, _, _, _, _, _, _, _, _, _, _, _, _, _, _, rfl⟩
def mx (a b c d e f g h : UInt8) : UInt8 := gm a e ^^^ gm b f ^^^ gm c g ^^^ gm d h
def encS (w : List UInt8) (n : Nat) (b : List UInt8) : Nat → List UInt8
  | 0 => xorB b (rkL w 0)
  | i + 1 => xorB (if i + 1 < n then mixL mE (shiftL ((encS w n b i).map sbox)) else shiftL ((encS w n b i).map sbox)) (rkL w (i + 1))
def encB (w b : List UInt8) : List UInt8 := encS w (w.length / 16 - 1) b (w.length / 16 - 1)
def decS (w : List UInt8) (n : Nat) (b : List UInt8) : Nat → List UInt8
  | 0 => b
  | j + 1 => (backS (if n - j < n then mixL mD (xorB (decS w n b j) (rkL w (n - j))) else xorB (decS w n b j) (rkL w (n - j)))).map ibox
def decB (w b : List UInt8) : List UInt8 := xorB (decS w (w.length / 16 - 1) b (w.length / 16 - 1)) (rkL w 0)

section
variable {w b : List UInt8} {n : Nat}
theorem encS_len (hb : b.length = 16) (hw : 16 * (n + 1) ≤ w.length) : ∀ i, i ≤ n → (encS w n b i).length = 16
  | 0, _ => by rw [encS, xorB_len, hb, rk_len (by omega)]; rfl
  | i + 1, h => by rw [encS, xorB_len, rk_len (by omega)]; split <;> simp [mix_len, shift_len]
end
theorem encB_len {w b : List UInt8} (hb : b.length = 16) (hw : 16 ≤ w.length) : (encB w b).length = 16 := encS_len hb (by omega) _ (Nat.le_refl _)
/-! ### Bytes of a counter -/
/-- One more, from the i-th byte upwards. -/
def incI (b : List UInt8) : Nat → List UInt8
  | 0 => b.set 0 (b.getD 0 0 + 1)
  | i + 1 => if b.getD (i + 1) 0 + 1 = 0 then incI (b.set (i + 1) (b.getD (i + 1) 0 + 1)) i else b.set (i + 1) (b.getD (i + 1) 0 + 1)
def incL (b : List UInt8) : List UInt8 := incI b 15
theorem incI_len : ∀ (i : Nat) (b : List UInt8), (incI b i).length = b.length
  | 0, b => by simp [incI]
  | i + 1, b => by rw [incI]; split; rw [incI_len i]; simp; simp
def ctrL (b : List UInt8) : Nat → List UInt8
  | 0 => b
  | j + 1 => incL (ctrL b j)
theorem ctr_len {b : List UInt8} (h : b.length = 16) : ∀ j, (ctrL b j).length = 16
  | 0 => h
  | j + 1 => by rw [ctrL, incL, incI_len, ctr_len h j]
/-- j blocks. -/
def strK (w b : List UInt8) (j : Nat) : List UInt8 := (List.range j).flatMap fun i => encB w (ctrL b i)
theorem strK_0 (w b : List UInt8) : strK w b 0 = [] := rfl
theorem strK_succ (w b : List UInt8) (j : Nat) : strK w b (j + 1) = strK w b j ++ encB w (ctrL b j) := by simp [strK, List.range_succ, List.flatMap_append]
theorem strK_len {w b : List UInt8} (h : b.length = 16) (hw : 16 ≤ w.length) : ∀ j, (strK w b j).length = 16 * j
  | 0 => rfl
  | j + 1 => by rw [strK_succ, List.length_append, strK_len h hw j, encB_len (ctr_len h j) hw]; omega
def strL (w b : List UInt8) (n : Nat) : List UInt8 := (strK w b ((n + 15) / 16)).take n
theorem strL_len {w b : List UInt8} (h : b.length = 16) (hw : 16 ≤ w.length) (n : Nat) : (strL w b n).length = n := by
  rw [strL, List.length_take, strK_len h hw]; omega
theorem encB_eq (w b : List UInt8) : encB w b = encS w (w.length / 16 - 1) b (w.length / 16 - 1) := rfl
theorem strL_eq (w b : List UInt8) (n : Nat) : strL w b n = (strK w b ((n + 15) / 16)).take n := rfl
theorem words_eq (key : List UInt8) : wordsL key = (kI key (key.length / 4) (3 * (key.length / 4) + 28)).1 := rfl
attribute [irreducible] wordsL encB decB strL
end Pv
