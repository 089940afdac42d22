/- Part of the proof: the layer of pure values, or walks through functions (PvWrP, PvWr6). -/
import Derived.Test.YtbocckencbkdeabDoorPvBldX
import Derived.Test.YtbocckencbkdeabDoorPvWr5
set_option linter.all false
set_option linter.all false
namespace Pv
open Go
/-! ### Packets: plain. -/
structure PK' where
  l : Int
  v : Int
  m : Int
  s : Int
  po : Int
  pr : Int
  d : Nat
  e : Nat
  r : Nat
  a : Nat
  o : Nat
  c : Nat
  x : Nat
  f : List FR
deriving DecidableEq
abbrev PKT := PK'
/-- Within its fields' kinds. -/
def inP (p : PKT) : Prop := p.d < 2 ^ 32 ∧ p.e < 2 ^ 32 ∧ p.r < 2 ^ 32 ∧ p.a < 2 ^ 64 ∧ p.o < 2 ^ 64 ∧ p.c < 2 ^ 64 ∧ p.x < 2 ^ 64
def pkC (p : PKT) : List PV := [.int .i64 p.l, .int .i64 p.v, .int .i64 p.m, .int .i64 p.s, .int .i64 p.po, .int .i64 p.pr, .int .u32 p.d, .int .u32 p.e, .int .u32 p.r, .int .u64 p.a, .int .u64 p.o, .int .u64 p.c, .int .u64 p.x, .fsl 2 p.f.length (frsC p.f)]
def byI (n : Int) : UInt8 := UInt8.ofNat (n % 256).toNat
def sgI (b : UInt8) : Int := if 127 < b.toNat then (b.toNat : Int) - 256 else b.toNat
def okP (p : PKT) : Prop := (0 ≤ p.l ∧ p.l ≤ 3) ∧ (0 ≤ p.v ∧ p.v ≤ 7) ∧ (0 ≤ p.m ∧ p.m ≤ 7) ∧ (0 ≤ p.s ∧ p.s ≤ 255) ∧ (-128 ≤ p.po ∧ p.po ≤ 127) ∧ (-128 ≤ p.pr ∧ p.pr ≤ 127)
instance (p : PKT) : Decidable (okP p) := by unfold okP; infer_instance
def hd4 (p : PKT) : List UInt8 := [byI (p.l * 64 + p.v * 8 + p.m), byI p.s, byI p.po, byI p.pr]
def hdL (p : PKT) : List UInt8 := hd4 p ++ beL p.d 4 ++ beL p.e 4 ++ beL p.r 4 ++ beL p.a 8 ++ beL p.o 8 ++ beL p.c 8 ++ beL p.x 8
def writeP (p : PKT) : List UInt8 × Int := if ¬ okP p then ([], 13) else if (fieldsL p.f).2 ≠ 0 then ([], (fieldsL p.f).2) else (hdL p ++ (fieldsL p.f).1, 0)
def pk0 : PKT := ⟨0, 0, 0, 0, 0, 0, 0, 0, 0, 0, 0, 0, 0, []⟩
def cutL (s : List UInt8) (i n : Nat) : Nat := valN ((s.drop i).take n)
def pkOf (s : List UInt8) (f : List FR) : PKT := ⟨(((s.getD 0 0).toNat / 64 : Nat) : Int), (((s.getD 0 0).toNat / 8 % 8 : Nat) : Int), (((s.getD 0 0).toNat % 8 : Nat) : Int), ((s.getD 1 0).toNat : Int), sgI (s.getD 2 0), sgI (s.getD 3 0), cutL s 4 4, cutL s 8 4, cutL s 12 4, cutL s 16 8, cutL s 24 8, cutL s 32 8, cutL s 40 8, f⟩
def readP (s : List UInt8) : PKT × Int := if s.length < 48 then (pk0, 11) else if 1280 < s.length then (pk0, 12) else if (toFieldsL (s.drop 48)).2 ≠ 0 then (pk0, (toFieldsL (s.drop 48)).2) else (pkOf s (toFieldsL (s.drop 48)).1, 0)
theorem hdL_len (p : PKT) : (hdL p).length = 48 := by simp [hdL, hd4, beL_len]
theorem byI_n (n : Int) (h : 0 ≤ n ∧ n < 256) : ((byI n).toNat : Int) = n := by
  unfold byI
  have : (n % 256).toNat < 256 := by omega
  rw [UInt8.toNat_ofNat', Nat.mod_eq_of_lt (by omega)]; omega
end Pv

--nosplit
--keep2
namespace Pv
set_option maxRecDepth 20000
set_option maxHeartbeats 4000000
open Go Go.Proofs Go.RowKit
variable {w0 : World}

theorem wrap_by (n : Int) : IntKind.wrap .u8 n = ((byI n).toNat : Int) := by
  rw [IntKind.wrap_u8, byI, UInt8.toNat_ofNat']; omega
theorem fits_t (n lo hi : Int) (h : lo ≤ n ∧ n ≤ hi) : Fn (Cx w0) 28 [.int .i64 n, .int .i64 lo, .int .i64 hi] (.bool true) := by
  have h1 := h.1
  have h2 := h.2
  refine fn_H ([Go.ResultVar.tmp 6]) Tryd.func28 rfl rfl (by decide) fun ph hW Q hQ => ?_
  simp only [start, List.length_cons, List.length_nil, List.cons_append, List.nil_append, Nat.reduceAdd, Nat.reduceSub, List.replicate_succ, List.replicate_zero, Tryd.ntmps28]
  repeat' first | simp -implicitDefEqProofs (maxSteps := 400000) (disch := first | with_reducible rfl | omega | (simp only [wkH] <;> omega) | decide) only [wkAll, wkL, popO, wantedP, if_true, if_false, reduceIte, ne_eq, Nat.reduceAdd, Nat.reduceSub, Nat.reduceMul, Nat.reduceLeDiff, Nat.reduceLT, ofCells, ofCell, reduceCtorEq, Int.reduceLE, Int.reduceLT, Int.reduceToNat, Int.reduceAdd, Int.reduceSub, Int.reduceMul, Int.reduceNeg, Int.reduceBEq, Int.reduceBNe, Int.reduceEq, eqCell, eqCells, binP, unP, convP, lenP, builtinP, sliceDataP, unsafeStringP, appendT, appendS, appendP, copyP, srcP, mmsP, mmP, indexOp, indexAddrOp, sliceOp, bndsP, bndP, capw, capCut, loadOp, storeOp, loadP, fieldOp, fieldAddrOp, arrayAtOp, buildP, buildSliceP, makeSliceP, placeF, fillP, setL, PK.agg, isZero, gt_iff_lt, Nat.reducePow, Nat.reduceGT, reps, seg, wkN, if_pos, if_neg, tf3, Tryd.ze3, h1, h2]
  refine hQ (by first | exact .inr rfl | exact .inl rfl) (by first | exact trivial | exact marks1) (by first | (simp -implicitDefEqProofs (maxSteps := 400000) (disch := first | with_reducible rfl | omega | (simp only [wkH] <;> omega) | decide) only [wkAll, wkL, popO, wantedP, if_true, if_false, reduceIte, ne_eq, Nat.reduceAdd, Nat.reduceSub, Nat.reduceMul, Nat.reduceLeDiff, Nat.reduceLT, ofCells, ofCell, reduceCtorEq, Int.reduceLE, Int.reduceLT, Int.reduceToNat, Int.reduceAdd, Int.reduceSub, Int.reduceMul, Int.reduceNeg, Int.reduceBEq, Int.reduceBNe, Int.reduceEq, eqCell, eqCells, loadOp, storeOp, loadP, setL, PK.agg, isZero, gt_iff_lt, Nat.reducePow, Nat.reduceGT, reps, seg, wkN, if_pos, if_neg, tf3, Tryd.ze3, resP, resPs, resP1]; rfl) | rfl) ⟨6, by repeat' first | exact frz_scalar rfl | apply frz_tuple | apply frz_agg | apply frz_fsl | apply frz_gsl (by omega) | exact frzs_nil | apply frzs_cons⟩ (by first | exact keepsH0 | exact keeps1 (by assumption)) (nw_eq ?_)
  rfl
theorem fits_f (n lo hi : Int) (h : ¬ (lo ≤ n ∧ n ≤ hi)) : Fn (Cx w0) 28 [.int .i64 n, .int .i64 lo, .int .i64 hi] (.bool false) := by
  by_cases h1 : lo ≤ n
  · have h2 : ¬ n ≤ hi := fun h2 => h ⟨h1, h2⟩
    refine fn_H ([Go.ResultVar.tmp 6]) Tryd.func28 rfl rfl (by decide) fun ph hW Q hQ => ?_
    simp only [start, List.length_cons, List.length_nil, List.cons_append, List.nil_append, Nat.reduceAdd, Nat.reduceSub, List.replicate_succ, List.replicate_zero, Tryd.ntmps28]
    repeat' first | simp -implicitDefEqProofs (maxSteps := 400000) (disch := first | with_reducible rfl | omega | (simp only [wkH] <;> omega) | decide) only [wkAll, wkL, popO, wantedP, if_true, if_false, reduceIte, ne_eq, Nat.reduceAdd, Nat.reduceSub, Nat.reduceMul, Nat.reduceLeDiff, Nat.reduceLT, ofCells, ofCell, reduceCtorEq, Int.reduceLE, Int.reduceLT, Int.reduceToNat, Int.reduceAdd, Int.reduceSub, Int.reduceMul, Int.reduceNeg, Int.reduceBEq, Int.reduceBNe, Int.reduceEq, eqCell, eqCells, binP, unP, convP, lenP, builtinP, sliceDataP, unsafeStringP, appendT, appendS, appendP, copyP, srcP, mmsP, mmP, indexOp, indexAddrOp, sliceOp, bndsP, bndP, capw, capCut, loadOp, storeOp, loadP, fieldOp, fieldAddrOp, arrayAtOp, buildP, buildSliceP, makeSliceP, placeF, fillP, setL, PK.agg, isZero, gt_iff_lt, Nat.reducePow, Nat.reduceGT, reps, seg, wkN, if_pos, if_neg, tf3, Tryd.ze3, h1, h2]
    refine hQ (by first | exact .inr rfl | exact .inl rfl) (by first | exact trivial | exact marks1) (by first | (simp -implicitDefEqProofs (maxSteps := 400000) (disch := first | with_reducible rfl | omega | (simp only [wkH] <;> omega) | decide) only [wkAll, wkL, popO, wantedP, if_true, if_false, reduceIte, ne_eq, Nat.reduceAdd, Nat.reduceSub, Nat.reduceMul, Nat.reduceLeDiff, Nat.reduceLT, ofCells, ofCell, reduceCtorEq, Int.reduceLE, Int.reduceLT, Int.reduceToNat, Int.reduceAdd, Int.reduceSub, Int.reduceMul, Int.reduceNeg, Int.reduceBEq, Int.reduceBNe, Int.reduceEq, eqCell, eqCells, loadOp, storeOp, loadP, setL, PK.agg, isZero, gt_iff_lt, Nat.reducePow, Nat.reduceGT, reps, seg, wkN, if_pos, if_neg, tf3, Tryd.ze3, resP, resPs, resP1]; rfl) | rfl) ⟨6, by repeat' first | exact frz_scalar rfl | apply frz_tuple | apply frz_agg | apply frz_fsl | apply frz_gsl (by omega) | exact frzs_nil | apply frzs_cons⟩ (by first | exact keepsH0 | exact keeps1 (by assumption)) (nw_eq ?_)
    rfl
  ·
    refine fn_H ([Go.ResultVar.tmp 6]) Tryd.func28 rfl rfl (by decide) fun ph hW Q hQ => ?_
    simp only [start, List.length_cons, List.length_nil, List.cons_append, List.nil_append, Nat.reduceAdd, Nat.reduceSub, List.replicate_succ, List.replicate_zero, Tryd.ntmps28]
    repeat' first | simp -implicitDefEqProofs (maxSteps := 400000) (disch := first | with_reducible rfl | omega | (simp only [wkH] <;> omega) | decide) only [wkAll, wkL, popO, wantedP, if_true, if_false, reduceIte, ne_eq, Nat.reduceAdd, Nat.reduceSub, Nat.reduceMul, Nat.reduceLeDiff, Nat.reduceLT, ofCells, ofCell, reduceCtorEq, Int.reduceLE, Int.reduceLT, Int.reduceToNat, Int.reduceAdd, Int.reduceSub, Int.reduceMul, Int.reduceNeg, Int.reduceBEq, Int.reduceBNe, Int.reduceEq, eqCell, eqCells, binP, unP, convP, lenP, builtinP, sliceDataP, unsafeStringP, appendT, appendS, appendP, copyP, srcP, mmsP, mmP, indexOp, indexAddrOp, sliceOp, bndsP, bndP, capw, capCut, loadOp, storeOp, loadP, fieldOp, fieldAddrOp, arrayAtOp, buildP, buildSliceP, makeSliceP, placeF, fillP, setL, PK.agg, isZero, gt_iff_lt, Nat.reducePow, Nat.reduceGT, reps, seg, wkN, if_pos, if_neg, tf3, Tryd.ze3, h1]
    refine hQ (by first | exact .inr rfl | exact .inl rfl) (by first | exact trivial | exact marks1) (by first | (simp -implicitDefEqProofs (maxSteps := 400000) (disch := first | with_reducible rfl | omega | (simp only [wkH] <;> omega) | decide) only [wkAll, wkL, popO, wantedP, if_true, if_false, reduceIte, ne_eq, Nat.reduceAdd, Nat.reduceSub, Nat.reduceMul, Nat.reduceLeDiff, Nat.reduceLT, ofCells, ofCell, reduceCtorEq, Int.reduceLE, Int.reduceLT, Int.reduceToNat, Int.reduceAdd, Int.reduceSub, Int.reduceMul, Int.reduceNeg, Int.reduceBEq, Int.reduceBNe, Int.reduceEq, eqCell, eqCells, loadOp, storeOp, loadP, setL, PK.agg, isZero, gt_iff_lt, Nat.reducePow, Nat.reduceGT, reps, seg, wkN, if_pos, if_neg, tf3, Tryd.ze3, resP, resPs, resP1]; rfl) | rfl) ⟨6, by repeat' first | exact frz_scalar rfl | apply frz_tuple | apply frz_agg | apply frz_fsl | apply frz_gsl (by omega) | exact frzs_nil | apply frzs_cons⟩ (by first | exact keepsH0 | exact keeps1 (by assumption)) (nw_eq ?_)
    rfl
theorem okP_first {p : PKT} (h : ¬ okP p) : ¬ (0 ≤ p.l ∧ p.l ≤ 3) ∨ ((0 ≤ p.l ∧ p.l ≤ 3) ∧ (¬ (0 ≤ p.v ∧ p.v ≤ 7) ∨ ((0 ≤ p.v ∧ p.v ≤ 7) ∧ (¬ (0 ≤ p.m ∧ p.m ≤ 7) ∨ ((0 ≤ p.m ∧ p.m ≤ 7) ∧ (¬ (0 ≤ p.s ∧ p.s ≤ 255) ∨ ((0 ≤ p.s ∧ p.s ≤ 255) ∧ (¬ (-128 ≤ p.po ∧ p.po ≤ 127) ∨ ((-128 ≤ p.po ∧ p.po ≤ 127) ∧ ¬ (-128 ≤ p.pr ∧ p.pr ≤ 127)))))))))) := by
  unfold okP at h; omega
end Pv
