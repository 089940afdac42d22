/- Part of the proof: the layer of pure values, or walks through functions (PvSha5, PvShaH, PvSha6, PvSha7, PvSha8, PvShelf, PvShaR). -/
import Derived.Test.YtefgmekiaelcmaaPvSha4
import Derived.Test.YtefgmekiaelcmaaPvRi7
import Derived.Test.YtefgmekiaelcmaaPvEntry
import Derived.Test.YtefgmekiaelcmaaPvH
import Derived.Test.YtefgmekiaelcmaaPvDrawP
import Derived.Shelf.Strings.Repeat
set_option linter.all false
namespace Pv
set_option maxRecDepth 20000
set_option maxHeartbeats 4000000
open Go Go.Proofs Go.RowKit
variable {w0 : World}

end Pv

namespace Pv
open Go

/-! ### Chapter 6: hashes of texts, in plain Lean -/
/-- Whole blocks taken, n of them. -/
def feedN : Nat → List UInt32 → List UInt8 → List UInt32 × List UInt8
  | 0, h, s => (h, s)
  | n + 1, h, s => feedN n (blockW h (s.take 64)) (s.drop 64)
def feed (h : List UInt32) (s : List UInt8) : List UInt32 × List UInt8 := feedN (s.length / 64) h s
structure HS where
  h : List UInt32
  left : List UInt8
  n : UInt64
def writeH (x : HS) (s : List UInt8) : HS := ⟨(feed x.h (x.left ++ s)).1, (feed x.h (x.left ++ s)).2, x.n + UInt64.ofNat s.length⟩
def newH : HS := ⟨shaH0, [], 0⟩
def be8 (n : UInt64) : List UInt8 := (List.range 8).map fun i => (n >>> UInt64.ofNat (56 - 8 * i)).toUInt8
def endH (x : HS) : List UInt8 := 0x80 :: (List.replicate ((119 - x.left.length) % 64) (0 : UInt8) ++ be8 (x.n <<< 3))
def be4 (x : UInt32) : List UInt8 := [(x >>> 24).toUInt8, (x >>> 16).toUInt8, (x >>> 8).toUInt8, x.toUInt8]
def sumH (x : HS) : List UInt8 := (writeH x (endH x)).h.flatMap be4
def shaOf (s : List UInt8) : List UInt8 := sumH (writeH newH s)
theorem feed_lt (h : List UInt32) (s : List UInt8) (hs : s.length < 64) : feed h s = (h, s) := by
  rw [feed, Nat.div_eq_of_lt hs, feedN]
theorem feed_step (h : List UInt32) (s : List UInt8) (hs : 64 ≤ s.length) : feed h s = feed (blockW h (s.take 64)) (s.drop 64) := by
  have e : s.length / 64 = (s.drop 64).length / 64 + 1 := by rw [List.length_drop]; omega
  rw [feed, e, feedN, ← feed]
theorem feedN_len : ∀ (n : Nat) (h : List UInt32) (s : List UInt8), h.length = 8 → (feedN n h s).1.length = 8 ∧ (feedN n h s).2.length = s.length - 64 * n
  | 0, h, s, hl => ⟨hl, by simp [feedN]⟩
  | n + 1, h, s, hl => by
    have := feedN_len n (blockW h (s.take 64)) (s.drop 64) (blockW_len hl _)
    rw [feedN]
    refine ⟨this.1, ?_⟩
    rw [this.2, List.length_drop]; omega
theorem feed_len (h : List UInt32) (s : List UInt8) (hl : h.length = 8) : (feed h s).1.length = 8 ∧ (feed h s).2.length = s.length % 64 := by
  have := feedN_len (s.length / 64) h s hl
  refine ⟨this.1, ?_⟩
  rw [feed, this.2]; omega
theorem write_len (x : HS) (s : List UInt8) (h : x.h.length = 8) : (writeH x s).h.length = 8 ∧ (writeH x s).left.length = (x.left.length + s.length) % 64 := by
  have := feed_len x.h (x.left ++ s) h
  rw [List.length_append] at this
  exact this
theorem flat_len : ∀ (l : List UInt32), (l.flatMap be4).length = 4 * l.length
  | [] => rfl
  | a :: l => by rw [List.flatMap_cons, List.length_append, flat_len l]; simp [be4]; omega
theorem sum_len (x : HS) (h : x.h.length = 8) : (sumH x).length = 32 := by
  rw [sumH, flat_len, (write_len x _ h).1]
theorem of_len (s : List UInt8) : (shaOf s).length = 32 := sum_len _ (write_len newH s rfl).1
/-! ### Words of 64 bits -/
theorem wrap_u64 (n : Nat) : IntKind.wrap .u64 (n : Int) = ((n % 18446744073709551616 : Nat) : Int) := by
  simp [IntKind.wrap, IntKind.bits, IntKind.signed]
theorem add64n (x : UInt64) (n : Nat) : IntKind.wrap .u64 ((x.toNat : Int) + (n : Int)) = ((x + UInt64.ofNat n).toNat : Int) := by
  have : (x.toNat : Int) + (n : Int) = ((x.toNat + n : Nat) : Int) := by omega
  rw [this, wrap_u64, UInt64.toNat_add, UInt64.toNat_ofNat']
  congr 1; omega
theorem shl64 (x : UInt64) (m : Nat) (h : m < 64) : shlP .u64 (x.toNat : Int) (m : Int) = ((x <<< UInt64.ofNat m).toNat : Int) := by
  have e : min ((m : Int)).toNat (IntKind.bits .u64) = m := by simp [IntKind.bits]; omega
  have e2 : (UInt64.ofNat m).toNat = m := by simp; omega
  simp only [shlP]
  rw [e, UInt64.toNat_shiftLeft, e2, Nat.mod_eq_of_lt h, Nat.shiftLeft_eq]
  have : (x.toNat : Int) * 2 ^ m = ((x.toNat * 2 ^ m : Nat) : Int) := by simp
  rw [this, wrap_u64]
theorem shr64 (x : UInt64) (m : Nat) (h : m < 64) : shrP .u64 (x.toNat : Int) (m : Int) = ((x >>> UInt64.ofNat m).toNat : Int) := by
  have e : min ((m : Int)).toNat (IntKind.bits .u64) = m := by simp [IntKind.bits]; omega
  have e2 : (UInt64.ofNat m).toNat = m := by simp; omega
  simp only [shrP]
  rw [e, UInt64.toNat_shiftRight, e2, Nat.mod_eq_of_lt h, Nat.shiftRight_eq_div_pow]
  have e3 : (2 : Int) ^ m = ((2 ^ m : Nat) : Int) := by simp
  rw [e3, Int.fdiv_eq_ediv_of_nonneg _ (Int.natCast_nonneg _)]; rfl
theorem low64 (x : UInt64) : IntKind.wrap .u8 (x.toNat : Int) = (x.toUInt8.toNat : Int) := by
  have : IntKind.wrap .u8 ((x.toNat : Nat) : Int) = ((x.toNat % 256 : Nat) : Int) := by simp [IntKind.wrap, IntKind.bits, IntKind.signed]
  rw [this]; simp

end Pv

namespace Pv
set_option maxRecDepth 20000
set_option maxHeartbeats 4000000
open Go Go.Proofs Go.RowKit
variable {w0 : World}

/-! ### A hash's cells -/
def hc (h : List UInt32) (l : List UInt8) (n : UInt64) : List PV := wC h ++ [.str l, .int .u64 (n.toNat : Int)]
section hc
variable {h h' : List UInt32} {l l' : List UInt8} {n n' : UInt64}
theorem hc_len (hl : h.length = 8) : (hc h l n).length = 10 := by simp [hc, wC_len, hl]
theorem hc_g8 (hl : h.length = 8) : (hc h l n)[8]? = some (.str l) := by
  rw [hc, List.getElem?_append_right (by rw [wC_len, hl]; decide), wC_len, hl]; rfl
theorem hc_g9 (hl : h.length = 8) : (hc h l n)[9]? = some (.int .u64 (n.toNat : Int)) := by
  rw [hc, List.getElem?_append_right (by rw [wC_len, hl]; decide), wC_len, hl]; rfl
theorem hc_s8 (hl : h.length = 8) : (hc h l n).set 8 (.str l') = hc h l' n := by
  rw [hc, List.set_append_right _ _ (by rw [wC_len, hl]; decide), wC_len, hl]; rfl
theorem hc_s9 (hl : h.length = 8) : (hc h l n).set 9 (.int .u64 (n'.toNat : Int)) = hc h l n' := by
  rw [hc, List.set_append_right _ _ (by rw [wC_len, hl]; decide), wC_len, hl]; rfl
theorem hc_sH (hl : h.length = 8) (hl' : h'.length = 8) : setL (hc h l n) 0 (wC h') = hc h' l n := by
  obtain ⟨a, b, c, d, e, f, g, i, rfl⟩ := eight hl
  obtain ⟨a', b', c', d', e', f', g', i', rfl⟩ := eight hl'
  rfl
theorem hc_all (hl : h.length = 8) (hl' : h'.length = 8) : setL (hc h l n) 0 (hc h' l' n') = hc h' l' n' := setL_whole (by rw [hc_len hl, hc_len hl'])
theorem hc_t10 (hl : h.length = 8) : (hc h l n).take 10 = hc h l n := List.take_of_length_le (by rw [hc_len hl]; decide)
theorem hc_t8 (hl : h.length = 8) : (hc h l n).take 8 = wC h := by
  rw [hc, List.take_append_of_le_length (by rw [wC_len, hl]; decide), List.take_of_length_le (by rw [wC_len, hl]; decide)]
theorem hc_ok : (hc h l n).all cellOk = true := by simp [hc, wC_ok, cellOk]
theorem hc_scalar : (hc h l n).all scalarV = true := by simp [hc, wC_scalar, scalarV]
theorem scs_hc {m : Nat} : Scs m (hc h l n) = True := eq_true (scs_scalars hc_scalar)
end hc
theorem ze37h : zeroP Try.prog 81 = some (.agg (hc z8W [] 0)) := by rw [Try.ze81]; unfold z8W; rfl

theorem len64 (s : List UInt8) (hs : s.length < 2 ^ 50) : IntKind.wrap .u64 (s.length : Int) = (s.length : Int) := by rw [wrap_u64, Nat.mod_eq_of_lt (by omega)]

theorem write_ok (h : List UInt32) (h8 : h.length = 8) (lf : List UInt8) (n : UInt64) (s : List UInt8) (hb : lf.length + s.length < 2 ^ 46) :
    Fn (Cx w0) 47 [.agg (hc h lf n), .str s] (.agg (hc (feed h (lf ++ s)).1 (feed h (lf ++ s)).2 (n + UInt64.ofNat s.length))) := by
  have z8 := z8W_len
  have e1 := len64 s (by omega)
  refine fn_H ([Go.ResultVar.cell 4 81]) Try.func47 rfl rfl (by decide) fun ph hW Q hQ => ?_
  simp only [start, List.length_cons, List.length_nil, List.cons_append, List.nil_append, Nat.reduceAdd, Nat.reduceSub, List.replicate_succ, List.replicate_zero, Try.ntmps47]
  repeat' first
    | simp -implicitDefEqProofs (maxSteps := 400000) (disch := first | with_reducible rfl | omega | (simp only [h_n, PH.n_push, PH.n_put, List.length_cons, List.length_nil] <;> omega) | decide) only [wkAll, wkL, popO, wantedP, if_true, if_false, reduceIte, ne_eq, Nat.reduceAdd, Nat.reduceSub, Nat.reduceMul, Nat.reduceLeDiff, Nat.reduceLT, ofCells, ofCell, reduceCtorEq, Int.reduceLE, Int.reduceLT, Int.reduceToNat, Int.reduceAdd, Int.reduceSub, Int.reduceMul, Int.reduceNeg, Int.reduceBEq, Int.reduceBNe, Int.reduceEq, eqCell, eqCells, binP, unP, convP, lenP, builtinP, sliceDataP, unsafeStringP, appendT, appendS, appendP, copyP, srcP, mmsP, mmP, indexOp, indexAddrOp, sliceOp, bndsP, bndP, capw, capCut, loadOp, storeOp, loadP, fieldOp, fieldAddrOp, arrayAtOp, buildP, buildSliceP, makeSliceP, placeF, fillP, setL, PK.agg, isZero, gt_iff_lt, Nat.reducePow, Nat.reduceGT, reps, seg, wkN, if_pos, if_neg, tf3, Try.ze3, tf9, Try.ze9, tf23, Try.ze23, tf52, Try.ze52, tf79, Try.ze79, tf81, Try.ze81, e1, add64n, -Try.ze81, ze37h, Try.sz81, hc_len, hc_g8, hc_g9, hc_s8, hc_s9, hc_sH, hc_all, hc_t10, hc_t8, hc_ok]
    | refine w_dec (fun _ => ?_) (fun _ => ?_)
    | refine w_eqc (fun _ => ?_) (fun _ => ?_)
    | refine w_neqc (fun _ => ?_) (fun _ => ?_)
    | refine w_nneqc (fun _ => ?_) (fun _ => ?_)
    | ((first | refine w_split (fun h => ?_) (fun h => ?_) | refine d_split (fun h => ?_) (fun h => ?_) | refine w_csplit (fun h => ?_) (fun h => ?_)) <;> (try simp only [Bool.not_eq_true', Bool.not_eq_false', Bool.not_true, Bool.not_false] at h) <;> (have h2 := h) <;> (try simp only [decide_eq_true_eq, decide_eq_false_iff_not, beq_iff_eq, beq_eq_false_iff_ne, bne_iff_ne, bne_eq_false_iff_eq, Int.not_lt, Int.not_le, ne_eq] at h2) <;> (try simp only [h]))
  obtain ⟨m, hm⟩ : ∃ m, m = n + UInt64.ofNat s.length := ⟨_, rfl⟩
  rw [← hm] at hQ ⊢
  obtain ⟨r0, hr0⟩ : ∃ r0, r0 = lf ++ s := ⟨_, rfl⟩
  have hrl : r0.length < 2 ^ 46 := by rw [hr0, List.length_append]; exact hb
  rw [← hr0] at hQ ⊢
  refine w_inl ([Go.ResultVar.tmp 2]) Try.func55 rfl rfl (by decide) fun _ hI => ?_
  simp only [start, List.length_cons, List.length_nil, List.cons_append, List.nil_append, Nat.reduceAdd, Nat.reduceSub, List.replicate_succ, List.replicate_zero, Try.ntmps55]
  repeat' first
    | simp -implicitDefEqProofs (maxSteps := 400000) (disch := first | with_reducible rfl | omega | (simp only [h_n, PH.n_push, PH.n_put, List.length_cons, List.length_nil] <;> omega) | decide) only [wkAll, wkL, popO, wantedP, if_true, if_false, reduceIte, ne_eq, Nat.reduceAdd, Nat.reduceSub, Nat.reduceMul, Nat.reduceLeDiff, Nat.reduceLT, ofCells, ofCell, reduceCtorEq, Int.reduceLE, Int.reduceLT, Int.reduceToNat, Int.reduceAdd, Int.reduceSub, Int.reduceMul, Int.reduceNeg, Int.reduceBEq, Int.reduceBNe, Int.reduceEq, eqCell, eqCells, binP, unP, convP, lenP, builtinP, sliceDataP, unsafeStringP, appendT, appendS, appendP, copyP, srcP, mmsP, mmP, indexOp, indexAddrOp, sliceOp, bndsP, bndP, capw, capCut, loadOp, storeOp, loadP, fieldOp, fieldAddrOp, arrayAtOp, buildP, buildSliceP, makeSliceP, placeF, fillP, setL, PK.agg, isZero, gt_iff_lt, Nat.reducePow, Nat.reduceGT, reps, seg, wkN, if_pos, if_neg, tf9, Try.ze9]
    | refine w_dec (fun _ => ?_) (fun _ => ?_)
    | refine w_eqc (fun _ => ?_) (fun _ => ?_)
    | refine w_neqc (fun _ => ?_) (fun _ => ?_)
    | refine w_nneqc (fun _ => ?_) (fun _ => ?_)
    | ((first | refine w_split (fun h => ?_) (fun h => ?_) | refine d_split (fun h => ?_) (fun h => ?_) | refine w_csplit (fun h => ?_) (fun h => ?_)) <;> (try simp only [Bool.not_eq_true', Bool.not_eq_false', Bool.not_true, Bool.not_false] at h) <;> (have h2 := h) <;> (try simp only [decide_eq_true_eq, decide_eq_false_iff_not, beq_iff_eq, beq_eq_false_iff_ne, bne_iff_ne, bne_eq_false_iff_eq, Int.not_lt, Int.not_le, ne_eq] at h2) <;> (try simp only [h]))
  refine hI (by first | exact .inr rfl | exact .inl rfl) trivial (by first | (simp -implicitDefEqProofs (maxSteps := 400000) (disch := first | with_reducible rfl | omega | (simp only [h_n, PH.n_push, PH.n_put, List.length_cons, List.length_nil] <;> omega) | decide) only [wkAll, wkL, popO, wantedP, if_true, if_false, reduceIte, ne_eq, Nat.reduceAdd, Nat.reduceSub, Nat.reduceMul, Nat.reduceLeDiff, Nat.reduceLT, ofCells, ofCell, reduceCtorEq, Int.reduceLE, Int.reduceLT, Int.reduceToNat, Int.reduceAdd, Int.reduceSub, Int.reduceMul, Int.reduceNeg, Int.reduceBEq, Int.reduceBNe, Int.reduceEq, eqCell, eqCells, binP, unP, convP, lenP, builtinP, sliceDataP, unsafeStringP, appendT, appendS, appendP, copyP, srcP, mmsP, mmP, indexOp, indexAddrOp, sliceOp, bndsP, bndP, capw, capCut, loadOp, storeOp, loadP, fieldOp, fieldAddrOp, arrayAtOp, buildP, buildSliceP, makeSliceP, placeF, fillP, setL, PK.agg, isZero, gt_iff_lt, Nat.reducePow, Nat.reduceGT, reps, seg, wkN, if_pos, if_neg, tf9, Try.ze9, resP, resPs, resP1]; rfl) | rfl) ?_
  repeat' first
    | simp -implicitDefEqProofs (maxSteps := 400000) (disch := first | with_reducible rfl | omega | (simp only [h_n, PH.n_push, PH.n_put, List.length_cons, List.length_nil] <;> omega) | decide) only [wkAll, wkL, popO, wantedP, if_true, if_false, reduceIte, ne_eq, Nat.reduceAdd, Nat.reduceSub, Nat.reduceMul, Nat.reduceLeDiff, Nat.reduceLT, ofCells, ofCell, reduceCtorEq, Int.reduceLE, Int.reduceLT, Int.reduceToNat, Int.reduceAdd, Int.reduceSub, Int.reduceMul, Int.reduceNeg, Int.reduceBEq, Int.reduceBNe, Int.reduceEq, eqCell, eqCells, binP, unP, convP, lenP, builtinP, sliceDataP, unsafeStringP, appendT, appendS, appendP, copyP, srcP, mmsP, mmP, indexOp, indexAddrOp, sliceOp, bndsP, bndP, capw, capCut, loadOp, storeOp, loadP, fieldOp, fieldAddrOp, arrayAtOp, buildP, buildSliceP, makeSliceP, placeF, fillP, setL, PK.agg, isZero, gt_iff_lt, Nat.reducePow, Nat.reduceGT, reps, seg, wkN, if_pos, if_neg, tf3, Try.ze3, tf9, Try.ze9, tf23, Try.ze23, tf52, Try.ze52, tf79, Try.ze79, tf81, Try.ze81]
    | refine w_dec (fun _ => ?_) (fun _ => ?_)
    | refine w_eqc (fun _ => ?_) (fun _ => ?_)
    | refine w_neqc (fun _ => ?_) (fun _ => ?_)
    | refine w_nneqc (fun _ => ?_) (fun _ => ?_)
    | ((first | refine w_split (fun h => ?_) (fun h => ?_) | refine d_split (fun h => ?_) (fun h => ?_) | refine w_csplit (fun h => ?_) (fun h => ?_)) <;> (try simp only [Bool.not_eq_true', Bool.not_eq_false', Bool.not_true, Bool.not_false] at h) <;> (have h2 := h) <;> (try simp only [decide_eq_true_eq, decide_eq_false_iff_not, beq_iff_eq, beq_eq_false_iff_ne, bne_iff_ne, bne_eq_false_iff_eq, Int.not_lt, Int.not_le, ne_eq] at h2) <;> (try simp only [h]))
  refine w_range ([]) rfl Try.func64 rfl rfl (by decide) ?_
  intro r l fnid hr hl hne Q' hQ'
  simp only [start, List.length_cons, List.length_nil, List.cons_append, List.nil_append, Nat.reduceAdd, Nat.reduceSub, List.replicate_succ, List.replicate_zero, Try.ntmps64]
  have hl' : ph.ob l = none := hl
  have hr' : ph.ob r = none := hr
  repeat' first
    | simp -implicitDefEqProofs (maxSteps := 400000) (disch := first | with_reducible rfl | omega | (simp only [h_n, PH.n_push, PH.n_put, List.length_cons, List.length_nil] <;> omega) | decide) only [wkAll, wkL, popO, wantedP, if_true, if_false, reduceIte, ne_eq, Nat.reduceAdd, Nat.reduceSub, Nat.reduceMul, Nat.reduceLeDiff, Nat.reduceLT, ofCells, ofCell, reduceCtorEq, Int.reduceLE, Int.reduceLT, Int.reduceToNat, Int.reduceAdd, Int.reduceSub, Int.reduceMul, Int.reduceNeg, Int.reduceBEq, Int.reduceBNe, Int.reduceEq, eqCell, eqCells, binP, unP, convP, lenP, builtinP, sliceDataP, unsafeStringP, appendT, appendS, appendP, copyP, srcP, mmsP, mmP, indexOp, indexAddrOp, sliceOp, bndsP, bndP, capw, capCut, loadOp, storeOp, loadP, fieldOp, fieldAddrOp, arrayAtOp, buildP, buildSliceP, makeSliceP, placeF, fillP, setL, PK.agg, isZero, gt_iff_lt, Nat.reducePow, Nat.reduceGT, reps, seg, wkN, if_pos, if_neg, tf3, Try.ze3, tf4, Try.ze4, tf9, Try.ze9]
    | refine w_dec (fun _ => ?_) (fun _ => ?_)
    | refine w_eqc (fun _ => ?_) (fun _ => ?_)
    | refine w_neqc (fun _ => ?_) (fun _ => ?_)
    | refine w_nneqc (fun _ => ?_) (fun _ => ?_)
    | ((first | refine w_split (fun h => ?_) (fun h => ?_) | refine d_split (fun h => ?_) (fun h => ?_) | refine w_csplit (fun h => ?_) (fun h => ?_)) <;> (try simp only [Bool.not_eq_true', Bool.not_eq_false', Bool.not_true, Bool.not_false] at h) <;> (have h2 := h) <;> (try simp only [decide_eq_true_eq, decide_eq_false_iff_not, beq_iff_eq, beq_eq_false_iff_ne, bne_iff_ne, bne_eq_false_iff_eq, Int.not_lt, Int.not_le, ne_eq] at h2) <;> (try simp only [h]))
  refine w_loopH (α := List UInt32 × List UInt8) ph _ ph.ty (fun a => [.yield l, .ptr (ph.n + 2) 0, .undef, .undef, .undef, .undef, .undef, .undef, .undef, .undef, .undef, .undef, .undef, .undef, .undef, .undef]) (fun a => [some (.own (hc a.1 a.2 m)), some (.own (hc z8W [] 0)), some (.own [.str a.2])]) (fun a => a.1.length = 8 ∧ feed a.1 a.2 = feed h r0 ∧ a.2.length ≤ r0.length) (fun a => a.2.length) (h, r0) ⟨h8, rfl, Nat.le_refl _⟩ (fun _ _ => by simp [h_n]) (.eq (by simp [FadeTo]) rfl) ?_
  rintro ⟨H1, r⟩ ⟨hH, hf, hr⟩ K hK
  simp only at hH hf hr ⊢
  rcases Nat.lt_or_ge r.length 64 with hlt | hge
  · have hlt' : ¬ (64 : Int) ≤ (r.length : Int) := by omega
    rw [← hf, feed_lt _ _ hlt] at hQ
    repeat' first
      | simp -implicitDefEqProofs (maxSteps := 400000) (disch := first | with_reducible rfl | omega | (simp only [h_n, PH.n_push, PH.n_put, List.length_cons, List.length_nil] <;> omega) | decide) only [wkAll, wkL, popO, wantedP, if_true, if_false, reduceIte, ne_eq, Nat.reduceAdd, Nat.reduceSub, Nat.reduceMul, Nat.reduceLeDiff, Nat.reduceLT, ofCells, ofCell, reduceCtorEq, Int.reduceLE, Int.reduceLT, Int.reduceToNat, Int.reduceAdd, Int.reduceSub, Int.reduceMul, Int.reduceNeg, Int.reduceBEq, Int.reduceBNe, Int.reduceEq, eqCell, eqCells, binP, unP, convP, lenP, builtinP, sliceDataP, unsafeStringP, appendT, appendS, appendP, copyP, srcP, mmsP, mmP, indexOp, indexAddrOp, sliceOp, bndsP, bndP, capw, capCut, loadOp, storeOp, loadP, fieldOp, fieldAddrOp, arrayAtOp, buildP, buildSliceP, makeSliceP, placeF, fillP, setL, PK.agg, isZero, gt_iff_lt, Nat.reducePow, Nat.reduceGT, reps, seg, wkN, if_pos, if_neg, tf3, Try.ze3, tf4, Try.ze4, tf9, Try.ze9, ge_iff_le, hlt']
      | refine w_dec (fun _ => ?_) (fun _ => ?_)
      | refine w_eqc (fun _ => ?_) (fun _ => ?_)
      | refine w_neqc (fun _ => ?_) (fun _ => ?_)
      | refine w_nneqc (fun _ => ?_) (fun _ => ?_)
      | ((first | refine w_split (fun h => ?_) (fun h => ?_) | refine d_split (fun h => ?_) (fun h => ?_) | refine w_csplit (fun h => ?_) (fun h => ?_)) <;> (try simp only [Bool.not_eq_true', Bool.not_eq_false', Bool.not_true, Bool.not_false] at h) <;> (have h2 := h) <;> (try simp only [decide_eq_true_eq, decide_eq_false_iff_not, beq_iff_eq, beq_eq_false_iff_ne, bne_iff_ne, bne_eq_false_iff_eq, Int.not_lt, Int.not_le, ne_eq] at h2) <;> (try simp only [h]))
    refine hQ' (by first | exact .inr rfl | exact .inl rfl) trivial (by first | (simp -implicitDefEqProofs (maxSteps := 400000) (disch := first | with_reducible rfl | omega | (simp only [h_n, PH.n_push, PH.n_put, List.length_cons, List.length_nil] <;> omega) | decide) only [wkAll, wkL, popO, wantedP, if_true, if_false, reduceIte, ne_eq, Nat.reduceAdd, Nat.reduceSub, Nat.reduceMul, Nat.reduceLeDiff, Nat.reduceLT, ofCells, ofCell, reduceCtorEq, Int.reduceLE, Int.reduceLT, Int.reduceToNat, Int.reduceAdd, Int.reduceSub, Int.reduceMul, Int.reduceNeg, Int.reduceBEq, Int.reduceBNe, Int.reduceEq, eqCell, eqCells, binP, unP, convP, lenP, builtinP, sliceDataP, unsafeStringP, appendT, appendS, appendP, copyP, srcP, mmsP, mmP, indexOp, indexAddrOp, sliceOp, bndsP, bndP, capw, capCut, loadOp, storeOp, loadP, fieldOp, fieldAddrOp, arrayAtOp, buildP, buildSliceP, makeSliceP, placeF, fillP, setL, PK.agg, isZero, gt_iff_lt, Nat.reducePow, Nat.reduceGT, reps, seg, wkN, if_pos, if_neg, tf3, Try.ze3, tf4, Try.ze4, tf9, Try.ze9, resP, resPs, resP1]; rfl) | rfl) (re_normal (by rw [h_shut0, h_ob]; exact up_same) rfl rfl ?_)
    repeat' first
      | simp -implicitDefEqProofs (maxSteps := 400000) (disch := first | with_reducible rfl | omega | (simp only [h_n, PH.n_push, PH.n_put, List.length_cons, List.length_nil] <;> omega) | decide) only [wkAll, wkL, popO, wantedP, if_true, if_false, reduceIte, ne_eq, Nat.reduceAdd, Nat.reduceSub, Nat.reduceMul, Nat.reduceLeDiff, Nat.reduceLT, ofCells, ofCell, reduceCtorEq, Int.reduceLE, Int.reduceLT, Int.reduceToNat, Int.reduceAdd, Int.reduceSub, Int.reduceMul, Int.reduceNeg, Int.reduceBEq, Int.reduceBNe, Int.reduceEq, eqCell, eqCells, binP, unP, convP, lenP, builtinP, sliceDataP, unsafeStringP, appendT, appendS, appendP, copyP, srcP, mmsP, mmP, indexOp, indexAddrOp, sliceOp, bndsP, bndP, capw, capCut, loadOp, storeOp, loadP, fieldOp, fieldAddrOp, arrayAtOp, buildP, buildSliceP, makeSliceP, placeF, fillP, setL, PK.agg, isZero, gt_iff_lt, Nat.reducePow, Nat.reduceGT, reps, seg, wkN, if_pos, if_neg, tf3, Try.ze3, tf9, Try.ze9, tf23, Try.ze23, tf52, Try.ze52, tf79, Try.ze79, tf81, Try.ze81, up_none2 hl' hne, -Try.ze81, ze37h, Try.sz81, hc_len, hc_g8, hc_g9, hc_s8, hc_s9, hc_sH, hc_all, hc_t10, hc_t8, hc_ok]
      | refine w_dec (fun _ => ?_) (fun _ => ?_)
      | refine w_eqc (fun _ => ?_) (fun _ => ?_)
      | refine w_neqc (fun _ => ?_) (fun _ => ?_)
      | refine w_nneqc (fun _ => ?_) (fun _ => ?_)
      | ((first | refine w_split (fun h => ?_) (fun h => ?_) | refine d_split (fun h => ?_) (fun h => ?_) | refine w_csplit (fun h => ?_) (fun h => ?_)) <;> (try simp only [Bool.not_eq_true', Bool.not_eq_false', Bool.not_true, Bool.not_false] at h) <;> (have h2 := h) <;> (try simp only [decide_eq_true_eq, decide_eq_false_iff_not, beq_iff_eq, beq_eq_false_iff_ne, bne_iff_ne, bne_eq_false_iff_eq, Int.not_lt, Int.not_le, ne_eq] at h2) <;> (try simp only [h]))
    refine hQ (by first | exact .inr rfl | exact .inl rfl) (by first | exact trivial | exact marks1) (by first | (simp -implicitDefEqProofs (maxSteps := 400000) (disch := first | with_reducible rfl | omega | (simp only [h_n, PH.n_push, PH.n_put, List.length_cons, List.length_nil] <;> omega) | decide) only [wkAll, wkL, popO, wantedP, if_true, if_false, reduceIte, ne_eq, Nat.reduceAdd, Nat.reduceSub, Nat.reduceMul, Nat.reduceLeDiff, Nat.reduceLT, ofCells, ofCell, reduceCtorEq, Int.reduceLE, Int.reduceLT, Int.reduceToNat, Int.reduceAdd, Int.reduceSub, Int.reduceMul, Int.reduceNeg, Int.reduceBEq, Int.reduceBNe, Int.reduceEq, eqCell, eqCells, binP, unP, convP, lenP, builtinP, sliceDataP, unsafeStringP, appendT, appendS, appendP, copyP, srcP, mmsP, mmP, indexOp, indexAddrOp, sliceOp, bndsP, bndP, capw, capCut, loadOp, storeOp, loadP, fieldOp, fieldAddrOp, arrayAtOp, buildP, buildSliceP, makeSliceP, placeF, fillP, setL, PK.agg, isZero, gt_iff_lt, Nat.reducePow, Nat.reduceGT, reps, seg, wkN, if_pos, if_neg, tf3, Try.ze3, tf9, Try.ze9, tf23, Try.ze23, tf52, Try.ze52, tf79, Try.ze79, tf81, Try.ze81, resP, resPs, resP1, -Try.ze81, ze37h, Try.sz81, hc_len, hc_g8, hc_g9, hc_s8, hc_s9, hc_sH, hc_all, hc_t10, hc_t8, hc_ok]; rfl) | rfl) ⟨6, by repeat' first | exact frz_scalar rfl | apply frz_tuple | apply frz_agg | apply frz_fsl | apply frz_gsl (by omega) | exact frzs_nil | apply frzs_cons | exact frzs_scalars (hc_scalar)⟩ (by first | exact keepsH0 | exact keeps1 (by assumption) | exact keepsH (fun _ _ h => h) (fun p hp => by simp only [upF]; (repeat rw [if_neg (by omega)])) | exact keeps1t (by assumption) (fun p hp => by simp only [upF]; (repeat rw [if_neg (by omega)])) | (subst hT; exact keepsH (fun _ _ h => h) fun _ _ => rfl)) (nw_eq ?_)
    rfl
  · have hge' : (64 : Int) ≤ (r.length : Int) := by omega
    have ht : (r.take 64).length = 64 := by rw [List.length_take]; omega
    have hbk := block_ok (w0 := w0) H1 hH (r.take 64) (by omega)
    have hB : blockL H1 (r.take 64) = (blockW H1 (r.take 64), 0) := by rw [blockL, if_pos ht]
    simp only [hB] at hbk
    have hH2 := blockW_len hH (r.take 64)
    have hd : (r.drop 64).take (r.length - 64) = r.drop 64 := List.take_of_length_le (by rw [List.length_drop]; exact Nat.le_refl _)
    have hf2 := feed_step H1 r hge
    generalize hBW : blockW H1 (r.take 64) = B at *
    repeat' first
      | simp -implicitDefEqProofs (maxSteps := 400000) (disch := first | with_reducible rfl | omega | (simp only [h_n, PH.n_push, PH.n_put, List.length_cons, List.length_nil] <;> omega) | decide) only [wkAll, wkL, popO, wantedP, if_true, if_false, reduceIte, ne_eq, Nat.reduceAdd, Nat.reduceSub, Nat.reduceMul, Nat.reduceLeDiff, Nat.reduceLT, ofCells, ofCell, reduceCtorEq, Int.reduceLE, Int.reduceLT, Int.reduceToNat, Int.reduceAdd, Int.reduceSub, Int.reduceMul, Int.reduceNeg, Int.reduceBEq, Int.reduceBNe, Int.reduceEq, eqCell, eqCells, binP, unP, convP, lenP, builtinP, sliceDataP, unsafeStringP, appendT, appendS, appendP, copyP, srcP, mmsP, mmP, indexOp, indexAddrOp, sliceOp, bndsP, bndP, capw, capCut, loadOp, storeOp, loadP, fieldOp, fieldAddrOp, arrayAtOp, buildP, buildSliceP, makeSliceP, placeF, fillP, setL, PK.agg, isZero, gt_iff_lt, Nat.reducePow, Nat.reduceGT, reps, seg, wkN, if_pos, if_neg, tf3, Try.ze3, tf4, Try.ze4, tf9, Try.ze9, ge_iff_le, hge', hd]
      | refine w_dec (fun _ => ?_) (fun _ => ?_)
      | refine w_eqc (fun _ => ?_) (fun _ => ?_)
      | refine w_neqc (fun _ => ?_) (fun _ => ?_)
      | refine w_nneqc (fun _ => ?_) (fun _ => ?_)
      | ((first | refine w_split (fun h => ?_) (fun h => ?_) | refine d_split (fun h => ?_) (fun h => ?_) | refine w_csplit (fun h => ?_) (fun h => ?_)) <;> (try simp only [Bool.not_eq_true', Bool.not_eq_false', Bool.not_true, Bool.not_false] at h) <;> (have h2 := h) <;> (try simp only [decide_eq_true_eq, decide_eq_false_iff_not, beq_iff_eq, beq_eq_false_iff_ne, bne_iff_ne, bne_eq_false_iff_eq, Int.not_lt, Int.not_le, ne_eq] at h2) <;> (try simp only [h]))
    refine w_round (by rw [h_ob]; exact up_same) rfl rfl ?_
    simp only [mkLoop, setPs, List.set_cons_zero, List.set_cons_succ, List.toList_toArray]
    repeat' first
      | simp -implicitDefEqProofs (maxSteps := 400000) (disch := first | with_reducible rfl | omega | (simp only [h_n, PH.n_push, PH.n_put, List.length_cons, List.length_nil] <;> omega) | decide) only [wkAll, wkL, popO, wantedP, if_true, if_false, reduceIte, ne_eq, Nat.reduceAdd, Nat.reduceSub, Nat.reduceMul, Nat.reduceLeDiff, Nat.reduceLT, ofCells, ofCell, reduceCtorEq, Int.reduceLE, Int.reduceLT, Int.reduceToNat, Int.reduceAdd, Int.reduceSub, Int.reduceMul, Int.reduceNeg, Int.reduceBEq, Int.reduceBNe, Int.reduceEq, eqCell, eqCells, binP, unP, convP, lenP, builtinP, sliceDataP, unsafeStringP, appendT, appendS, appendP, copyP, srcP, mmsP, mmP, indexOp, indexAddrOp, sliceOp, bndsP, bndP, capw, capCut, loadOp, storeOp, loadP, fieldOp, fieldAddrOp, arrayAtOp, buildP, buildSliceP, makeSliceP, placeF, fillP, setL, PK.agg, isZero, gt_iff_lt, Nat.reducePow, Nat.reduceGT, reps, seg, wkN, if_pos, if_neg, tf3, Try.ze3, tf9, Try.ze9, tf23, Try.ze23, tf52, Try.ze52, tf79, Try.ze79, tf81, Try.ze81]
      | refine w_dec (fun _ => ?_) (fun _ => ?_)
      | refine w_eqc (fun _ => ?_) (fun _ => ?_)
      | refine w_neqc (fun _ => ?_) (fun _ => ?_)
      | refine w_nneqc (fun _ => ?_) (fun _ => ?_)
      | ((first | refine w_split (fun h => ?_) (fun h => ?_) | refine d_split (fun h => ?_) (fun h => ?_) | refine w_csplit (fun h => ?_) (fun h => ?_)) <;> (try simp only [Bool.not_eq_true', Bool.not_eq_false', Bool.not_true, Bool.not_false] at h) <;> (have h2 := h) <;> (try simp only [decide_eq_true_eq, decide_eq_false_iff_not, beq_iff_eq, beq_eq_false_iff_ne, bne_iff_ne, bne_eq_false_iff_eq, Int.not_lt, Int.not_le, ne_eq] at h2) <;> (try simp only [h]))
    first | refine ⟨_, rfl, rfl, ?_⟩ | refine ⟨_, by rw [h_ob]; exact up_same, rfl, ?_⟩
    repeat' first
      | simp -implicitDefEqProofs (maxSteps := 400000) (disch := first | with_reducible rfl | omega | (simp only [h_n, PH.n_push, PH.n_put, List.length_cons, List.length_nil] <;> omega) | decide) only [wkAll, wkL, popO, wantedP, if_true, if_false, reduceIte, ne_eq, Nat.reduceAdd, Nat.reduceSub, Nat.reduceMul, Nat.reduceLeDiff, Nat.reduceLT, ofCells, ofCell, reduceCtorEq, Int.reduceLE, Int.reduceLT, Int.reduceToNat, Int.reduceAdd, Int.reduceSub, Int.reduceMul, Int.reduceNeg, Int.reduceBEq, Int.reduceBNe, Int.reduceEq, eqCell, eqCells, binP, unP, convP, lenP, builtinP, sliceDataP, unsafeStringP, appendT, appendS, appendP, copyP, srcP, mmsP, mmP, indexOp, indexAddrOp, sliceOp, bndsP, bndP, capw, capCut, loadOp, storeOp, loadP, fieldOp, fieldAddrOp, arrayAtOp, buildP, buildSliceP, makeSliceP, placeF, fillP, setL, PK.agg, isZero, gt_iff_lt, Nat.reducePow, Nat.reduceGT, reps, seg, wkN, if_pos, if_neg, tf3, Try.ze3, tf9, Try.ze9, tf23, Try.ze23, tf52, Try.ze52, tf79, Try.ze79, tf81, Try.ze81, -Try.ze81, ze37h, Try.sz81, hc_len, hc_g8, hc_g9, hc_s8, hc_s9, hc_sH, hc_all, hc_t10, hc_t8, hc_ok, wC_len, hH2, wC_ok]
      | refine w_pure (hbk) ?_
      | refine w_dec (fun _ => ?_) (fun _ => ?_)
      | refine w_eqc (fun _ => ?_) (fun _ => ?_)
      | refine w_neqc (fun _ => ?_) (fun _ => ?_)
      | refine w_nneqc (fun _ => ?_) (fun _ => ?_)
      | ((first | refine w_split (fun h => ?_) (fun h => ?_) | refine d_split (fun h => ?_) (fun h => ?_) | refine w_csplit (fun h => ?_) (fun h => ?_)) <;> (try simp only [Bool.not_eq_true', Bool.not_eq_false', Bool.not_true, Bool.not_false] at h) <;> (have h2 := h) <;> (try simp only [decide_eq_true_eq, decide_eq_false_iff_not, beq_iff_eq, beq_eq_false_iff_ne, bne_iff_ne, bne_eq_false_iff_eq, Int.not_lt, Int.not_le, ne_eq] at h2) <;> (try simp only [h]))
    refine ⟨_, by rw [h_ob]; exact up_same, ?_⟩
    repeat' first
      | simp -implicitDefEqProofs (maxSteps := 400000) (disch := first | with_reducible rfl | omega | (simp only [h_n, PH.n_push, PH.n_put, List.length_cons, List.length_nil] <;> omega) | decide) only [wkAll, wkL, popO, wantedP, if_true, if_false, reduceIte, ne_eq, Nat.reduceAdd, Nat.reduceSub, Nat.reduceMul, Nat.reduceLeDiff, Nat.reduceLT, ofCells, ofCell, reduceCtorEq, Int.reduceLE, Int.reduceLT, Int.reduceToNat, Int.reduceAdd, Int.reduceSub, Int.reduceMul, Int.reduceNeg, Int.reduceBEq, Int.reduceBNe, Int.reduceEq, eqCell, eqCells, binP, unP, convP, lenP, builtinP, sliceDataP, unsafeStringP, appendT, appendS, appendP, copyP, srcP, mmsP, mmP, indexOp, indexAddrOp, sliceOp, bndsP, bndP, capw, capCut, loadOp, storeOp, loadP, fieldOp, fieldAddrOp, arrayAtOp, buildP, buildSliceP, makeSliceP, placeF, fillP, setL, PK.agg, isZero, gt_iff_lt, Nat.reducePow, Nat.reduceGT, reps, seg, wkN, if_pos, if_neg, tf3, Try.ze3, tf4, Try.ze4, tf9, Try.ze9]
      | refine w_dec (fun _ => ?_) (fun _ => ?_)
      | refine w_eqc (fun _ => ?_) (fun _ => ?_)
      | refine w_neqc (fun _ => ?_) (fun _ => ?_)
      | refine w_nneqc (fun _ => ?_) (fun _ => ?_)
      | ((first | refine w_split (fun h => ?_) (fun h => ?_) | refine d_split (fun h => ?_) (fun h => ?_) | refine w_csplit (fun h => ?_) (fun h => ?_)) <;> (try simp only [Bool.not_eq_true', Bool.not_eq_false', Bool.not_true, Bool.not_false] at h) <;> (have h2 := h) <;> (try simp only [decide_eq_true_eq, decide_eq_false_iff_not, beq_iff_eq, beq_eq_false_iff_ne, bne_iff_ne, bne_eq_false_iff_eq, Int.not_lt, Int.not_le, ne_eq] at h2) <;> (try simp only [h]))
    refine hK (B, r.drop 64) _ _ ⟨hH2, by rw [← hf, hf2], by simp only [List.length_drop]; omega⟩ (by simp only [List.length_drop]; omega) (.cut [] hW (by simp [FadeTo]) (by rfl) (by simp [scs_cons, scs_nil, sc_ptr, sc_fsl, sc_gsl, sc_sl, sc_agg, sc_func, sc_int, sc_bool, sc_str, sc_undef, sc_nilptr, sc_nilsl, sc_yield, sc_tuple, sc_fptr, scs_bytes, scs_append, scs_hc]) (by simp [scs_cons, scs_nil, sc_ptr, sc_fsl, sc_gsl, sc_sl, sc_agg, sc_func, sc_int, sc_bool, sc_str, sc_undef, sc_nilptr, sc_nilsl, sc_yield, sc_tuple, sc_fptr, scs_bytes, scs_append, scs_hc]) (h3 := .inr (obsc2 hW (by omega) (by simp [mkLoop, scs_cons, scs_nil, sc_ptr, sc_fsl, sc_gsl, sc_sl, sc_agg, sc_func, sc_int, sc_bool, sc_str, sc_undef, sc_nilptr, sc_nilsl, sc_yield, sc_tuple, sc_fptr, scs_bytes, scs_append, scs_hc]))))
end Pv

namespace Pv
set_option maxRecDepth 20000
set_option maxHeartbeats 4000000
open Go Go.Proofs Go.RowKit
variable {w0 : World}

theorem new_ok : Fn (Cx w0) 48 [] (.agg (hc shaH0 [] 0)) := by
  refine fn_H ([Go.ResultVar.cell 0 81]) Try.func48 rfl rfl (by decide) fun ph hW Q hQ => ?_
  simp only [start, List.length_cons, List.length_nil, List.cons_append, List.nil_append, Nat.reduceAdd, Nat.reduceSub, List.replicate_succ, List.replicate_zero, Try.ntmps48]
  repeat' first
    | simp -implicitDefEqProofs (maxSteps := 400000) (disch := first | with_reducible rfl | omega | (simp only [h_n, PH.n_push, PH.n_put, List.length_cons, List.length_nil] <;> omega) | decide) only [wkAll, wkL, popO, wantedP, if_true, if_false, reduceIte, ne_eq, Nat.reduceAdd, Nat.reduceSub, Nat.reduceMul, Nat.reduceLeDiff, Nat.reduceLT, ofCells, ofCell, reduceCtorEq, Int.reduceLE, Int.reduceLT, Int.reduceToNat, Int.reduceAdd, Int.reduceSub, Int.reduceMul, Int.reduceNeg, Int.reduceBEq, Int.reduceBNe, Int.reduceEq, eqCell, eqCells, binP, unP, convP, lenP, builtinP, sliceDataP, unsafeStringP, appendT, appendS, appendP, copyP, srcP, mmsP, mmP, indexOp, indexAddrOp, sliceOp, bndsP, bndP, capw, capCut, loadOp, storeOp, loadP, fieldOp, fieldAddrOp, arrayAtOp, buildP, buildSliceP, makeSliceP, placeF, fillP, setL, PK.agg, isZero, gt_iff_lt, Nat.reducePow, Nat.reduceGT, reps, seg, wkN, if_pos, if_neg, tf9, Try.ze9, tf23, Try.ze23, tf52, Try.ze52, tf79, Try.ze79, tf81, Try.ze81]
    | refine w_dec (fun _ => ?_) (fun _ => ?_)
    | refine w_eqc (fun _ => ?_) (fun _ => ?_)
    | refine w_neqc (fun _ => ?_) (fun _ => ?_)
    | refine w_nneqc (fun _ => ?_) (fun _ => ?_)
    | ((first | refine w_split (fun h => ?_) (fun h => ?_) | refine d_split (fun h => ?_) (fun h => ?_) | refine w_csplit (fun h => ?_) (fun h => ?_)) <;> (try simp only [Bool.not_eq_true', Bool.not_eq_false', Bool.not_true, Bool.not_false] at h) <;> (have h2 := h) <;> (try simp only [decide_eq_true_eq, decide_eq_false_iff_not, beq_iff_eq, beq_eq_false_iff_ne, bne_iff_ne, bne_eq_false_iff_eq, Int.not_lt, Int.not_le, ne_eq] at h2) <;> (try simp only [h]))
  refine hQ (by first | exact .inr rfl | exact .inl rfl) (by first | exact trivial | exact marks1) (by first | (simp -implicitDefEqProofs (maxSteps := 400000) (disch := first | with_reducible rfl | omega | (simp only [h_n, PH.n_push, PH.n_put, List.length_cons, List.length_nil] <;> omega) | decide) only [wkAll, wkL, popO, wantedP, if_true, if_false, reduceIte, ne_eq, Nat.reduceAdd, Nat.reduceSub, Nat.reduceMul, Nat.reduceLeDiff, Nat.reduceLT, ofCells, ofCell, reduceCtorEq, Int.reduceLE, Int.reduceLT, Int.reduceToNat, Int.reduceAdd, Int.reduceSub, Int.reduceMul, Int.reduceNeg, Int.reduceBEq, Int.reduceBNe, Int.reduceEq, eqCell, eqCells, binP, unP, convP, lenP, builtinP, sliceDataP, unsafeStringP, appendT, appendS, appendP, copyP, srcP, mmsP, mmP, indexOp, indexAddrOp, sliceOp, bndsP, bndP, capw, capCut, loadOp, storeOp, loadP, fieldOp, fieldAddrOp, arrayAtOp, buildP, buildSliceP, makeSliceP, placeF, fillP, setL, PK.agg, isZero, gt_iff_lt, Nat.reducePow, Nat.reduceGT, reps, seg, wkN, if_pos, if_neg, tf9, Try.ze9, tf23, Try.ze23, tf52, Try.ze52, tf79, Try.ze79, tf81, Try.ze81, resP, resPs, resP1]; rfl) | rfl) ⟨6, by repeat' first | exact frz_scalar rfl | apply frz_tuple | apply frz_agg | apply frz_fsl | apply frz_gsl (by omega) | exact frzs_nil | apply frzs_cons⟩ (by first | exact keepsH0 | exact keeps1 (by assumption) | exact keepsH (fun _ _ h => h) (fun p hp => by simp only [upF]; (repeat rw [if_neg (by omega)])) | exact keeps1t (by assumption) (fun p hp => by simp only [upF]; (repeat rw [if_neg (by omega)])) | (subst hT; exact keepsH (fun _ _ h => h) fun _ _ => rfl)) (nw_eq ?_)
  rfl
end Pv

namespace Pv
set_option maxRecDepth 20000
set_option maxHeartbeats 4000000
open Go Go.Proofs Go.RowKit
variable {w0 : World}

/-! ### masked, by the document -/
def z64B : List UInt8 := List.replicate 64 0
attribute [irreducible] z64B
def endP (k : Nat) : List UInt8 := 0x80 :: List.replicate k 0
theorem endP_len (k : Nat) : (endP k).length = k + 1 := by simp [endP]
theorem endH_eq (x : HS) : endH x = endP ((119 - x.left.length) % 64) ++ be8 (x.n <<< 3) := rfl
attribute [irreducible] endP
theorem be8_len (n : UInt64) : (be8 n).length = 8 := by simp [be8]
theorem be8_at (n : UInt64) (i : Nat) (h : i < 8) : (be8 n)[i]? = some (n >>> UInt64.ofNat (56 - 8 * i)).toUInt8 := by simp [be8, h]
theorem take_next {α : Type} {l : List α} {i : Nat} {x : α} (h : l[i]? = some x) : l.take (i + 1) = l.take i ++ [x] := by rw [List.take_add_one, h]; rfl
theorem flat_next {h : List UInt32} {i : Nat} {x : UInt32} (hx : h[i]? = some x) : (h.take (i + 1)).flatMap be4 = (h.take i).flatMap be4 ++ be4 x := by rw [take_next hx, List.flatMap_append]; simp
theorem be4_pv (x : UInt32) : bytesPV (be4 x) = [.int .u8 ((x >>> 24).toUInt8.toNat : Int), .int .u8 ((x >>> 16).toUInt8.toNat : Int), .int .u8 ((x >>> 8).toUInt8.toNat : Int), .int .u8 (x.toUInt8.toNat : Int)] := rfl
end Pv

namespace Pv
open Go Go.RowKit
variable {X : Ctx} {G : Ghost} {ph : PH} {w w' : World}

/-! ### Contracts of the kit's shelf, told as functions of their arguments -/
theorem hb_below (h : Below w.heap.size w w') {k : Nat} {o : Obj} (hk : w.heap[k]? = some o) : w'.heap[k]? = some o := by
  have : k < w.heap.size := by
    rcases Nat.lt_or_ge k w.heap.size with h1 | h1
    · exact h1
    · rw [Array.getElem?_eq_none h1] at hk; cases hk
  rw [h.block k this]; exact hk
theorem cell_below (h : Below w.heap.size w w') {a : Addr} {v : Value} (hc : w.cell? a = some v) : w'.cell? a = some v := by
  have : w'.heap[a.block]? = w.heap[a.block]? := by
    rcases Nat.lt_or_ge a.block w.heap.size with h1 | h1
    · exact h.block _ h1
    · exfalso
      unfold World.cell? at hc
      rw [Array.getElem?_eq_none h1] at hc
      cases hc
  unfold World.cell? at hc ⊢
  rw [this]; exact hc
theorem Rel.below_w (h : Rel X G ph w) (hb : Below w.heap.size w w') : Rel X G ph w' := by
  have hX : X.B ≤ w.heap.size := h.below.size
  refine ⟨h.len, h.below.trans (hb.mono hX), ?_, h.disj, ?_, h.fdisj, ?_, ?_, ?_⟩
  · intro p cells hp
    obtain ⟨L, vals, cs, e, fz, hL, o⟩ := h.own p cells hp
    exact ⟨L, vals, cs, e, fz, hL, ⟨o.rv, o.lt, o.ge, hb_below hb o.hb, o.sz, o.fr, o.at_, o.one⟩⟩
  · intro a v ha
    exact ⟨(h.fz a v ha).1, cell_below hb (h.fz a v ha).2⟩
  · intro r o hr
    obtain ⟨h1, h2⟩ := h.ob r o hr
    refine ⟨h1, ?_⟩
    cases o with
    | loop l =>
      obtain ⟨rt, k1, k2⟩ := h2
      exact ⟨rt, k1, hb_below hb k2⟩
    | defd => exact hb_below hb h2
  · intro p e hp
    obtain ⟨L, cs, fz, k1, k2, k3⟩ := h.ty p e hp
    exact ⟨L, cs, fz, k1, k2, hb_below hb k3⟩
  · refine ⟨?_, h.grow.disj, h.grow.new⟩
    intro p sz top e hg
    obtain ⟨x, o⟩ := h.grow.own p sz top e hg
    refine ⟨x, o.loc, o.max, o.nil, ?_⟩
    intro a rcap hx
    have r := o.row a rcap hx
    obtain ⟨cs, fz, k1, k2⟩ := r.hb
    exact ⟨r.sp, r.ge, r.le, r.off, ⟨cs, fz, hb_below hb k1, k2⟩, r.ff, r.own⟩

theorem fn_of_calls {f : FuncId} {fn : Func} {args : List PV} {v : PV} (hf : X.P.funcs[f]? = some fn) (hb : fn.body.isSome = true) (hnm : (fn.name == "runtime.NumGoroutine") = false)
    (h : ∀ (G : Ghost) (w : World) (rargs : List Value), RVs G args rargs → Calls X.P f rargs.toArray w fun e w' => (∃ u, e = .returned u ∧ RV G v u) ∧ Below w.heap.size w w') : Fn X f args v := by
  intro ph G w rargs hr ha
  refine .inr ⟨w, run_enter (P := X.P) (w := w) (args := rargs.toArray) hf hb hnm, (h G w rargs ha).mono ?_⟩
  rintro e w' ⟨⟨u, rfl, hu⟩, hbl⟩
  exact ⟨G, v, ph, (LeN.refl _ _), hr.below_w hbl, hu, Nat.le_refl _, rfl, rfl⟩
end Pv

namespace Go.Proofs
open Go.Shelf Go.RowKit
def Try.laysRepeat_ren : Go.Shelf.Ren := ⟨fun | 105 => 54 | 212 => 60 | 99 => 61 | 165 => 62 | 166 => 31 | 170 => 63 | 169 => 33 | 263 => 69 | 264 => 70 | 206 => 71 | 240 => 50 | 241 => 72 | 276 => 57 | 277 => 74 | n => n, fun | 9 => 9 | 3 => 3 | 4 => 4 | 20 => 20 | 0 => 0 | 46 => 84 | 109 => 102 | 5 => 5 | 72 => 62 | 76 => 65 | 51 => 23 | 146 => 112 | 53 => 52 | 148 => 114 | 70 => 60 | 37 => 59 | 75 => 64 | 127 => 86 | 164 => 97 | 80 => 68 | n => n, fun | n => n⟩
theorem Try.laysRepeat : Lays.n105 Try.prog Try.laysRepeat_ren where
  mixed := by kernel_rfl
  f99 := Try.func61.trans (congrArg some (by kernel_rfl))
  f105 := Try.func54.trans (congrArg some (by kernel_rfl))
  f165 := Try.func62.trans (congrArg some (by kernel_rfl))
  f166 := Try.func31.trans (congrArg some (by kernel_rfl))
  f169 := Try.func33.trans (congrArg some (by kernel_rfl))
  f170 := Try.func63.trans (congrArg some (by kernel_rfl))
  f206 := Try.func71.trans (congrArg some (by kernel_rfl))
  f212 := Try.func60.trans (congrArg some (by kernel_rfl))
  f240 := Try.func50.trans (congrArg some (by kernel_rfl))
  f241 := Try.func72.trans (congrArg some (by kernel_rfl))
  f263 := Try.func69.trans (congrArg some (by kernel_rfl))
  f264 := Try.func70.trans (congrArg some (by kernel_rfl))
  f276 := Try.func57.trans (congrArg some (by kernel_rfl))
  f277 := Try.func74.trans (congrArg some (by kernel_rfl))
  t0 := Try.underlying0
  a0 := Try.isAgg0
  z0 := Try.sizeOf0
  v0 := Try.zeroValue0
  t3 := Try.underlying3
  a3 := Try.isAgg3
  z3 := Try.sizeOf3
  v3 := Try.zeroValue3
  t4 := Try.underlying4
  a4 := Try.isAgg4
  z4 := Try.sizeOf4
  v4 := Try.zeroValue4
  t5 := Try.underlying5
  a5 := Try.isAgg5
  z5 := Try.sizeOf5
  v5 := Try.zeroValue5
  t9 := Try.underlying9
  a9 := Try.isAgg9
  z9 := Try.sizeOf9
  v9 := Try.zeroValue9
  t20 := Try.underlying20
  a20 := Try.isAgg20
  z20 := Try.sizeOf20
  v20 := Try.zeroValue20
  t37 := Try.underlying59
  a37 := Try.isAgg59
  z37 := Try.sizeOf59
  v37 := Try.zeroValue59
  t46 := Try.underlying84
  a46 := Try.isAgg84
  z46 := Try.sizeOf84
  v46 := Try.zeroValue84
  t51 := Try.underlying23
  a51 := Try.isAgg23
  z51 := Try.sizeOf23
  v51 := Try.zeroValue23
  t53 := Try.underlying52
  a53 := Try.isAgg52
  z53 := Try.sizeOf52
  v53 := Try.zeroValue52
  t70 := Try.underlying60
  a70 := Try.isAgg60
  z70 := Try.sizeOf60
  v70 := Try.zeroValue60
  t72 := Try.underlying62
  a72 := Try.isAgg62
  z72 := Try.sizeOf62
  v72 := Try.zeroValue62
  t75 := Try.underlying64
  a75 := Try.isAgg64
  z75 := Try.sizeOf64
  v75 := Try.zeroValue64
  t76 := Try.underlying65
  a76 := Try.isAgg65
  z76 := Try.sizeOf65
  v76 := Try.zeroValue65
  t109 := Try.underlying102
  a109 := Try.isAgg102
  z109 := Try.sizeOf102
  v109 := Try.zeroValue102
  t127 := Try.underlying86
  a127 := Try.isAgg86
  z127 := Try.sizeOf86
  v127 := Try.zeroValue86
  t146 := Try.underlying112
  a146 := Try.isAgg112
  z146 := Try.sizeOf112
  v146 := Try.zeroValue112
  t148 := Try.underlying114
  a148 := Try.isAgg114
  z148 := Try.sizeOf114
  v148 := Try.zeroValue114
  t164 := Try.underlying97
  a164 := Try.isAgg97
  z164 := Try.sizeOf97
  v164 := Try.zeroValue97
theorem Try.extraRepeat : Builder.Extra Try.prog Try.laysRepeat_ren where
  sizeBuilder := by kernel_rfl
  liesBuilder := by kernel_rfl
  t5 := Try.laysRepeat.t5
  a5 := Try.laysRepeat.a5
  z5 := Try.laysRepeat.z5
  v5 := Try.laysRepeat.v5
  infoByte := by kernel_rfl
  cellsByte := by kernel_rfl
  sizeByte := by kernel_rfl
  neB5 := by decide
end Go.Proofs
namespace Pv
open Go Go.Proofs Go.RowKit
variable {w0 : World}
theorem repeatL_byte (b : UInt8) : ∀ n, Lib.repeatL [b] n = List.replicate n b
  | 0 => rfl
  | n + 1 => by rw [Lib.repeatL, repeatL_byte b n]; rfl
/-- strings.Repeat of one byte. -/
theorem repeat_ok (b : UInt8) (n : Nat) (hn : n ≤ 2 ^ 40) : Fn (Cx w0) 54 [.str [b], .int .i64 n] (.str (List.replicate n b)) := by
  refine fn_of_calls Try.func54 (by kernel_rfl) (by kernel_rfl) ?_
  intro G w rargs hr
  cases hr with
  | cons _ v1 _ _ h1 h2 =>
    cases h2 with
    | cons _ v2 _ _ h3 h4 =>
      cases h4
      cases h1 with
      | str _ t ht =>
        cases h3
        have hsz : t.size = 1 := by
          show t.data.size = 1
          rw [← Array.length_toList, ht]; rfl
        refine (Any.strings_Repeat Try.laysRepeat Try.extraRepeat t n w (by omega) (by rw [hsz]; omega)).mono fun e w' ⟨he, hw⟩ => ⟨⟨_, he, ?_⟩, hw⟩
        refine .str _ _ ?_
        rw [ht, repeatL_byte]
end Pv
