/- Part of the proof: the layer of pure values, or walks through functions (PvH4, PvH5, PvH6, PvGcE, PvW64, PvW32, PvWr1). -/
import Derived.Test.YtbocckencbkdeabDoorPvH
import Derived.Test.YtbocckencbkdeabDoorPvBldX
import Derived.Test.YtbocckencbkdeabDoorPvDrawF
set_option linter.all false
namespace Pv
open Go Go.RowKit
variable {X : Ctx} {ph : PH} {ρ : Option Nat} {n0 : Nat} {Q : Exit → PSt → PH → Prop}

/-- **A loop** that writes into blocks that were there: the base turns with the rounds. -/
theorem w_loopB {α : Type} {c : Code} {tm : List PV} {ms : List Nat} (n : Nat) (ob : Nat → Option PObj) (ty : Nat → Option TypeId) (b : α → PH) (st : α → List PV) (hl : α → List (Option Blk)) (Inv : α → Prop) (μ : α → Nat) (a0 : α) (h0 : Inv a0) (hb : ∀ a, Inv a → (b a).n = n) (hn : ∀ a, Inv a → n0 ≤ n + (hl a).length)
    (hi : HTo (b a0) (hl a0) ob ty (st a0) tm ph)
    (round : ∀ a, Inv a → ∀ B, B = b a → B.n = n → ∀ K : PSt → PH → Prop, (∀ a' tm ph', Inv a' → μ a' < μ a → HTo (b a') (hl a') ob ty (st a') tm ph' → K ⟨tm, ms⟩ ph') → vc X ρ n0 c (PExit.seq K Q) ⟨st a, ms⟩ (H B (hl a) ob ty)) : vc X ρ n0 (.loop c) Q ⟨tm, ms⟩ ph := by
  show PWp X ρ n0 (.loop c) Q ⟨tm, ms⟩ ph
  have hn' : ∀ a, Inv a → n0 ≤ (b a).n + (hl a).length := fun a h => by rw [hb a h]; exact hn a h
  refine PWp.weak (s' := ⟨st a0, ms⟩) (ph' := H (b a0) (hl a0) ob ty) (hi.weak (hn' _ h0)) rfl ?_
  refine pwp_loopN (I := fun j s' ph' => ∃ a, Inv a ∧ μ a = j ∧ HTo (b a) (hl a) ob ty (st a) s'.tm ph' ∧ s'.ms = ms) (μ a0) ⟨a0, h0, rfl, .same (by
    clear hi round
    generalize st a0 = s
    induction s with
    | nil => trivial
    | cons p ps ih => exact ⟨.inr rfl, ih⟩), rfl⟩ ?_
  rintro j s' ph' ⟨a, hI, rfl, hT, hm⟩
  refine PWp.weak (s' := ⟨st a, ms⟩) (ph' := H (b a) (hl a) ob ty) (hT.weak (hn' a hI)) hm.symm ?_
  refine vc_ok _ _ _ _ (round a hI _ rfl (hb a hI) _ ?_)
  intro a' tm' ph' h1 h2 h3
  exact ⟨μ a', h2, a', h1, rfl, h3, rfl⟩

theorem put_putS (p : Nat) (c d : List PV) : (ph.put p c).put p d = ph.put p d := by simp [PH.put]
theorem get_putS {p : Nat} (c : List PV) (h : p < ph.n) : (ph.put p c).get p = some c := by rw [PH.get_put h, if_pos rfl]
/-! A base that has been written into. -/
section
variable {B : PH} {p q k : Nat} {c d : List PV} {l : List (Option Blk)} {ob : Nat → Option PObj} {ty : Nat → Option TypeId}
end
end Pv

namespace Pv
open Go Go.RowKit
variable {X : Ctx} {G : Ghost} {ph : PH} {w : World} {ρ : Option Nat} {n0 : Nat} {Q : Exit → PSt → PH → Prop}

end Pv

namespace Pv
open Go Go.RowKit
variable {X : Ctx} {G : Ghost} {ph : PH} {w : World} {ρ : Option Nat} {n0 : Nat} {Q : Exit → PSt → PH → Prop}
end Pv

set_option linter.all false
namespace Pv
/-! ### A field told by the powers of T: plain. -/
/-- A block as two numbers. -/
structure El where
  hi : UInt64
  lo : UInt64
deriving DecidableEq
namespace El
def xor (a b : El) : El := ⟨a.hi ^^^ b.hi, a.lo ^^^ b.lo⟩
def zero : El := ⟨0, 0⟩
def T (f : El) : El := ⟨(f.hi >>> 1) ^^^ ((f.lo &&& 1) * 16212958658533785600), (f.lo >>> 1) ||| (f.hi <<< 63)⟩
def bit (e : El) (i : Nat) : UInt64 := ((if i < 64 then e.hi else e.lo) >>> UInt64.ofNat (63 - i % 64)) &&& 1
def pw (f : El) : Nat → El
  | 0 => f
  | i + 1 => T (pw f i)
/-- The sum of the first i parts. -/
def sm (a f : El) : Nat → El
  | 0 => zero
  | i + 1 => if bit a i = 1 then xor (sm a f i) (pw f i) else sm a f i
def mul (a f : El) : El := sm a f 128
def one : El := ⟨9223372036854775808, 0⟩
theorem ext' {a b : El} (h : a.hi = b.hi) (l : a.lo = b.lo) : a = b := by cases a; cases b; simp_all
theorem xor_comm (a b : El) : xor a b = xor b a := ext' (UInt64.xor_comm ..) (UInt64.xor_comm ..)
theorem xor_assoc (a b c : El) : xor (xor a b) c = xor a (xor b c) := ext' (UInt64.xor_assoc ..) (UInt64.xor_assoc ..)
theorem xor_zero (a : El) : xor a zero = a := ext' (UInt64.xor_zero) (UInt64.xor_zero)
theorem low_cases (x : UInt64) : x &&& 1 = 0 ∨ x &&& 1 = 1 := by
  have h : (x &&& 1).toNat = x.toNat % 2 := by rw [UInt64.toNat_and]; exact Nat.and_one_is_mod _
  rcases Nat.mod_two_eq_zero_or_one x.toNat with e | e
  · left; apply UInt64.toNat_inj.1; rw [h, e]; rfl
  · right; apply UInt64.toNat_inj.1; rw [h, e]; rfl
theorem and_xor1 (x y : UInt64) : (x ^^^ y) &&& 1 = (x &&& 1) ^^^ (y &&& 1) := by
  apply UInt64.toBitVec_inj.1; simp only [UInt64.toBitVec_and, UInt64.toBitVec_xor]
  ext i; simp; cases x.toBitVec[i] <;> cases y.toBitVec[i] <;> simp
theorem low_mul (x y : UInt64) (c : UInt64) : ((x ^^^ y) &&& 1) * c = ((x &&& 1) * c) ^^^ ((y &&& 1) * c) := by
  rw [and_xor1]
  rcases low_cases x with h | h <;> rcases low_cases y with g | g <;> rw [h, g] <;> simp
theorem shr_xor1 (x y : UInt64) : (x ^^^ y) >>> 1 = (x >>> 1) ^^^ (y >>> 1) := by
  apply UInt64.toBitVec_inj.1; simp only [UInt64.toBitVec_shiftRight, UInt64.toBitVec_xor]
  ext i; simp
theorem or_shl (x y u v : UInt64) : ((x ^^^ y) >>> 1) ||| ((u ^^^ v) <<< 63) = ((x >>> 1) ||| (u <<< 63)) ^^^ ((y >>> 1) ||| (v <<< 63)) := by
  apply UInt64.toBitVec_inj.1; simp only [UInt64.toBitVec_shiftRight, UInt64.toBitVec_shiftLeft, UInt64.toBitVec_or, UInt64.toBitVec_xor]
  ext i hi
  simp
  rcases Nat.lt_or_ge i 63 with h | h
  · simp [h]
  · have : i = 63 := by omega
    subst this; simp
theorem T_xor (a b : El) : T (xor a b) = xor (T a) (T b) := by
  apply ext'
  · show ((a.hi ^^^ b.hi) >>> (1 : UInt64)) ^^^ (((a.lo ^^^ b.lo) &&& (1 : UInt64)) * (16212958658533785600 : UInt64)) = _
    rw [shr_xor1, low_mul]
    show _ = ((a.hi >>> (1 : UInt64)) ^^^ ((a.lo &&& (1 : UInt64)) * (16212958658533785600 : UInt64))) ^^^ ((b.hi >>> (1 : UInt64)) ^^^ ((b.lo &&& (1 : UInt64)) * (16212958658533785600 : UInt64)))
    ac_rfl
  · exact or_shl ..
theorem T_zero : T zero = zero := by decide
theorem pw_xor (a b : El) : ∀ i, pw (xor a b) i = xor (pw a i) (pw b i)
  | 0 => rfl
  | i + 1 => by rw [pw, pw_xor a b i, T_xor]; rfl
theorem pw_zero : ∀ i, pw zero i = zero
  | 0 => rfl
  | i + 1 => by rw [pw, pw_zero i, T_zero]
theorem pw_T (f : El) : ∀ i, pw (T f) i = T (pw f i)
  | 0 => rfl
  | i + 1 => by rw [pw, pw_T f i]; rfl
theorem xor4 (a b c d : El) : xor (xor a b) (xor c d) = xor (xor a c) (xor b d) := by
  rw [xor_assoc, xor_assoc, ← xor_assoc b c d, xor_comm b c, xor_assoc c b d]
theorem sm_xor (a f g : El) : ∀ i, sm a (xor f g) i = xor (sm a f i) (sm a g i)
  | 0 => by rw [sm, sm, sm, xor_zero]
  | i + 1 => by
    rw [sm, sm, sm, sm_xor a f g i]
    split
    · rw [pw_xor, xor4]
    · rfl
theorem sm_zero (a : El) : ∀ i, sm a zero i = zero
  | 0 => rfl
  | i + 1 => by
    rw [sm, sm_zero a i]
    split
    · rw [pw_zero, xor_zero]
    · rfl
theorem sm_T (a f : El) : ∀ i, sm a (T f) i = T (sm a f i)
  | 0 => by rw [sm, sm, T_zero]
  | i + 1 => by
    rw [sm, sm, sm_T a f i]
    split
    · rw [pw_T, T_xor]
    · rfl
theorem sm_pw (a f : El) (n : Nat) : ∀ i, sm a (pw f i) n = pw (sm a f n) i
  | 0 => rfl
  | i + 1 => by rw [pw, sm_T, sm_pw a f n i]; rfl
/-- Two factors turn places. -/
theorem sm_sm (a b c : El) (n : Nat) : ∀ i, sm a (sm b c i) n = sm b (sm a c n) i
  | 0 => sm_zero a n
  | i + 1 => by
    rw [sm, sm]
    split
    · rw [sm_xor, sm_sm a b c n i, sm_pw]
    · exact sm_sm a b c n i
theorem mul_left (a b c : El) : mul a (mul b c) = mul b (mul a c) := sm_sm a b c 128 128
/-! #### One -/
def ei (i : Nat) : El := if i < 64 then ⟨1 <<< UInt64.ofNat (63 - i), 0⟩ else ⟨0, 1 <<< UInt64.ofNat (127 - i)⟩
theorem T_ei : ∀ i, i < 127 → T (ei i) = ei (i + 1) := by
  have : ∀ i : Fin 127, T (ei i.val) = ei (i.val + 1) := by decide +kernel
  exact fun i h => this ⟨i, h⟩
theorem pw_one : ∀ i, i < 128 → pw one i = ei i
  | 0, _ => by decide
  | i + 1, h => by rw [pw, pw_one i (by omega), T_ei i (by omega)]
theorem bit_ei : ∀ i k, i < 128 → k < 128 → bit (ei i) k = if i = k then 1 else 0 := by
  have : ∀ i : Fin 128, ∀ k : Fin 128, bit (ei i.val) k.val = if i.val = k.val then 1 else 0 := by decide +kernel
  exact fun i k h g => this ⟨i, h⟩ ⟨k, g⟩
theorem shr_xor (x y m : UInt64) : (x ^^^ y) >>> m = (x >>> m) ^^^ (y >>> m) := by
  apply UInt64.toBitVec_inj.1; simp only [UInt64.toBitVec_shiftRight, UInt64.toBitVec_xor]
  ext i; simp
theorem bit_xor (a b : El) (k : Nat) : bit (xor a b) k = bit a k ^^^ bit b k := by
  rw [bit, bit, bit]
  split
  · show ((a.hi ^^^ b.hi) >>> _) &&& 1 = _; rw [shr_xor, and_xor1]
  · show ((a.lo ^^^ b.lo) >>> _) &&& 1 = _; rw [shr_xor, and_xor1]
theorem bit_cases (a : El) (k : Nat) : bit a k = 0 ∨ bit a k = 1 := low_cases _
theorem bit_zero (k : Nat) : bit zero k = 0 := by
  rw [bit]; split <;> simp [zero]
theorem bit_sm (a : El) (k : Nat) (hk : k < 128) : ∀ n, n ≤ 128 → bit (sm a one n) k = if k < n then bit a k else 0
  | 0, _ => by rw [sm, bit_zero, if_neg (by omega)]
  | n + 1, h => by
    rw [sm]
    have ih := bit_sm a k hk n (by omega)
    have hb : bit (pw one n) k = if n = k then 1 else 0 := by rw [pw_one n (by omega), bit_ei n k (by omega) hk]
    by_cases hnk : n = k
    · subst hnk
      rw [if_neg (by omega)] at ih
      rw [if_pos rfl] at hb
      rw [show (if n < n + 1 then bit a n else 0) = bit a n from if_pos (by omega)]
      rcases bit_cases a n with e | e
      · rw [e, if_neg (by decide), ih]
      · rw [e, if_pos rfl, bit_xor, ih, hb]; rfl
    · rw [if_neg hnk] at hb
      have e1 : (if k < n + 1 then bit a k else 0) = if k < n then bit a k else 0 := by
        by_cases h1 : k < n
        · rw [if_pos h1, if_pos (by omega)]
        · rw [if_neg h1, if_neg (by omega)]
      rw [e1, ← ih]
      split
      · rw [bit_xor, hb, UInt64.xor_zero]
      · rfl
theorem u64_bits {x y : UInt64} (h : ∀ m, m < 64 → (x >>> UInt64.ofNat m) &&& 1 = (y >>> UInt64.ofNat m) &&& 1) : x = y := by
  have t : ∀ (z : UInt64) m, m < 64 → ((z >>> UInt64.ofNat m) &&& 1).toNat = (z.toNat >>> m) &&& 1 := by
    intro z m hm
    rw [UInt64.toNat_and, UInt64.toNat_shiftRight, UInt64.toNat_ofNat']
    rw [show m % 2 ^ 64 % 64 = m by omega]; rfl
  apply UInt64.toNat_inj.1
  apply Nat.eq_of_testBit_eq
  intro m
  rcases Nat.lt_or_ge m 64 with hm | hm
  · have := congrArg UInt64.toNat (h m hm)
    rw [t x m hm, t y m hm, Nat.and_one_is_mod, Nat.and_one_is_mod] at this
    rw [Nat.testBit, Nat.testBit, Nat.and_comm, Nat.and_one_is_mod, Nat.and_comm, Nat.and_one_is_mod, this]
  · have hx := x.toNat_lt
    have hy := y.toNat_lt
    rw [Nat.testBit_lt_two_pow (Nat.lt_of_lt_of_le hx (Nat.pow_le_pow_right (by decide) hm)), Nat.testBit_lt_two_pow (Nat.lt_of_lt_of_le hy (Nat.pow_le_pow_right (by decide) hm))]
theorem el_bits {a b : El} (h : ∀ k, k < 128 → bit a k = bit b k) : a = b := by
  apply ext'
  · apply u64_bits; intro m hm
    have := h (63 - m) (by omega)
    rw [bit, bit, if_pos (by omega), if_pos (by omega), show 63 - (63 - m) % 64 = m by omega] at this; exact this
  · apply u64_bits; intro m hm
    have := h (127 - m) (by omega)
    rw [bit, bit, if_neg (by omega), if_neg (by omega), show 63 - (127 - m) % 64 = m by omega] at this; exact this
theorem mul_one (a : El) : mul a one = a := el_bits fun k hk => by rw [mul, bit_sm a k hk 128 (by omega), if_pos hk]
theorem mul_comm (a b : El) : mul a b = mul b a := by
  have := mul_left a b one
  rwa [mul_one, mul_one] at this
theorem mul_assoc (a b c : El) : mul (mul a b) c = mul a (mul b c) := by
  rw [mul_comm (mul a b) c, mul_left c a b, mul_comm c b]
end El
end Pv

set_option linter.all false
namespace Pv
open Go Go.RowKit

end Pv

namespace Pv
open Go Go.RowKit

end Pv

--nosplit
--keep2
namespace Pv
set_option maxRecDepth 20000
set_option maxHeartbeats 4000000
open Go Go.Proofs Go.RowKit
variable {w0 : World}

theorem getW {α : Type} {l : List α} {i : Nat} (h : i < l.length) : ∃ x, l[i]? = some x := ⟨_, List.getElem?_eq_getElem h⟩
theorem takeW {α : Type} {l : List α} {i : Nat} {x : α} (h : l[i]? = some x) : l.take (i + 1) = l.take i ++ [x] := by rw [List.take_add_one, h]; rfl
theorem beL2 (n : Nat) : beL n 2 = [UInt8.ofNat (n / 256), UInt8.ofNat n] := by
  show [UInt8.ofNat (n / 2 ^ (8 * (2 - 1 - 0))), UInt8.ofNat (n / 2 ^ (8 * (2 - 1 - 1)))] = _
  rw [show 2 ^ (8 * (2 - 1 - 0)) = 256 from rfl, show 2 ^ (8 * (2 - 1 - 1)) = 1 from rfl, Nat.div_one]
theorem shr_i64_8 (n : Nat) : shrP .i64 (n : Int) 8 = ((n / 256 : Nat) : Int) := by rw [shr8 _ _ (by decide)]; omega
theorem wireTwo_ok (n : Nat) (hn : n < 2 ^ 62) : Fn (Cx w0) 33 [.int .i64 n] (.str (beL n 2)) := by
  have w1 := wrap_u8n (n / 256)
  have w2 := wrap_u8n n
  have w3 := shr_i64_8 n
  have w4 : IntKind.wrap .i64 ((n / 256 : Nat) : Int) = ((n / 256 : Nat) : Int) := IntWalk.i64_in _ (by omega)
  have hb := beL2 n
  have hx : bytesX [PV.int .u8 ((UInt8.ofNat (n / 256)).toNat : Int), PV.int .u8 ((UInt8.ofNat n).toNat : Int)] = some [UInt8.ofNat (n / 256), UInt8.ofNat n] := bytesX_bytesPV [UInt8.ofNat (n / 256), UInt8.ofNat n]
  rw [hb]
  refine fn_H ([Go.ResultVar.tmp 2]) Tryd.func33 rfl rfl (by decide) fun ph hW Q hQ => ?_
  simp only [start, List.length_cons, List.length_nil, List.cons_append, List.nil_append, Nat.reduceAdd, Nat.reduceSub, List.replicate_succ, List.replicate_zero, Tryd.ntmps33]
  repeat' first | simp -implicitDefEqProofs (maxSteps := 400000) (disch := first | with_reducible rfl | omega | (simp only [wkH] <;> omega) | decide) only [wkAll, wkL, popO, wantedP, if_true, if_false, reduceIte, ne_eq, Nat.reduceAdd, Nat.reduceSub, Nat.reduceMul, Nat.reduceLeDiff, Nat.reduceLT, ofCells, ofCell, reduceCtorEq, Int.reduceLE, Int.reduceLT, Int.reduceToNat, Int.reduceAdd, Int.reduceSub, Int.reduceMul, Int.reduceNeg, Int.reduceBEq, Int.reduceBNe, Int.reduceEq, eqCell, eqCells, binP, unP, convP, lenP, builtinP, sliceDataP, unsafeStringP, appendT, appendS, appendP, copyP, srcP, mmsP, mmP, indexOp, indexAddrOp, sliceOp, bndsP, bndP, capw, capCut, loadOp, storeOp, loadP, fieldOp, fieldAddrOp, arrayAtOp, buildP, buildSliceP, makeSliceP, placeF, fillP, setL, PK.agg, isZero, gt_iff_lt, Nat.reducePow, Nat.reduceGT, reps, seg, wkN, if_pos, if_neg, tf3, Tryd.ze3, tf5, Tryd.ze5, tf9, Tryd.ze9, tf66, Tryd.ze66, w3, w4, w1, w2, hx, UInt8.ofNat_toNat]
  refine hQ (by first | exact .inr rfl | exact .inl rfl) (by first | exact trivial | exact marks1) (by first | (simp -implicitDefEqProofs (maxSteps := 400000) (disch := first | with_reducible rfl | omega | (simp only [wkH] <;> omega) | decide) only [wkAll, wkL, popO, wantedP, if_true, if_false, reduceIte, ne_eq, Nat.reduceAdd, Nat.reduceSub, Nat.reduceMul, Nat.reduceLeDiff, Nat.reduceLT, ofCells, ofCell, reduceCtorEq, Int.reduceLE, Int.reduceLT, Int.reduceToNat, Int.reduceAdd, Int.reduceSub, Int.reduceMul, Int.reduceNeg, Int.reduceBEq, Int.reduceBNe, Int.reduceEq, eqCell, eqCells, loadOp, storeOp, loadP, setL, PK.agg, isZero, gt_iff_lt, Nat.reducePow, Nat.reduceGT, reps, seg, wkN, if_pos, if_neg, tf3, Tryd.ze3, tf5, Tryd.ze5, tf9, Tryd.ze9, tf66, Tryd.ze66, resP, resPs, resP1]; rfl) | rfl) ⟨6, by repeat' first | exact frz_scalar rfl | apply frz_tuple | apply frz_agg | apply frz_fsl | apply frz_gsl (by omega) | exact frzs_nil | apply frzs_cons⟩ (by first | exact keepsH0 | exact keeps1 (by assumption)) (nw_eq ?_)
  rfl
theorem valT {s : List UInt8} {i : Nat} (h : i < s.length) (h8 : s.length ≤ 8) : valN (s.take i) < 2 ^ 56 := by
  have h1 := valN_lt (s.take i)
  rw [List.length_take, Nat.min_eq_left (by omega)] at h1
  have h2 : 256 ^ i ≤ 256 ^ 7 := Nat.pow_le_pow_right (by decide) (by omega)
  have h3 : (256 : Nat) ^ 7 = 2 ^ 56 := by decide
  omega
theorem wireValue_ok (s : List UInt8) (h8 : s.length ≤ 8) : Fn (Cx w0) 27 [.str s] (.int .u64 (valN s : Nat)) := by
  refine fn_H ([Go.ResultVar.tmp 2]) Tryd.func27 rfl rfl (by decide) fun ph hW Q hQ => ?_
  simp only [start, List.length_cons, List.length_nil, List.cons_append, List.nil_append, Nat.reduceAdd, Nat.reduceSub, List.replicate_succ, List.replicate_zero, Tryd.ntmps27]
  repeat' first | simp -implicitDefEqProofs (maxSteps := 400000) (disch := first | with_reducible rfl | omega | (simp only [wkH] <;> omega) | decide) only [wkAll, wkL, popO, wantedP, if_true, if_false, reduceIte, ne_eq, Nat.reduceAdd, Nat.reduceSub, Nat.reduceMul, Nat.reduceLeDiff, Nat.reduceLT, ofCells, ofCell, reduceCtorEq, Int.reduceLE, Int.reduceLT, Int.reduceToNat, Int.reduceAdd, Int.reduceSub, Int.reduceMul, Int.reduceNeg, Int.reduceBEq, Int.reduceBNe, Int.reduceEq, eqCell, eqCells, binP, unP, convP, lenP, builtinP, sliceDataP, unsafeStringP, appendT, appendS, appendP, copyP, srcP, mmsP, mmP, indexOp, indexAddrOp, sliceOp, bndsP, bndP, capw, capCut, loadOp, storeOp, loadP, fieldOp, fieldAddrOp, arrayAtOp, buildP, buildSliceP, makeSliceP, placeF, fillP, setL, PK.agg, isZero, gt_iff_lt, Nat.reducePow, Nat.reduceGT, reps, seg, wkN, if_pos, if_neg, tf3, Tryd.ze3, tf5, Tryd.ze5, tf9, Tryd.ze9, tf23, Tryd.ze23]
  refine w_loopH (α := Nat) ph ph.ob ph.ty (fun i => [.str s, .undef, .undef, .int .u64 ((valN (s.take i) : Nat) : Int), .undef, .undef, .int .i64 s.length, .int .i64 i, .undef, .undef, .undef, .undef, .undef, .undef, .undef, .undef, .undef, .undef, .undef]) (fun i => []) (fun i => i ≤ s.length) (fun i => s.length - i) 0 (by simp) (fun _ _ => by simp) (.eq (by simp [FadeTo, valN]) rfl) ?_
  intro i hi K hK
  rcases Nat.lt_or_ge i s.length with hlt | hge
  · have hlt' : (i : Int) < (s.length : Int) := by omega
    obtain ⟨c, hc⟩ := getW hlt
    have hso := shl_or (valN (s.take i)) c (valT hlt h8)
    rw [← valN_snoc, ← takeW hc] at hso
    have hwc : IntKind.wrap .u64 (c.toNat : Int) = (c.toNat : Int) := by have := c.toNat_lt; exact IntWalk.u64_in _ (by omega)
    repeat' first | simp -implicitDefEqProofs (maxSteps := 400000) (disch := first | with_reducible rfl | omega | (simp only [wkH] <;> omega) | decide) only [wkAll, wkL, popO, wantedP, if_true, if_false, reduceIte, ne_eq, Nat.reduceAdd, Nat.reduceSub, Nat.reduceMul, Nat.reduceLeDiff, Nat.reduceLT, ofCells, ofCell, reduceCtorEq, Int.reduceLE, Int.reduceLT, Int.reduceToNat, Int.reduceAdd, Int.reduceSub, Int.reduceMul, Int.reduceNeg, Int.reduceBEq, Int.reduceBNe, Int.reduceEq, eqCell, eqCells, binP, unP, convP, lenP, builtinP, sliceDataP, unsafeStringP, appendT, appendS, appendP, copyP, srcP, mmsP, mmP, indexOp, indexAddrOp, sliceOp, bndsP, bndP, capw, capCut, loadOp, storeOp, loadP, fieldOp, fieldAddrOp, arrayAtOp, buildP, buildSliceP, makeSliceP, placeF, fillP, setL, PK.agg, isZero, gt_iff_lt, Nat.reducePow, Nat.reduceGT, reps, seg, wkN, if_pos, if_neg, tf3, Tryd.ze3, tf5, Tryd.ze5, tf9, Tryd.ze9, tf23, Tryd.ze23, hlt', hc, hwc, hso]
    refine hK (i + 1) _ _ (by omega) (by omega) (.eq (by simp [FadeTo]) rfl)
  · have hge' : ¬ (i : Int) < (s.length : Int) := by omega
    rw [List.take_of_length_le hge]
    repeat' first | simp -implicitDefEqProofs (maxSteps := 400000) (disch := first | with_reducible rfl | omega | (simp only [wkH] <;> omega) | decide) only [wkAll, wkL, popO, wantedP, if_true, if_false, reduceIte, ne_eq, Nat.reduceAdd, Nat.reduceSub, Nat.reduceMul, Nat.reduceLeDiff, Nat.reduceLT, ofCells, ofCell, reduceCtorEq, Int.reduceLE, Int.reduceLT, Int.reduceToNat, Int.reduceAdd, Int.reduceSub, Int.reduceMul, Int.reduceNeg, Int.reduceBEq, Int.reduceBNe, Int.reduceEq, eqCell, eqCells, binP, unP, convP, lenP, builtinP, sliceDataP, unsafeStringP, appendT, appendS, appendP, copyP, srcP, mmsP, mmP, indexOp, indexAddrOp, sliceOp, bndsP, bndP, capw, capCut, loadOp, storeOp, loadP, fieldOp, fieldAddrOp, arrayAtOp, buildP, buildSliceP, makeSliceP, placeF, fillP, setL, PK.agg, isZero, gt_iff_lt, Nat.reducePow, Nat.reduceGT, reps, seg, wkN, if_pos, if_neg, tf3, Tryd.ze3, tf5, Tryd.ze5, tf9, Tryd.ze9, tf23, Tryd.ze23, hge']
    refine hQ (by first | exact .inr rfl | exact .inl rfl) (by first | exact trivial | exact marks1) (by first | (simp -implicitDefEqProofs (maxSteps := 400000) (disch := first | with_reducible rfl | omega | (simp only [wkH] <;> omega) | decide) only [wkAll, wkL, popO, wantedP, if_true, if_false, reduceIte, ne_eq, Nat.reduceAdd, Nat.reduceSub, Nat.reduceMul, Nat.reduceLeDiff, Nat.reduceLT, ofCells, ofCell, reduceCtorEq, Int.reduceLE, Int.reduceLT, Int.reduceToNat, Int.reduceAdd, Int.reduceSub, Int.reduceMul, Int.reduceNeg, Int.reduceBEq, Int.reduceBNe, Int.reduceEq, eqCell, eqCells, loadOp, storeOp, loadP, setL, PK.agg, isZero, gt_iff_lt, Nat.reducePow, Nat.reduceGT, reps, seg, wkN, if_pos, if_neg, tf3, Tryd.ze3, tf5, Tryd.ze5, tf9, Tryd.ze9, tf23, Tryd.ze23, resP, resPs, resP1]; rfl) | rfl) ⟨6, by repeat' first | exact frz_scalar rfl | apply frz_tuple | apply frz_agg | apply frz_fsl | apply frz_gsl (by omega) | exact frzs_nil | apply frzs_cons⟩ (by first | exact keepsH0 | exact keeps1 (by assumption)) (nw_eq ?_)
    rfl
theorem refValue_ok (s : List UInt8) (h8 : s.length ≤ 8) : Fn (Cx w0) 36 [.str s] (.int .u64 (valN s : Nat)) := by
  refine fn_H ([Go.ResultVar.tmp 2]) Tryd.func36 rfl rfl (by decide) fun ph hW Q hQ => ?_
  simp only [start, List.length_cons, List.length_nil, List.cons_append, List.nil_append, Nat.reduceAdd, Nat.reduceSub, List.replicate_succ, List.replicate_zero, Tryd.ntmps36]
  repeat' first | simp -implicitDefEqProofs (maxSteps := 400000) (disch := first | with_reducible rfl | omega | (simp only [wkH] <;> omega) | decide) only [wkAll, wkL, popO, wantedP, if_true, if_false, reduceIte, ne_eq, Nat.reduceAdd, Nat.reduceSub, Nat.reduceMul, Nat.reduceLeDiff, Nat.reduceLT, ofCells, ofCell, reduceCtorEq, Int.reduceLE, Int.reduceLT, Int.reduceToNat, Int.reduceAdd, Int.reduceSub, Int.reduceMul, Int.reduceNeg, Int.reduceBEq, Int.reduceBNe, Int.reduceEq, eqCell, eqCells, binP, unP, convP, lenP, builtinP, sliceDataP, unsafeStringP, appendT, appendS, appendP, copyP, srcP, mmsP, mmP, indexOp, indexAddrOp, sliceOp, bndsP, bndP, capw, capCut, loadOp, storeOp, loadP, fieldOp, fieldAddrOp, arrayAtOp, buildP, buildSliceP, makeSliceP, placeF, fillP, setL, PK.agg, isZero, gt_iff_lt, Nat.reducePow, Nat.reduceGT, reps, seg, wkN, if_pos, if_neg, tf3, Tryd.ze3, tf5, Tryd.ze5, tf9, Tryd.ze9, tf23, Tryd.ze23]
  refine w_loopH (α := Nat) ph ph.ob ph.ty (fun i => [.str s, .undef, .undef, .int .u64 ((valN (s.take i) : Nat) : Int), .int .i64 i, .undef, .undef, .undef, .undef, .undef, .undef, .undef, .undef, .undef, .undef, .undef, .undef, .undef, .undef]) (fun i => []) (fun i => i ≤ s.length) (fun i => s.length - i) 0 (by simp) (fun _ _ => by simp) (.eq (by simp [FadeTo, valN]) rfl) ?_
  intro i hi K hK
  rcases Nat.lt_or_ge i s.length with hlt | hge
  · have hlt' : (i : Int) < (s.length : Int) := by omega
    obtain ⟨c, hc⟩ := getW hlt
    have hso := shl_or (valN (s.take i)) c (valT hlt h8)
    rw [← valN_snoc, ← takeW hc] at hso
    have hwc : IntKind.wrap .u64 (c.toNat : Int) = (c.toNat : Int) := by have := c.toNat_lt; exact IntWalk.u64_in _ (by omega)
    repeat' first | simp -implicitDefEqProofs (maxSteps := 400000) (disch := first | with_reducible rfl | omega | (simp only [wkH] <;> omega) | decide) only [wkAll, wkL, popO, wantedP, if_true, if_false, reduceIte, ne_eq, Nat.reduceAdd, Nat.reduceSub, Nat.reduceMul, Nat.reduceLeDiff, Nat.reduceLT, ofCells, ofCell, reduceCtorEq, Int.reduceLE, Int.reduceLT, Int.reduceToNat, Int.reduceAdd, Int.reduceSub, Int.reduceMul, Int.reduceNeg, Int.reduceBEq, Int.reduceBNe, Int.reduceEq, eqCell, eqCells, binP, unP, convP, lenP, builtinP, sliceDataP, unsafeStringP, appendT, appendS, appendP, copyP, srcP, mmsP, mmP, indexOp, indexAddrOp, sliceOp, bndsP, bndP, capw, capCut, loadOp, storeOp, loadP, fieldOp, fieldAddrOp, arrayAtOp, buildP, buildSliceP, makeSliceP, placeF, fillP, setL, PK.agg, isZero, gt_iff_lt, Nat.reducePow, Nat.reduceGT, reps, seg, wkN, if_pos, if_neg, tf3, Tryd.ze3, tf5, Tryd.ze5, tf9, Tryd.ze9, tf23, Tryd.ze23, hlt', hc, hwc, hso]
    refine hK (i + 1) _ _ (by omega) (by omega) (.eq (by simp [FadeTo]) rfl)
  · have hge' : ¬ (i : Int) < (s.length : Int) := by omega
    rw [List.take_of_length_le hge]
    repeat' first | simp -implicitDefEqProofs (maxSteps := 400000) (disch := first | with_reducible rfl | omega | (simp only [wkH] <;> omega) | decide) only [wkAll, wkL, popO, wantedP, if_true, if_false, reduceIte, ne_eq, Nat.reduceAdd, Nat.reduceSub, Nat.reduceMul, Nat.reduceLeDiff, Nat.reduceLT, ofCells, ofCell, reduceCtorEq, Int.reduceLE, Int.reduceLT, Int.reduceToNat, Int.reduceAdd, Int.reduceSub, Int.reduceMul, Int.reduceNeg, Int.reduceBEq, Int.reduceBNe, Int.reduceEq, eqCell, eqCells, binP, unP, convP, lenP, builtinP, sliceDataP, unsafeStringP, appendT, appendS, appendP, copyP, srcP, mmsP, mmP, indexOp, indexAddrOp, sliceOp, bndsP, bndP, capw, capCut, loadOp, storeOp, loadP, fieldOp, fieldAddrOp, arrayAtOp, buildP, buildSliceP, makeSliceP, placeF, fillP, setL, PK.agg, isZero, gt_iff_lt, Nat.reducePow, Nat.reduceGT, reps, seg, wkN, if_pos, if_neg, tf3, Tryd.ze3, tf5, Tryd.ze5, tf9, Tryd.ze9, tf23, Tryd.ze23, hge']
    refine hQ (by first | exact .inr rfl | exact .inl rfl) (by first | exact trivial | exact marks1) (by first | (simp -implicitDefEqProofs (maxSteps := 400000) (disch := first | with_reducible rfl | omega | (simp only [wkH] <;> omega) | decide) only [wkAll, wkL, popO, wantedP, if_true, if_false, reduceIte, ne_eq, Nat.reduceAdd, Nat.reduceSub, Nat.reduceMul, Nat.reduceLeDiff, Nat.reduceLT, ofCells, ofCell, reduceCtorEq, Int.reduceLE, Int.reduceLT, Int.reduceToNat, Int.reduceAdd, Int.reduceSub, Int.reduceMul, Int.reduceNeg, Int.reduceBEq, Int.reduceBNe, Int.reduceEq, eqCell, eqCells, loadOp, storeOp, loadP, setL, PK.agg, isZero, gt_iff_lt, Nat.reducePow, Nat.reduceGT, reps, seg, wkN, if_pos, if_neg, tf3, Tryd.ze3, tf5, Tryd.ze5, tf9, Tryd.ze9, tf23, Tryd.ze23, resP, resPs, resP1]; rfl) | rfl) ⟨6, by repeat' first | exact frz_scalar rfl | apply frz_tuple | apply frz_agg | apply frz_fsl | apply frz_gsl (by omega) | exact frzs_nil | apply frzs_cons⟩ (by first | exact keepsH0 | exact keeps1 (by assumption)) (nw_eq ?_)
    rfl
/-- Bytes laid over others. -/
def wrL (B : List UInt8) (off : Nat) (x : List UInt8) : List UInt8 := B.take off ++ x ++ B.drop (off + x.length)
theorem wrL_nil (B : List UInt8) (off : Nat) : wrL B off [] = B := by simp [wrL]
theorem wrL_len {B x : List UInt8} {off : Nat} (h : off + x.length ≤ B.length) : (wrL B off x).length = B.length := by simp [wrL]; omega
theorem wrL_set {B x : List UInt8} {off i : Nat} {c : UInt8} (h : off + x.length ≤ B.length) (hc : x[i]? = some c) : (wrL B off (x.take i)).set (off + i) c = wrL B off (x.take (i + 1)) := by
  have hi := (List.getElem?_eq_some_iff.1 hc).1
  have l1 : (B.take off).length = off := by rw [List.length_take]; omega
  have l2 : (x.take i).length = i := by rw [List.length_take]; omega
  rw [wrL, wrL, takeW hc, List.append_assoc, List.append_assoc, List.set_append_right _ _ (by omega), l1, List.set_append_right _ _ (by omega), l2, show off + i - off - i = 0 by omega, List.drop_eq_getElem_cons (by omega), List.set_cons_zero]
  simp [l2, List.append_assoc, Nat.add_assoc]
theorem scs_bW {n : Nat} (l : List UInt8) : Scs n (bytesPV l) := scs_scalars (bytesPV_scalar l)
theorem bytesPV_setW (l : List UInt8) (i : Nat) (b : UInt8) : (bytesPV l).set i (.int .u8 (b.toNat : Int)) = bytesPV (l.set i b) := by simp [bytesPV, List.map_set]
theorem wirePut_ok (ph : PH) (p off k : Nat) (cp : Option Nat) (B : List UInt8) (n : Nat) (hk : k ≤ 8) (hoff : off + k ≤ B.length) (hB : B.length < 2 ^ 40) (h : ph.get p = some (bytesPV B)) :
    Eff (Cx w0) 29 [.sl p off 1 k cp, .int .u64 n] ph (.tuple []) (ph.put p (bytesPV (wrL B off (beL n k)))) := by
  have hp := PH.get_lt h
  have hbl := beL_len n k
  refine eff_of ([]) Tryd.func29 rfl rfl (by decide) (PH.n_put ..) (fun hW => hW.put hp (scs_bW _)) fun hW Q hQ => ?_
  simp only [start, List.length_cons, List.length_nil, List.cons_append, List.nil_append, Nat.reduceAdd, Nat.reduceSub, List.replicate_succ, List.replicate_zero, Tryd.ntmps29]
  repeat' first | simp -implicitDefEqProofs (maxSteps := 400000) (disch := first | with_reducible rfl | omega | (simp only [wkH] <;> omega) | decide) only [wkAll, wkL, popO, wantedP, if_true, if_false, reduceIte, ne_eq, Nat.reduceAdd, Nat.reduceSub, Nat.reduceMul, Nat.reduceLeDiff, Nat.reduceLT, ofCells, ofCell, reduceCtorEq, Int.reduceLE, Int.reduceLT, Int.reduceToNat, Int.reduceAdd, Int.reduceSub, Int.reduceMul, Int.reduceNeg, Int.reduceBEq, Int.reduceBNe, Int.reduceEq, eqCell, eqCells, binP, unP, convP, lenP, builtinP, sliceDataP, unsafeStringP, appendT, appendS, appendP, copyP, srcP, mmsP, mmP, indexOp, indexAddrOp, sliceOp, bndsP, bndP, capw, capCut, loadOp, storeOp, loadP, fieldOp, fieldAddrOp, arrayAtOp, buildP, buildSliceP, makeSliceP, placeF, fillP, setL, PK.agg, isZero, gt_iff_lt, Nat.reducePow, Nat.reduceGT, reps, seg, wkN, if_pos, if_neg, tf3, Tryd.ze3, tf5, Tryd.ze5, tf23, Tryd.ze23, tf66, Tryd.ze66]
  refine w_loopB (α := Nat) ph.n ph.ob ph.ty (fun i => ph.put p (bytesPV (wrL B off ((beL n k).take i)))) (fun i => [.sl p off 1 k cp, .int .u64 n, .undef, .undef, .undef, .undef, .int .i64 k, .int .i64 i, .undef, .undef, .undef, .undef, .undef, .undef, .undef, .undef, .undef, .undef, .undef, .undef, .undef, .undef, .undef]) (fun i => []) (fun i => i ≤ k) (fun i => k - i) 0 (by simp) (fun _ _ => PH.n_put ..) (fun _ _ => by simp) (.eq (by simp [FadeTo]) (by rw [List.take_zero, wrL_nil, put_self h])) ?_
  intro i hi D hD hn K hK
  have e2 : D.get p = some (bytesPV (wrL B off ((beL n k).take i))) := by rw [hD]; exact get_putS _ hp
  have hpD : p < D.n := by rw [hn]; exact hp
  have hml := wrL_len (B := B) (x := (beL n k).take i) (off := off) (by rw [List.length_take]; omega)
  rcases Nat.lt_or_ge i k with hlt | hge
  · have hlt' : (i : Int) < (k : Int) := by omega
    have e1 : 8 * ((k : Int) - 1 - (i : Int)) = ((8 * (k - 1 - i) : Nat) : Int) := by omega
    have e3 := shr_n n (8 * (k - 1 - i)) (by omega)
    have e4 := wrap_u8n (n / 2 ^ (8 * (k - 1 - i)))
    rw [show UInt8.ofNat (n / 2 ^ (8 * (k - 1 - i))) = beAt n k i from rfl] at e4
    have e5 : (0 : Int) ≤ ((8 * (k - 1 - i) : Nat) : Int) := by omega
    have hs := wrL_set (B := B) (off := off) (x := beL n k) (by omega) (beL_at hlt)
    generalize hM' : wrL B off ((beL n k).take (i + 1)) = M' at *
    generalize wrL B off ((beL n k).take i) = M at *
    generalize beAt n k i = c at *
    repeat' first | simp -implicitDefEqProofs (maxSteps := 400000) (disch := first | with_reducible rfl | omega | (simp only [wkH] <;> omega) | decide) only [wkAll, wkL, popO, wantedP, if_true, if_false, reduceIte, ne_eq, Nat.reduceAdd, Nat.reduceSub, Nat.reduceMul, Nat.reduceLeDiff, Nat.reduceLT, ofCells, ofCell, reduceCtorEq, Int.reduceLE, Int.reduceLT, Int.reduceToNat, Int.reduceAdd, Int.reduceSub, Int.reduceMul, Int.reduceNeg, Int.reduceBEq, Int.reduceBNe, Int.reduceEq, eqCell, eqCells, binP, unP, convP, lenP, builtinP, sliceDataP, unsafeStringP, appendT, appendS, appendP, copyP, srcP, mmsP, mmP, indexOp, indexAddrOp, sliceOp, bndsP, bndP, capw, capCut, loadOp, storeOp, loadP, fieldOp, fieldAddrOp, arrayAtOp, buildP, buildSliceP, makeSliceP, placeF, fillP, setL, PK.agg, isZero, gt_iff_lt, Nat.reducePow, Nat.reduceGT, reps, seg, wkN, if_pos, if_neg, tf3, Tryd.ze3, tf5, Tryd.ze5, tf23, Tryd.ze23, tf66, Tryd.ze66, hlt', h_getlt hpD, h_putlt hpD, e1, e2, e3, e4, e5, hml, bytesPV_setW, hs]
    refine hK (i + 1) _ _ (by omega) (by omega) (.eq (by simp [FadeTo, hn]) (by rw [hM', hD, put_putS]))
  · have hge' : ¬ (i : Int) < (k : Int) := by omega
    have : i = k := by omega
    subst this
    rw [List.take_of_length_le (by omega)] at hD
    repeat' first | simp -implicitDefEqProofs (maxSteps := 400000) (disch := first | with_reducible rfl | omega | (simp only [wkH] <;> omega) | decide) only [wkAll, wkL, popO, wantedP, if_true, if_false, reduceIte, ne_eq, Nat.reduceAdd, Nat.reduceSub, Nat.reduceMul, Nat.reduceLeDiff, Nat.reduceLT, ofCells, ofCell, reduceCtorEq, Int.reduceLE, Int.reduceLT, Int.reduceToNat, Int.reduceAdd, Int.reduceSub, Int.reduceMul, Int.reduceNeg, Int.reduceBEq, Int.reduceBNe, Int.reduceEq, eqCell, eqCells, binP, unP, convP, lenP, builtinP, sliceDataP, unsafeStringP, appendT, appendS, appendP, copyP, srcP, mmsP, mmP, indexOp, indexAddrOp, sliceOp, bndsP, bndP, capw, capCut, loadOp, storeOp, loadP, fieldOp, fieldAddrOp, arrayAtOp, buildP, buildSliceP, makeSliceP, placeF, fillP, setL, PK.agg, isZero, gt_iff_lt, Nat.reducePow, Nat.reduceGT, reps, seg, wkN, if_pos, if_neg, tf3, Tryd.ze3, tf5, Tryd.ze5, tf23, Tryd.ze23, tf66, Tryd.ze66, hge']
    subst hD
    refine hQ (by first | exact .inr rfl | exact .inl rfl) (by first | exact trivial | exact marks1) (by first | (simp -implicitDefEqProofs (maxSteps := 400000) (disch := first | with_reducible rfl | omega | (simp only [wkH] <;> omega) | decide) only [wkAll, wkL, popO, wantedP, if_true, if_false, reduceIte, ne_eq, Nat.reduceAdd, Nat.reduceSub, Nat.reduceMul, Nat.reduceLeDiff, Nat.reduceLT, ofCells, ofCell, reduceCtorEq, Int.reduceLE, Int.reduceLT, Int.reduceToNat, Int.reduceAdd, Int.reduceSub, Int.reduceMul, Int.reduceNeg, Int.reduceBEq, Int.reduceBNe, Int.reduceEq, eqCell, eqCells, loadOp, storeOp, loadP, setL, PK.agg, isZero, gt_iff_lt, Nat.reducePow, Nat.reduceGT, reps, seg, wkN, if_pos, if_neg, tf3, Tryd.ze3, tf5, Tryd.ze5, tf23, Tryd.ze23, tf66, Tryd.ze66, resP, resPs, resP1]; rfl) | rfl) ⟨6, by repeat' first | exact frz_scalar rfl | apply frz_tuple | apply frz_agg | apply frz_fsl | apply frz_gsl (by omega) | exact frzs_nil | apply frzs_cons⟩ (by first | exact keepsH0 | exact keeps1 (by assumption)) (nw_eq ?_)
    rfl
end Pv
