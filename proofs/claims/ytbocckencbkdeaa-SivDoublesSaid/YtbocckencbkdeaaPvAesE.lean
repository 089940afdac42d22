/- Part of the proof: the layer of pure values, or walks through functions (PvAesE, PvNbH, PvAe1, PvH4). -/
import Derived.Test.YtbocckencbkdeaaPvDrawP
import Derived.Test.YtbocckencbkdeaaPvNum
import Derived.Test.YtbocckencbkdeaaPvOpsE
import Derived.Test.YtbocckencbkdeaaPvH
set_option linter.all false
namespace Pv
open Go
set_option maxRecDepth 100000

/-! ### AES, in plain Lean -/
/-- Four bytes more of a key's words: w: those there are; c: the constant; i: which word. -/
def kT (nk : Nat) (t : List UInt8) (c : UInt8) (i : Nat) : List UInt8 :=
  if i % nk = 0 then [sbox (t.getD 1 0) ^^^ c, sbox (t.getD 2 0), sbox (t.getD 3 0), sbox (t.getD 0 0)]
  else if nk = 8 ∧ i % 8 = 4 then [sbox (t.getD 0 0), sbox (t.getD 1 0), sbox (t.getD 2 0), sbox (t.getD 3 0)]
  else [t.getD 0 0, t.getD 1 0, t.getD 2 0, t.getD 3 0]
def xorB (a b : List UInt8) : List UInt8 := List.zipWith (· ^^^ ·) a b
def kI (key : List UInt8) (nk : Nat) : Nat → List UInt8 × UInt8
  | 0 => (key, 1)
  | j + 1 => ((kI key nk j).1 ++ xorB (((kI key nk j).1.drop (4 * j)).take 4) (kT nk (((kI key nk j).1.drop (4 * (nk + j) - 4)).take 4) (kI key nk j).2 (nk + j)),
      if (nk + j) % nk = 0 then gm (kI key nk j).2 2 else (kI key nk j).2)
def wordsL (key : List UInt8) : List UInt8 := (kI key (key.length / 4) (3 * (key.length / 4) + 28)).1
def goodK (key : List UInt8) : Prop := key.length = 16 ∨ key.length = 32
instance (key : List UInt8) : Decidable (goodK key) := by unfold goodK; infer_instance

theorem xorB_len (a b : List UInt8) : (xorB a b).length = min a.length b.length := by simp [xorB]
theorem kT_len (nk : Nat) (t : List UInt8) (c : UInt8) (i : Nat) : (kT nk t c i).length = 4 := by unfold kT; split; rfl; split <;> rfl
theorem kI_len {key : List UInt8} {nk : Nat} (h : key.length = 4 * nk) (h0 : 0 < nk) : ∀ j, (kI key nk j).1.length = 4 * (nk + j)
  | 0 => h
  | j + 1 => by
    rw [kI, List.length_append, kI_len h h0 j, xorB_len, kT_len, List.length_take, List.length_drop, kI_len h h0 j]; omega
theorem words_len {key : List UInt8} (h : goodK key) : (wordsL key).length = 16 * (key.length / 4 + 7) := by
  rw [wordsL, kI_len (by rcases h with h | h <;> omega) (by rcases h with h | h <;> omega)]; omega

/-- The i-th round key. -/
def rkL (w : List UInt8) (i : Nat) : List UInt8 := (w.drop (16 * i)).take 16
theorem rk_len {w : List UInt8} {i : Nat} (h : 16 * (i + 1) ≤ w.length) : (rkL w i).length = 16 := by
  rw [rkL, List.length_take, List.length_drop]; omega
def shiftL (b : List UInt8) : List UInt8 := (List.range 16).map fun i => b.getD ((i + 4 * (i % 4)) % 16) 0
def backS (b : List UInt8) : List UInt8 := (List.range 16).map fun i => b.getD ((i + 12 * (i % 4)) % 16) 0
def mixAt (m : List UInt8) (b : List UInt8) (i : Nat) : UInt8 :=
  gm (b.getD (i / 4 * 4 + i % 4) 0) (m.getD 0 0) ^^^ gm (b.getD (i / 4 * 4 + (i + 1) % 4) 0) (m.getD 1 0) ^^^ gm (b.getD (i / 4 * 4 + (i + 2) % 4) 0) (m.getD 2 0) ^^^ gm (b.getD (i / 4 * 4 + (i + 3) % 4) 0) (m.getD 3 0)
def mixL (m : List UInt8) (b : List UInt8) : List UInt8 := (List.range 16).map (mixAt m b)
def mE : List UInt8 := [2, 3, 1, 1]
def mD : List UInt8 := [14, 11, 13, 9]
theorem shift_len (b : List UInt8) : (shiftL b).length = 16 := rfl
theorem mix_len (m b : List UInt8) : (mixL m b).length = 16 := rfl

theorem sixteen {b : List UInt8} (h : b.length = 16) : ∃ b0 b1 b2 b3 b4 b5 b6 b7 b8 b9 b10 b11 b12 b13 b14 b15, b = [b0, b1, b2, b3, b4, b5, b6, b7, b8, b9, b10, b11, b12, b13, b14, b15] := by
  match b, h with
  | [b0, b1, b2, b3, b4, b5, b6, b7, b8, b9, b10, b11, b12, b13, b14, b15], _ => exact ⟨_, _, _, _, _, _, _, _, _, _, _, _, _, _, _, _, rfl⟩
def mx (a b c d e f g h : UInt8) : UInt8 := gm a e ^^^ gm b f ^^^ gm c g ^^^ gm d h
def encS (w : List UInt8) (n : Nat) (b : List UInt8) : Nat → List UInt8
  | 0 => xorB b (rkL w 0)
  | i + 1 => xorB (if i + 1 < n then mixL mE (shiftL ((encS w n b i).map sbox)) else shiftL ((encS w n b i).map sbox)) (rkL w (i + 1))
def encB (w b : List UInt8) : List UInt8 := encS w (w.length / 16 - 1) b (w.length / 16 - 1)
def decS (w : List UInt8) (n : Nat) (b : List UInt8) : Nat → List UInt8
  | 0 => b
  | j + 1 => (backS (if n - j < n then mixL mD (xorB (decS w n b j) (rkL w (n - j))) else xorB (decS w n b j) (rkL w (n - j)))).map ibox
def decB (w b : List UInt8) : List UInt8 := xorB (decS w (w.length / 16 - 1) b (w.length / 16 - 1)) (rkL w 0)

section
variable {w b : List UInt8} {n : Nat}
theorem encS_len (hb : b.length = 16) (hw : 16 * (n + 1) ≤ w.length) : ∀ i, i ≤ n → (encS w n b i).length = 16
  | 0, _ => by rw [encS, xorB_len, hb, rk_len (by omega)]; rfl
  | i + 1, h => by rw [encS, xorB_len, rk_len (by omega)]; split <;> simp [mix_len, shift_len]
end
theorem encB_len {w b : List UInt8} (hb : b.length = 16) (hw : 16 ≤ w.length) : (encB w b).length = 16 := encS_len hb (by omega) _ (Nat.le_refl _)
/-! ### Bytes of a counter -/
/-- One more, from the i-th byte upwards. -/
def incI (b : List UInt8) : Nat → List UInt8
  | 0 => b.set 0 (b.getD 0 0 + 1)
  | i + 1 => if b.getD (i + 1) 0 + 1 = 0 then incI (b.set (i + 1) (b.getD (i + 1) 0 + 1)) i else b.set (i + 1) (b.getD (i + 1) 0 + 1)
def incL (b : List UInt8) : List UInt8 := incI b 15
theorem incI_len : ∀ (i : Nat) (b : List UInt8), (incI b i).length = b.length
  | 0, b => by simp [incI]
  | i + 1, b => by rw [incI]; split; rw [incI_len i]; simp; simp
def ctrL (b : List UInt8) : Nat → List UInt8
  | 0 => b
  | j + 1 => incL (ctrL b j)
theorem ctr_len {b : List UInt8} (h : b.length = 16) : ∀ j, (ctrL b j).length = 16
  | 0 => h
  | j + 1 => by rw [ctrL, incL, incI_len, ctr_len h j]
/-- j blocks. -/
def strK (w b : List UInt8) (j : Nat) : List UInt8 := (List.range j).flatMap fun i => encB w (ctrL b i)
theorem strK_0 (w b : List UInt8) : strK w b 0 = [] := rfl
theorem strK_succ (w b : List UInt8) (j : Nat) : strK w b (j + 1) = strK w b j ++ encB w (ctrL b j) := by simp [strK, List.range_succ, List.flatMap_append]
theorem strK_len {w b : List UInt8} (h : b.length = 16) (hw : 16 ≤ w.length) : ∀ j, (strK w b j).length = 16 * j
  | 0 => rfl
  | j + 1 => by rw [strK_succ, List.length_append, strK_len h hw j, encB_len (ctr_len h j) hw]; omega
def strL (w b : List UInt8) (n : Nat) : List UInt8 := (strK w b ((n + 15) / 16)).take n
theorem strL_len {w b : List UInt8} (h : b.length = 16) (hw : 16 ≤ w.length) (n : Nat) : (strL w b n).length = n := by
  rw [strL, List.length_take, strK_len h hw]; omega
theorem encB_eq (w b : List UInt8) : encB w b = encS w (w.length / 16 - 1) b (w.length / 16 - 1) := rfl
theorem strL_eq (w b : List UInt8) (n : Nat) : strL w b n = (strK w b ((n + 15) / 16)).take n := rfl
theorem words_eq (key : List UInt8) : wordsL key = (kI key (key.length / 4) (3 * (key.length / 4) + 28)).1 := rfl
attribute [irreducible] wordsL encB decB strL
end Pv

namespace Pv
open Go Go.RowKit

theorem wrap_u8n (n : Nat) : IntKind.wrap .u8 (n : Int) = ((UInt8.ofNat n).toNat : Int) := by
  simp [IntKind.wrap, IntKind.bits, IntKind.signed]
end Pv

namespace Pv
set_option maxRecDepth 20000
set_option maxHeartbeats 4000000
open Go Go.Proofs Go.RowKit
def tb91_1Ae1 : Tab := [[], [], [0, 1], [], [], [4], [3, 4, 5], [0, 1, 2, 3, 4, 5, 6], [0, 1, 2, 3, 4, 5, 6, 7]]
def pl91_1Ae1 : Plan := [(0, true, []), (1, true, []), (2, true, []), (3, true, []), (4, true, []), (5, true, []), (6, true, []), (7, true, []), (8, false, [])]
variable {w0 : World}

/-! ### Numbers of 8 bits -/
theorem mul_u8 (a b : UInt8) : IntKind.wrap .u8 ((a.toNat : Int) * (b.toNat : Int)) = ((a * b).toNat : Int) := by
  rw [show (a.toNat : Int) * (b.toNat : Int) = ((a.toNat * b.toNat : Nat) : Int) by simp, wrap_u8n, UInt8.toNat_ofNat', UInt8.toNat_mul]
theorem shl_u8 (x : UInt8) (m : Nat) (h : m < 8) : shlP .u8 (x.toNat : Int) (m : Int) = ((x <<< UInt8.ofNat m).toNat : Int) := by
  have : ∀ m : Fin 8, ∀ x : Fin 256, shlP .u8 (x.val : Int) (m.val : Int) = (((UInt8.ofNat x.val) <<< UInt8.ofNat m.val).toNat : Int) := by decide +kernel
  have := this ⟨m, h⟩ ⟨x.toNat, x.toNat_lt⟩
  simpa using this
theorem shr_u8 (x : UInt8) (m : Nat) (h : m < 8) : shrP .u8 (x.toNat : Int) (m : Int) = ((x >>> UInt8.ofNat m).toNat : Int) := by
  have : ∀ m : Fin 8, ∀ x : Fin 256, shrP .u8 (x.val : Int) (m.val : Int) = (((UInt8.ofNat x.val) >>> UInt8.ofNat m.val).toNat : Int) := by decide +kernel
  have := this ⟨m, h⟩ ⟨x.toNat, x.toNat_lt⟩
  simpa using this
theorem shl_u8_1 (x : UInt8) : shlP .u8 (x.toNat : Int) 1 = ((x <<< 1).toNat : Int) := shl_u8 x 1 (by decide)
theorem shr_u8_1 (x : UInt8) : shrP .u8 (x.toNat : Int) 1 = ((x >>> 1).toNat : Int) := shr_u8 x 1 (by decide)
theorem shr_u8_7 (x : UInt8) : shrP .u8 (x.toNat : Int) 7 = ((x >>> 7).toNat : Int) := shr_u8 x 7 (by decide)
theorem and_u8_1 (a : UInt8) : bitsP .and .u8 a.toNat 1 = ((a &&& 1).toNat : Int) := and_u8 a 1
theorem xor_u8_99 (a : UInt8) : bitsP .xor .u8 a.toNat 99 = ((a ^^^ 99).toNat : Int) := xor_u8 a 99
theorem mul_u8_27 (a : UInt8) : IntKind.wrap .u8 ((a.toNat : Int) * 27) = ((a * 27).toNat : Int) := mul_u8 a 27

/-! ### Times -/
/-- The second factor after i rounds. -/
def shB (b : UInt8) : Nat → UInt8
  | 0 => b
  | i + 1 => shB b i >>> 1
def xtI (a : UInt8) : Nat → UInt8
  | 0 => a
  | i + 1 => xt (xtI a i)
def grI (a b : UInt8) : Nat → UInt8
  | 0 => 0
  | i + 1 => grI a b i ^^^ (xtI a i * (shB b i &&& 1))
theorem gmR_at (a b : UInt8) : ∀ n i, gmR n (grI a b i) (xtI a i) (shB b i) = grI a b (i + n)
  | 0, i => rfl
  | n + 1, i => by rw [gmR, show i + (n + 1) = i + 1 + n by omega, ← gmR_at a b n (i + 1)]; rfl
theorem gm_grI (a b : UInt8) : gm a b = grI a b 8 := gmR_at a b 8 0
theorem shB_8 (b : UInt8) : shB b 8 = 0 := byte_all (p := fun b => shB b 8 = 0) (by decide +kernel) b
theorem gm_early (a b : UInt8) (i : Nat) (h : i ≤ 8) (h0 : shB b i = 0) : grI a b i = gm a b := by
  rw [gm_grI]
  have := gmR_at a b (8 - i) i
  rw [h0, gmR_b0, show i + (8 - i) = 8 by omega] at this; exact this
theorem shB_i (b : UInt8) (i : Nat) (h : i ≤ 8) (h0 : shB b i ≠ 0) : i < 8 := by
  rcases Nat.lt_or_ge i 8 with h1 | h1
  · exact h1
  · have : i = 8 := by omega
    subst this; exact absurd (shB_8 b) h0
theorem nz_u8 (b : UInt8) : (0 : Int) < (b.toNat : Int) ↔ b ≠ 0 := by
  constructor
  · rintro h rfl; simp at h
  · intro h; have : b.toNat ≠ 0 := fun h2 => h (UInt8.toNat_inj.1 h2); omega

theorem times8_ok (a b : UInt8) : Fn (Cx w0) 82 [.int .u8 a.toNat, .int .u8 b.toNat] (.int .u8 (gm a b).toNat) := by
  refine fn_H ([Go.ResultVar.tmp 4]) Try.func82 rfl rfl (by decide) fun ph hW Q hQ => ?_
  simp only [start, List.length_cons, List.length_nil, List.cons_append, List.nil_append, Nat.reduceAdd, Nat.reduceSub, List.replicate_succ, List.replicate_zero, Try.ntmps82]
  repeat' first
    | simp -implicitDefEqProofs (maxSteps := 400000) (disch := first | with_reducible rfl | omega | (simp only [h_n, PH.n_push, PH.n_put, List.length_cons, List.length_nil] <;> omega) | decide) only [wkAll, wkL, popO, wantedP, if_true, if_false, reduceIte, ne_eq, Nat.reduceAdd, Nat.reduceSub, Nat.reduceMul, Nat.reduceLeDiff, Nat.reduceLT, ofCells, ofCell, reduceCtorEq, Int.reduceLE, Int.reduceLT, Int.reduceToNat, Int.reduceAdd, Int.reduceSub, Int.reduceMul, Int.reduceNeg, Int.reduceBEq, Int.reduceBNe, Int.reduceEq, eqCell, eqCells, binP, unP, convP, lenP, builtinP, sliceDataP, unsafeStringP, appendT, appendS, appendP, copyP, srcP, mmsP, mmP, indexOp, indexAddrOp, sliceOp, bndsP, bndP, capw, capCut, loadOp, storeOp, loadP, fieldOp, fieldAddrOp, arrayAtOp, buildP, buildSliceP, makeSliceP, placeF, fillP, setL, PK.agg, isZero, gt_iff_lt, Nat.reducePow, Nat.reduceGT, reps, seg, wkN, if_pos, if_neg, tf5, Try.ze5]
    | refine w_dec (fun _ => ?_) (fun _ => ?_)
    | refine w_eqc (fun _ => ?_) (fun _ => ?_)
    | refine w_neqc (fun _ => ?_) (fun _ => ?_)
    | refine w_nneqc (fun _ => ?_) (fun _ => ?_)
    | ((first | refine w_split (fun h => ?_) (fun h => ?_) | refine d_split (fun h => ?_) (fun h => ?_) | refine w_csplit (fun h => ?_) (fun h => ?_)) <;> (try simp only [wkS] at h) <;> (have h2 := h) <;> (try simp only [wkT, ne_eq] at h2) <;> (try simp only [h]))
  refine w_loopH (α := Nat) ph ph.ob ph.ty (fun i => [.int .u8 (xtI a i).toNat, .int .u8 (shB b i).toNat, .undef, .undef, .undef, .int .u8 (grI a b i).toNat, .undef, .undef, .undef, .undef, .undef, .undef, .undef, .undef, .undef, .undef, .undef, .undef, .undef, .undef, .undef, .undef, .undef]) (fun i => []) (fun i => i ≤ 8) (fun i => 8 - i) 0 (by simp) (fun _ _ => by simp) (.eq (by simp [FadeTo, xtI, shB, grI]) rfl) ?_
  intro i hi K hK
  have hnz := nz_u8 (shB b i)
  by_cases h0 : shB b i = 0
  · have q : ¬ (0 : Int) < ((shB b i).toNat : Int) := by rw [hnz]; simpa using h0
    rw [gm_early a b i hi h0] at *
    generalize gm a b = g at *
    generalize xtI a i = x at *
    generalize shB b i = y at *
    repeat' first
      | simp -implicitDefEqProofs (maxSteps := 400000) (disch := first | with_reducible rfl | omega | (simp only [h_n, PH.n_push, PH.n_put, List.length_cons, List.length_nil] <;> omega) | decide) only [wkAll, wkL, popO, wantedP, if_true, if_false, reduceIte, ne_eq, Nat.reduceAdd, Nat.reduceSub, Nat.reduceMul, Nat.reduceLeDiff, Nat.reduceLT, ofCells, ofCell, reduceCtorEq, Int.reduceLE, Int.reduceLT, Int.reduceToNat, Int.reduceAdd, Int.reduceSub, Int.reduceMul, Int.reduceNeg, Int.reduceBEq, Int.reduceBNe, Int.reduceEq, eqCell, eqCells, binP, unP, convP, lenP, builtinP, sliceDataP, unsafeStringP, appendT, appendS, appendP, copyP, srcP, mmsP, mmP, indexOp, indexAddrOp, sliceOp, bndsP, bndP, capw, capCut, loadOp, storeOp, loadP, fieldOp, fieldAddrOp, arrayAtOp, buildP, buildSliceP, makeSliceP, placeF, fillP, setL, PK.agg, isZero, gt_iff_lt, Nat.reducePow, Nat.reduceGT, reps, seg, wkN, if_pos, if_neg, tf5, Try.ze5, gt_iff_lt, q]
      | refine w_dec (fun _ => ?_) (fun _ => ?_)
      | refine w_eqc (fun _ => ?_) (fun _ => ?_)
      | refine w_neqc (fun _ => ?_) (fun _ => ?_)
      | refine w_nneqc (fun _ => ?_) (fun _ => ?_)
      | ((first | refine w_split (fun h => ?_) (fun h => ?_) | refine d_split (fun h => ?_) (fun h => ?_) | refine w_csplit (fun h => ?_) (fun h => ?_)) <;> (try simp only [wkS] at h) <;> (have h2 := h) <;> (try simp only [wkT, ne_eq] at h2) <;> (try simp only [h]))
    refine hQ (by first | exact .inr rfl | exact .inl rfl) (by first | exact trivial | exact marks1) (by first | (simp -implicitDefEqProofs (maxSteps := 400000) (disch := first | with_reducible rfl | omega | (simp only [h_n, PH.n_push, PH.n_put, List.length_cons, List.length_nil] <;> omega) | decide) only [wkAll, wkL, popO, wantedP, if_true, if_false, reduceIte, ne_eq, Nat.reduceAdd, Nat.reduceSub, Nat.reduceMul, Nat.reduceLeDiff, Nat.reduceLT, ofCells, ofCell, reduceCtorEq, Int.reduceLE, Int.reduceLT, Int.reduceToNat, Int.reduceAdd, Int.reduceSub, Int.reduceMul, Int.reduceNeg, Int.reduceBEq, Int.reduceBNe, Int.reduceEq, eqCell, eqCells, binP, unP, convP, lenP, builtinP, sliceDataP, unsafeStringP, appendT, appendS, appendP, copyP, srcP, mmsP, mmP, indexOp, indexAddrOp, sliceOp, bndsP, bndP, capw, capCut, loadOp, storeOp, loadP, fieldOp, fieldAddrOp, arrayAtOp, buildP, buildSliceP, makeSliceP, placeF, fillP, setL, PK.agg, isZero, gt_iff_lt, Nat.reducePow, Nat.reduceGT, reps, seg, wkN, if_pos, if_neg, tf5, Try.ze5, resP, resPs, resP1]; rfl) | rfl) ⟨6, by repeat' first | exact frz_scalar rfl | apply frz_tuple | apply frz_agg | apply frz_fsl | apply frz_gsl (by omega) | exact frzs_nil | apply frzs_cons⟩ (by first | exact keepsH0 | exact keeps1 (by assumption) | exact keepsH (fun _ _ h => h) (fun p hp => by simp only [upF]; (repeat rw [if_neg (by omega)])) | exact keeps1t (by assumption) (fun p hp => by simp only [upF]; (repeat rw [if_neg (by omega)])) | (subst hT; exact keepsH (fun _ _ h => h) fun _ _ => rfl)) (nw_eq ?_)
    rfl
  · have q : (0 : Int) < ((shB b i).toNat : Int) := hnz.2 h0
    have hlt := shB_i b i hi h0
    have hx : xtI a (i + 1) = (xtI a i <<< 1) ^^^ ((xtI a i >>> 7) * 27) := rfl
    have hy : shB b (i + 1) = shB b i >>> 1 := rfl
    have hg : grI a b (i + 1) = grI a b i ^^^ (xtI a i * (shB b i &&& 1)) := rfl
    have hK1 := fun tm ph' => hK (i + 1) tm ph' (by omega) (by omega)
    rw [hx, hy, hg] at hK1
    clear hK hx hy hg
    generalize xtI a i = x at *
    generalize shB b i = y at *
    generalize grI a b i = z at *
    repeat' first
      | simp -implicitDefEqProofs (maxSteps := 400000) (disch := first | with_reducible rfl | omega | (simp only [h_n, PH.n_push, PH.n_put, List.length_cons, List.length_nil] <;> omega) | decide) only [wkAll, wkL, popO, wantedP, if_true, if_false, reduceIte, ne_eq, Nat.reduceAdd, Nat.reduceSub, Nat.reduceMul, Nat.reduceLeDiff, Nat.reduceLT, ofCells, ofCell, reduceCtorEq, Int.reduceLE, Int.reduceLT, Int.reduceToNat, Int.reduceAdd, Int.reduceSub, Int.reduceMul, Int.reduceNeg, Int.reduceBEq, Int.reduceBNe, Int.reduceEq, eqCell, eqCells, binP, unP, convP, lenP, builtinP, sliceDataP, unsafeStringP, appendT, appendS, appendP, copyP, srcP, mmsP, mmP, indexOp, indexAddrOp, sliceOp, bndsP, bndP, capw, capCut, loadOp, storeOp, loadP, fieldOp, fieldAddrOp, arrayAtOp, buildP, buildSliceP, makeSliceP, placeF, fillP, setL, PK.agg, isZero, gt_iff_lt, Nat.reducePow, Nat.reduceGT, reps, seg, wkN, if_pos, if_neg, tf5, Try.ze5, gt_iff_lt, q, and_u8_1, mul_u8, xor_u8, shl_u8_1, shr_u8_7, shr_u8_1, mul_u8_27]
      | refine w_dec (fun _ => ?_) (fun _ => ?_)
      | refine w_eqc (fun _ => ?_) (fun _ => ?_)
      | refine w_neqc (fun _ => ?_) (fun _ => ?_)
      | refine w_nneqc (fun _ => ?_) (fun _ => ?_)
      | ((first | refine w_split (fun h => ?_) (fun h => ?_) | refine d_split (fun h => ?_) (fun h => ?_) | refine w_csplit (fun h => ?_) (fun h => ?_)) <;> (try simp only [wkS] at h) <;> (have h2 := h) <;> (try simp only [wkT, ne_eq] at h2) <;> (try simp only [h]))
    exact hK1 _ _ (.eq (by simp [FadeTo]) rfl)
theorem ne0_u8 (b : UInt8) : ((b.toNat : Int) != 0) = decide (b ≠ 0) := by
  by_cases h : b = 0
  · subst h; rfl
  · rw [decide_eq_true h, bne_iff_ne]
    intro h2; apply h; apply UInt8.toNat_inj.1; show b.toNat = 0; omega
theorem turn8_ok (b : UInt8) (n : Nat) (h : n < 8) (h0 : 0 < n) : Fn (Cx w0) 91 [.int .u8 b.toNat, .int .i64 n] (.int .u8 (rotB b (UInt8.ofNat n)).toNat) := by
  have e1 := shl_u8 b n h
  have e0 : (8 : Int) - (n : Int) = ((8 - n : Nat) : Int) := by omega
  have e2 := shr_u8 b (8 - n) (by omega)
  have e3 : (0 : Int) ≤ (n : Int) := by omega
  have e4 : (0 : Int) ≤ ((8 - n : Nat) : Int) := by omega
  have e5 : UInt8.ofNat (8 - n) = 8 - UInt8.ofNat n := by
    have : ∀ n : Fin 8, UInt8.ofNat (8 - n.val) = 8 - UInt8.ofNat n.val := by decide
    exact this ⟨n, h⟩
  rw [e5] at e2
  refine fn_H ([Go.ResultVar.tmp 4]) Try.func91 rfl rfl (by decide) fun ph hW Q hQ => ?_
  simp only [start, List.length_cons, List.length_nil, List.cons_append, List.nil_append, Nat.reduceAdd, Nat.reduceSub, List.replicate_succ, List.replicate_zero, Try.ntmps91]
  repeat' first
    | simp -implicitDefEqProofs (maxSteps := 400000) (disch := first | with_reducible rfl | omega | (simp only [h_n, PH.n_push, PH.n_put, List.length_cons, List.length_nil] <;> omega) | decide) only [wkAll, wkL, popO, wantedP, if_true, if_false, reduceIte, ne_eq, Nat.reduceAdd, Nat.reduceSub, Nat.reduceMul, Nat.reduceLeDiff, Nat.reduceLT, ofCells, ofCell, reduceCtorEq, Int.reduceLE, Int.reduceLT, Int.reduceToNat, Int.reduceAdd, Int.reduceSub, Int.reduceMul, Int.reduceNeg, Int.reduceBEq, Int.reduceBNe, Int.reduceEq, eqCell, eqCells, binP, unP, convP, lenP, builtinP, sliceDataP, unsafeStringP, appendT, appendS, appendP, copyP, srcP, mmsP, mmP, indexOp, indexAddrOp, sliceOp, bndsP, bndP, capw, capCut, loadOp, storeOp, loadP, fieldOp, fieldAddrOp, arrayAtOp, buildP, buildSliceP, makeSliceP, placeF, fillP, setL, PK.agg, isZero, gt_iff_lt, Nat.reducePow, Nat.reduceGT, reps, seg, wkN, if_pos, if_neg, tf3, Try.ze3, tf5, Try.ze5, pl91_1Ae1, e0, e1, e2, e3, e4, or_u8]
    | refine w_dec (fun _ => ?_) (fun _ => ?_)
    | refine w_eqc (fun _ => ?_) (fun _ => ?_)
    | refine w_neqc (fun _ => ?_) (fun _ => ?_)
    | refine w_nneqc (fun _ => ?_) (fun _ => ?_)
    | ((first | refine w_split (fun h => ?_) (fun h => ?_) | refine d_split (fun h => ?_) (fun h => ?_) | refine w_csplit (fun h => ?_) (fun h => ?_)) <;> (try simp only [wkS] at h) <;> (have h2 := h) <;> (try simp only [wkT, ne_eq] at h2) <;> (try simp only [h]))
    | refine w_drawnF (id := 1) tb91_1Ae1 pl91_1Ae1 13 (by kernel_rfl) (by kernel_rfl) (by simp) ?_
  refine hQ (by first | exact .inr rfl | exact .inl rfl) (by first | exact trivial | exact marks1) (by first | (simp -implicitDefEqProofs (maxSteps := 400000) (disch := first | with_reducible rfl | omega | (simp only [h_n, PH.n_push, PH.n_put, List.length_cons, List.length_nil] <;> omega) | decide) only [wkAll, wkL, popO, wantedP, if_true, if_false, reduceIte, ne_eq, Nat.reduceAdd, Nat.reduceSub, Nat.reduceMul, Nat.reduceLeDiff, Nat.reduceLT, ofCells, ofCell, reduceCtorEq, Int.reduceLE, Int.reduceLT, Int.reduceToNat, Int.reduceAdd, Int.reduceSub, Int.reduceMul, Int.reduceNeg, Int.reduceBEq, Int.reduceBNe, Int.reduceEq, eqCell, eqCells, binP, unP, convP, lenP, builtinP, sliceDataP, unsafeStringP, appendT, appendS, appendP, copyP, srcP, mmsP, mmP, indexOp, indexAddrOp, sliceOp, bndsP, bndP, capw, capCut, loadOp, storeOp, loadP, fieldOp, fieldAddrOp, arrayAtOp, buildP, buildSliceP, makeSliceP, placeF, fillP, setL, PK.agg, isZero, gt_iff_lt, Nat.reducePow, Nat.reduceGT, reps, seg, wkN, if_pos, if_neg, tf3, Try.ze3, tf5, Try.ze5, pl91_1Ae1, resP, resPs, resP1]; rfl) | rfl) ⟨6, by repeat' first | exact frz_scalar rfl | apply frz_tuple | apply frz_agg | apply frz_fsl | apply frz_gsl (by omega) | exact frzs_nil | apply frzs_cons⟩ (by first | exact keepsH0 | exact keeps1 (by assumption) | exact keepsH (fun _ _ h => h) (fun p hp => by simp only [upF]; (repeat rw [if_neg (by omega)])) | exact keeps1t (by assumption) (fun p hp => by simp only [upF]; (repeat rw [if_neg (by omega)])) | (subst hT; exact keepsH (fun _ _ h => h) fun _ _ => rfl)) (nw_eq ?_)
  rfl
/-- The inverse's pair after i rounds. -/
def invI (b : UInt8) : Nat → UInt8 × UInt8
  | 0 => (1, b)
  | i + 1 => (gm (invI b i).1 (gm (invI b i).2 (invI b i).2), gm (invI b i).2 (invI b i).2)
theorem invS_at (b : UInt8) : ∀ n i, invS n (invI b i).1 (invI b i).2 = (invI b (i + n)).1
  | 0, i => rfl
  | n + 1, i => by rw [invS, show i + (n + 1) = i + 1 + n by omega, ← invS_at b n (i + 1)]; rfl
theorem inv_invI (b : UInt8) : invB b = (invI b 7).1 := invS_at b 7 0
theorem inverse8_ok (b : UInt8) : Fn (Cx w0) 90 [.int .u8 b.toNat] (.int .u8 (invB b).toNat) := by
  refine fn_H ([Go.ResultVar.tmp 2]) Try.func90 rfl rfl (by decide) fun ph hW Q hQ => ?_
  simp only [start, List.length_cons, List.length_nil, List.cons_append, List.nil_append, Nat.reduceAdd, Nat.reduceSub, List.replicate_succ, List.replicate_zero, Try.ntmps90]
  repeat' first
    | simp -implicitDefEqProofs (maxSteps := 400000) (disch := first | with_reducible rfl | omega | (simp only [h_n, PH.n_push, PH.n_put, List.length_cons, List.length_nil] <;> omega) | decide) only [wkAll, wkL, popO, wantedP, if_true, if_false, reduceIte, ne_eq, Nat.reduceAdd, Nat.reduceSub, Nat.reduceMul, Nat.reduceLeDiff, Nat.reduceLT, ofCells, ofCell, reduceCtorEq, Int.reduceLE, Int.reduceLT, Int.reduceToNat, Int.reduceAdd, Int.reduceSub, Int.reduceMul, Int.reduceNeg, Int.reduceBEq, Int.reduceBNe, Int.reduceEq, eqCell, eqCells, binP, unP, convP, lenP, builtinP, sliceDataP, unsafeStringP, appendT, appendS, appendP, copyP, srcP, mmsP, mmP, indexOp, indexAddrOp, sliceOp, bndsP, bndP, capw, capCut, loadOp, storeOp, loadP, fieldOp, fieldAddrOp, arrayAtOp, buildP, buildSliceP, makeSliceP, placeF, fillP, setL, PK.agg, isZero, gt_iff_lt, Nat.reducePow, Nat.reduceGT, reps, seg, wkN, if_pos, if_neg, tf3, Try.ze3, tf5, Try.ze5]
    | refine w_dec (fun _ => ?_) (fun _ => ?_)
    | refine w_eqc (fun _ => ?_) (fun _ => ?_)
    | refine w_neqc (fun _ => ?_) (fun _ => ?_)
    | refine w_nneqc (fun _ => ?_) (fun _ => ?_)
    | ((first | refine w_split (fun h => ?_) (fun h => ?_) | refine d_split (fun h => ?_) (fun h => ?_) | refine w_csplit (fun h => ?_) (fun h => ?_)) <;> (try simp only [wkS] at h) <;> (have h2 := h) <;> (try simp only [wkT, ne_eq] at h2) <;> (try simp only [h]))
  refine w_loopH (α := Nat) ph ph.ob ph.ty (fun i => [.undef, .undef, .undef, .int .u8 (invI b i).1.toNat, .int .u8 (invI b i).2.toNat, .undef, .int .i64 i, .undef, .undef, .undef, .undef, .undef, .undef, .undef, .undef, .undef]) (fun i => []) (fun i => i ≤ 7) (fun i => 7 - i) 0 (by simp) (fun _ _ => by simp) (.eq (by simp [FadeTo, invI]) rfl) ?_
  intro i hi K hK
  rcases Nat.lt_or_ge i 7 with hlt | hge
  · have hlt' : (i : Int) < 7 := by omega
    have t1 := times8_ok (w0 := w0) (invI b i).2 (invI b i).2
    have t2 := times8_ok (w0 := w0) (invI b i).1 (gm (invI b i).2 (invI b i).2)
    have hK1 := fun tm ph' => hK (i + 1) tm ph' (by omega) (by omega)
    rw [invI] at hK1
    clear hK
    generalize (invI b i).1 = x at *
    generalize (invI b i).2 = y at *
    generalize gm y y = z at *
    generalize gm x z = u at *
    repeat' first
      | simp -implicitDefEqProofs (maxSteps := 400000) (disch := first | with_reducible rfl | omega | (simp only [h_n, PH.n_push, PH.n_put, List.length_cons, List.length_nil] <;> omega) | decide) only [wkAll, wkL, popO, wantedP, if_true, if_false, reduceIte, ne_eq, Nat.reduceAdd, Nat.reduceSub, Nat.reduceMul, Nat.reduceLeDiff, Nat.reduceLT, ofCells, ofCell, reduceCtorEq, Int.reduceLE, Int.reduceLT, Int.reduceToNat, Int.reduceAdd, Int.reduceSub, Int.reduceMul, Int.reduceNeg, Int.reduceBEq, Int.reduceBNe, Int.reduceEq, eqCell, eqCells, binP, unP, convP, lenP, builtinP, sliceDataP, unsafeStringP, appendT, appendS, appendP, copyP, srcP, mmsP, mmP, indexOp, indexAddrOp, sliceOp, bndsP, bndP, capw, capCut, loadOp, storeOp, loadP, fieldOp, fieldAddrOp, arrayAtOp, buildP, buildSliceP, makeSliceP, placeF, fillP, setL, PK.agg, isZero, gt_iff_lt, Nat.reducePow, Nat.reduceGT, reps, seg, wkN, if_pos, if_neg, tf3, Try.ze3, tf5, Try.ze5, hlt']
      | refine w_pure (t1) ?_
      | refine w_pure (t2) ?_
      | refine w_dec (fun _ => ?_) (fun _ => ?_)
      | refine w_eqc (fun _ => ?_) (fun _ => ?_)
      | refine w_neqc (fun _ => ?_) (fun _ => ?_)
      | refine w_nneqc (fun _ => ?_) (fun _ => ?_)
      | ((first | refine w_split (fun h => ?_) (fun h => ?_) | refine d_split (fun h => ?_) (fun h => ?_) | refine w_csplit (fun h => ?_) (fun h => ?_)) <;> (try simp only [wkS] at h) <;> (have h2 := h) <;> (try simp only [wkT, ne_eq] at h2) <;> (try simp only [h]))
    exact hK1 _ _ (.eq (by simp [FadeTo]) rfl)
  · have hge' : ¬ (i : Int) < 7 := by omega
    have : i = 7 := by omega
    subst this
    rw [← inv_invI b]
    repeat' first
      | simp -implicitDefEqProofs (maxSteps := 400000) (disch := first | with_reducible rfl | omega | (simp only [h_n, PH.n_push, PH.n_put, List.length_cons, List.length_nil] <;> omega) | decide) only [wkAll, wkL, popO, wantedP, if_true, if_false, reduceIte, ne_eq, Nat.reduceAdd, Nat.reduceSub, Nat.reduceMul, Nat.reduceLeDiff, Nat.reduceLT, ofCells, ofCell, reduceCtorEq, Int.reduceLE, Int.reduceLT, Int.reduceToNat, Int.reduceAdd, Int.reduceSub, Int.reduceMul, Int.reduceNeg, Int.reduceBEq, Int.reduceBNe, Int.reduceEq, eqCell, eqCells, binP, unP, convP, lenP, builtinP, sliceDataP, unsafeStringP, appendT, appendS, appendP, copyP, srcP, mmsP, mmP, indexOp, indexAddrOp, sliceOp, bndsP, bndP, capw, capCut, loadOp, storeOp, loadP, fieldOp, fieldAddrOp, arrayAtOp, buildP, buildSliceP, makeSliceP, placeF, fillP, setL, PK.agg, isZero, gt_iff_lt, Nat.reducePow, Nat.reduceGT, reps, seg, wkN, if_pos, if_neg, tf3, Try.ze3, tf5, Try.ze5, hge']
      | refine w_dec (fun _ => ?_) (fun _ => ?_)
      | refine w_eqc (fun _ => ?_) (fun _ => ?_)
      | refine w_neqc (fun _ => ?_) (fun _ => ?_)
      | refine w_nneqc (fun _ => ?_) (fun _ => ?_)
      | ((first | refine w_split (fun h => ?_) (fun h => ?_) | refine d_split (fun h => ?_) (fun h => ?_) | refine w_csplit (fun h => ?_) (fun h => ?_)) <;> (try simp only [wkS] at h) <;> (have h2 := h) <;> (try simp only [wkT, ne_eq] at h2) <;> (try simp only [h]))
    refine hQ (by first | exact .inr rfl | exact .inl rfl) (by first | exact trivial | exact marks1) (by first | (simp -implicitDefEqProofs (maxSteps := 400000) (disch := first | with_reducible rfl | omega | (simp only [h_n, PH.n_push, PH.n_put, List.length_cons, List.length_nil] <;> omega) | decide) only [wkAll, wkL, popO, wantedP, if_true, if_false, reduceIte, ne_eq, Nat.reduceAdd, Nat.reduceSub, Nat.reduceMul, Nat.reduceLeDiff, Nat.reduceLT, ofCells, ofCell, reduceCtorEq, Int.reduceLE, Int.reduceLT, Int.reduceToNat, Int.reduceAdd, Int.reduceSub, Int.reduceMul, Int.reduceNeg, Int.reduceBEq, Int.reduceBNe, Int.reduceEq, eqCell, eqCells, binP, unP, convP, lenP, builtinP, sliceDataP, unsafeStringP, appendT, appendS, appendP, copyP, srcP, mmsP, mmP, indexOp, indexAddrOp, sliceOp, bndsP, bndP, capw, capCut, loadOp, storeOp, loadP, fieldOp, fieldAddrOp, arrayAtOp, buildP, buildSliceP, makeSliceP, placeF, fillP, setL, PK.agg, isZero, gt_iff_lt, Nat.reducePow, Nat.reduceGT, reps, seg, wkN, if_pos, if_neg, tf3, Try.ze3, tf5, Try.ze5, resP, resPs, resP1]; rfl) | rfl) ⟨6, by repeat' first | exact frz_scalar rfl | apply frz_tuple | apply frz_agg | apply frz_fsl | apply frz_gsl (by omega) | exact frzs_nil | apply frzs_cons⟩ (by first | exact keepsH0 | exact keeps1 (by assumption) | exact keepsH (fun _ _ h => h) (fun p hp => by simp only [upF]; (repeat rw [if_neg (by omega)])) | exact keeps1t (by assumption) (fun p hp => by simp only [upF]; (repeat rw [if_neg (by omega)])) | (subst hT; exact keepsH (fun _ _ h => h) fun _ _ => rfl)) (nw_eq ?_)
    rfl
theorem sub8_ok (b : UInt8) : Fn (Cx w0) 81 [.int .u8 b.toNat] (.int .u8 (sbox b).toNat) := by
  rw [← sub_box]
  have i1 := inverse8_ok (w0 := w0) b
  have t1 := turn8_ok (w0 := w0) (invB b) 1 (by decide) (by decide)
  have t2 := turn8_ok (w0 := w0) (invB b) 2 (by decide) (by decide)
  have t3 := turn8_ok (w0 := w0) (invB b) 3 (by decide) (by decide)
  have t4 := turn8_ok (w0 := w0) (invB b) 4 (by decide) (by decide)
  rw [subB]
  generalize invB b = x at *
  rw [show UInt8.ofNat 1 = 1 from rfl] at t1
  rw [show UInt8.ofNat 2 = 2 from rfl] at t2
  rw [show UInt8.ofNat 3 = 3 from rfl] at t3
  rw [show UInt8.ofNat 4 = 4 from rfl] at t4
  generalize rotB x 1 = x1 at *
  generalize rotB x 2 = x2 at *
  generalize rotB x 3 = x3 at *
  generalize rotB x 4 = x4 at *
  refine fn_H ([Go.ResultVar.tmp 2]) Try.func81 rfl rfl (by decide) fun ph hW Q hQ => ?_
  simp only [start, List.length_cons, List.length_nil, List.cons_append, List.nil_append, Nat.reduceAdd, Nat.reduceSub, List.replicate_succ, List.replicate_zero, Try.ntmps81]
  repeat' first
    | simp -implicitDefEqProofs (maxSteps := 400000) (disch := first | with_reducible rfl | omega | (simp only [h_n, PH.n_push, PH.n_put, List.length_cons, List.length_nil] <;> omega) | decide) only [wkAll, wkL, popO, wantedP, if_true, if_false, reduceIte, ne_eq, Nat.reduceAdd, Nat.reduceSub, Nat.reduceMul, Nat.reduceLeDiff, Nat.reduceLT, ofCells, ofCell, reduceCtorEq, Int.reduceLE, Int.reduceLT, Int.reduceToNat, Int.reduceAdd, Int.reduceSub, Int.reduceMul, Int.reduceNeg, Int.reduceBEq, Int.reduceBNe, Int.reduceEq, eqCell, eqCells, binP, unP, convP, lenP, builtinP, sliceDataP, unsafeStringP, appendT, appendS, appendP, copyP, srcP, mmsP, mmP, indexOp, indexAddrOp, sliceOp, bndsP, bndP, capw, capCut, loadOp, storeOp, loadP, fieldOp, fieldAddrOp, arrayAtOp, buildP, buildSliceP, makeSliceP, placeF, fillP, setL, PK.agg, isZero, gt_iff_lt, Nat.reducePow, Nat.reduceGT, reps, seg, wkN, if_pos, if_neg, tf3, Try.ze3, tf5, Try.ze5, xor_u8, xor_u8_99]
    | refine w_pure (i1) ?_
    | refine w_pure (t1) ?_
    | refine w_pure (t2) ?_
    | refine w_pure (t3) ?_
    | refine w_pure (t4) ?_
    | refine w_dec (fun _ => ?_) (fun _ => ?_)
    | refine w_eqc (fun _ => ?_) (fun _ => ?_)
    | refine w_neqc (fun _ => ?_) (fun _ => ?_)
    | refine w_nneqc (fun _ => ?_) (fun _ => ?_)
    | ((first | refine w_split (fun h => ?_) (fun h => ?_) | refine d_split (fun h => ?_) (fun h => ?_) | refine w_csplit (fun h => ?_) (fun h => ?_)) <;> (try simp only [wkS] at h) <;> (have h2 := h) <;> (try simp only [wkT, ne_eq] at h2) <;> (try simp only [h]))
  refine hQ (by first | exact .inr rfl | exact .inl rfl) (by first | exact trivial | exact marks1) (by first | (simp -implicitDefEqProofs (maxSteps := 400000) (disch := first | with_reducible rfl | omega | (simp only [h_n, PH.n_push, PH.n_put, List.length_cons, List.length_nil] <;> omega) | decide) only [wkAll, wkL, popO, wantedP, if_true, if_false, reduceIte, ne_eq, Nat.reduceAdd, Nat.reduceSub, Nat.reduceMul, Nat.reduceLeDiff, Nat.reduceLT, ofCells, ofCell, reduceCtorEq, Int.reduceLE, Int.reduceLT, Int.reduceToNat, Int.reduceAdd, Int.reduceSub, Int.reduceMul, Int.reduceNeg, Int.reduceBEq, Int.reduceBNe, Int.reduceEq, eqCell, eqCells, binP, unP, convP, lenP, builtinP, sliceDataP, unsafeStringP, appendT, appendS, appendP, copyP, srcP, mmsP, mmP, indexOp, indexAddrOp, sliceOp, bndsP, bndP, capw, capCut, loadOp, storeOp, loadP, fieldOp, fieldAddrOp, arrayAtOp, buildP, buildSliceP, makeSliceP, placeF, fillP, setL, PK.agg, isZero, gt_iff_lt, Nat.reducePow, Nat.reduceGT, reps, seg, wkN, if_pos, if_neg, tf3, Try.ze3, tf5, Try.ze5, resP, resPs, resP1]; rfl) | rfl) ⟨6, by repeat' first | exact frz_scalar rfl | apply frz_tuple | apply frz_agg | apply frz_fsl | apply frz_gsl (by omega) | exact frzs_nil | apply frzs_cons⟩ (by first | exact keepsH0 | exact keeps1 (by assumption) | exact keepsH (fun _ _ h => h) (fun p hp => by simp only [upF]; (repeat rw [if_neg (by omega)])) | exact keeps1t (by assumption) (fun p hp => by simp only [upF]; (repeat rw [if_neg (by omega)])) | (subst hT; exact keepsH (fun _ _ h => h) fun _ _ => rfl)) (nw_eq ?_)
  rfl
end Pv

namespace Pv
open Go Go.RowKit
variable {X : Ctx} {ph : PH} {ρ : Option Nat} {n0 : Nat} {Q : Exit → PSt → PH → Prop}

/-- **A loop** that writes into blocks that were there: the base turns with the rounds. -/
theorem w_loopB {α : Type} {c : Code} {tm : List PV} {ms : List Nat} (n : Nat) (ob : Nat → Option PObj) (ty : Nat → Option TypeId) (b : α → PH) (st : α → List PV) (hl : α → List (Option Blk)) (Inv : α → Prop) (μ : α → Nat) (a0 : α) (h0 : Inv a0) (hb : ∀ a, Inv a → (b a).n = n) (hn : ∀ a, Inv a → n0 ≤ n + (hl a).length)
    (hi : HTo (b a0) (hl a0) ob ty (st a0) tm ph)
    (round : ∀ a, Inv a → ∀ B, B = b a → B.n = n → ∀ K : PSt → PH → Prop, (∀ a' tm ph', Inv a' → μ a' < μ a → HTo (b a') (hl a') ob ty (st a') tm ph' → K ⟨tm, ms⟩ ph') → vc X ρ n0 c (PExit.seq K Q) ⟨st a, ms⟩ (H B (hl a) ob ty)) : vc X ρ n0 (.loop c) Q ⟨tm, ms⟩ ph := by
  show PWp X ρ n0 (.loop c) Q ⟨tm, ms⟩ ph
  have hn' : ∀ a, Inv a → n0 ≤ (b a).n + (hl a).length := fun a h => by rw [hb a h]; exact hn a h
  refine PWp.weak (s' := ⟨st a0, ms⟩) (ph' := H (b a0) (hl a0) ob ty) (hi.weak (hn' _ h0)) rfl ?_
  refine pwp_loopN (I := fun j s' ph' => ∃ a, Inv a ∧ μ a = j ∧ HTo (b a) (hl a) ob ty (st a) s'.tm ph' ∧ s'.ms = ms) (μ a0) ⟨a0, h0, rfl, .same (by
    clear hi round
    generalize st a0 = s
    induction s with
    | nil => trivial
    | cons p ps ih => exact ⟨.inr rfl, ih⟩), rfl⟩ ?_
  rintro j s' ph' ⟨a, hI, rfl, hT, hm⟩
  refine PWp.weak (s' := ⟨st a, ms⟩) (ph' := H (b a) (hl a) ob ty) (hT.weak (hn' a hI)) hm.symm ?_
  refine vc_ok _ _ _ _ (round a hI _ rfl (hb a hI) _ ?_)
  intro a' tm' ph' h1 h2 h3
  exact ⟨μ a', h2, a', h1, rfl, h3, rfl⟩

theorem put_putS (p : Nat) (c d : List PV) : (ph.put p c).put p d = ph.put p d := by simp [PH.put]
theorem get_putS {p : Nat} (c : List PV) (h : p < ph.n) : (ph.put p c).get p = some c := by rw [PH.get_put h, if_pos rfl]
theorem get_putO {p q : Nat} (c : List PV) (h : p < ph.n) (hne : q ≠ p) : (ph.put p c).get q = ph.get q := by rw [PH.get_put h, if_neg hne]

/-! A base that has been written into. -/
section
variable {B : PH} {p q k : Nat} {c d : List PV} {l : List (Option Blk)} {ob : Nat → Option PObj} {ty : Nat → Option TypeId}
theorem hp_get : (H (B.put p c) l ob ty).get (B.n + k) = (l[k]?).join.bind Blk.cells := by have := h_get (b := B.put p c) (l := l) (ob := ob) (ty := ty) (k := k); rwa [PH.n_put] at this
theorem hp_get0 : (H (B.put p c) l ob ty).get B.n = (l[0]?).join.bind Blk.cells := hp_get (k := 0)
theorem hp_put : (H (B.put p c) l ob ty).put (B.n + k) d = H (B.put p c) (l.set k (some (.own d))) ob ty := by have := h_put (b := B.put p c) (l := l) (ob := ob) (ty := ty) (k := k) (c := d); rwa [PH.n_put] at this
theorem hp_put0 : (H (B.put p c) l ob ty).put B.n d = H (B.put p c) (l.set 0 (some (.own d))) ob ty := hp_put (k := 0)
theorem hp_getS (hp : p < B.n) : (H (B.put p c) l ob ty).get p = some c := by rw [h_getlt (by rw [PH.n_put]; exact hp)]; exact get_putS _ hp
theorem hp_putS (hp : p < B.n) : (H (B.put p c) l ob ty).put p d = H (B.put p d) l ob ty := by rw [h_putlt (by rw [PH.n_put]; exact hp), put_putS]
theorem hp_n : (B.put p c).n = B.n := PH.n_put ..
end
/-- .. as one. -/
theorem wkP : type_of% (And.intro (And.intro @hp_get @hp_get0) (And.intro (And.intro @hp_put @hp_put0) @hp_n)) := And.intro (And.intro @hp_get @hp_get0) (And.intro (And.intro @hp_put @hp_put0) @hp_n)
end Pv
