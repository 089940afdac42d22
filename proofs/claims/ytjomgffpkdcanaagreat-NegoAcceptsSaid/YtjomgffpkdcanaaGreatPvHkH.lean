/- Part of the proof: the layer of pure values, or walks through functions (PvHkH, PvHk1). -/
import Derived.Test.YtjomgffpkdcanaaGreatPvSha5
import Derived.Test.YtjomgffpkdcanaaGreatPvSha9
import Derived.Test.YtjomgffpkdcanaaGreatPvBldX
set_option linter.all false
namespace Pv
open Go

/-! ### Chapter 7: keys of keys, in plain Lean -/
def tK (prk info : List UInt8) : Nat → List UInt8
  | 0 => []
  | k + 1 => macL prk (tK prk info k ++ info ++ [UInt8.ofNat (k + 1)])
def okm (prk info : List UInt8) : Nat → List UInt8
  | 0 => []
  | k + 1 => okm prk info k ++ tK prk info (k + 1)
theorem tK_le (prk info : List UInt8) : ∀ k, (tK prk info k).length ≤ 32
  | 0 => Nat.zero_le _
  | k + 1 => by rw [tK, mac_len]; exact Nat.le_refl _
theorem tK_len (prk info : List UInt8) (k : Nat) : (tK prk info (k + 1)).length = 32 := by rw [tK, mac_len]
theorem okm_len (prk info : List UInt8) : ∀ k, (okm prk info k).length = 32 * k
  | 0 => rfl
  | k + 1 => by rw [okm, List.length_append, okm_len prk info k, tK_len]; omega
theorem okm_take (prk info : List UInt8) (n i : Nat) (h : n ≤ 32 * i) : ∀ j, (okm prk info (i + j)).take n = (okm prk info i).take n
  | 0 => rfl
  | j + 1 => by
    rw [← Nat.add_assoc, okm, List.take_append_of_le_length (by rw [okm_len]; omega)]
    exact okm_take prk info n i h j
def expandL (prk info : List UInt8) (n : Int) : List UInt8 × Int :=
  if n < 0 ∨ 8160 < n then ([], 13) else ((okm prk info ((n.toNat + 31) / 32)).take n.toNat, 0)
theorem expand_of (prk info : List UInt8) (m i : Nat) (hm : m ≤ 8160) (h : m ≤ 32 * i) : expandL prk info (m : Int) = ((okm prk info i).take m, 0) := by
  have e : (m + 31) / 32 ≤ i := by omega
  obtain ⟨j, rfl⟩ : ∃ j, i = (m + 31) / 32 + j := ⟨i - (m + 31) / 32, by omega⟩
  rw [expandL, if_neg (by omega), Int.toNat_natCast, okm_take prk info m _ (by omega) j]
def tls13 : List UInt8 := [116, 108, 115, 49, 51, 32]
def infoB (label ctx : List UInt8) (m : Nat) : List UInt8 := [UInt8.ofNat (m / 256), UInt8.ofNat m, UInt8.ofNat (label.length + 6)] ++ (tls13 ++ label) ++ [UInt8.ofNat ctx.length] ++ ctx
def infoL (label ctx : List UInt8) (n : Int) : List UInt8 × Int :=
  if n < 0 ∨ 65535 < n then ([], 13) else if 249 < label.length ∨ 255 < ctx.length then ([], 12) else (infoB label ctx n.toNat, 0)
theorem infoB_len (label ctx : List UInt8) (m : Nat) : (infoB label ctx m).length = label.length + ctx.length + 10 := by simp [infoB, tls13]; omega
def labelL (secret label ctx : List UInt8) (n : Int) : List UInt8 × Int :=
  if (infoL label ctx n).2 ≠ 0 then ([], (infoL label ctx n).2) else expandL secret (infoL label ctx n).1 n
theorem wrapb (n : Nat) : IntKind.wrap .u8 (n : Int) = ((UInt8.ofNat n).toNat : Int) := by
  rw [UInt8.toNat_ofNat']
  simp [IntKind.wrap, IntKind.bits, IntKind.signed]
end Pv

namespace Pv
set_option maxRecDepth 20000
set_option maxHeartbeats 4000000
open Go Go.Proofs Go.RowKit
variable {w0 : World}

theorem ty_none {ph : PH} (hW : WF ph) (k : Nat) : ph.ty (ph.n + k) = none := by
  cases h : ph.ty (ph.n + k) with
  | none => rfl
  | some e => have := hW.ty _ _ h; omega
theorem appT_some {P : Program} {sT xT : TypeId} {x : PV} {ph : PH} {p o e l c : Nat} : appendT P sT xT (.sl p o e l (some c)) x ph = appendP P sT xT (.sl p o e l (some c)) x ph := by
  unfold appendT
  split
  · unfold appendS
    cases kSl P sT with
    | none => rfl
    | some e => cases o <;> rfl
  · rfl
theorem info_ok (label ctx : List UInt8) (n : Int) (hl : label.length < 2 ^ 48) (hc : ctx.length < 2 ^ 48) : Fn (Cx w0) 90 [.str label, .str ctx, .int .i64 n] (.tuple [.str (infoL label ctx n).1, .int .i64 (infoL label ctx n).2]) := by
  by_cases h1 : n < 0
  · rw [infoL, if_pos (.inl h1)]
    refine fn_H ([Go.ResultVar.tmp 6, Go.ResultVar.tmp 7]) Tryz.func90 rfl rfl (by decide) fun ph hW Q hQ => ?_
    simp only [start, List.length_cons, List.length_nil, List.cons_append, List.nil_append, Nat.reduceAdd, Nat.reduceSub, List.replicate_succ, List.replicate_zero, Tryz.ntmps90]
    repeat' first | simp -implicitDefEqProofs (maxSteps := 400000) (disch := first | with_reducible rfl | omega | (simp only [wkH] <;> omega) | decide) only [wkAll, wkL, popO, wantedP, binP, if_pos, h1] | refine w_dec (fun _ => ?_) (fun _ => ?_) | refine w_eqc (fun _ => ?_) (fun _ => ?_) | refine w_neqc (fun _ => ?_) (fun _ => ?_) | refine w_nneqc (fun _ => ?_) (fun _ => ?_) | ((first | refine w_split (fun h => ?_) (fun h => ?_) | refine d_split (fun h => ?_) (fun h => ?_) | refine w_csplit (fun h => ?_) (fun h => ?_)) <;> (try simp only [wkS] at h) <;> (have h2 := h) <;> (try simp only [wkT, ne_eq] at h2) <;> (try simp only [h]))
    refine hQ (by first | exact .inr rfl | exact .inl rfl) (by first | exact trivial | exact marks1) (by first | (simp -implicitDefEqProofs (maxSteps := 400000) (disch := first | with_reducible rfl | omega | (simp only [wkH] <;> omega) | decide) only [wkL, resP, resPs, resP1]; rfl) | rfl) ⟨6, by repeat' first | exact frz_scalar rfl | apply frz_tuple | apply frz_agg | apply frz_fsl | apply frz_gsl (by omega) | exact frzs_nil | apply frzs_cons⟩ (by first | exact keepsH0 | exact keeps1 (by assumption) | exact keepsH (fun _ _ h => h) (fun p hp => by simp only [upF]; (repeat rw [if_neg (by omega)])) | exact keeps1t (by assumption) (fun p hp => by simp only [upF]; (repeat rw [if_neg (by omega)])) | (subst hT; exact keepsH (fun _ _ h => h) fun _ _ => rfl)) (nw_eq ?_)
    rfl
  by_cases h2 : 65536 ≤ n
  · rw [infoL, if_pos (.inr (by omega))]
    refine fn_H ([Go.ResultVar.tmp 6, Go.ResultVar.tmp 7]) Tryz.func90 rfl rfl (by decide) fun ph hW Q hQ => ?_
    simp only [start, List.length_cons, List.length_nil, List.cons_append, List.nil_append, Nat.reduceAdd, Nat.reduceSub, List.replicate_succ, List.replicate_zero, Tryz.ntmps90]
    repeat' first | simp -implicitDefEqProofs (maxSteps := 400000) (disch := first | with_reducible rfl | omega | (simp only [wkH] <;> omega) | decide) only [wkAll, wkL, popO, wantedP, binP, if_pos, if_neg, h1, ge_iff_le, h2] | refine w_dec (fun _ => ?_) (fun _ => ?_) | refine w_eqc (fun _ => ?_) (fun _ => ?_) | refine w_neqc (fun _ => ?_) (fun _ => ?_) | refine w_nneqc (fun _ => ?_) (fun _ => ?_) | ((first | refine w_split (fun h => ?_) (fun h => ?_) | refine d_split (fun h => ?_) (fun h => ?_) | refine w_csplit (fun h => ?_) (fun h => ?_)) <;> (try simp only [wkS] at h) <;> (have h2 := h) <;> (try simp only [wkT, ne_eq] at h2) <;> (try simp only [h]))
    refine hQ (by first | exact .inr rfl | exact .inl rfl) (by first | exact trivial | exact marks1) (by first | (simp -implicitDefEqProofs (maxSteps := 400000) (disch := first | with_reducible rfl | omega | (simp only [wkH] <;> omega) | decide) only [wkL, resP, resPs, resP1]; rfl) | rfl) ⟨6, by repeat' first | exact frz_scalar rfl | apply frz_tuple | apply frz_agg | apply frz_fsl | apply frz_gsl (by omega) | exact frzs_nil | apply frzs_cons⟩ (by first | exact keepsH0 | exact keeps1 (by assumption) | exact keepsH (fun _ _ h => h) (fun p hp => by simp only [upF]; (repeat rw [if_neg (by omega)])) | exact keeps1t (by assumption) (fun p hp => by simp only [upF]; (repeat rw [if_neg (by omega)])) | (subst hT; exact keepsH (fun _ _ h => h) fun _ _ => rfl)) (nw_eq ?_)
    rfl
  obtain ⟨m, rfl⟩ : ∃ m : Nat, n = (m : Int) := ⟨n.toNat, by omega⟩
  obtain ⟨p, hp⟩ : ∃ p, p = tls13 ++ label := ⟨_, rfl⟩
  have hp' : 116 :: 108 :: 115 :: 49 :: 51 :: 32 :: label = p := hp.symm
  have hpl : p.length = label.length + 6 := by rw [hp]; simp [tls13]
  by_cases h3 : 249 < label.length
  · rw [infoL, if_neg (by omega), if_pos (.inl h3)]
    have h3' : (255 : Int) < (p.length : Int) := by omega
    refine fn_H ([Go.ResultVar.tmp 6, Go.ResultVar.tmp 7]) Tryz.func90 rfl rfl (by decide) fun ph hW Q hQ => ?_
    simp only [start, List.length_cons, List.length_nil, List.cons_append, List.nil_append, Nat.reduceAdd, Nat.reduceSub, List.replicate_succ, List.replicate_zero, Tryz.ntmps90]
    repeat' first | simp -implicitDefEqProofs (maxSteps := 400000) (disch := first | with_reducible rfl | omega | (simp only [wkH] <;> omega) | decide) only [wkAll, wkL, popO, wantedP, Nat.reduceAdd, binP, lenP, builtinP, gt_iff_lt, if_pos, if_neg, tf9, h1, ge_iff_le, h2, hp', h3'] | refine w_dec (fun _ => ?_) (fun _ => ?_) | refine w_eqc (fun _ => ?_) (fun _ => ?_) | refine w_neqc (fun _ => ?_) (fun _ => ?_) | refine w_nneqc (fun _ => ?_) (fun _ => ?_) | ((first | refine w_split (fun h => ?_) (fun h => ?_) | refine d_split (fun h => ?_) (fun h => ?_) | refine w_csplit (fun h => ?_) (fun h => ?_)) <;> (try simp only [wkS] at h) <;> (have h2 := h) <;> (try simp only [wkT, ne_eq] at h2) <;> (try simp only [h]))
    refine hQ (by first | exact .inr rfl | exact .inl rfl) (by first | exact trivial | exact marks1) (by first | (simp -implicitDefEqProofs (maxSteps := 400000) (disch := first | with_reducible rfl | omega | (simp only [wkH] <;> omega) | decide) only [wkL, resP, resPs, resP1]; rfl) | rfl) ⟨6, by repeat' first | exact frz_scalar rfl | apply frz_tuple | apply frz_agg | apply frz_fsl | apply frz_gsl (by omega) | exact frzs_nil | apply frzs_cons⟩ (by first | exact keepsH0 | exact keeps1 (by assumption) | exact keepsH (fun _ _ h => h) (fun p hp => by simp only [upF]; (repeat rw [if_neg (by omega)])) | exact keeps1t (by assumption) (fun p hp => by simp only [upF]; (repeat rw [if_neg (by omega)])) | (subst hT; exact keepsH (fun _ _ h => h) fun _ _ => rfl)) (nw_eq ?_)
    rfl
  have h3' : ¬ (255 : Int) < (p.length : Int) := by omega
  by_cases h4 : 255 < ctx.length
  · rw [infoL, if_neg (by omega), if_pos (.inr h4)]
    have h4' : (255 : Int) < (ctx.length : Int) := by omega
    refine fn_H ([Go.ResultVar.tmp 6, Go.ResultVar.tmp 7]) Tryz.func90 rfl rfl (by decide) fun ph hW Q hQ => ?_
    simp only [start, List.length_cons, List.length_nil, List.cons_append, List.nil_append, Nat.reduceAdd, Nat.reduceSub, List.replicate_succ, List.replicate_zero, Tryz.ntmps90]
    repeat' first | simp -implicitDefEqProofs (maxSteps := 400000) (disch := first | with_reducible rfl | omega | (simp only [wkH] <;> omega) | decide) only [wkAll, wkL, popO, wantedP, Nat.reduceAdd, binP, lenP, builtinP, gt_iff_lt, if_pos, if_neg, tf9, h1, ge_iff_le, h2, hp', h3', h4'] | refine w_dec (fun _ => ?_) (fun _ => ?_) | refine w_eqc (fun _ => ?_) (fun _ => ?_) | refine w_neqc (fun _ => ?_) (fun _ => ?_) | refine w_nneqc (fun _ => ?_) (fun _ => ?_) | ((first | refine w_split (fun h => ?_) (fun h => ?_) | refine d_split (fun h => ?_) (fun h => ?_) | refine w_csplit (fun h => ?_) (fun h => ?_)) <;> (try simp only [wkS] at h) <;> (have h2 := h) <;> (try simp only [wkT, ne_eq] at h2) <;> (try simp only [h]))
    refine hQ (by first | exact .inr rfl | exact .inl rfl) (by first | exact trivial | exact marks1) (by first | (simp -implicitDefEqProofs (maxSteps := 400000) (disch := first | with_reducible rfl | omega | (simp only [wkH] <;> omega) | decide) only [wkL, resP, resPs, resP1]; rfl) | rfl) ⟨6, by repeat' first | exact frz_scalar rfl | apply frz_tuple | apply frz_agg | apply frz_fsl | apply frz_gsl (by omega) | exact frzs_nil | apply frzs_cons⟩ (by first | exact keepsH0 | exact keeps1 (by assumption) | exact keepsH (fun _ _ h => h) (fun p hp => by simp only [upF]; (repeat rw [if_neg (by omega)])) | exact keeps1t (by assumption) (fun p hp => by simp only [upF]; (repeat rw [if_neg (by omega)])) | (subst hT; exact keepsH (fun _ _ h => h) fun _ _ => rfl)) (nw_eq ?_)
    rfl
  have h4' : ¬ (255 : Int) < (ctx.length : Int) := by omega
  rw [infoL, if_neg (by omega), if_neg (by omega), Int.toNat_natCast]
  have e1 : shrP .i64 (m : Int) 8 = ((m / 256 : Nat) : Int) := by
    simp only [shrP, IntKind.bits]
    rw [show (min (8 : Int).toNat 64) = 8 from rfl, Int.fdiv_eq_ediv_of_nonneg _ (by decide)]; rfl
  have w1 := wrapb (m / 256)
  have w2 := wrapb m
  have w3 := wrapb p.length
  have w4 := wrapb ctx.length
  have hB : infoB label ctx m = [UInt8.ofNat (m / 256), UInt8.ofNat m, UInt8.ofNat p.length] ++ p ++ [UInt8.ofNat ctx.length] ++ ctx := by rw [infoB, hpl, hp]
  rw [hB]
  generalize UInt8.ofNat (m / 256) = b1 at *
  generalize UInt8.ofNat m = b2 at *
  generalize UInt8.ofNat p.length = b3 at *
  generalize UInt8.ofNat ctx.length = b4 at *
  refine fn_H ([Go.ResultVar.tmp 6, Go.ResultVar.tmp 7]) Tryz.func90 rfl rfl (by decide) fun ph hW Q hQ => ?_
  simp only [start, List.length_cons, List.length_nil, List.cons_append, List.nil_append, Nat.reduceAdd, Nat.reduceSub, List.replicate_succ, List.replicate_zero, Tryz.ntmps90]
  have t1 := ty_none hW 1
  have t3 := ty_none hW 3
  have ea : bytesPV ([b1, b2, b3] ++ p ++ [b4] ++ ctx) = .int .u8 b1.toNat :: .int .u8 b2.toNat :: .int .u8 b3.toNat :: ((bytesPV p ++ [.int .u8 b4.toNat]) ++ bytesPV ctx) := by simp [bytesPV]
  have hbo : bytesOf (List.take (3 + p.length + 1 + ctx.length) (.int .u8 b1.toNat :: .int .u8 b2.toNat :: .int .u8 b3.toNat :: ((bytesPV p ++ [.int .u8 b4.toNat]) ++ bytesPV ctx))) = some ([b1, b2, b3] ++ p ++ [b4] ++ ctx) := by
    rw [← ea, List.take_of_length_le (by rw [bytesPV_len]; simp; omega), bytesOf_bytesPV]
  have hco : (bytesPV p ++ [PV.int .u8 (b4.toNat : Int)]).all cellOk = true := by rw [List.all_append, bytesPV_cok]; rfl
  repeat' first | simp -implicitDefEqProofs (maxSteps := 400000) (disch := first | with_reducible rfl | omega | (simp only [wkH] <;> omega) | decide) only [wkAll, wkL, popO, wantedP, ne_eq, Nat.reduceAdd, Nat.reduceLeDiff, Nat.reduceLT, reduceCtorEq, Int.reduceLE, binP, convP, lenP, builtinP, appendT, appendS, appendP, srcP, buildSliceP, fillP, setL, gt_iff_lt, Nat.reducePow, reps, seg, wkN, if_pos, if_neg, tf3, tf5, Tryz.ze5, tf9, tf92, h1, ge_iff_le, h2, hp', h3', h4', e1, w1, w2, w3, w4, -appendT, appT_some, t3, bytesPV_cok, hco, hbo] | refine w_dec (fun _ => ?_) (fun _ => ?_) | refine w_eqc (fun _ => ?_) (fun _ => ?_) | refine w_neqc (fun _ => ?_) (fun _ => ?_) | refine w_nneqc (fun _ => ?_) (fun _ => ?_) | ((first | refine w_split (fun h => ?_) (fun h => ?_) | refine d_split (fun h => ?_) (fun h => ?_) | refine w_csplit (fun h => ?_) (fun h => ?_)) <;> (try simp only [wkS] at h) <;> (have h2 := h) <;> (try simp only [wkT, ne_eq] at h2) <;> (try simp only [h]))
  refine hQ (by first | exact .inr rfl | exact .inl rfl) (by first | exact trivial | exact marks1) (by first | (simp -implicitDefEqProofs (maxSteps := 400000) (disch := first | with_reducible rfl | omega | (simp only [wkH] <;> omega) | decide) only [wkL, resP, resPs, resP1]; rfl) | rfl) ⟨6, by repeat' first | exact frz_scalar rfl | apply frz_tuple | apply frz_agg | apply frz_fsl | apply frz_gsl (by omega) | exact frzs_nil | apply frzs_cons⟩ (by first | exact keepsH0 | exact keeps1 (by assumption) | exact keepsH (fun _ _ h => h) (fun p hp => by simp only [upF]; (repeat rw [if_neg (by omega)])) | exact keeps1t (by assumption) (fun p hp => by simp only [upF]; (repeat rw [if_neg (by omega)])) | (subst hT; exact keepsH (fun _ _ h => h) fun _ _ => rfl)) (nw_eq ?_)
  rfl

theorem refInfo_ok (label ctx : List UInt8) (n : Int) (hl : label.length < 2 ^ 48) (hc : ctx.length < 2 ^ 48) : Fn (Cx w0) 83 [.str label, .str ctx, .int .i64 n] (.tuple [.str (infoL label ctx n).1, .int .i64 (infoL label ctx n).2]) := by
  by_cases h1 : n < 0
  · rw [infoL, if_pos (.inl h1)]
    refine fn_H ([Go.ResultVar.tmp 6, Go.ResultVar.tmp 7]) Tryz.func83 rfl rfl (by decide) fun ph hW Q hQ => ?_
    simp only [start, List.length_cons, List.length_nil, List.cons_append, List.nil_append, Nat.reduceAdd, Nat.reduceSub, List.replicate_succ, List.replicate_zero, Tryz.ntmps83]
    repeat' first | simp -implicitDefEqProofs (maxSteps := 400000) (disch := first | with_reducible rfl | omega | (simp only [wkH] <;> omega) | decide) only [wkAll, wkL, popO, wantedP, binP, if_pos, h1] | refine w_dec (fun _ => ?_) (fun _ => ?_) | refine w_eqc (fun _ => ?_) (fun _ => ?_) | refine w_neqc (fun _ => ?_) (fun _ => ?_) | refine w_nneqc (fun _ => ?_) (fun _ => ?_) | ((first | refine w_split (fun h => ?_) (fun h => ?_) | refine d_split (fun h => ?_) (fun h => ?_) | refine w_csplit (fun h => ?_) (fun h => ?_)) <;> (try simp only [wkS] at h) <;> (have h2 := h) <;> (try simp only [wkT, ne_eq] at h2) <;> (try simp only [h]))
    refine hQ (by first | exact .inr rfl | exact .inl rfl) (by first | exact trivial | exact marks1) (by first | (simp -implicitDefEqProofs (maxSteps := 400000) (disch := first | with_reducible rfl | omega | (simp only [wkH] <;> omega) | decide) only [wkL, resP, resPs, resP1]; rfl) | rfl) ⟨6, by repeat' first | exact frz_scalar rfl | apply frz_tuple | apply frz_agg | apply frz_fsl | apply frz_gsl (by omega) | exact frzs_nil | apply frzs_cons⟩ (by first | exact keepsH0 | exact keeps1 (by assumption) | exact keepsH (fun _ _ h => h) (fun p hp => by simp only [upF]; (repeat rw [if_neg (by omega)])) | exact keeps1t (by assumption) (fun p hp => by simp only [upF]; (repeat rw [if_neg (by omega)])) | (subst hT; exact keepsH (fun _ _ h => h) fun _ _ => rfl)) (nw_eq ?_)
    rfl
  by_cases h2 : 65535 < n
  · rw [infoL, if_pos (.inr (by omega))]
    refine fn_H ([Go.ResultVar.tmp 6, Go.ResultVar.tmp 7]) Tryz.func83 rfl rfl (by decide) fun ph hW Q hQ => ?_
    simp only [start, List.length_cons, List.length_nil, List.cons_append, List.nil_append, Nat.reduceAdd, Nat.reduceSub, List.replicate_succ, List.replicate_zero, Tryz.ntmps83]
    repeat' first | simp -implicitDefEqProofs (maxSteps := 400000) (disch := first | with_reducible rfl | omega | (simp only [wkH] <;> omega) | decide) only [wkAll, wkL, popO, wantedP, binP, gt_iff_lt, if_pos, if_neg, h1, h2] | refine w_dec (fun _ => ?_) (fun _ => ?_) | refine w_eqc (fun _ => ?_) (fun _ => ?_) | refine w_neqc (fun _ => ?_) (fun _ => ?_) | refine w_nneqc (fun _ => ?_) (fun _ => ?_) | ((first | refine w_split (fun h => ?_) (fun h => ?_) | refine d_split (fun h => ?_) (fun h => ?_) | refine w_csplit (fun h => ?_) (fun h => ?_)) <;> (try simp only [wkS] at h) <;> (have h2 := h) <;> (try simp only [wkT, ne_eq] at h2) <;> (try simp only [h]))
    refine hQ (by first | exact .inr rfl | exact .inl rfl) (by first | exact trivial | exact marks1) (by first | (simp -implicitDefEqProofs (maxSteps := 400000) (disch := first | with_reducible rfl | omega | (simp only [wkH] <;> omega) | decide) only [wkL, resP, resPs, resP1]; rfl) | rfl) ⟨6, by repeat' first | exact frz_scalar rfl | apply frz_tuple | apply frz_agg | apply frz_fsl | apply frz_gsl (by omega) | exact frzs_nil | apply frzs_cons⟩ (by first | exact keepsH0 | exact keeps1 (by assumption) | exact keepsH (fun _ _ h => h) (fun p hp => by simp only [upF]; (repeat rw [if_neg (by omega)])) | exact keeps1t (by assumption) (fun p hp => by simp only [upF]; (repeat rw [if_neg (by omega)])) | (subst hT; exact keepsH (fun _ _ h => h) fun _ _ => rfl)) (nw_eq ?_)
    rfl
  obtain ⟨m, rfl⟩ : ∃ m : Nat, n = (m : Int) := ⟨n.toNat, by omega⟩
  by_cases h3 : 249 < label.length
  · rw [infoL, if_neg (by omega), if_pos (.inl h3)]
    have h3' : (249 : Int) < (label.length : Int) := by omega
    refine fn_H ([Go.ResultVar.tmp 6, Go.ResultVar.tmp 7]) Tryz.func83 rfl rfl (by decide) fun ph hW Q hQ => ?_
    simp only [start, List.length_cons, List.length_nil, List.cons_append, List.nil_append, Nat.reduceAdd, Nat.reduceSub, List.replicate_succ, List.replicate_zero, Tryz.ntmps83]
    repeat' first | simp -implicitDefEqProofs (maxSteps := 400000) (disch := first | with_reducible rfl | omega | (simp only [wkH] <;> omega) | decide) only [wkAll, wkL, popO, wantedP, binP, lenP, builtinP, gt_iff_lt, if_pos, if_neg, tf9, h1, h2, h3'] | refine w_dec (fun _ => ?_) (fun _ => ?_) | refine w_eqc (fun _ => ?_) (fun _ => ?_) | refine w_neqc (fun _ => ?_) (fun _ => ?_) | refine w_nneqc (fun _ => ?_) (fun _ => ?_) | ((first | refine w_split (fun h => ?_) (fun h => ?_) | refine d_split (fun h => ?_) (fun h => ?_) | refine w_csplit (fun h => ?_) (fun h => ?_)) <;> (try simp only [wkS] at h) <;> (have h2 := h) <;> (try simp only [wkT, ne_eq] at h2) <;> (try simp only [h]))
    refine hQ (by first | exact .inr rfl | exact .inl rfl) (by first | exact trivial | exact marks1) (by first | (simp -implicitDefEqProofs (maxSteps := 400000) (disch := first | with_reducible rfl | omega | (simp only [wkH] <;> omega) | decide) only [wkL, resP, resPs, resP1]; rfl) | rfl) ⟨6, by repeat' first | exact frz_scalar rfl | apply frz_tuple | apply frz_agg | apply frz_fsl | apply frz_gsl (by omega) | exact frzs_nil | apply frzs_cons⟩ (by first | exact keepsH0 | exact keeps1 (by assumption) | exact keepsH (fun _ _ h => h) (fun p hp => by simp only [upF]; (repeat rw [if_neg (by omega)])) | exact keeps1t (by assumption) (fun p hp => by simp only [upF]; (repeat rw [if_neg (by omega)])) | (subst hT; exact keepsH (fun _ _ h => h) fun _ _ => rfl)) (nw_eq ?_)
    rfl
  have h3' : ¬ (249 : Int) < (label.length : Int) := by omega
  by_cases h4 : 255 < ctx.length
  · rw [infoL, if_neg (by omega), if_pos (.inr h4)]
    have h4' : (255 : Int) < (ctx.length : Int) := by omega
    refine fn_H ([Go.ResultVar.tmp 6, Go.ResultVar.tmp 7]) Tryz.func83 rfl rfl (by decide) fun ph hW Q hQ => ?_
    simp only [start, List.length_cons, List.length_nil, List.cons_append, List.nil_append, Nat.reduceAdd, Nat.reduceSub, List.replicate_succ, List.replicate_zero, Tryz.ntmps83]
    repeat' first | simp -implicitDefEqProofs (maxSteps := 400000) (disch := first | with_reducible rfl | omega | (simp only [wkH] <;> omega) | decide) only [wkAll, wkL, popO, wantedP, binP, lenP, builtinP, gt_iff_lt, if_pos, if_neg, tf9, h1, h2, h3', h4'] | refine w_dec (fun _ => ?_) (fun _ => ?_) | refine w_eqc (fun _ => ?_) (fun _ => ?_) | refine w_neqc (fun _ => ?_) (fun _ => ?_) | refine w_nneqc (fun _ => ?_) (fun _ => ?_) | ((first | refine w_split (fun h => ?_) (fun h => ?_) | refine d_split (fun h => ?_) (fun h => ?_) | refine w_csplit (fun h => ?_) (fun h => ?_)) <;> (try simp only [wkS] at h) <;> (have h2 := h) <;> (try simp only [wkT, ne_eq] at h2) <;> (try simp only [h]))
    refine hQ (by first | exact .inr rfl | exact .inl rfl) (by first | exact trivial | exact marks1) (by first | (simp -implicitDefEqProofs (maxSteps := 400000) (disch := first | with_reducible rfl | omega | (simp only [wkH] <;> omega) | decide) only [wkL, resP, resPs, resP1]; rfl) | rfl) ⟨6, by repeat' first | exact frz_scalar rfl | apply frz_tuple | apply frz_agg | apply frz_fsl | apply frz_gsl (by omega) | exact frzs_nil | apply frzs_cons⟩ (by first | exact keepsH0 | exact keeps1 (by assumption) | exact keepsH (fun _ _ h => h) (fun p hp => by simp only [upF]; (repeat rw [if_neg (by omega)])) | exact keeps1t (by assumption) (fun p hp => by simp only [upF]; (repeat rw [if_neg (by omega)])) | (subst hT; exact keepsH (fun _ _ h => h) fun _ _ => rfl)) (nw_eq ?_)
    rfl
  have h4' : ¬ (255 : Int) < (ctx.length : Int) := by omega
  rw [infoL, if_neg (by omega), if_neg (by omega), Int.toNat_natCast]
  have e1 : Int.tdiv (m : Int) 256 = ((m / 256 : Nat) : Int) := by rw [Int.tdiv_eq_ediv_of_nonneg (by omega)]; rfl
  have e2 : Int.tmod (m : Int) 256 = ((m % 256 : Nat) : Int) := by rw [Int.tmod_eq_emod_of_nonneg (by omega)]; rfl
  have e3 : (label.length : Int) + 6 = ((label.length + 6 : Nat) : Int) := by omega
  have w1 := wrapb (m / 256)
  have w2 : IntKind.wrap .u8 ((m % 256 : Nat) : Int) = ((UInt8.ofNat m).toNat : Int) := by
    rw [wrapb]; congr 2; apply UInt8.toNat_inj.1; rw [UInt8.toNat_ofNat', UInt8.toNat_ofNat']; omega
  have w3 := wrapb (label.length + 6)
  have w4 := wrapb ctx.length
  have hB : infoB label ctx m = [UInt8.ofNat (m / 256), UInt8.ofNat m, UInt8.ofNat (label.length + 6)] ++ tls13 ++ label ++ [UInt8.ofNat ctx.length] ++ ctx := by rw [infoB]; simp
  rw [hB]
  generalize UInt8.ofNat (m / 256) = b1 at *
  generalize UInt8.ofNat m = b2 at *
  generalize UInt8.ofNat (label.length + 6) = b3 at *
  generalize UInt8.ofNat ctx.length = b4 at *
  have hbx : ∀ b : UInt8, bytesX [PV.int .u8 (b.toNat : Int)] = some [b] := fun b => bytesX_bytesPV [b]
  have hbx3 : ∀ b c d : UInt8, bytesX [PV.int .u8 (b.toNat : Int), PV.int .u8 (c.toNat : Int), PV.int .u8 (d.toNat : Int)] = some [b, c, d] := fun b c d => bytesX_bytesPV [b, c, d]
  refine fn_H ([Go.ResultVar.tmp 6, Go.ResultVar.tmp 7]) Tryz.func83 rfl rfl (by decide) fun ph hW Q hQ => ?_
  simp only [start, List.length_cons, List.length_nil, List.cons_append, List.nil_append, Nat.reduceAdd, Nat.reduceSub, List.replicate_succ, List.replicate_zero, Tryz.ntmps83]
  repeat' first | simp -implicitDefEqProofs (maxSteps := 400000) (disch := first | with_reducible rfl | omega | (simp only [wkH] <;> omega) | decide) only [wkAll, wkL, popO, wantedP, ne_eq, Nat.reduceAdd, Nat.reduceLeDiff, Nat.reduceLT, Int.reduceEq, binP, convP, lenP, builtinP, buildSliceP, fillP, setL, gt_iff_lt, Nat.reducePow, reps, seg, wkN, if_pos, if_neg, tf3, tf5, Tryz.ze5, tf9, tf92, h1, h2, h3', h4', e1, e2, e3, w1, w2, w3, w4, UInt8.ofNat_toNat] | refine w_dec (fun _ => ?_) (fun _ => ?_) | refine w_eqc (fun _ => ?_) (fun _ => ?_) | refine w_neqc (fun _ => ?_) (fun _ => ?_) | refine w_nneqc (fun _ => ?_) (fun _ => ?_) | ((first | refine w_split (fun h => ?_) (fun h => ?_) | refine d_split (fun h => ?_) (fun h => ?_) | refine w_csplit (fun h => ?_) (fun h => ?_)) <;> (try simp only [wkS] at h) <;> (have h2 := h) <;> (try simp only [wkT, ne_eq] at h2) <;> (try simp only [h]))
  refine hQ (by first | exact .inr rfl | exact .inl rfl) (by first | exact trivial | exact marks1) (by first | (simp -implicitDefEqProofs (maxSteps := 400000) (disch := first | with_reducible rfl | omega | (simp only [wkH] <;> omega) | decide) only [wkL, resP, resPs, resP1]; rfl) | rfl) ⟨6, by repeat' first | exact frz_scalar rfl | apply frz_tuple | apply frz_agg | apply frz_fsl | apply frz_gsl (by omega) | exact frzs_nil | apply frzs_cons⟩ (by first | exact keepsH0 | exact keeps1 (by assumption) | exact keepsH (fun _ _ h => h) (fun p hp => by simp only [upF]; (repeat rw [if_neg (by omega)])) | exact keeps1t (by assumption) (fun p hp => by simp only [upF]; (repeat rw [if_neg (by omega)])) | (subst hT; exact keepsH (fun _ _ h => h) fun _ _ => rfl)) (nw_eq ?_)
  simp [tls13]
end Pv
