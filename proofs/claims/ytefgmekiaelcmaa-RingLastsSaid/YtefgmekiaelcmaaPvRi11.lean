/- Part of the proof: the layer of pure values, or walks through functions (PvRi11). -/
import Derived.Test.YtefgmekiaelcmaaPvRi10
set_option linter.all false
namespace Pv
set_option maxRecDepth 20000
set_option maxHeartbeats 4000000
open Go Go.Proofs Go.RowKit
def tb49_3Ri11 : Tab := [[], [], [], [1, 2], [1, 2, 3], [0, 1, 2, 3, 4], [0, 1, 2, 3, 4, 5]]
def pl49_3Ri11 : Plan := [(0, true, []), (1, true, []), (2, true, []), (3, true, []), (4, true, []), (5, true, []), (6, false, [])]
def tb9_10Ri11 : Tab := [[], [0], [], [2], [2, 3], [], [5], [5, 6], [5, 6, 7], [5, 6, 7, 8], [2, 3, 4, 5, 6, 7, 8, 9], [2, 3, 4, 5, 6, 7, 8, 9, 10], [0, 1, 2, 3, 4, 5, 6, 7, 8, 9, 10, 11], [0, 1, 2, 3, 4, 5, 6, 7, 8, 9, 10, 11, 12], [0, 1, 2, 3, 4, 5, 6, 7, 8, 9, 10, 11, 12, 13]]
def pl9_10Ri11 : Plan := [(0, true, []), (1, true, []), (2, true, []), (3, true, []), (4, true, []), (5, true, []), (6, true, []), (7, true, []), (8, false, [0, 1, 2, 3, 4]), (9, true, []), (10, true, []), (11, false, [0, 1]), (12, false, []), (13, true, []), (14, false, [])]
def tb9_5Ri11 : Tab := [[], [0], [0, 1], [0, 1, 2], [0, 1, 2, 3], [0, 1, 2, 3, 4], [0, 1, 2, 3, 4, 5], [0, 1, 2, 3, 4, 5, 6], [0, 1, 2, 3, 4, 5, 6, 7], [0, 1, 2, 3, 4, 5, 6], [0, 1, 2, 3, 4, 5, 6, 9], [0, 1, 2, 3, 4, 5, 6, 7, 8, 9, 10], [0, 1, 2, 3, 4, 5, 6, 7, 8, 9, 10, 11], [0, 1, 2, 3, 4, 5, 6, 7, 8, 9, 10, 11, 12], [0, 1, 2, 3, 4, 5, 6, 7, 8, 9, 10, 11, 12, 13], [0, 1, 2, 3, 4, 5, 6, 7, 8, 9, 10, 11, 12, 13], [0, 1, 2, 3, 4, 5, 6, 7, 8, 9, 10, 11, 12, 13, 14, 15], [0, 1, 2, 3, 4, 5, 6, 7, 8, 9, 10, 11, 12, 13, 14, 15, 16], [0, 1, 2, 3, 4, 5, 6, 7, 8, 9, 10, 11, 12, 13], [0, 1, 2, 3, 4, 5, 6, 7, 8, 9, 10, 11, 12, 13], [0, 1, 2, 3, 4, 5, 6, 7, 8, 9, 10, 11, 12, 13, 18, 19], [0, 1, 2, 3, 4, 5, 6, 7, 8, 9, 10, 11, 12, 13, 14, 15, 16, 17, 18, 19, 20], [0, 1, 2, 3, 4, 5, 6, 7, 8, 9, 10, 11, 12, 13, 14, 15, 16, 17, 18, 19, 20, 21]]
def pl9_5Ri11 : Plan := [(0, true, []), (1, true, []), (2, true, []), (3, true, []), (4, true, []), (5, true, []), (6, true, []), (7, true, []), (8, true, []), (9, true, []), (10, true, []), (11, true, []), (12, true, []), (13, true, []), (14, true, []), (15, true, []), (16, true, []), (18, true, []), (19, true, []), (20, true, []), (17, false, [18, 19, 20]), (21, true, []), (22, true, [])]
variable {w0 : World}

/-- The row of the ring that is read. -/
def rowV (p i : Nat) : PV := match i with | 0 => .nilsl | i + 1 => .sl (p + (6 + 2 * i)) 0 3 (i + 1) none
structure DInv24 (p : Nat) (S : List UInt8) (nx : UInt32) (n i : Nat) (l : List (Option Blk)) : Prop where
  len : l.length = 5 + 2 * i
  a0 : l[0]? = some (some (.own [.nilsl, .int .u32 0]))
  a1 : l[1]? = some (some (.own [rowV p i, .int .u32 (nx.toNat : Int)]))
  a2 : l[2]? = some (some (.own (bytesPV S)))
  a3 : l[3]? = some (some (.own [.sl (p + 2) 0 1 (40 * n) none]))
  a4 : l[4]? = some (some (.own [.int .i64 40]))
  row : ∀ j, i = j + 1 → l[6 + 2 * j]? = some (some (.own (rksC (rawL S i))))
  sc : ∀ x ∈ l, ∀ c, x = some (Blk.own c) → Scs (p + l.length) c
theorem DInv24.step {p : Nat} {S : List UInt8} {nx : UInt32} {n i : Nat} {B B' : List (Option Blk)} (h : DInv24 p S nx n i B) (hl : B'.length = 7 + 2 * i) (hm : ∀ m, m < 5 → m ≠ 1 → B'[m]? = B[m]?) (h1 : B'[1]? = some (some (.own [.sl (p + (6 + 2 * i)) 0 3 (i + 1) none, .int .u32 (nx.toNat : Int)])))
    (hr : B'[6 + 2 * i]? = some (some (.own (rksC (rawL S (i + 1)))))) (hs : ∀ x ∈ B', ∀ c, x = some (Blk.own c) → (x ∈ B ∨ Scs (p + B'.length) c)) : DInv24 p S nx n (i + 1) B' where
  len := by omega
  a0 := by rw [hm 0 (by omega) (by omega)]; exact h.a0
  a1 := h1
  a2 := by rw [hm 2 (by omega) (by omega)]; exact h.a2
  a3 := by rw [hm 3 (by omega) (by omega)]; exact h.a3
  a4 := by rw [hm 4 (by omega) (by omega)]; exact h.a4
  row := fun j hj => by obtain rfl : i = j := by omega
                        exact hr
  sc := fun x hx c hc => by
    rcases hs x hx c hc with h2 | h2
    · exact Scs.mono (by have := h.len; omega) (h.sc x h2 c hc)
    · exact h2
theorem DInv24.first {p : Nat} {S : List UInt8} {nx : UInt32} {n i : Nat} {B : List (Option Blk)} (A R : List PV) (h : DInv24 p S nx n i B) (hi : i = 0) (hA : A.all scalarV = true) (hR : R = rksC (rawL S (i + 1))) :
    DInv24 p S nx n (i + 1) ((B ++ [some (Blk.own A)] ++ [some (Blk.own R)]).set 1 (some (Blk.own [.sl (p + (6 + 2 * i)) 0 3 1 none, .int .u32 (nx.toNat : Int)]))) := by
  have hl := h.len
  refine h.step (by simp; omega) (fun m h1 h2 => ?_) ?_ ?_ ?_
  · rw [List.getElem?_set, if_neg (Ne.symm h2), List.append_assoc, List.getElem?_append_left (by omega)]
  · rw [List.getElem?_set, if_pos rfl, if_pos (by simp <;> omega), hi]
  · rw [List.getElem?_set, if_neg (by omega), List.getElem?_append_right (by simp; omega)]
    rw [show 6 + 2 * i - (B ++ [some (Blk.own A)]).length = 0 by simp; omega, hR]; try rfl
  · intro x hx c hc
    rcases List.mem_or_eq_of_mem_set hx with h1 | h1
    · rw [List.append_assoc] at h1
      rcases List.mem_append.1 h1 with h1 | h1
      · exact .inl h1
      · right
        simp at h1
        rcases h1 with h1 | h1
        · rw [hc] at h1; cases h1; exact scs_scalars hA
        · rw [hc] at h1; cases h1; rw [hR]; exact scs_scalars (rksC_ok _)
    · right
      rw [hc] at h1; cases h1
      simp [scs_cons, scs_nil, sc_sl, sc_int]; omega
theorem DInv24.next {p : Nat} {S : List UInt8} {nx : UInt32} {n i j : Nat} {B : List (Option Blk)} (A R : List PV) (h : DInv24 p S nx n i B) (hi : i = j + 1) (hA : A.all scalarV = true) (hR : R = rksC (rawL S (i + 1))) :
    DInv24 p S nx n (i + 1) (((B ++ [some (Blk.own A)]).set (6 + 2 * j) none ++ [some (Blk.own R)]).set 1 (some (Blk.own [.sl (p + (6 + 2 * i)) 0 3 (i + 1) none, .int .u32 (nx.toNat : Int)]))) := by
  have hl := h.len
  refine h.step (by simp; omega) (fun m h1 h2 => ?_) ?_ ?_ ?_
  · rw [List.getElem?_set, if_neg (Ne.symm h2), List.getElem?_append_left (by simp; omega), List.getElem?_set, if_neg (by omega), List.getElem?_append_left (by omega)]
  · rw [List.getElem?_set, if_pos rfl, if_pos (by simp <;> omega)]
  · rw [List.getElem?_set, if_neg (by omega), List.getElem?_append_right (by simp; omega)]
    rw [show 6 + 2 * i - ((B ++ [some (Blk.own A)]).set (6 + 2 * j) none).length = 0 by simp; omega, hR]; try rfl
  · intro x hx c hc
    rcases List.mem_or_eq_of_mem_set hx with h1 | h1
    · rcases List.mem_append.1 h1 with h1 | h1
      · rcases List.mem_or_eq_of_mem_set h1 with h1 | h1
        · rcases List.mem_append.1 h1 with h1 | h1
          · exact .inl h1
          · right; simp at h1; rw [hc] at h1; cases h1; exact scs_scalars hA
        · rw [hc] at h1; cases h1
      · right; simp at h1; rw [hc] at h1; cases h1; rw [hR]; exact scs_scalars (rksC_ok _)
    · right
      rw [hc] at h1; cases h1
      simp [scs_cons, scs_nil, sc_sl, sc_int]; omega
theorem HTo.d24 {b : PH} {S : List UInt8} {nx : UInt32} {n i : Nat} {B : List (Option Blk)} {r l : Nat} {L : PLoop} {ob' : Nat → Option PObj} {st tm : List PV} {ph' : PH} (hW : WF b) (hD : DInv24 b.n S nx n i B) (h : FadeTo tm st) (e : ph' = H b B ob' b.ty) (h1 : Scs (b.n + 5) st)
    (ho : ∀ k o, upF (upF b.ob r (some .defd)) l (some (.loop L)) k = some o → ob' k = some o) (hL : Scs (b.n + 5) L.tmps) : HTo b B (upF (upF b.ob r (some .defd)) l (some (.loop L))) b.ty st tm ph' :=
  .cut0 hW h e (Scs.mono (by have := hD.len; omega) h1) hD.sc ho (h3 := .inr (obsc2 hW (by omega) (Scs.mono (by have := hD.len; omega) hL)))
theorem set_same {α : Type} {l : List α} {k : Nat} {x : α} (h : l[k]? = some x) : l.set k x = l := by
  obtain ⟨hk, rfl⟩ := List.getElem?_eq_some_iff.1 h
  exact List.set_getElem_self hk
theorem bytes_td (S : List UInt8) (a m : Nat) : (List.drop a (bytesPV S)).take m = bytesPV ((S.drop a).take m) := seg_bytes S a m
theorem dec24_ok (s : List UInt8) (hs : s.length < 2 ^ 44) : Fn (Cx w0) 9 [.str s] (.tuple [.agg (rgC (decG s).1.1 (decG s).1.2), .int .i64 (decG s).2]) := by
  by_cases h5 : s.length < 5
  · have q : (s.length : Int) < 5 := by omega
    rw [dec_short h5]
    refine fn_H ([Go.ResultVar.cell 2 25, Go.ResultVar.tmp 3]) Try.func9 rfl rfl (by decide) fun ph hW Q hQ => ?_
    simp only [start, List.length_cons, List.length_nil, List.cons_append, List.nil_append, Nat.reduceAdd, Nat.reduceSub, List.replicate_succ, List.replicate_zero, Try.ntmps9]
    repeat' first
      | simp -implicitDefEqProofs (maxSteps := 400000) (disch := first | with_reducible rfl | omega | (simp only [h_n, PH.n_push, PH.n_put, List.length_cons, List.length_nil] <;> omega) | decide) only [wkAll, wkL, popO, wantedP, if_true, if_false, reduceIte, ne_eq, Nat.reduceAdd, Nat.reduceSub, Nat.reduceMul, Nat.reduceLeDiff, Nat.reduceLT, ofCells, ofCell, reduceCtorEq, Int.reduceLE, Int.reduceLT, Int.reduceToNat, Int.reduceAdd, Int.reduceSub, Int.reduceMul, Int.reduceNeg, Int.reduceBEq, Int.reduceBNe, Int.reduceEq, eqCell, eqCells, binP, unP, convP, lenP, builtinP, sliceDataP, unsafeStringP, appendT, appendS, appendP, copyP, srcP, mmsP, mmP, indexOp, indexAddrOp, sliceOp, bndsP, bndP, capw, capCut, loadOp, storeOp, loadP, fieldOp, fieldAddrOp, arrayAtOp, buildP, buildSliceP, makeSliceP, placeF, fillP, setL, PK.agg, isZero, gt_iff_lt, Nat.reducePow, Nat.reduceGT, reps, seg, wkN, if_pos, if_neg, tf2, Try.ze2, tf3, Try.ze3, tf4, Try.ze4, tf5, Try.ze5, tf9, Try.ze9, tf22, Try.ze22, tf23, Try.ze23, tf25, Try.ze25, tf44, Try.ze44, tf52, Try.ze52, tf59, Try.ze59, pl9_5Ri11, pl9_10Ri11, q]
      | refine w_dec (fun _ => ?_) (fun _ => ?_)
      | refine w_eqc (fun _ => ?_) (fun _ => ?_)
      | refine w_neqc (fun _ => ?_) (fun _ => ?_)
      | refine w_nneqc (fun _ => ?_) (fun _ => ?_)
      | ((first | refine w_split (fun h => ?_) (fun h => ?_) | refine d_split (fun h => ?_) (fun h => ?_) | refine w_csplit (fun h => ?_) (fun h => ?_)) <;> (try simp only [wkS] at h) <;> (have h2 := h) <;> (try simp only [wkT, ne_eq] at h2) <;> (try simp only [h]))
      | refine w_drawnF (id := 5) tb9_5Ri11 pl9_5Ri11 42 (by kernel_rfl) (by kernel_rfl) (by simp) ?_
      | refine w_drawnF (id := 10) tb9_10Ri11 pl9_10Ri11 68 (by kernel_rfl) (by kernel_rfl) (by simp) ?_
    refine hQ (by first | exact .inr rfl | exact .inl rfl) (by first | exact trivial | exact marks1) (by first | (simp -implicitDefEqProofs (maxSteps := 400000) (disch := first | with_reducible rfl | omega | (simp only [h_n, PH.n_push, PH.n_put, List.length_cons, List.length_nil] <;> omega) | decide) only [wkAll, wkL, popO, wantedP, if_true, if_false, reduceIte, ne_eq, Nat.reduceAdd, Nat.reduceSub, Nat.reduceMul, Nat.reduceLeDiff, Nat.reduceLT, ofCells, ofCell, reduceCtorEq, Int.reduceLE, Int.reduceLT, Int.reduceToNat, Int.reduceAdd, Int.reduceSub, Int.reduceMul, Int.reduceNeg, Int.reduceBEq, Int.reduceBNe, Int.reduceEq, eqCell, eqCells, binP, unP, convP, lenP, builtinP, sliceDataP, unsafeStringP, appendT, appendS, appendP, copyP, srcP, mmsP, mmP, indexOp, indexAddrOp, sliceOp, bndsP, bndP, capw, capCut, loadOp, storeOp, loadP, fieldOp, fieldAddrOp, arrayAtOp, buildP, buildSliceP, makeSliceP, placeF, fillP, setL, PK.agg, isZero, gt_iff_lt, Nat.reducePow, Nat.reduceGT, reps, seg, wkN, if_pos, if_neg, tf2, Try.ze2, tf3, Try.ze3, tf4, Try.ze4, tf5, Try.ze5, tf9, Try.ze9, tf22, Try.ze22, tf23, Try.ze23, tf25, Try.ze25, tf44, Try.ze44, tf52, Try.ze52, tf59, Try.ze59, pl9_5Ri11, pl9_10Ri11, resP, resPs, resP1]; rfl) | rfl) ⟨6, by repeat' first | exact frz_scalar rfl | apply frz_tuple | apply frz_agg | apply frz_fsl | apply frz_gsl (by omega) | exact frzs_nil | apply frzs_cons⟩ (by first | exact keepsH0 | exact keeps1 (by assumption) | exact keepsH (fun _ _ h => h) (fun p hp => by simp only [upF]; (repeat rw [if_neg (by omega)])) | exact keeps1t (by assumption) (fun p hp => by simp only [upF]; (repeat rw [if_neg (by omega)])) | (subst hT; exact keepsH (fun _ _ h => h) fun _ _ => rfl)) ?_
    repeat' first | exact nw_nil | exact nw_zsl | apply nw_tuple | apply nw_agg | exact nws_nil | apply nws_cons | exact nw_eq rfl | apply nw_eq
  have q : ¬ (s.length : Int) < 5 := by omega
  obtain ⟨b, hb⟩ := getR (show 4 < s.length by omega)
  have hbl := b.toNat_lt
  obtain ⟨n, hn⟩ : ∃ n, n = b.toNat := ⟨_, rfl⟩
  simp only [decG, hb]
  rw [← hn] at hbl ⊢
  by_cases hf : n < 1 ∨ 8 < n ∨ s.length ≠ 37 + 40 * n
  · rw [if_pos hf]
    by_cases n1 : n < 1
    · have q1 : (n : Int) < 1 := by omega
      refine fn_H ([Go.ResultVar.cell 2 25, Go.ResultVar.tmp 3]) Try.func9 rfl rfl (by decide) fun ph hW Q hQ => ?_
      simp only [start, List.length_cons, List.length_nil, List.cons_append, List.nil_append, Nat.reduceAdd, Nat.reduceSub, List.replicate_succ, List.replicate_zero, Try.ntmps9]
      repeat' first
        | simp -implicitDefEqProofs (maxSteps := 400000) (disch := first | with_reducible rfl | omega | (simp only [h_n, PH.n_push, PH.n_put, List.length_cons, List.length_nil] <;> omega) | decide) only [wkAll, wkL, popO, wantedP, if_true, if_false, reduceIte, ne_eq, Nat.reduceAdd, Nat.reduceSub, Nat.reduceMul, Nat.reduceLeDiff, Nat.reduceLT, ofCells, ofCell, reduceCtorEq, Int.reduceLE, Int.reduceLT, Int.reduceToNat, Int.reduceAdd, Int.reduceSub, Int.reduceMul, Int.reduceNeg, Int.reduceBEq, Int.reduceBNe, Int.reduceEq, eqCell, eqCells, binP, unP, convP, lenP, builtinP, sliceDataP, unsafeStringP, appendT, appendS, appendP, copyP, srcP, mmsP, mmP, indexOp, indexAddrOp, sliceOp, bndsP, bndP, capw, capCut, loadOp, storeOp, loadP, fieldOp, fieldAddrOp, arrayAtOp, buildP, buildSliceP, makeSliceP, placeF, fillP, setL, PK.agg, isZero, gt_iff_lt, Nat.reducePow, Nat.reduceGT, reps, seg, wkN, if_pos, if_neg, tf2, Try.ze2, tf3, Try.ze3, tf4, Try.ze4, tf5, Try.ze5, tf9, Try.ze9, tf22, Try.ze22, tf23, Try.ze23, tf25, Try.ze25, tf44, Try.ze44, tf52, Try.ze52, tf59, Try.ze59, pl9_5Ri11, pl9_10Ri11, q, hb, ← hn, q1]
        | refine w_dec (fun _ => ?_) (fun _ => ?_)
        | refine w_eqc (fun _ => ?_) (fun _ => ?_)
        | refine w_neqc (fun _ => ?_) (fun _ => ?_)
        | refine w_nneqc (fun _ => ?_) (fun _ => ?_)
        | ((first | refine w_split (fun h => ?_) (fun h => ?_) | refine d_split (fun h => ?_) (fun h => ?_) | refine w_csplit (fun h => ?_) (fun h => ?_)) <;> (try simp only [wkS] at h) <;> (have h2 := h) <;> (try simp only [wkT, ne_eq] at h2) <;> (try simp only [h]))
        | refine w_drawnF (id := 5) tb9_5Ri11 pl9_5Ri11 42 (by kernel_rfl) (by kernel_rfl) (by simp) ?_
        | refine w_drawnF (id := 10) tb9_10Ri11 pl9_10Ri11 68 (by kernel_rfl) (by kernel_rfl) (by simp) ?_
      refine hQ (by first | exact .inr rfl | exact .inl rfl) (by first | exact trivial | exact marks1) (by first | (simp -implicitDefEqProofs (maxSteps := 400000) (disch := first | with_reducible rfl | omega | (simp only [h_n, PH.n_push, PH.n_put, List.length_cons, List.length_nil] <;> omega) | decide) only [wkAll, wkL, popO, wantedP, if_true, if_false, reduceIte, ne_eq, Nat.reduceAdd, Nat.reduceSub, Nat.reduceMul, Nat.reduceLeDiff, Nat.reduceLT, ofCells, ofCell, reduceCtorEq, Int.reduceLE, Int.reduceLT, Int.reduceToNat, Int.reduceAdd, Int.reduceSub, Int.reduceMul, Int.reduceNeg, Int.reduceBEq, Int.reduceBNe, Int.reduceEq, eqCell, eqCells, binP, unP, convP, lenP, builtinP, sliceDataP, unsafeStringP, appendT, appendS, appendP, copyP, srcP, mmsP, mmP, indexOp, indexAddrOp, sliceOp, bndsP, bndP, capw, capCut, loadOp, storeOp, loadP, fieldOp, fieldAddrOp, arrayAtOp, buildP, buildSliceP, makeSliceP, placeF, fillP, setL, PK.agg, isZero, gt_iff_lt, Nat.reducePow, Nat.reduceGT, reps, seg, wkN, if_pos, if_neg, tf2, Try.ze2, tf3, Try.ze3, tf4, Try.ze4, tf5, Try.ze5, tf9, Try.ze9, tf22, Try.ze22, tf23, Try.ze23, tf25, Try.ze25, tf44, Try.ze44, tf52, Try.ze52, tf59, Try.ze59, pl9_5Ri11, pl9_10Ri11, resP, resPs, resP1]; rfl) | rfl) ⟨6, by repeat' first | exact frz_scalar rfl | apply frz_tuple | apply frz_agg | apply frz_fsl | apply frz_gsl (by omega) | exact frzs_nil | apply frzs_cons⟩ (by first | exact keepsH0 | exact keeps1 (by assumption) | exact keepsH (fun _ _ h => h) (fun p hp => by simp only [upF]; (repeat rw [if_neg (by omega)])) | exact keeps1t (by assumption) (fun p hp => by simp only [upF]; (repeat rw [if_neg (by omega)])) | (subst hT; exact keepsH (fun _ _ h => h) fun _ _ => rfl)) ?_
      repeat' first | exact nw_nil | exact nw_zsl | apply nw_tuple | apply nw_agg | exact nws_nil | apply nws_cons | exact nw_eq rfl | apply nw_eq
    have q1 : ¬ (n : Int) < 1 := by omega
    by_cases n2 : 8 < n
    · have q2 : (8 : Int) < (n : Int) := by omega
      refine fn_H ([Go.ResultVar.cell 2 25, Go.ResultVar.tmp 3]) Try.func9 rfl rfl (by decide) fun ph hW Q hQ => ?_
      simp only [start, List.length_cons, List.length_nil, List.cons_append, List.nil_append, Nat.reduceAdd, Nat.reduceSub, List.replicate_succ, List.replicate_zero, Try.ntmps9]
      repeat' first
        | simp -implicitDefEqProofs (maxSteps := 400000) (disch := first | with_reducible rfl | omega | (simp only [h_n, PH.n_push, PH.n_put, List.length_cons, List.length_nil] <;> omega) | decide) only [wkAll, wkL, popO, wantedP, if_true, if_false, reduceIte, ne_eq, Nat.reduceAdd, Nat.reduceSub, Nat.reduceMul, Nat.reduceLeDiff, Nat.reduceLT, ofCells, ofCell, reduceCtorEq, Int.reduceLE, Int.reduceLT, Int.reduceToNat, Int.reduceAdd, Int.reduceSub, Int.reduceMul, Int.reduceNeg, Int.reduceBEq, Int.reduceBNe, Int.reduceEq, eqCell, eqCells, binP, unP, convP, lenP, builtinP, sliceDataP, unsafeStringP, appendT, appendS, appendP, copyP, srcP, mmsP, mmP, indexOp, indexAddrOp, sliceOp, bndsP, bndP, capw, capCut, loadOp, storeOp, loadP, fieldOp, fieldAddrOp, arrayAtOp, buildP, buildSliceP, makeSliceP, placeF, fillP, setL, PK.agg, isZero, gt_iff_lt, Nat.reducePow, Nat.reduceGT, reps, seg, wkN, if_pos, if_neg, tf2, Try.ze2, tf3, Try.ze3, tf4, Try.ze4, tf5, Try.ze5, tf9, Try.ze9, tf22, Try.ze22, tf23, Try.ze23, tf25, Try.ze25, tf44, Try.ze44, tf52, Try.ze52, tf59, Try.ze59, pl9_5Ri11, pl9_10Ri11, q, hb, ← hn, q1, q2, gt_iff_lt]
        | refine w_dec (fun _ => ?_) (fun _ => ?_)
        | refine w_eqc (fun _ => ?_) (fun _ => ?_)
        | refine w_neqc (fun _ => ?_) (fun _ => ?_)
        | refine w_nneqc (fun _ => ?_) (fun _ => ?_)
        | ((first | refine w_split (fun h => ?_) (fun h => ?_) | refine d_split (fun h => ?_) (fun h => ?_) | refine w_csplit (fun h => ?_) (fun h => ?_)) <;> (try simp only [wkS] at h) <;> (have h2 := h) <;> (try simp only [wkT, ne_eq] at h2) <;> (try simp only [h]))
        | refine w_drawnF (id := 5) tb9_5Ri11 pl9_5Ri11 42 (by kernel_rfl) (by kernel_rfl) (by simp) ?_
        | refine w_drawnF (id := 10) tb9_10Ri11 pl9_10Ri11 68 (by kernel_rfl) (by kernel_rfl) (by simp) ?_
      refine hQ (by first | exact .inr rfl | exact .inl rfl) (by first | exact trivial | exact marks1) (by first | (simp -implicitDefEqProofs (maxSteps := 400000) (disch := first | with_reducible rfl | omega | (simp only [h_n, PH.n_push, PH.n_put, List.length_cons, List.length_nil] <;> omega) | decide) only [wkAll, wkL, popO, wantedP, if_true, if_false, reduceIte, ne_eq, Nat.reduceAdd, Nat.reduceSub, Nat.reduceMul, Nat.reduceLeDiff, Nat.reduceLT, ofCells, ofCell, reduceCtorEq, Int.reduceLE, Int.reduceLT, Int.reduceToNat, Int.reduceAdd, Int.reduceSub, Int.reduceMul, Int.reduceNeg, Int.reduceBEq, Int.reduceBNe, Int.reduceEq, eqCell, eqCells, binP, unP, convP, lenP, builtinP, sliceDataP, unsafeStringP, appendT, appendS, appendP, copyP, srcP, mmsP, mmP, indexOp, indexAddrOp, sliceOp, bndsP, bndP, capw, capCut, loadOp, storeOp, loadP, fieldOp, fieldAddrOp, arrayAtOp, buildP, buildSliceP, makeSliceP, placeF, fillP, setL, PK.agg, isZero, gt_iff_lt, Nat.reducePow, Nat.reduceGT, reps, seg, wkN, if_pos, if_neg, tf2, Try.ze2, tf3, Try.ze3, tf4, Try.ze4, tf5, Try.ze5, tf9, Try.ze9, tf22, Try.ze22, tf23, Try.ze23, tf25, Try.ze25, tf44, Try.ze44, tf52, Try.ze52, tf59, Try.ze59, pl9_5Ri11, pl9_10Ri11, resP, resPs, resP1]; rfl) | rfl) ⟨6, by repeat' first | exact frz_scalar rfl | apply frz_tuple | apply frz_agg | apply frz_fsl | apply frz_gsl (by omega) | exact frzs_nil | apply frzs_cons⟩ (by first | exact keepsH0 | exact keeps1 (by assumption) | exact keepsH (fun _ _ h => h) (fun p hp => by simp only [upF]; (repeat rw [if_neg (by omega)])) | exact keeps1t (by assumption) (fun p hp => by simp only [upF]; (repeat rw [if_neg (by omega)])) | (subst hT; exact keepsH (fun _ _ h => h) fun _ _ => rfl)) ?_
      repeat' first | exact nw_nil | exact nw_zsl | apply nw_tuple | apply nw_agg | exact nws_nil | apply nws_cons | exact nw_eq rfl | apply nw_eq
    have q2 : ¬ (8 : Int) < (n : Int) := by omega
    have q3 : ((s.length : Int) != 5 + 40 * (n : Int) + 32) = true := by rw [bne_iff_ne]; omega
    refine fn_H ([Go.ResultVar.cell 2 25, Go.ResultVar.tmp 3]) Try.func9 rfl rfl (by decide) fun ph hW Q hQ => ?_
    simp only [start, List.length_cons, List.length_nil, List.cons_append, List.nil_append, Nat.reduceAdd, Nat.reduceSub, List.replicate_succ, List.replicate_zero, Try.ntmps9]
    repeat' first
      | simp -implicitDefEqProofs (maxSteps := 400000) (disch := first | with_reducible rfl | omega | (simp only [h_n, PH.n_push, PH.n_put, List.length_cons, List.length_nil] <;> omega) | decide) only [wkAll, wkL, popO, wantedP, if_true, if_false, reduceIte, ne_eq, Nat.reduceAdd, Nat.reduceSub, Nat.reduceMul, Nat.reduceLeDiff, Nat.reduceLT, ofCells, ofCell, reduceCtorEq, Int.reduceLE, Int.reduceLT, Int.reduceToNat, Int.reduceAdd, Int.reduceSub, Int.reduceMul, Int.reduceNeg, Int.reduceBEq, Int.reduceBNe, Int.reduceEq, eqCell, eqCells, binP, unP, convP, lenP, builtinP, sliceDataP, unsafeStringP, appendT, appendS, appendP, copyP, srcP, mmsP, mmP, indexOp, indexAddrOp, sliceOp, bndsP, bndP, capw, capCut, loadOp, storeOp, loadP, fieldOp, fieldAddrOp, arrayAtOp, buildP, buildSliceP, makeSliceP, placeF, fillP, setL, PK.agg, isZero, gt_iff_lt, Nat.reducePow, Nat.reduceGT, reps, seg, wkN, if_pos, if_neg, tf2, Try.ze2, tf3, Try.ze3, tf4, Try.ze4, tf5, Try.ze5, tf9, Try.ze9, tf22, Try.ze22, tf23, Try.ze23, tf25, Try.ze25, tf44, Try.ze44, tf52, Try.ze52, tf59, Try.ze59, pl9_5Ri11, pl9_10Ri11, q, hb, ← hn, q1, q2, gt_iff_lt, q3]
      | refine w_dec (fun _ => ?_) (fun _ => ?_)
      | refine w_eqc (fun _ => ?_) (fun _ => ?_)
      | refine w_neqc (fun _ => ?_) (fun _ => ?_)
      | refine w_nneqc (fun _ => ?_) (fun _ => ?_)
      | ((first | refine w_split (fun h => ?_) (fun h => ?_) | refine d_split (fun h => ?_) (fun h => ?_) | refine w_csplit (fun h => ?_) (fun h => ?_)) <;> (try simp only [wkS] at h) <;> (have h2 := h) <;> (try simp only [wkT, ne_eq] at h2) <;> (try simp only [h]))
      | refine w_drawnF (id := 5) tb9_5Ri11 pl9_5Ri11 42 (by kernel_rfl) (by kernel_rfl) (by simp) ?_
      | refine w_drawnF (id := 10) tb9_10Ri11 pl9_10Ri11 68 (by kernel_rfl) (by kernel_rfl) (by simp) ?_
    refine hQ (by first | exact .inr rfl | exact .inl rfl) (by first | exact trivial | exact marks1) (by first | (simp -implicitDefEqProofs (maxSteps := 400000) (disch := first | with_reducible rfl | omega | (simp only [h_n, PH.n_push, PH.n_put, List.length_cons, List.length_nil] <;> omega) | decide) only [wkAll, wkL, popO, wantedP, if_true, if_false, reduceIte, ne_eq, Nat.reduceAdd, Nat.reduceSub, Nat.reduceMul, Nat.reduceLeDiff, Nat.reduceLT, ofCells, ofCell, reduceCtorEq, Int.reduceLE, Int.reduceLT, Int.reduceToNat, Int.reduceAdd, Int.reduceSub, Int.reduceMul, Int.reduceNeg, Int.reduceBEq, Int.reduceBNe, Int.reduceEq, eqCell, eqCells, binP, unP, convP, lenP, builtinP, sliceDataP, unsafeStringP, appendT, appendS, appendP, copyP, srcP, mmsP, mmP, indexOp, indexAddrOp, sliceOp, bndsP, bndP, capw, capCut, loadOp, storeOp, loadP, fieldOp, fieldAddrOp, arrayAtOp, buildP, buildSliceP, makeSliceP, placeF, fillP, setL, PK.agg, isZero, gt_iff_lt, Nat.reducePow, Nat.reduceGT, reps, seg, wkN, if_pos, if_neg, tf2, Try.ze2, tf3, Try.ze3, tf4, Try.ze4, tf5, Try.ze5, tf9, Try.ze9, tf22, Try.ze22, tf23, Try.ze23, tf25, Try.ze25, tf44, Try.ze44, tf52, Try.ze52, tf59, Try.ze59, pl9_5Ri11, pl9_10Ri11, resP, resPs, resP1]; rfl) | rfl) ⟨6, by repeat' first | exact frz_scalar rfl | apply frz_tuple | apply frz_agg | apply frz_fsl | apply frz_gsl (by omega) | exact frzs_nil | apply frzs_cons⟩ (by first | exact keepsH0 | exact keeps1 (by assumption) | exact keepsH (fun _ _ h => h) (fun p hp => by simp only [upF]; (repeat rw [if_neg (by omega)])) | exact keeps1t (by assumption) (fun p hp => by simp only [upF]; (repeat rw [if_neg (by omega)])) | (subst hT; exact keepsH (fun _ _ h => h) fun _ _ => rfl)) ?_
    repeat' first | exact nw_nil | exact nw_zsl | apply nw_tuple | apply nw_agg | exact nws_nil | apply nws_cons | exact nw_eq rfl | apply nw_eq
  rw [if_neg hf]
  have q1 : ¬ (n : Int) < 1 := by omega
  have q2 : ¬ (8 : Int) < (n : Int) := by omega
  have hsl : s.length = 37 + 40 * n := by omega
  have e1 : 5 + 40 * (n : Int) = ((5 + 40 * n : Nat) : Int) := by omega
  have q3 : ((s.length : Int) != ((5 + 40 * n : Nat) : Int) + 32) = false := by rw [bne_eq_false_iff_eq]; omega
  have so := of_ok (w0 := w0) (s.take (5 + 40 * n)) (by rw [List.length_take]; omega)
  have td : (s.drop (5 + 40 * n)).take (s.length - (5 + 40 * n)) = s.drop (5 + 40 * n) := List.take_of_length_le (by rw [List.length_drop]; exact Nat.le_refl _)
  by_cases hsum : shaOf (s.take (5 + 40 * n)) ≠ s.drop (5 + 40 * n)
  · rw [if_pos hsum]
    have q4 : (shaOf (s.take (5 + 40 * n)) == s.drop (5 + 40 * n)) = false := by rw [beq_eq_false_iff_ne]; exact hsum
    refine fn_H ([Go.ResultVar.cell 2 25, Go.ResultVar.tmp 3]) Try.func9 rfl rfl (by decide) fun ph hW Q hQ => ?_
    simp only [start, List.length_cons, List.length_nil, List.cons_append, List.nil_append, Nat.reduceAdd, Nat.reduceSub, List.replicate_succ, List.replicate_zero, Try.ntmps9]
    repeat' first
      | simp -implicitDefEqProofs (maxSteps := 400000) (disch := first | with_reducible rfl | omega | (simp only [h_n, PH.n_push, PH.n_put, List.length_cons, List.length_nil] <;> omega) | decide) only [wkAll, wkL, popO, wantedP, if_true, if_false, reduceIte, ne_eq, Nat.reduceAdd, Nat.reduceSub, Nat.reduceMul, Nat.reduceLeDiff, Nat.reduceLT, ofCells, ofCell, reduceCtorEq, Int.reduceLE, Int.reduceLT, Int.reduceToNat, Int.reduceAdd, Int.reduceSub, Int.reduceMul, Int.reduceNeg, Int.reduceBEq, Int.reduceBNe, Int.reduceEq, eqCell, eqCells, binP, unP, convP, lenP, builtinP, sliceDataP, unsafeStringP, appendT, appendS, appendP, copyP, srcP, mmsP, mmP, indexOp, indexAddrOp, sliceOp, bndsP, bndP, capw, capCut, loadOp, storeOp, loadP, fieldOp, fieldAddrOp, arrayAtOp, buildP, buildSliceP, makeSliceP, placeF, fillP, setL, PK.agg, isZero, gt_iff_lt, Nat.reducePow, Nat.reduceGT, reps, seg, wkN, if_pos, if_neg, tf2, Try.ze2, tf3, Try.ze3, tf4, Try.ze4, tf5, Try.ze5, tf9, Try.ze9, tf22, Try.ze22, tf23, Try.ze23, tf25, Try.ze25, tf44, Try.ze44, tf52, Try.ze52, tf59, Try.ze59, pl9_5Ri11, pl9_10Ri11, q, hb, ← hn, q1, q2, gt_iff_lt, q3, e1, td, q4]
      | refine w_pure (so) ?_
      | refine w_dec (fun _ => ?_) (fun _ => ?_)
      | refine w_eqc (fun _ => ?_) (fun _ => ?_)
      | refine w_neqc (fun _ => ?_) (fun _ => ?_)
      | refine w_nneqc (fun _ => ?_) (fun _ => ?_)
      | ((first | refine w_split (fun h => ?_) (fun h => ?_) | refine d_split (fun h => ?_) (fun h => ?_) | refine w_csplit (fun h => ?_) (fun h => ?_)) <;> (try simp only [wkS] at h) <;> (have h2 := h) <;> (try simp only [wkT, ne_eq] at h2) <;> (try simp only [h]))
      | refine w_drawnF (id := 5) tb9_5Ri11 pl9_5Ri11 42 (by kernel_rfl) (by kernel_rfl) (by simp) ?_
      | refine w_drawnF (id := 10) tb9_10Ri11 pl9_10Ri11 68 (by kernel_rfl) (by kernel_rfl) (by simp) ?_
    refine hQ (by first | exact .inr rfl | exact .inl rfl) (by first | exact trivial | exact marks1) (by first | (simp -implicitDefEqProofs (maxSteps := 400000) (disch := first | with_reducible rfl | omega | (simp only [h_n, PH.n_push, PH.n_put, List.length_cons, List.length_nil] <;> omega) | decide) only [wkAll, wkL, popO, wantedP, if_true, if_false, reduceIte, ne_eq, Nat.reduceAdd, Nat.reduceSub, Nat.reduceMul, Nat.reduceLeDiff, Nat.reduceLT, ofCells, ofCell, reduceCtorEq, Int.reduceLE, Int.reduceLT, Int.reduceToNat, Int.reduceAdd, Int.reduceSub, Int.reduceMul, Int.reduceNeg, Int.reduceBEq, Int.reduceBNe, Int.reduceEq, eqCell, eqCells, binP, unP, convP, lenP, builtinP, sliceDataP, unsafeStringP, appendT, appendS, appendP, copyP, srcP, mmsP, mmP, indexOp, indexAddrOp, sliceOp, bndsP, bndP, capw, capCut, loadOp, storeOp, loadP, fieldOp, fieldAddrOp, arrayAtOp, buildP, buildSliceP, makeSliceP, placeF, fillP, setL, PK.agg, isZero, gt_iff_lt, Nat.reducePow, Nat.reduceGT, reps, seg, wkN, if_pos, if_neg, tf2, Try.ze2, tf3, Try.ze3, tf4, Try.ze4, tf5, Try.ze5, tf9, Try.ze9, tf22, Try.ze22, tf23, Try.ze23, tf25, Try.ze25, tf44, Try.ze44, tf52, Try.ze52, tf59, Try.ze59, pl9_5Ri11, pl9_10Ri11, resP, resPs, resP1]; rfl) | rfl) ⟨6, by repeat' first | exact frz_scalar rfl | apply frz_tuple | apply frz_agg | apply frz_fsl | apply frz_gsl (by omega) | exact frzs_nil | apply frzs_cons⟩ (by first | exact keepsH0 | exact keeps1 (by assumption) | exact keepsH (fun _ _ h => h) (fun p hp => by simp only [upF]; (repeat rw [if_neg (by omega)])) | exact keeps1t (by assumption) (fun p hp => by simp only [upF]; (repeat rw [if_neg (by omega)])) | (subst hT; exact keepsH (fun _ _ h => h) fun _ _ => rfl)) ?_
    repeat' first | exact nw_nil | exact nw_zsl | apply nw_tuple | apply nw_agg | exact nws_nil | apply nws_cons | exact nw_eq rfl | apply nw_eq
  rw [if_neg hsum]
  have hsum : shaOf (s.take (5 + 40 * n)) = s.drop (5 + 40 * n) := Classical.not_not.1 hsum
  have q4 : (shaOf (s.take (5 + 40 * n)) == s.drop (5 + 40 * n)) = true := by rw [beq_iff_eq]; exact hsum
  obtain ⟨nx, hnx⟩ : ∃ nx, nx = UInt32.ofNat (valN (s.take 4)) := ⟨_, rfl⟩
  have v0 := value24_ok (w0 := w0) (s.take 4) (by rw [List.length_take]; omega)
  have w1 := wrap_u32n (valN (s.take 4))
  rw [← hnx] at w1 ⊢
  obtain ⟨S, hS⟩ : ∃ S, S = (s.drop 5).take (40 * n) := ⟨_, rfl⟩
  have hSl : S.length = 40 * n := by rw [hS, List.length_take, List.length_drop]; omega
  have e2 : 5 + 40 * n - 5 = 40 * n := by omega
  have hS' := hS.symm
  rw [← hS]
  refine fn_H ([Go.ResultVar.cell 2 25, Go.ResultVar.tmp 3]) Try.func9 rfl rfl (by decide) fun ph hW Q hQ => ?_
  simp only [start, List.length_cons, List.length_nil, List.cons_append, List.nil_append, Nat.reduceAdd, Nat.reduceSub, List.replicate_succ, List.replicate_zero, Try.ntmps9]
  repeat' first
    | simp -implicitDefEqProofs (maxSteps := 400000) (disch := first | with_reducible rfl | omega | (simp only [h_n, PH.n_push, PH.n_put, List.length_cons, List.length_nil] <;> omega) | decide) only [wkAll, wkL, popO, wantedP, if_true, if_false, reduceIte, ne_eq, Nat.reduceAdd, Nat.reduceSub, Nat.reduceMul, Nat.reduceLeDiff, Nat.reduceLT, ofCells, ofCell, reduceCtorEq, Int.reduceLE, Int.reduceLT, Int.reduceToNat, Int.reduceAdd, Int.reduceSub, Int.reduceMul, Int.reduceNeg, Int.reduceBEq, Int.reduceBNe, Int.reduceEq, eqCell, eqCells, binP, unP, convP, lenP, builtinP, sliceDataP, unsafeStringP, appendT, appendS, appendP, copyP, srcP, mmsP, mmP, indexOp, indexAddrOp, sliceOp, bndsP, bndP, capw, capCut, loadOp, storeOp, loadP, fieldOp, fieldAddrOp, arrayAtOp, buildP, buildSliceP, makeSliceP, placeF, fillP, setL, PK.agg, isZero, gt_iff_lt, Nat.reducePow, Nat.reduceGT, reps, seg, wkN, if_pos, if_neg, tf2, Try.ze2, tf3, Try.ze3, tf4, Try.ze4, tf5, Try.ze5, tf9, Try.ze9, tf22, Try.ze22, tf23, Try.ze23, tf25, Try.ze25, tf44, Try.ze44, tf52, Try.ze52, tf59, Try.ze59, pl9_5Ri11, pl9_10Ri11, q, hb, ← hn, q1, q2, gt_iff_lt, q3, e1, td, q4, w1, e2, hS', hSl]
    | refine w_pure (so) ?_
    | refine w_pure (v0) ?_
    | refine w_dec (fun _ => ?_) (fun _ => ?_)
    | refine w_eqc (fun _ => ?_) (fun _ => ?_)
    | refine w_neqc (fun _ => ?_) (fun _ => ?_)
    | refine w_nneqc (fun _ => ?_) (fun _ => ?_)
    | ((first | refine w_split (fun h => ?_) (fun h => ?_) | refine d_split (fun h => ?_) (fun h => ?_) | refine w_csplit (fun h => ?_) (fun h => ?_)) <;> (try simp only [wkS] at h) <;> (have h2 := h) <;> (try simp only [wkT, ne_eq] at h2) <;> (try simp only [h]))
    | refine w_drawnF (id := 5) tb9_5Ri11 pl9_5Ri11 42 (by kernel_rfl) (by kernel_rfl) (by simp) ?_
    | refine w_drawnF (id := 10) tb9_10Ri11 pl9_10Ri11 68 (by kernel_rfl) (by kernel_rfl) (by simp) ?_
  refine w_inl ([Go.ResultVar.tmp 4]) Try.func30 rfl rfl (by decide) fun _ hI => ?_
  simp only [start, List.length_cons, List.length_nil, List.cons_append, List.nil_append, Nat.reduceAdd, Nat.reduceSub, List.replicate_succ, List.replicate_zero, Try.ntmps30]
  repeat' first
    | simp -implicitDefEqProofs (maxSteps := 400000) (disch := first | with_reducible rfl | omega | (simp only [h_n, PH.n_push, PH.n_put, List.length_cons, List.length_nil] <;> omega) | decide) only [wkAll, wkL, popO, wantedP, if_true, if_false, reduceIte, ne_eq, Nat.reduceAdd, Nat.reduceSub, Nat.reduceMul, Nat.reduceLeDiff, Nat.reduceLT, ofCells, ofCell, reduceCtorEq, Int.reduceLE, Int.reduceLT, Int.reduceToNat, Int.reduceAdd, Int.reduceSub, Int.reduceMul, Int.reduceNeg, Int.reduceBEq, Int.reduceBNe, Int.reduceEq, eqCell, eqCells, binP, unP, convP, lenP, builtinP, sliceDataP, unsafeStringP, appendT, appendS, appendP, copyP, srcP, mmsP, mmP, indexOp, indexAddrOp, sliceOp, bndsP, bndP, capw, capCut, loadOp, storeOp, loadP, fieldOp, fieldAddrOp, arrayAtOp, buildP, buildSliceP, makeSliceP, placeF, fillP, setL, PK.agg, isZero, gt_iff_lt, Nat.reducePow, Nat.reduceGT, reps, seg, wkN, if_pos, if_neg, tf3, Try.ze3, tf5, Try.ze5, tf59, Try.ze59]
    | refine w_dec (fun _ => ?_) (fun _ => ?_)
    | refine w_eqc (fun _ => ?_) (fun _ => ?_)
    | refine w_neqc (fun _ => ?_) (fun _ => ?_)
    | refine w_nneqc (fun _ => ?_) (fun _ => ?_)
    | ((first | refine w_split (fun h => ?_) (fun h => ?_) | refine d_split (fun h => ?_) (fun h => ?_) | refine w_csplit (fun h => ?_) (fun h => ?_)) <;> (try simp only [wkS] at h) <;> (have h2 := h) <;> (try simp only [wkT, ne_eq] at h2) <;> (try simp only [h]))
  refine hI (by first | exact .inr rfl | exact .inl rfl) trivial (by first | (simp -implicitDefEqProofs (maxSteps := 400000) (disch := first | with_reducible rfl | omega | (simp only [h_n, PH.n_push, PH.n_put, List.length_cons, List.length_nil] <;> omega) | decide) only [wkAll, wkL, popO, wantedP, if_true, if_false, reduceIte, ne_eq, Nat.reduceAdd, Nat.reduceSub, Nat.reduceMul, Nat.reduceLeDiff, Nat.reduceLT, ofCells, ofCell, reduceCtorEq, Int.reduceLE, Int.reduceLT, Int.reduceToNat, Int.reduceAdd, Int.reduceSub, Int.reduceMul, Int.reduceNeg, Int.reduceBEq, Int.reduceBNe, Int.reduceEq, eqCell, eqCells, binP, unP, convP, lenP, builtinP, sliceDataP, unsafeStringP, appendT, appendS, appendP, copyP, srcP, mmsP, mmP, indexOp, indexAddrOp, sliceOp, bndsP, bndP, capw, capCut, loadOp, storeOp, loadP, fieldOp, fieldAddrOp, arrayAtOp, buildP, buildSliceP, makeSliceP, placeF, fillP, setL, PK.agg, isZero, gt_iff_lt, Nat.reducePow, Nat.reduceGT, reps, seg, wkN, if_pos, if_neg, tf3, Try.ze3, tf5, Try.ze5, tf59, Try.ze59, resP, resPs, resP1]; rfl) | rfl) ?_
  repeat' first
    | simp -implicitDefEqProofs (maxSteps := 400000) (disch := first | with_reducible rfl | omega | (simp only [h_n, PH.n_push, PH.n_put, List.length_cons, List.length_nil] <;> omega) | decide) only [wkAll, wkL, popO, wantedP, if_true, if_false, reduceIte, ne_eq, Nat.reduceAdd, Nat.reduceSub, Nat.reduceMul, Nat.reduceLeDiff, Nat.reduceLT, ofCells, ofCell, reduceCtorEq, Int.reduceLE, Int.reduceLT, Int.reduceToNat, Int.reduceAdd, Int.reduceSub, Int.reduceMul, Int.reduceNeg, Int.reduceBEq, Int.reduceBNe, Int.reduceEq, eqCell, eqCells, binP, unP, convP, lenP, builtinP, sliceDataP, unsafeStringP, appendT, appendS, appendP, copyP, srcP, mmsP, mmP, indexOp, indexAddrOp, sliceOp, bndsP, bndP, capw, capCut, loadOp, storeOp, loadP, fieldOp, fieldAddrOp, arrayAtOp, buildP, buildSliceP, makeSliceP, placeF, fillP, setL, PK.agg, isZero, gt_iff_lt, Nat.reducePow, Nat.reduceGT, reps, seg, wkN, if_pos, if_neg, tf2, Try.ze2, tf3, Try.ze3, tf4, Try.ze4, tf5, Try.ze5, tf9, Try.ze9, tf22, Try.ze22, tf23, Try.ze23, tf25, Try.ze25, tf44, Try.ze44, tf52, Try.ze52, tf59, Try.ze59, pl9_5Ri11, pl9_10Ri11]
    | refine w_dec (fun _ => ?_) (fun _ => ?_)
    | refine w_eqc (fun _ => ?_) (fun _ => ?_)
    | refine w_neqc (fun _ => ?_) (fun _ => ?_)
    | refine w_nneqc (fun _ => ?_) (fun _ => ?_)
    | ((first | refine w_split (fun h => ?_) (fun h => ?_) | refine d_split (fun h => ?_) (fun h => ?_) | refine w_csplit (fun h => ?_) (fun h => ?_)) <;> (try simp only [wkS] at h) <;> (have h2 := h) <;> (try simp only [wkT, ne_eq] at h2) <;> (try simp only [h]))
    | refine w_drawnF (id := 5) tb9_5Ri11 pl9_5Ri11 42 (by kernel_rfl) (by kernel_rfl) (by simp) ?_
    | refine w_drawnF (id := 10) tb9_10Ri11 pl9_10Ri11 68 (by kernel_rfl) (by kernel_rfl) (by simp) ?_
  refine w_range ([]) rfl Try.func49 rfl rfl (by decide) ?_
  intro r l fnid hr hl hne Q' hQ'
  simp only [start, List.length_cons, List.length_nil, List.cons_append, List.nil_append, Nat.reduceAdd, Nat.reduceSub, List.replicate_succ, List.replicate_zero, Try.ntmps49]
  have hl' : ph.ob l = none := hl
  have hr' : ph.ob r = none := hr
  repeat' first
    | simp -implicitDefEqProofs (maxSteps := 400000) (disch := first | with_reducible rfl | omega | (simp only [h_n, PH.n_push, PH.n_put, List.length_cons, List.length_nil] <;> omega) | decide) only [wkAll, wkL, popO, wantedP, if_true, if_false, reduceIte, ne_eq, Nat.reduceAdd, Nat.reduceSub, Nat.reduceMul, Nat.reduceLeDiff, Nat.reduceLT, ofCells, ofCell, reduceCtorEq, Int.reduceLE, Int.reduceLT, Int.reduceToNat, Int.reduceAdd, Int.reduceSub, Int.reduceMul, Int.reduceNeg, Int.reduceBEq, Int.reduceBNe, Int.reduceEq, eqCell, eqCells, binP, unP, convP, lenP, builtinP, sliceDataP, unsafeStringP, appendT, appendS, appendP, copyP, srcP, mmsP, mmP, indexOp, indexAddrOp, sliceOp, bndsP, bndP, capw, capCut, loadOp, storeOp, loadP, fieldOp, fieldAddrOp, arrayAtOp, buildP, buildSliceP, makeSliceP, placeF, fillP, setL, PK.agg, isZero, gt_iff_lt, Nat.reducePow, Nat.reduceGT, reps, seg, wkN, if_pos, if_neg, tf3, Try.ze3, tf4, Try.ze4, tf5, Try.ze5, tf59, Try.ze59, pl49_3Ri11]
    | refine w_dec (fun _ => ?_) (fun _ => ?_)
    | refine w_eqc (fun _ => ?_) (fun _ => ?_)
    | refine w_neqc (fun _ => ?_) (fun _ => ?_)
    | refine w_nneqc (fun _ => ?_) (fun _ => ?_)
    | ((first | refine w_split (fun h => ?_) (fun h => ?_) | refine d_split (fun h => ?_) (fun h => ?_) | refine w_csplit (fun h => ?_) (fun h => ?_)) <;> (try simp only [wkS] at h) <;> (have h2 := h) <;> (try simp only [wkT, ne_eq] at h2) <;> (try simp only [h]))
    | refine w_drawnF (id := 3) tb49_3Ri11 pl49_3Ri11 19 (by kernel_rfl) (by kernel_rfl) (by simp) ?_
  refine w_loopH (α := Nat × List (Option Blk)) ph _ ph.ty (fun a => [.yield l, .ptr (ph.n + 3) 0, .ptr (ph.n + 4) 0, .undef, .int .i64 ((40 * a.1 : Nat) : Int), .undef, .undef, .undef, .undef, .undef, .undef, .undef, .undef, .undef, .undef, .undef, .undef, .undef, .undef, .undef, .undef, .undef, .undef, .undef, .undef, .undef, .undef, .undef, .undef, .undef, .undef]) (fun a => a.2) (fun a => a.1 ≤ n ∧ DInv24 ph.n S nx n a.1 a.2) (fun a => n - a.1) (0, _) ⟨Nat.zero_le _, ⟨?_, ?_, ?_, ?_, ?_, ?_, ?_, ?_⟩⟩ (fun a ha => by rw [ha.2.len]; simp [h_n]) (.eq (by simp [FadeTo]) rfl) ?_
  rotate_left 8
  · rintro ⟨i, B⟩ ⟨hi, hD⟩ K hK
    simp only at hi hD ⊢
    have b0 := hD.a0
    have b1 := hD.a1
    have b2 := hD.a2
    have b3 := hD.a3
    have b4 := hD.a4
    have hlen := hD.len
    rcases Nat.lt_or_ge i n with h | h
    · have hlt : ((40 * i : Nat) : Int) < ((40 * n : Nat) : Int) := by omega
      have e5 : (if ((40 * n - 40 * i : Nat) : Int) < 40 then ((40 * n - 40 * i : Nat) : Int) else 40) = 40 := by split <;> omega
      have e6 : ((40 * i : Nat) : Int) + 40 = ((40 * i + 40 : Nat) : Int) := by omega
      have e7 : 40 * i + 40 - 40 * i = 40 := by omega
      have hlt2 : 40 * i ≤ 40 * n := by omega
      repeat' first
        | simp -implicitDefEqProofs (maxSteps := 400000) (disch := first | with_reducible rfl | omega | (simp only [h_n, PH.n_push, PH.n_put, List.length_cons, List.length_nil] <;> omega) | decide) only [wkAll, wkL, popO, wantedP, if_true, if_false, reduceIte, ne_eq, Nat.reduceAdd, Nat.reduceSub, Nat.reduceMul, Nat.reduceLeDiff, Nat.reduceLT, ofCells, ofCell, reduceCtorEq, Int.reduceLE, Int.reduceLT, Int.reduceToNat, Int.reduceAdd, Int.reduceSub, Int.reduceMul, Int.reduceNeg, Int.reduceBEq, Int.reduceBNe, Int.reduceEq, eqCell, eqCells, binP, unP, convP, lenP, builtinP, sliceDataP, unsafeStringP, appendT, appendS, appendP, copyP, srcP, mmsP, mmP, indexOp, indexAddrOp, sliceOp, bndsP, bndP, capw, capCut, loadOp, storeOp, loadP, fieldOp, fieldAddrOp, arrayAtOp, buildP, buildSliceP, makeSliceP, placeF, fillP, setL, PK.agg, isZero, gt_iff_lt, Nat.reducePow, Nat.reduceGT, reps, seg, wkN, if_pos, if_neg, tf3, Try.ze3, tf4, Try.ze4, tf5, Try.ze5, tf59, Try.ze59, pl49_3Ri11, hlt, hlen, b0, b1, b2, b3, b4, e5, e6, e7]
        | refine w_dec (fun _ => ?_) (fun _ => ?_)
        | refine w_eqc (fun _ => ?_) (fun _ => ?_)
        | refine w_neqc (fun _ => ?_) (fun _ => ?_)
        | refine w_nneqc (fun _ => ?_) (fun _ => ?_)
        | ((first | refine w_split (fun h => ?_) (fun h => ?_) | refine d_split (fun h => ?_) (fun h => ?_) | refine w_csplit (fun h => ?_) (fun h => ?_)) <;> (try simp only [wkS] at h) <;> (have h2 := h) <;> (try simp only [wkT, ne_eq] at h2) <;> (try simp only [h]))
        | refine w_drawnF (id := 3) tb49_3Ri11 pl49_3Ri11 19 (by kernel_rfl) (by kernel_rfl) (by simp) ?_
      refine w_round (by rw [h_ob]; exact up_same) rfl rfl ?_
      simp only [mkLoop, setPs, List.set_cons_zero, List.set_cons_succ, List.toList_toArray]
      repeat' first
        | simp -implicitDefEqProofs (maxSteps := 400000) (disch := first | with_reducible rfl | omega | (simp only [h_n, PH.n_push, PH.n_put, List.length_cons, List.length_nil] <;> omega) | decide) only [wkAll, wkL, popO, wantedP, if_true, if_false, reduceIte, ne_eq, Nat.reduceAdd, Nat.reduceSub, Nat.reduceMul, Nat.reduceLeDiff, Nat.reduceLT, ofCells, ofCell, reduceCtorEq, Int.reduceLE, Int.reduceLT, Int.reduceToNat, Int.reduceAdd, Int.reduceSub, Int.reduceMul, Int.reduceNeg, Int.reduceBEq, Int.reduceBNe, Int.reduceEq, eqCell, eqCells, binP, unP, convP, lenP, builtinP, sliceDataP, unsafeStringP, appendT, appendS, appendP, copyP, srcP, mmsP, mmP, indexOp, indexAddrOp, sliceOp, bndsP, bndP, capw, capCut, loadOp, storeOp, loadP, fieldOp, fieldAddrOp, arrayAtOp, buildP, buildSliceP, makeSliceP, placeF, fillP, setL, PK.agg, isZero, gt_iff_lt, Nat.reducePow, Nat.reduceGT, reps, seg, wkN, if_pos, if_neg, tf2, Try.ze2, tf3, Try.ze3, tf4, Try.ze4, tf5, Try.ze5, tf9, Try.ze9, tf22, Try.ze22, tf23, Try.ze23, tf25, Try.ze25, tf44, Try.ze44, tf52, Try.ze52, tf59, Try.ze59, pl9_5Ri11, pl9_10Ri11, hlen, b0, b1, b2, b3, b4]
        | refine w_dec (fun _ => ?_) (fun _ => ?_)
        | refine w_eqc (fun _ => ?_) (fun _ => ?_)
        | refine w_neqc (fun _ => ?_) (fun _ => ?_)
        | refine w_nneqc (fun _ => ?_) (fun _ => ?_)
        | ((first | refine w_split (fun h => ?_) (fun h => ?_) | refine d_split (fun h => ?_) (fun h => ?_) | refine w_csplit (fun h => ?_) (fun h => ?_)) <;> (try simp only [wkS] at h) <;> (have h2 := h) <;> (try simp only [wkT, ne_eq] at h2) <;> (try simp only [h]))
        | refine w_drawnF (id := 5) tb9_5Ri11 pl9_5Ri11 42 (by kernel_rfl) (by kernel_rfl) (by simp) ?_
        | refine w_drawnF (id := 10) tb9_10Ri11 pl9_10Ri11 68 (by kernel_rfl) (by kernel_rfl) (by simp) ?_
      first | refine ⟨_, rfl, rfl, ?_⟩ | refine ⟨_, by rw [h_ob]; exact up_same, rfl, ?_⟩
      have v1 := value24_ok (w0 := w0) ((S.drop (40 * i)).take 8) (by rw [List.length_take]; omega)
      have e8 : ((40 * i : Nat) : Int) + 40 = ((40 * (i + 1) : Nat) : Int) := by omega
      have hmk : rawK S i = ⟨0, (S.drop (40 * i + 8)).take 32, IntKind.wrap .i64 (valN ((S.drop (40 * i)).take 8) : Nat)⟩ := rfl
      have f5 : ∀ y, (B ++ [y])[5 + 2 * i]? = some y := fun y => by rw [List.getElem?_append_right (by omega), hlen, Nat.sub_self]; rfl
      have fB : ∀ y j, j < 5 + 2 * i → (B ++ [y])[j]? = B[j]? := fun y j h => List.getElem?_append_left (by omega)
      have hlenA : ∀ y, (B ++ [y]).length = 6 + 2 * i := fun y => by rw [List.length_append, hlen, List.length_singleton]; omega
      rcases Nat.eq_zero_or_pos i with hi0 | hi0
      · have hrv : rowV ph.n i = .nilsl := by rw [hi0]; rfl
        rw [hrv] at b1
        have c1 : ∀ y, (B ++ [y])[1]? = some (some (.own [.nilsl, .int .u32 (nx.toNat : Int)])) := fun y => by rw [fB y 1 (by omega)]; exact b1
        have c2 : ∀ y z, (B ++ [y] ++ [z])[1]? = some (some (.own [.nilsl, .int .u32 (nx.toNat : Int)])) := fun y z => by rw [List.append_assoc, List.getElem?_append_left (by omega)]; exact b1
        have c3 : ∀ y z, (B ++ [y, z])[1]? = some (some (.own [.nilsl, .int .u32 (nx.toNat : Int)])) := fun y z => by rw [List.getElem?_append_left (by omega)]; exact b1
        repeat' first
          | simp -implicitDefEqProofs (maxSteps := 400000) (disch := first | with_reducible rfl | omega | (simp only [h_n, PH.n_push, PH.n_put, List.length_cons, List.length_nil] <;> omega) | decide) only [wkAll, wkL, popO, wantedP, if_true, if_false, reduceIte, ne_eq, Nat.reduceAdd, Nat.reduceSub, Nat.reduceMul, Nat.reduceLeDiff, Nat.reduceLT, ofCells, ofCell, reduceCtorEq, Int.reduceLE, Int.reduceLT, Int.reduceToNat, Int.reduceAdd, Int.reduceSub, Int.reduceMul, Int.reduceNeg, Int.reduceBEq, Int.reduceBNe, Int.reduceEq, eqCell, eqCells, binP, unP, convP, lenP, builtinP, sliceDataP, unsafeStringP, appendT, appendS, appendP, copyP, srcP, mmsP, mmP, indexOp, indexAddrOp, sliceOp, bndsP, bndP, capw, capCut, loadOp, storeOp, loadP, fieldOp, fieldAddrOp, arrayAtOp, buildP, buildSliceP, makeSliceP, placeF, fillP, setL, PK.agg, isZero, gt_iff_lt, Nat.reducePow, Nat.reduceGT, reps, seg, wkN, if_pos, if_neg, tf2, Try.ze2, tf3, Try.ze3, tf4, Try.ze4, tf5, Try.ze5, tf9, Try.ze9, tf22, Try.ze22, tf23, Try.ze23, tf25, Try.ze25, tf44, Try.ze44, tf52, Try.ze52, tf59, Try.ze59, pl9_5Ri11, pl9_10Ri11, hlen, b0, b1, b2, b3, b4, f5, hlenA, c1, c2, c3, bytes_td]
          | refine w_pure (v1) ?_
          | refine w_dec (fun _ => ?_) (fun _ => ?_)
          | refine w_eqc (fun _ => ?_) (fun _ => ?_)
          | refine w_neqc (fun _ => ?_) (fun _ => ?_)
          | refine w_nneqc (fun _ => ?_) (fun _ => ?_)
          | ((first | refine w_split (fun h => ?_) (fun h => ?_) | refine d_split (fun h => ?_) (fun h => ?_) | refine w_csplit (fun h => ?_) (fun h => ?_)) <;> (try simp only [wkS] at h) <;> (have h2 := h) <;> (try simp only [wkT, ne_eq] at h2) <;> (try simp only [h]))
          | refine w_drawnF (id := 5) tb9_5Ri11 pl9_5Ri11 42 (by kernel_rfl) (by kernel_rfl) (by simp) ?_
          | refine w_drawnF (id := 10) tb9_10Ri11 pl9_10Ri11 68 (by kernel_rfl) (by kernel_rfl) (by simp) ?_
        refine ⟨_, by rw [h_ob]; exact up_same, ?_⟩
        have gG : ∀ (x y z : Option Blk) (m : Nat), m < 5 → m ≠ 1 → ((B ++ [y] ++ [z]).set 1 x)[m]? = B[m]? := fun x y z m h1 h2 => by
          rw [List.getElem?_set, if_neg (Ne.symm h2), List.append_assoc, List.getElem?_append_left (by omega)]
        have g3 : ∀ x y z, ((B ++ [y] ++ [z]).set 1 x)[3]? = some (some (.own [.sl (ph.n + 2) 0 1 (40 * n) none])) := fun x y z => by rw [gG x y z 3 (by omega) (by omega)]; exact b3
        have g4 : ∀ x y z, ((B ++ [y] ++ [z]).set 1 x)[4]? = some (some (.own [.int .i64 40])) := fun x y z => by rw [gG x y z 4 (by omega) (by omega)]; exact b4
        repeat' first
          | simp -implicitDefEqProofs (maxSteps := 400000) (disch := first | with_reducible rfl | omega | (simp only [h_n, PH.n_push, PH.n_put, List.length_cons, List.length_nil] <;> omega) | decide) only [wkAll, wkL, popO, wantedP, if_true, if_false, reduceIte, ne_eq, Nat.reduceAdd, Nat.reduceSub, Nat.reduceMul, Nat.reduceLeDiff, Nat.reduceLT, ofCells, ofCell, reduceCtorEq, Int.reduceLE, Int.reduceLT, Int.reduceToNat, Int.reduceAdd, Int.reduceSub, Int.reduceMul, Int.reduceNeg, Int.reduceBEq, Int.reduceBNe, Int.reduceEq, eqCell, eqCells, binP, unP, convP, lenP, builtinP, sliceDataP, unsafeStringP, appendT, appendS, appendP, copyP, srcP, mmsP, mmP, indexOp, indexAddrOp, sliceOp, bndsP, bndP, capw, capCut, loadOp, storeOp, loadP, fieldOp, fieldAddrOp, arrayAtOp, buildP, buildSliceP, makeSliceP, placeF, fillP, setL, PK.agg, isZero, gt_iff_lt, Nat.reducePow, Nat.reduceGT, reps, seg, wkN, if_pos, if_neg, tf3, Try.ze3, tf4, Try.ze4, tf5, Try.ze5, tf59, Try.ze59, pl49_3Ri11, e8, g3, g4]
          | refine w_dec (fun _ => ?_) (fun _ => ?_)
          | refine w_eqc (fun _ => ?_) (fun _ => ?_)
          | refine w_neqc (fun _ => ?_) (fun _ => ?_)
          | refine w_nneqc (fun _ => ?_) (fun _ => ?_)
          | ((first | refine w_split (fun h => ?_) (fun h => ?_) | refine d_split (fun h => ?_) (fun h => ?_) | refine w_csplit (fun h => ?_) (fun h => ?_)) <;> (try simp only [wkS] at h) <;> (have h2 := h) <;> (try simp only [wkT, ne_eq] at h2) <;> (try simp only [h]))
          | refine w_drawnF (id := 3) tb49_3Ri11 pl49_3Ri11 19 (by kernel_rfl) (by kernel_rfl) (by simp) ?_
        refine hK (i + 1, _) _ _ ⟨by show i + 1 ≤ n; omega, hD.first (rkC (rawK S i)) (rkC (rawK S i)) hi0 rfl (by rw [hi0]; rfl)⟩ (by show n - (i + 1) < n - i; omega) (.d24 hW (hD.first (rkC (rawK S i)) (rkC (rawK S i)) hi0 rfl (by rw [hi0]; rfl)) (by simp [FadeTo]) rfl (by simp [scs_cons, scs_nil, sc_ptr, sc_yield, sc_int, sc_undef]) (fun _ _ h => h) (by simp [mkLoop, scs_cons, scs_nil, sc_ptr, sc_sl, sc_fsl, sc_agg, sc_func, sc_int, sc_bool, sc_str, sc_undef, sc_nilsl, sc_tuple, scs_bytes]))
      · obtain ⟨j, hj⟩ : ∃ j, i = j + 1 := ⟨i - 1, by omega⟩
        have hrv : rowV ph.n i = .sl (ph.n + (6 + 2 * j)) 0 3 i none := by rw [hj]; rfl
        rw [hrv] at b1
        have br := hD.row j hj
        have hrl : (rksC (rawL S i)).length = i * 3 := by rw [rksC_len, rawL_len]
        have c1 : ∀ y, (B ++ [y])[1]? = some (some (.own [.sl (ph.n + (6 + 2 * j)) 0 3 i none, .int .u32 (nx.toNat : Int)])) := fun y => by rw [fB y 1 (by omega)]; exact b1
        have cr : ∀ y, (B ++ [y])[6 + 2 * j]? = some (some (.own (rksC (rawL S i)))) := fun y => by rw [fB y _ (by omega)]; exact br
        have cl : ∀ y, ((B ++ [y]).set (6 + 2 * j) none).length = 6 + 2 * i := fun y => by rw [List.length_set, hlenA]
        have c2 : ∀ y z, ((B ++ [y]).set (6 + 2 * j) none ++ [z])[1]? = some (some (.own [.sl (ph.n + (6 + 2 * j)) 0 3 i none, .int .u32 (nx.toNat : Int)])) := fun y z => by
          rw [List.getElem?_append_left (by rw [cl]; omega), List.getElem?_set, if_neg (by omega)]; exact c1 y
        have hcok := rksC_cok (rawL S i)
        repeat' first
          | simp -implicitDefEqProofs (maxSteps := 400000) (disch := first | with_reducible rfl | omega | (simp only [h_n, PH.n_push, PH.n_put, List.length_cons, List.length_nil] <;> omega) | decide) only [wkAll, wkL, popO, wantedP, if_true, if_false, reduceIte, ne_eq, Nat.reduceAdd, Nat.reduceSub, Nat.reduceMul, Nat.reduceLeDiff, Nat.reduceLT, ofCells, ofCell, reduceCtorEq, Int.reduceLE, Int.reduceLT, Int.reduceToNat, Int.reduceAdd, Int.reduceSub, Int.reduceMul, Int.reduceNeg, Int.reduceBEq, Int.reduceBNe, Int.reduceEq, eqCell, eqCells, binP, unP, convP, lenP, builtinP, sliceDataP, unsafeStringP, appendT, appendS, appendP, copyP, srcP, mmsP, mmP, indexOp, indexAddrOp, sliceOp, bndsP, bndP, capw, capCut, loadOp, storeOp, loadP, fieldOp, fieldAddrOp, arrayAtOp, buildP, buildSliceP, makeSliceP, placeF, fillP, setL, PK.agg, isZero, gt_iff_lt, Nat.reducePow, Nat.reduceGT, reps, seg, wkN, if_pos, if_neg, tf2, Try.ze2, tf3, Try.ze3, tf4, Try.ze4, tf5, Try.ze5, tf9, Try.ze9, tf22, Try.ze22, tf23, Try.ze23, tf25, Try.ze25, tf44, Try.ze44, tf52, Try.ze52, tf59, Try.ze59, pl9_5Ri11, pl9_10Ri11, hlen, b0, b1, b2, b3, b4, f5, hlenA, c1, c2, cr, cl, hrl, hcok, bytes_td]
          | refine w_pure (v1) ?_
          | refine w_dec (fun _ => ?_) (fun _ => ?_)
          | refine w_eqc (fun _ => ?_) (fun _ => ?_)
          | refine w_neqc (fun _ => ?_) (fun _ => ?_)
          | refine w_nneqc (fun _ => ?_) (fun _ => ?_)
          | ((first | refine w_split (fun h => ?_) (fun h => ?_) | refine d_split (fun h => ?_) (fun h => ?_) | refine w_csplit (fun h => ?_) (fun h => ?_)) <;> (try simp only [wkS] at h) <;> (have h2 := h) <;> (try simp only [wkT, ne_eq] at h2) <;> (try simp only [h]))
          | refine w_drawnF (id := 5) tb9_5Ri11 pl9_5Ri11 42 (by kernel_rfl) (by kernel_rfl) (by simp) ?_
          | refine w_drawnF (id := 10) tb9_10Ri11 pl9_10Ri11 68 (by kernel_rfl) (by kernel_rfl) (by simp) ?_
        refine ⟨_, by rw [h_ob]; exact up_same, ?_⟩
        have gG : ∀ (x y z : Option Blk) (m : Nat), m < 5 → m ≠ 1 → (((B ++ [y]).set (6 + 2 * j) none ++ [z]).set 1 x)[m]? = B[m]? := fun x y z m h1 h2 => by
          rw [List.getElem?_set, if_neg (Ne.symm h2), List.getElem?_append_left (by rw [cl]; omega), List.getElem?_set, if_neg (by omega), List.getElem?_append_left (by omega)]
        have g3 : ∀ x y z, (((B ++ [y]).set (6 + 2 * j) none ++ [z]).set 1 x)[3]? = some (some (.own [.sl (ph.n + 2) 0 1 (40 * n) none])) := fun x y z => by rw [gG x y z 3 (by omega) (by omega)]; exact b3
        have g4 : ∀ x y z, (((B ++ [y]).set (6 + 2 * j) none ++ [z]).set 1 x)[4]? = some (some (.own [.int .i64 40])) := fun x y z => by rw [gG x y z 4 (by omega) (by omega)]; exact b4
        repeat' first
          | simp -implicitDefEqProofs (maxSteps := 400000) (disch := first | with_reducible rfl | omega | (simp only [h_n, PH.n_push, PH.n_put, List.length_cons, List.length_nil] <;> omega) | decide) only [wkAll, wkL, popO, wantedP, if_true, if_false, reduceIte, ne_eq, Nat.reduceAdd, Nat.reduceSub, Nat.reduceMul, Nat.reduceLeDiff, Nat.reduceLT, ofCells, ofCell, reduceCtorEq, Int.reduceLE, Int.reduceLT, Int.reduceToNat, Int.reduceAdd, Int.reduceSub, Int.reduceMul, Int.reduceNeg, Int.reduceBEq, Int.reduceBNe, Int.reduceEq, eqCell, eqCells, binP, unP, convP, lenP, builtinP, sliceDataP, unsafeStringP, appendT, appendS, appendP, copyP, srcP, mmsP, mmP, indexOp, indexAddrOp, sliceOp, bndsP, bndP, capw, capCut, loadOp, storeOp, loadP, fieldOp, fieldAddrOp, arrayAtOp, buildP, buildSliceP, makeSliceP, placeF, fillP, setL, PK.agg, isZero, gt_iff_lt, Nat.reducePow, Nat.reduceGT, reps, seg, wkN, if_pos, if_neg, tf3, Try.ze3, tf4, Try.ze4, tf5, Try.ze5, tf59, Try.ze59, pl49_3Ri11, e8, g3, g4]
          | refine w_dec (fun _ => ?_) (fun _ => ?_)
          | refine w_eqc (fun _ => ?_) (fun _ => ?_)
          | refine w_neqc (fun _ => ?_) (fun _ => ?_)
          | refine w_nneqc (fun _ => ?_) (fun _ => ?_)
          | ((first | refine w_split (fun h => ?_) (fun h => ?_) | refine d_split (fun h => ?_) (fun h => ?_) | refine w_csplit (fun h => ?_) (fun h => ?_)) <;> (try simp only [wkS] at h) <;> (have h2 := h) <;> (try simp only [wkT, ne_eq] at h2) <;> (try simp only [h]))
          | refine w_drawnF (id := 3) tb49_3Ri11 pl49_3Ri11 19 (by kernel_rfl) (by kernel_rfl) (by simp) ?_
        have hD2 := hD.next (rkC (rawK S i)) (rksC (rawL S i) ++ rkC (rawK S i)) hj rfl (by rw [rawL_succ, rksC_append]; simp [rksC])
        refine hK (i + 1, _) _ _ ⟨by show i + 1 ≤ n; omega, hD2⟩ (by show n - (i + 1) < n - i; omega) (.d24 hW hD2 (by simp [FadeTo]) rfl (by simp [scs_cons, scs_nil, sc_ptr, sc_yield, sc_int, sc_undef]) (fun _ _ h => h) (by simp [mkLoop, scs_cons, scs_nil, sc_ptr, sc_sl, sc_fsl, sc_agg, sc_func, sc_int, sc_bool, sc_str, sc_undef, sc_nilsl, sc_tuple, scs_bytes]))
    · have hge : ¬ ((40 * i : Nat) : Int) < ((40 * n : Nat) : Int) := by omega
      have : i = n := by omega
      subst this
      obtain ⟨j, hj⟩ : ∃ j, i = j + 1 := ⟨i - 1, by omega⟩
      have hrv : rowV ph.n i = .sl (ph.n + (6 + 2 * j)) 0 3 i none := by rw [hj]; rfl
      rw [hrv] at b1
      have br := hD.row j hj
      repeat' first
        | simp -implicitDefEqProofs (maxSteps := 400000) (disch := first | with_reducible rfl | omega | (simp only [h_n, PH.n_push, PH.n_put, List.length_cons, List.length_nil] <;> omega) | decide) only [wkAll, wkL, popO, wantedP, if_true, if_false, reduceIte, ne_eq, Nat.reduceAdd, Nat.reduceSub, Nat.reduceMul, Nat.reduceLeDiff, Nat.reduceLT, ofCells, ofCell, reduceCtorEq, Int.reduceLE, Int.reduceLT, Int.reduceToNat, Int.reduceAdd, Int.reduceSub, Int.reduceMul, Int.reduceNeg, Int.reduceBEq, Int.reduceBNe, Int.reduceEq, eqCell, eqCells, binP, unP, convP, lenP, builtinP, sliceDataP, unsafeStringP, appendT, appendS, appendP, copyP, srcP, mmsP, mmP, indexOp, indexAddrOp, sliceOp, bndsP, bndP, capw, capCut, loadOp, storeOp, loadP, fieldOp, fieldAddrOp, arrayAtOp, buildP, buildSliceP, makeSliceP, placeF, fillP, setL, PK.agg, isZero, gt_iff_lt, Nat.reducePow, Nat.reduceGT, reps, seg, wkN, if_pos, if_neg, tf3, Try.ze3, tf4, Try.ze4, tf5, Try.ze5, tf59, Try.ze59, pl49_3Ri11, hge, hlen, b0, b1, b2, b3, b4]
        | refine w_dec (fun _ => ?_) (fun _ => ?_)
        | refine w_eqc (fun _ => ?_) (fun _ => ?_)
        | refine w_neqc (fun _ => ?_) (fun _ => ?_)
        | refine w_nneqc (fun _ => ?_) (fun _ => ?_)
        | ((first | refine w_split (fun h => ?_) (fun h => ?_) | refine d_split (fun h => ?_) (fun h => ?_) | refine w_csplit (fun h => ?_) (fun h => ?_)) <;> (try simp only [wkS] at h) <;> (have h2 := h) <;> (try simp only [wkT, ne_eq] at h2) <;> (try simp only [h]))
        | refine w_drawnF (id := 3) tb49_3Ri11 pl49_3Ri11 19 (by kernel_rfl) (by kernel_rfl) (by simp) ?_
      refine hQ' (by first | exact .inr rfl | exact .inl rfl) trivial (by first | (simp -implicitDefEqProofs (maxSteps := 400000) (disch := first | with_reducible rfl | omega | (simp only [h_n, PH.n_push, PH.n_put, List.length_cons, List.length_nil] <;> omega) | decide) only [wkAll, wkL, popO, wantedP, if_true, if_false, reduceIte, ne_eq, Nat.reduceAdd, Nat.reduceSub, Nat.reduceMul, Nat.reduceLeDiff, Nat.reduceLT, ofCells, ofCell, reduceCtorEq, Int.reduceLE, Int.reduceLT, Int.reduceToNat, Int.reduceAdd, Int.reduceSub, Int.reduceMul, Int.reduceNeg, Int.reduceBEq, Int.reduceBNe, Int.reduceEq, eqCell, eqCells, binP, unP, convP, lenP, builtinP, sliceDataP, unsafeStringP, appendT, appendS, appendP, copyP, srcP, mmsP, mmP, indexOp, indexAddrOp, sliceOp, bndsP, bndP, capw, capCut, loadOp, storeOp, loadP, fieldOp, fieldAddrOp, arrayAtOp, buildP, buildSliceP, makeSliceP, placeF, fillP, setL, PK.agg, isZero, gt_iff_lt, Nat.reducePow, Nat.reduceGT, reps, seg, wkN, if_pos, if_neg, tf3, Try.ze3, tf4, Try.ze4, tf5, Try.ze5, tf59, Try.ze59, pl49_3Ri11, resP, resPs, resP1]; rfl) | rfl) (re_normal (by rw [h_shut0, h_ob]; exact up_same) rfl rfl ?_)
      repeat' first
        | simp -implicitDefEqProofs (maxSteps := 400000) (disch := first | with_reducible rfl | omega | (simp only [h_n, PH.n_push, PH.n_put, List.length_cons, List.length_nil] <;> omega) | decide) only [wkAll, wkL, popO, wantedP, if_true, if_false, reduceIte, ne_eq, Nat.reduceAdd, Nat.reduceSub, Nat.reduceMul, Nat.reduceLeDiff, Nat.reduceLT, ofCells, ofCell, reduceCtorEq, Int.reduceLE, Int.reduceLT, Int.reduceToNat, Int.reduceAdd, Int.reduceSub, Int.reduceMul, Int.reduceNeg, Int.reduceBEq, Int.reduceBNe, Int.reduceEq, eqCell, eqCells, binP, unP, convP, lenP, builtinP, sliceDataP, unsafeStringP, appendT, appendS, appendP, copyP, srcP, mmsP, mmP, indexOp, indexAddrOp, sliceOp, bndsP, bndP, capw, capCut, loadOp, storeOp, loadP, fieldOp, fieldAddrOp, arrayAtOp, buildP, buildSliceP, makeSliceP, placeF, fillP, setL, PK.agg, isZero, gt_iff_lt, Nat.reducePow, Nat.reduceGT, reps, seg, wkN, if_pos, if_neg, tf2, Try.ze2, tf3, Try.ze3, tf4, Try.ze4, tf5, Try.ze5, tf9, Try.ze9, tf22, Try.ze22, tf23, Try.ze23, tf25, Try.ze25, tf44, Try.ze44, tf52, Try.ze52, tf59, Try.ze59, pl9_5Ri11, pl9_10Ri11, up_none2 hl' hne, hlen, b0, b1, b2, b3, b4]
        | refine w_dec (fun _ => ?_) (fun _ => ?_)
        | refine w_eqc (fun _ => ?_) (fun _ => ?_)
        | refine w_neqc (fun _ => ?_) (fun _ => ?_)
        | refine w_nneqc (fun _ => ?_) (fun _ => ?_)
        | ((first | refine w_split (fun h => ?_) (fun h => ?_) | refine d_split (fun h => ?_) (fun h => ?_) | refine w_csplit (fun h => ?_) (fun h => ?_)) <;> (try simp only [wkS] at h) <;> (have h2 := h) <;> (try simp only [wkT, ne_eq] at h2) <;> (try simp only [h]))
        | refine w_drawnF (id := 5) tb9_5Ri11 pl9_5Ri11 42 (by kernel_rfl) (by kernel_rfl) (by simp) ?_
        | refine w_drawnF (id := 10) tb9_10Ri11 pl9_10Ri11 68 (by kernel_rfl) (by kernel_rfl) (by simp) ?_
      obtain ⟨k, hk⟩ : ∃ k, k = 6 + 2 * j := ⟨_, rfl⟩
      have hkl : k < B.length := by omega
      rw [← hk] at b1 br
      refine w_loopH (α := Nat) ph _ ph.ty (fun m => [.undef, .undef, .ptr ph.n 0, .undef, .int .i64 i, .undef, .ptr (ph.n + 1) 0, .undef, .undef, .undef, .undef, .undef, .undef, .undef, .undef, .undef, .undef, .undef, .undef, .undef, .undef, .undef, .undef, .undef, .undef, .undef, .undef, .undef, .undef, .undef, .undef, .undef, .undef, .undef, .undef, .undef, .undef, .undef, .undef, .undef, .undef, .undef, .undef, .undef, .undef, .undef, .undef, .undef, .undef, .undef, .undef, .undef, .undef, .undef, .undef, .undef, .undef, .undef, .undef, .undef, .undef, .undef, .undef, .undef, .undef, .undef, .undef, .undef, .undef, .undef, .int .i64 i, .int .i64 m, .undef, .undef, .undef, .undef, .undef, .undef, .undef, .undef, .undef, .undef, .undef, .undef, .undef, .undef, .undef, .undef, .undef, .undef, .undef, .undef]) (fun m => B.set k (some (.own (rksC (midL S nx i m))))) (fun m => m ≤ i) (fun m => i - m) 0 (by simp) (fun _ _ => by simp) (.eq (by simp [FadeTo]) (by rw [midL_0]; congr 1; exact (set_same br).symm)) ?_
      clear hK
      intro m hm K hK
      have s0 : ∀ y, (B.set k y)[0]? = some (some (.own [.nilsl, .int .u32 0])) := fun y => by rw [List.getElem?_set, if_neg (by omega)]; exact b0
      have s1 : ∀ y, (B.set k y)[1]? = some (some (.own [.sl (ph.n + k) 0 3 i none, .int .u32 (nx.toNat : Int)])) := fun y => by rw [List.getElem?_set, if_neg (by omega)]; exact b1
      have sk : ∀ y, (B.set k y)[k]? = some y := fun y => by rw [List.getElem?_set, if_pos rfl, if_pos hkl]
      rcases Nat.lt_or_ge m i with h | h
      · have hlt : (m : Int) < (i : Int) := by omega
        have x1 : (i : Int) - (m : Int) = ((i - m : Nat) : Int) := by omega
        have x2 : IntKind.wrap .u32 ((i - m : Nat) : Int) = ((i - m : Nat) : Int) := by rw [wrap_u32, Nat.mod_eq_of_lt (by omega)]
        have x3 := sub32 nx (i - m) (by omega)
        have hset := rksC_setid (midL S nx i m) m (rawK S m) (nx - UInt32.ofNat (i - m)) (midL_at S nx i m h)
        rw [show ({ rawK S m with id := nx - UInt32.ofNat (i - m) } : RK) = idK S nx i m from rfl, midL_set S nx i m h] at hset
        have hml : (rksC (midL S nx i m)).length = i * 3 := by rw [rksC_len, midL_len]
        repeat' first
          | simp -implicitDefEqProofs (maxSteps := 400000) (disch := first | with_reducible rfl | omega | (simp only [h_n, PH.n_push, PH.n_put, List.length_cons, List.length_nil] <;> omega) | decide) only [wkAll, wkL, popO, wantedP, if_true, if_false, reduceIte, ne_eq, Nat.reduceAdd, Nat.reduceSub, Nat.reduceMul, Nat.reduceLeDiff, Nat.reduceLT, ofCells, ofCell, reduceCtorEq, Int.reduceLE, Int.reduceLT, Int.reduceToNat, Int.reduceAdd, Int.reduceSub, Int.reduceMul, Int.reduceNeg, Int.reduceBEq, Int.reduceBNe, Int.reduceEq, eqCell, eqCells, binP, unP, convP, lenP, builtinP, sliceDataP, unsafeStringP, appendT, appendS, appendP, copyP, srcP, mmsP, mmP, indexOp, indexAddrOp, sliceOp, bndsP, bndP, capw, capCut, loadOp, storeOp, loadP, fieldOp, fieldAddrOp, arrayAtOp, buildP, buildSliceP, makeSliceP, placeF, fillP, setL, PK.agg, isZero, gt_iff_lt, Nat.reducePow, Nat.reduceGT, reps, seg, wkN, if_pos, if_neg, tf2, Try.ze2, tf3, Try.ze3, tf4, Try.ze4, tf5, Try.ze5, tf9, Try.ze9, tf22, Try.ze22, tf23, Try.ze23, tf25, Try.ze25, tf44, Try.ze44, tf52, Try.ze52, tf59, Try.ze59, pl9_5Ri11, pl9_10Ri11, hlt, s1, sk, x1, x2, x3, hset, hml, List.set_set]
          | refine w_dec (fun _ => ?_) (fun _ => ?_)
          | refine w_eqc (fun _ => ?_) (fun _ => ?_)
          | refine w_neqc (fun _ => ?_) (fun _ => ?_)
          | refine w_nneqc (fun _ => ?_) (fun _ => ?_)
          | ((first | refine w_split (fun h => ?_) (fun h => ?_) | refine d_split (fun h => ?_) (fun h => ?_) | refine w_csplit (fun h => ?_) (fun h => ?_)) <;> (try simp only [wkS] at h) <;> (have h2 := h) <;> (try simp only [wkT, ne_eq] at h2) <;> (try simp only [h]))
          | refine w_drawnF (id := 5) tb9_5Ri11 pl9_5Ri11 42 (by kernel_rfl) (by kernel_rfl) (by simp) ?_
          | refine w_drawnF (id := 10) tb9_10Ri11 pl9_10Ri11 68 (by kernel_rfl) (by kernel_rfl) (by simp) ?_
        refine hK (m + 1) _ _ (by omega) (by omega) (.eq (by simp [FadeTo]) rfl)
      · have hge : ¬ (m : Int) < (i : Int) := by omega
        have : m = i := by omega
        subst this
        rw [midL_all]
        have hdl := decL_len S nx m
        generalize hL : decL S nx m = L at *
        have ft := fit24_ok (w0 := w0) L nx (by omega) (by rw [← hL]; exact decL_kl)
        have hll : L.length = m := hdl
        simp only [rgC, hll] at ft
        have hrl : (rksC L).length = m * 3 := by rw [rksC_len, hll]
        have hseg : seg (rksC L) 0 (m * 3) = rksC L := by rw [seg, List.drop_zero]; exact List.take_of_length_le (by omega)
        have z0 : ∀ y, ((B.set k none).set 1 y)[0]? = some (some (.own [.nilsl, .int .u32 0])) := fun y => by rw [List.getElem?_set, if_neg (by omega)]; exact s0 _
        have z1 : ∀ y, ((B.set k none).set 1 y)[1]? = some y := fun y => by rw [List.getElem?_set, if_pos rfl, if_pos (by simp; omega)]
        have z2 : ∀ y (x : Blk), (((B.set k none).set 1 y).set 0 (some x))[0]? = some (some x) := fun y x => by rw [List.getElem?_set, if_pos rfl, if_pos (by simp; omega)]
        cases hfit : fitG L nx
        · rw [hfit] at ft hQ
          rw [if_neg (by decide)] at hQ
          repeat' first
            | simp -implicitDefEqProofs (maxSteps := 400000) (disch := first | with_reducible rfl | omega | (simp only [h_n, PH.n_push, PH.n_put, List.length_cons, List.length_nil] <;> omega) | decide) only [wkAll, wkL, popO, wantedP, if_true, if_false, reduceIte, ne_eq, Nat.reduceAdd, Nat.reduceSub, Nat.reduceMul, Nat.reduceLeDiff, Nat.reduceLT, ofCells, ofCell, reduceCtorEq, Int.reduceLE, Int.reduceLT, Int.reduceToNat, Int.reduceAdd, Int.reduceSub, Int.reduceMul, Int.reduceNeg, Int.reduceBEq, Int.reduceBNe, Int.reduceEq, eqCell, eqCells, binP, unP, convP, lenP, builtinP, sliceDataP, unsafeStringP, appendT, appendS, appendP, copyP, srcP, mmsP, mmP, indexOp, indexAddrOp, sliceOp, bndsP, bndP, capw, capCut, loadOp, storeOp, loadP, fieldOp, fieldAddrOp, arrayAtOp, buildP, buildSliceP, makeSliceP, placeF, fillP, setL, PK.agg, isZero, gt_iff_lt, Nat.reducePow, Nat.reduceGT, reps, seg, wkN, if_pos, if_neg, tf2, Try.ze2, tf3, Try.ze3, tf4, Try.ze4, tf5, Try.ze5, tf9, Try.ze9, tf22, Try.ze22, tf23, Try.ze23, tf25, Try.ze25, tf44, Try.ze44, tf52, Try.ze52, tf59, Try.ze59, pl9_5Ri11, pl9_10Ri11, hge, s1]
            | refine w_dec (fun _ => ?_) (fun _ => ?_)
            | refine w_eqc (fun _ => ?_) (fun _ => ?_)
            | refine w_neqc (fun _ => ?_) (fun _ => ?_)
            | refine w_nneqc (fun _ => ?_) (fun _ => ?_)
            | ((first | refine w_split (fun h => ?_) (fun h => ?_) | refine d_split (fun h => ?_) (fun h => ?_) | refine w_csplit (fun h => ?_) (fun h => ?_)) <;> (try simp only [wkS] at h) <;> (have h2 := h) <;> (try simp only [wkT, ne_eq] at h2) <;> (try simp only [h]))
            | refine w_drawnF (id := 5) tb9_5Ri11 pl9_5Ri11 42 (by kernel_rfl) (by kernel_rfl) (by simp) ?_
            | refine w_drawnF (id := 10) tb9_10Ri11 pl9_10Ri11 68 (by kernel_rfl) (by kernel_rfl) (by simp) ?_
          refine w_frzC k (rksC L) (args' := [.agg [.fsl 3 m (rksC L), .int .u32 (nx.toNat : Int)]]) (l' := (B.set k none).set 1 (some (.own [.fsl 3 m (rksC L), .int .u32 (nx.toNat : Int)]))) (sk _) ⟨.inr (.inr ⟨_, _, rfl, rfl, .inr ⟨0, 3, m, none, rfl, by rw [hseg], by omega⟩, .inl rfl, trivial⟩), trivial⟩ (by rw [List.set_set]; exact FB.set (s1 _) ⟨.inr ⟨0, 3, m, none, rfl, by rw [hseg], by omega⟩, .inl rfl, trivial⟩) ?_
          refine w_pure ft ?_
          repeat' first
            | simp -implicitDefEqProofs (maxSteps := 400000) (disch := first | with_reducible rfl | omega | (simp only [h_n, PH.n_push, PH.n_put, List.length_cons, List.length_nil] <;> omega) | decide) only [wkAll, wkL, popO, wantedP, if_true, if_false, reduceIte, ne_eq, Nat.reduceAdd, Nat.reduceSub, Nat.reduceMul, Nat.reduceLeDiff, Nat.reduceLT, ofCells, ofCell, reduceCtorEq, Int.reduceLE, Int.reduceLT, Int.reduceToNat, Int.reduceAdd, Int.reduceSub, Int.reduceMul, Int.reduceNeg, Int.reduceBEq, Int.reduceBNe, Int.reduceEq, eqCell, eqCells, binP, unP, convP, lenP, builtinP, sliceDataP, unsafeStringP, appendT, appendS, appendP, copyP, srcP, mmsP, mmP, indexOp, indexAddrOp, sliceOp, bndsP, bndP, capw, capCut, loadOp, storeOp, loadP, fieldOp, fieldAddrOp, arrayAtOp, buildP, buildSliceP, makeSliceP, placeF, fillP, setL, PK.agg, isZero, gt_iff_lt, Nat.reducePow, Nat.reduceGT, reps, seg, wkN, if_pos, if_neg, tf2, Try.ze2, tf3, Try.ze3, tf4, Try.ze4, tf5, Try.ze5, tf9, Try.ze9, tf22, Try.ze22, tf23, Try.ze23, tf25, Try.ze25, tf44, Try.ze44, tf52, Try.ze52, tf59, Try.ze59, pl9_5Ri11, pl9_10Ri11, z0, z1, z2]
            | refine w_dec (fun _ => ?_) (fun _ => ?_)
            | refine w_eqc (fun _ => ?_) (fun _ => ?_)
            | refine w_neqc (fun _ => ?_) (fun _ => ?_)
            | refine w_nneqc (fun _ => ?_) (fun _ => ?_)
            | ((first | refine w_split (fun h => ?_) (fun h => ?_) | refine d_split (fun h => ?_) (fun h => ?_) | refine w_csplit (fun h => ?_) (fun h => ?_)) <;> (try simp only [wkS] at h) <;> (have h2 := h) <;> (try simp only [wkT, ne_eq] at h2) <;> (try simp only [h]))
            | refine w_drawnF (id := 5) tb9_5Ri11 pl9_5Ri11 42 (by kernel_rfl) (by kernel_rfl) (by simp) ?_
            | refine w_drawnF (id := 10) tb9_10Ri11 pl9_10Ri11 68 (by kernel_rfl) (by kernel_rfl) (by simp) ?_
          refine hQ (by first | exact .inr rfl | exact .inl rfl) (by first | exact trivial | exact marks1) (by first | (simp -implicitDefEqProofs (maxSteps := 400000) (disch := first | with_reducible rfl | omega | (simp only [h_n, PH.n_push, PH.n_put, List.length_cons, List.length_nil] <;> omega) | decide) only [wkAll, wkL, popO, wantedP, if_true, if_false, reduceIte, ne_eq, Nat.reduceAdd, Nat.reduceSub, Nat.reduceMul, Nat.reduceLeDiff, Nat.reduceLT, ofCells, ofCell, reduceCtorEq, Int.reduceLE, Int.reduceLT, Int.reduceToNat, Int.reduceAdd, Int.reduceSub, Int.reduceMul, Int.reduceNeg, Int.reduceBEq, Int.reduceBNe, Int.reduceEq, eqCell, eqCells, binP, unP, convP, lenP, builtinP, sliceDataP, unsafeStringP, appendT, appendS, appendP, copyP, srcP, mmsP, mmP, indexOp, indexAddrOp, sliceOp, bndsP, bndP, capw, capCut, loadOp, storeOp, loadP, fieldOp, fieldAddrOp, arrayAtOp, buildP, buildSliceP, makeSliceP, placeF, fillP, setL, PK.agg, isZero, gt_iff_lt, Nat.reducePow, Nat.reduceGT, reps, seg, wkN, if_pos, if_neg, tf2, Try.ze2, tf3, Try.ze3, tf4, Try.ze4, tf5, Try.ze5, tf9, Try.ze9, tf22, Try.ze22, tf23, Try.ze23, tf25, Try.ze25, tf44, Try.ze44, tf52, Try.ze52, tf59, Try.ze59, pl9_5Ri11, pl9_10Ri11, resP, resPs, resP1, z0, z1, z2]; rfl) | rfl) ⟨6, by repeat' first | exact frz_scalar rfl | apply frz_tuple | apply frz_agg | apply frz_fsl | apply frz_gsl (by omega) | exact frzs_nil | apply frzs_cons⟩ (by first | exact keepsH0 | exact keeps1 (by assumption) | exact keepsH (fun _ _ h => h) (fun p hp => by simp only [upF]; (repeat rw [if_neg (by omega)])) | exact keeps1t (by assumption) (fun p hp => by simp only [upF]; (repeat rw [if_neg (by omega)])) | (subst hT; exact keepsH (fun _ _ h => h) fun _ _ => rfl)) ?_
          repeat' first | exact nw_nil | exact nw_zsl | apply nw_tuple | apply nw_agg | exact nws_nil | apply nws_cons | exact nw_eq rfl | apply nw_eq
        · rw [hfit] at ft hQ
          rw [if_pos rfl] at hQ
          repeat' first
            | simp -implicitDefEqProofs (maxSteps := 400000) (disch := first | with_reducible rfl | omega | (simp only [h_n, PH.n_push, PH.n_put, List.length_cons, List.length_nil] <;> omega) | decide) only [wkAll, wkL, popO, wantedP, if_true, if_false, reduceIte, ne_eq, Nat.reduceAdd, Nat.reduceSub, Nat.reduceMul, Nat.reduceLeDiff, Nat.reduceLT, ofCells, ofCell, reduceCtorEq, Int.reduceLE, Int.reduceLT, Int.reduceToNat, Int.reduceAdd, Int.reduceSub, Int.reduceMul, Int.reduceNeg, Int.reduceBEq, Int.reduceBNe, Int.reduceEq, eqCell, eqCells, binP, unP, convP, lenP, builtinP, sliceDataP, unsafeStringP, appendT, appendS, appendP, copyP, srcP, mmsP, mmP, indexOp, indexAddrOp, sliceOp, bndsP, bndP, capw, capCut, loadOp, storeOp, loadP, fieldOp, fieldAddrOp, arrayAtOp, buildP, buildSliceP, makeSliceP, placeF, fillP, setL, PK.agg, isZero, gt_iff_lt, Nat.reducePow, Nat.reduceGT, reps, seg, wkN, if_pos, if_neg, tf2, Try.ze2, tf3, Try.ze3, tf4, Try.ze4, tf5, Try.ze5, tf9, Try.ze9, tf22, Try.ze22, tf23, Try.ze23, tf25, Try.ze25, tf44, Try.ze44, tf52, Try.ze52, tf59, Try.ze59, pl9_5Ri11, pl9_10Ri11, hge, s1]
            | refine w_dec (fun _ => ?_) (fun _ => ?_)
            | refine w_eqc (fun _ => ?_) (fun _ => ?_)
            | refine w_neqc (fun _ => ?_) (fun _ => ?_)
            | refine w_nneqc (fun _ => ?_) (fun _ => ?_)
            | ((first | refine w_split (fun h => ?_) (fun h => ?_) | refine d_split (fun h => ?_) (fun h => ?_) | refine w_csplit (fun h => ?_) (fun h => ?_)) <;> (try simp only [wkS] at h) <;> (have h2 := h) <;> (try simp only [wkT, ne_eq] at h2) <;> (try simp only [h]))
            | refine w_drawnF (id := 5) tb9_5Ri11 pl9_5Ri11 42 (by kernel_rfl) (by kernel_rfl) (by simp) ?_
            | refine w_drawnF (id := 10) tb9_10Ri11 pl9_10Ri11 68 (by kernel_rfl) (by kernel_rfl) (by simp) ?_
          refine w_frzC k (rksC L) (args' := [.agg [.fsl 3 m (rksC L), .int .u32 (nx.toNat : Int)]]) (l' := (B.set k none).set 1 (some (.own [.fsl 3 m (rksC L), .int .u32 (nx.toNat : Int)]))) (sk _) ⟨.inr (.inr ⟨_, _, rfl, rfl, .inr ⟨0, 3, m, none, rfl, by rw [hseg], by omega⟩, .inl rfl, trivial⟩), trivial⟩ (by rw [List.set_set]; exact FB.set (s1 _) ⟨.inr ⟨0, 3, m, none, rfl, by rw [hseg], by omega⟩, .inl rfl, trivial⟩) ?_
          refine w_pure ft ?_
          repeat' first
            | simp -implicitDefEqProofs (maxSteps := 400000) (disch := first | with_reducible rfl | omega | (simp only [h_n, PH.n_push, PH.n_put, List.length_cons, List.length_nil] <;> omega) | decide) only [wkAll, wkL, popO, wantedP, if_true, if_false, reduceIte, ne_eq, Nat.reduceAdd, Nat.reduceSub, Nat.reduceMul, Nat.reduceLeDiff, Nat.reduceLT, ofCells, ofCell, reduceCtorEq, Int.reduceLE, Int.reduceLT, Int.reduceToNat, Int.reduceAdd, Int.reduceSub, Int.reduceMul, Int.reduceNeg, Int.reduceBEq, Int.reduceBNe, Int.reduceEq, eqCell, eqCells, binP, unP, convP, lenP, builtinP, sliceDataP, unsafeStringP, appendT, appendS, appendP, copyP, srcP, mmsP, mmP, indexOp, indexAddrOp, sliceOp, bndsP, bndP, capw, capCut, loadOp, storeOp, loadP, fieldOp, fieldAddrOp, arrayAtOp, buildP, buildSliceP, makeSliceP, placeF, fillP, setL, PK.agg, isZero, gt_iff_lt, Nat.reducePow, Nat.reduceGT, reps, seg, wkN, if_pos, if_neg, tf2, Try.ze2, tf3, Try.ze3, tf4, Try.ze4, tf5, Try.ze5, tf9, Try.ze9, tf22, Try.ze22, tf23, Try.ze23, tf25, Try.ze25, tf44, Try.ze44, tf52, Try.ze52, tf59, Try.ze59, pl9_5Ri11, pl9_10Ri11, z0, z1, z2]
            | refine w_dec (fun _ => ?_) (fun _ => ?_)
            | refine w_eqc (fun _ => ?_) (fun _ => ?_)
            | refine w_neqc (fun _ => ?_) (fun _ => ?_)
            | refine w_nneqc (fun _ => ?_) (fun _ => ?_)
            | ((first | refine w_split (fun h => ?_) (fun h => ?_) | refine d_split (fun h => ?_) (fun h => ?_) | refine w_csplit (fun h => ?_) (fun h => ?_)) <;> (try simp only [wkS] at h) <;> (have h2 := h) <;> (try simp only [wkT, ne_eq] at h2) <;> (try simp only [h]))
            | refine w_drawnF (id := 5) tb9_5Ri11 pl9_5Ri11 42 (by kernel_rfl) (by kernel_rfl) (by simp) ?_
            | refine w_drawnF (id := 10) tb9_10Ri11 pl9_10Ri11 68 (by kernel_rfl) (by kernel_rfl) (by simp) ?_
          refine hQ (by first | exact .inr rfl | exact .inl rfl) (by first | exact trivial | exact marks1) (by first | (simp -implicitDefEqProofs (maxSteps := 400000) (disch := first | with_reducible rfl | omega | (simp only [h_n, PH.n_push, PH.n_put, List.length_cons, List.length_nil] <;> omega) | decide) only [wkAll, wkL, popO, wantedP, if_true, if_false, reduceIte, ne_eq, Nat.reduceAdd, Nat.reduceSub, Nat.reduceMul, Nat.reduceLeDiff, Nat.reduceLT, ofCells, ofCell, reduceCtorEq, Int.reduceLE, Int.reduceLT, Int.reduceToNat, Int.reduceAdd, Int.reduceSub, Int.reduceMul, Int.reduceNeg, Int.reduceBEq, Int.reduceBNe, Int.reduceEq, eqCell, eqCells, binP, unP, convP, lenP, builtinP, sliceDataP, unsafeStringP, appendT, appendS, appendP, copyP, srcP, mmsP, mmP, indexOp, indexAddrOp, sliceOp, bndsP, bndP, capw, capCut, loadOp, storeOp, loadP, fieldOp, fieldAddrOp, arrayAtOp, buildP, buildSliceP, makeSliceP, placeF, fillP, setL, PK.agg, isZero, gt_iff_lt, Nat.reducePow, Nat.reduceGT, reps, seg, wkN, if_pos, if_neg, tf2, Try.ze2, tf3, Try.ze3, tf4, Try.ze4, tf5, Try.ze5, tf9, Try.ze9, tf22, Try.ze22, tf23, Try.ze23, tf25, Try.ze25, tf44, Try.ze44, tf52, Try.ze52, tf59, Try.ze59, pl9_5Ri11, pl9_10Ri11, resP, resPs, resP1, z0, z1, z2]; rfl) | rfl) ⟨6, by repeat' first | exact frz_scalar rfl | apply frz_tuple | apply frz_agg | apply frz_fsl | apply frz_gsl (by omega) | exact frzs_nil | apply frzs_cons | exact frzs_scalars (rksC_ok _)⟩ (by first | exact keepsH0 | exact keeps1 (by assumption) | exact keepsH (fun _ _ h => h) (fun p hp => by simp only [upF]; (repeat rw [if_neg (by omega)])) | exact keeps1t (by assumption) (fun p hp => by simp only [upF]; (repeat rw [if_neg (by omega)])) | (subst hT; exact keepsH (fun _ _ h => h) fun _ _ => rfl)) (nw_eq ?_)
          simp only [rgC, hll]
  all_goals first | rfl | (intro j hj; omega) | skip
  · intro x hx c hc
    subst hc
    simp at hx
    rcases hx with h | h | h | h | h <;> subst h <;> simp [scs_cons, scs_nil, sc_nilsl, sc_int, sc_sl, scs_bytes]
end Pv
