/- Part of the proof: the layer of pure values, or walks through functions (PvSha4). -/
import Derived.Test.YtefgmekiaelcmaaPvSha3
import Derived.Test.YtefgmekiaelcmaaPvDrawT
set_option linter.all false
namespace Pv
set_option maxRecDepth 20000
set_option maxHeartbeats 4000000
open Go Go.Proofs Go.RowKit
def tb56_10Sha4 : Tab := [[], [], [1], [0, 1, 2]]
def pl56_10Sha4 : Plan := [(0, true, []), (1, true, []), (2, false, [0]), (3, false, [])]
def tb56_16Sha4 : Tab := [[], [0], [0, 1], [], [3], [3, 4], [0, 1, 2, 3, 4, 5], [0, 1, 2, 3, 4, 5, 6], [0, 1, 2, 3, 4, 5, 6, 7]]
def pl56_16Sha4 : Plan := [(0, true, []), (1, true, []), (2, true, []), (3, true, []), (4, true, []), (5, true, []), (6, true, []), (7, true, []), (8, false, [])]
def tb56_3Sha4 : Tab := [[], [], [], [], [0, 2, 3], [0, 1, 2, 3, 4]]
def pl56_3Sha4 : PT := (.mv 1 (.fx 0 [1] (.fx 2 [1] (.fx 3 [1] (.fx 4 [1] (.fx 5 [] .nil .no) .no) .no) (.fx 3 [1] (.fx 2 [1] (.fx 4 [1] (.fx 5 [] .nil .no) .no) .no) .no)) (.fx 2 [1] (.fx 0 [1] (.fx 3 [1] (.fx 4 [1] (.fx 5 [] .nil .no) .no) .no) (.fx 3 [1] (.fx 0 [1] (.fx 4 [1] (.fx 5 [] .nil .no) .no) .no) .no)) (.fx 3 [1] (.fx 0 [1] (.fx 2 [1] (.fx 4 [1] (.fx 5 [] .nil .no) .no) .no) (.fx 2 [1] (.fx 0 [1] (.fx 4 [1] (.fx 5 [] .nil .no) .no) .no) .no)) .no))))
def tb56_7Sha4 : Tab := [[], [0], [], [2], [], [4], [], [6], [0, 1], [0, 1, 2, 3, 8], [0, 1, 2, 3, 4, 5, 8, 9], [0, 1, 2, 3, 4, 5, 6, 7, 8, 9, 10]]
def pl56_7Sha4 : Plan := [(0, true, []), (1, true, []), (2, true, []), (3, true, []), (4, true, []), (5, true, []), (6, true, []), (7, true, []), (8, false, [2, 3, 4, 5, 6, 7]), (9, false, [4, 5, 6, 7]), (10, false, [6, 7]), (11, false, [])]
def tb56_8Sha4 : Tab := [[], [0], [], [2], [], [2, 3, 4], [2, 3, 4, 5], [], [2, 3, 4, 5, 7], [2, 3, 4, 5, 6, 7, 8], [0, 1, 2, 3, 4, 5, 6, 7, 8, 9], [], [11], [], [], [14], [], [16], [14, 15, 16, 17], [13, 14, 15, 16, 17, 18], [11, 12, 13, 14, 15, 16, 17, 18, 19], [0, 1, 2, 3, 4, 5, 6, 7, 8, 9, 10, 11, 12, 13, 14, 15, 16, 17, 18, 19, 20], [], [22], [22, 23], [0, 1, 2, 3, 4, 5, 6, 7, 8, 9, 10, 11, 12, 13, 14, 15, 16, 17, 18, 19, 20, 21, 22, 23, 24], [], [0, 1, 2, 3, 4, 5, 6, 7, 8, 9, 10, 11, 12, 13, 14, 15, 16, 17, 18, 19, 20, 21, 22, 23, 24, 25, 26], [0, 1, 2, 3, 4, 5, 6, 7, 8, 9, 10, 11, 12, 13, 14, 15, 16, 17, 18, 19, 20, 21, 22, 23, 24, 25, 26, 27]]
def pl56_8Sha4 : Plan := [(0, true, []), (1, true, []), (2, true, []), (4, true, []), (7, true, []), (11, true, []), (12, true, []), (13, true, []), (14, true, []), (15, true, []), (16, true, []), (17, true, []), (18, true, []), (19, true, []), (20, true, []), (22, true, []), (23, true, []), (24, true, []), (26, true, []), (3, false, [0, 1, 4, 7, 11, 12, 13, 14, 15, 16, 17, 18, 19, 20, 22, 23, 24, 26]), (5, false, [0, 1, 7, 11, 12, 13, 14, 15, 16, 17, 18, 19, 20, 22, 23, 24, 26]), (6, true, []), (8, false, [0, 1, 11, 12, 13, 14, 15, 16, 17, 18, 19, 20, 22, 23, 24, 26, 6]), (9, true, []), (10, true, []), (21, true, []), (25, true, []), (27, true, []), (28, false, [])]
variable {w0 : World}

def z8W : List UInt32 := List.replicate 8 0
theorem z8W_len : z8W.length = 8 := rfl
theorem ze23w : zeroP Try.prog 79 = some (.agg (wC z8W)) := by rw [Try.ze79]; rfl
attribute [irreducible] z8W
theorem w_cutR {X : Ctx} {ρ : Option Nat} {n0 id : Nat} {ops : Array Oper} {Q : Exit → PSt → PH → Prop} {s : PSt} {ph : PH} (Q1 : Exit → PSt → PH → Prop) (h : vc X ρ n0 (.region id ops true) Q1 s ph) (hq : ∀ e s ph, Q1 e s ph → Q e s ph) : vc X ρ n0 (.region id ops true) Q s ph := by
  rw [w_draw] at h ⊢
  exact h.mono hq
/-- Sums, i of them made. -/
def addW (l h : List UInt32) (i : Nat) : List UInt32 := List.zipWith (· + ·) (l.take i) (h.take i) ++ l.drop i
theorem addW_zero (l h : List UInt32) : addW l h 0 = l := rfl
theorem addW_all {l h : List UInt32} (hl : l.length = 8) (hh : h.length = 8) : addW l h 8 = List.zipWith (· + ·) l h := by
  obtain ⟨a, b, c, d, e, f, g, i, rfl⟩ := eight hl
  obtain ⟨a', b', c', d', e', f', g', i', rfl⟩ := eight hh
  rfl
theorem addW_len {l h : List UInt32} (hl : l.length = 8) (hh : h.length = 8) (i : Nat) : (addW l h i).length = 8 := by simp [addW, hl, hh]; omega
theorem addW_get {l h : List UInt32} (hl : l.length = 8) (hh : h.length = 8) {i : Nat} (hi : i < 8) : (addW l h i)[i]? = l[i]? := by
  rw [addW, List.getElem?_append_right (by simp [hl, hh]; omega), List.getElem?_drop]; congr 1; simp [hl, hh]; omega
theorem addW_succ {l h : List UInt32} (hl : l.length = 8) (hh : h.length = 8) {i : Nat} (hi : i < 8) {x y : UInt32} (hx : l[i]? = some x) (hy : h[i]? = some y) : addW l h (i + 1) = (addW l h i).set i (x + y) := by
  obtain ⟨a, b, c, d, e, f, g, j, rfl⟩ := eight hl
  obtain ⟨a', b', c', d', e', f', g', j', rfl⟩ := eight hh
  match i, hi with
  | 0, _ | 1, _ | 2, _ | 3, _ | 4, _ | 5, _ | 6, _ | 7, _ => cases hx; cases hy; rfl
theorem block_ok (h : List UInt32) (hl : h.length = 8) (s : List UInt8) (hs : s.length < 2 ^ 47) : Fn (Cx w0) 56 [.agg (wC h), .str s] (.tuple [.agg (wC (blockL h s).1), .int .i64 (blockL h s).2]) := by
  have n1 : (wC h).length = 8 := by rw [wC_len, hl]
  have n2 : (wC zW).length = 64 := by rw [wC_len, zW_len]
  have n3 : (wC shaK).length = 64 := by rw [wC_len, shaK_len]
  have n4 : (wC shaK).take 64 = wC shaK := take_w shaK_len
  have n5 : (wC h).take 8 = wC h := take_w hl
  have n6 : setL (wC zW) 0 (wC shaK) = wC shaK := setL_whole (by rw [n2, n3])
  have n7 : (wC z8W).length = 8 := by rw [wC_len, z8W_len]
  have n8 : setL (wC z8W) 0 (wC h) = wC h := setL_whole (by rw [n7, n1])
  have n9 : setL (wC z8W) 0 (wC z8W) = wC z8W := setL_whole rfl
  have n11 : (wC z8W).take 8 = wC z8W := take_w z8W_len
  refine fn_H ([Go.ResultVar.cell 4 79, Go.ResultVar.tmp 5]) Try.func56 rfl rfl (by decide) fun ph hW Q hQ => ?_
  simp only [start, List.length_cons, List.length_nil, List.cons_append, List.nil_append, Nat.reduceAdd, Nat.reduceSub, List.replicate_succ, List.replicate_zero, Try.ntmps56]
  repeat' first
    | simp -implicitDefEqProofs (maxSteps := 400000) (disch := first | with_reducible rfl | omega | (simp only [h_n, PH.n_push, PH.n_put, List.length_cons, List.length_nil] <;> omega) | decide) only [wkAll, wkL, popO, wantedP, if_true, if_false, reduceIte, ne_eq, Nat.reduceAdd, Nat.reduceSub, Nat.reduceMul, Nat.reduceLeDiff, Nat.reduceLT, ofCells, ofCell, reduceCtorEq, Int.reduceLE, Int.reduceLT, Int.reduceToNat, Int.reduceAdd, Int.reduceSub, Int.reduceMul, Int.reduceNeg, Int.reduceBEq, Int.reduceBNe, Int.reduceEq, eqCell, eqCells, binP, unP, convP, lenP, builtinP, sliceDataP, unsafeStringP, appendT, appendS, appendP, copyP, srcP, mmsP, mmP, indexOp, indexAddrOp, sliceOp, bndsP, bndP, capw, capCut, loadOp, storeOp, loadP, fieldOp, fieldAddrOp, arrayAtOp, buildP, buildSliceP, makeSliceP, placeF, fillP, setL, PK.agg, isZero, gt_iff_lt, Nat.reducePow, Nat.reduceGT, reps, seg, wkN, if_pos, if_neg, t_nil, t_no, t_mv, t_fx, t_op, t_true, t_false, t_mvk, t_se0, t_se, and_true, tf3, Try.ze3, tf9, Try.ze9, tf23, Try.ze23, tf79, Try.ze79, tf99, Try.ze99, tf107, Try.ze107, -Try.ze79, ze23w, Try.sz79, n7, n8, n9, n1, n5, wC_ok]
    | refine w_dec (fun _ => ?_) (fun _ => ?_)
    | refine w_eqc (fun _ => ?_) (fun _ => ?_)
    | refine w_neqc (fun _ => ?_) (fun _ => ?_)
    | refine w_nneqc (fun _ => ?_) (fun _ => ?_)
    | ((first | refine w_split (fun h => ?_) (fun h => ?_) | refine d_split (fun h => ?_) (fun h => ?_) | refine w_csplit (fun h => ?_) (fun h => ?_)) <;> (try simp only [wkS] at h) <;> (have h2 := h) <;> (try simp only [wkT, ne_eq] at h2) <;> (try simp only [h]))
    | refine And.intro ?_ ?_
  rotate_left
  · rename_i hs64
    have hs64' : s.length = 64 := by omega
    refine w_cutR (fun e s' ph' => e = .normal ∧ ∃ c : Bool, s' = ⟨[.agg (wC h), .str s, .ptr ph.n 0, .tuple [], .ptr (ph.n + 1) 0, .int .i64 0, .ptr (ph.n + if c then 2 else 3) 0, .ptr (ph.n + if c then 3 else 2) 0, .tuple [], .tuple [], .tuple [], .tuple [], .tuple [], .tuple [], .tuple [], .tuple [], .tuple [], .str s, .int .i64 s.length, .bool ((s.length : Int) != 64), .tuple [], .agg (wC shaK), .agg (wC h), .tuple [], .tuple [], .tuple [], .tuple [], .tuple [], .tuple [], .tuple [], .tuple [], .tuple [], .tuple [], .tuple [], .tuple [], .tuple [], .tuple [], .tuple [], .tuple [], .tuple [], .tuple [], .tuple [], .tuple [], .tuple [], .tuple [], .tuple [], .tuple [], .tuple [], .tuple [], .tuple [], .tuple [], .tuple [], .tuple [], .tuple [], .tuple [], .tuple [], .tuple [], .tuple [], .tuple [], .tuple [], .tuple [], .tuple [], .tuple [], .tuple [], .tuple [], .tuple [], .tuple [], .tuple [], .tuple [], .tuple [], .tuple [], .tuple [], .tuple [], .tuple [], .tuple [], .tuple [], .tuple [], .tuple [], .tuple [], .tuple [], .tuple [], .tuple [], .tuple [], .tuple [], .tuple [], .tuple [], .tuple [], .tuple [], .tuple [], .tuple [], .tuple [], .tuple [], .tuple [], .tuple [], .tuple [], .tuple [], .tuple [], .tuple [], .tuple [], .tuple [], .tuple [], .tuple [], .tuple [], .tuple [], .tuple [], .tuple [], .tuple [], .tuple [], .tuple [], .tuple []], []⟩ ∧ ph' = H ph [some (.own (wC h)), some (.own (wC z8W)), some (.own (wC (if c then shaK else h))), some (.own (wC (if c then h else shaK)))] ph.ob ph.ty) ?_ ?_
    ·
      repeat' first
        | simp -implicitDefEqProofs (maxSteps := 400000) (disch := first | with_reducible rfl | omega | (simp only [h_n, PH.n_push, PH.n_put, List.length_cons, List.length_nil] <;> omega) | decide) only [wkAll, wkL, popO, wantedP, if_true, if_false, reduceIte, ne_eq, Nat.reduceAdd, Nat.reduceSub, Nat.reduceMul, Nat.reduceLeDiff, Nat.reduceLT, ofCells, ofCell, reduceCtorEq, Int.reduceLE, Int.reduceLT, Int.reduceToNat, Int.reduceAdd, Int.reduceSub, Int.reduceMul, Int.reduceNeg, Int.reduceBEq, Int.reduceBNe, Int.reduceEq, eqCell, eqCells, binP, unP, convP, lenP, builtinP, sliceDataP, unsafeStringP, appendT, appendS, appendP, copyP, srcP, mmsP, mmP, indexOp, indexAddrOp, sliceOp, bndsP, bndP, capw, capCut, loadOp, storeOp, loadP, fieldOp, fieldAddrOp, arrayAtOp, buildP, buildSliceP, makeSliceP, placeF, fillP, setL, PK.agg, isZero, gt_iff_lt, Nat.reducePow, Nat.reduceGT, reps, seg, wkN, if_pos, if_neg, t_nil, t_no, t_mv, t_fx, t_op, t_true, t_false, t_mvk, t_se0, t_se, and_true, tf3, Try.ze3, tf9, Try.ze9, tf23, Try.ze23, tf79, Try.ze79, tf99, Try.ze99, tf107, Try.ze107, pl56_3Sha4, pl56_7Sha4, pl56_8Sha4, pl56_10Sha4, pl56_16Sha4, -Try.ze107, ze136w, -Try.ze79, ze23w, Try.sz107, Try.sz79, n7, n8, n1, n2, n3, n4, n5, n6, wC_ok]
        | refine w_pure (constants_ok) ?_
        | refine w_dec (fun _ => ?_) (fun _ => ?_)
        | refine w_eqc (fun _ => ?_) (fun _ => ?_)
        | refine w_neqc (fun _ => ?_) (fun _ => ?_)
        | refine w_nneqc (fun _ => ?_) (fun _ => ?_)
        | ((first | refine w_split (fun h => ?_) (fun h => ?_) | refine d_split (fun h => ?_) (fun h => ?_) | refine w_csplit (fun h => ?_) (fun h => ?_)) <;> (try simp only [wkS] at h) <;> (have h2 := h) <;> (try simp only [wkT, ne_eq] at h2) <;> (try simp only [h]))
        | refine And.intro ?_ ?_
        | refine w_drawnTF (id := 3) tb56_3Sha4 pl56_3Sha4 [0, 1, 2, 3, 4, 5] 23 (by kernel_rfl) (by kernel_rfl) (by simp) ?_
        | refine w_drawnF (id := 7) tb56_7Sha4 pl56_7Sha4 37 (by kernel_rfl) (by kernel_rfl) (by simp) ?_
        | refine w_drawnF (id := 8) tb56_8Sha4 pl56_8Sha4 65 (by kernel_rfl) (by kernel_rfl) (by simp) ?_
        | refine w_drawnF (id := 10) tb56_10Sha4 pl56_10Sha4 87 (by kernel_rfl) (by kernel_rfl) (by simp) ?_
        | refine w_drawnF (id := 16) tb56_16Sha4 pl56_16Sha4 108 (by kernel_rfl) (by kernel_rfl) (by simp) ?_
      all_goals first | exact ⟨true, rfl, rfl⟩ | exact ⟨false, rfl, rfl⟩ | exact ⟨rfl, true, rfl, rfl⟩ | exact ⟨rfl, false, rfl, rfl⟩ | trace_state
    · have hb : blockL h s = (blockW h s, 0) := by rw [blockL, if_pos hs64']
      rw [hb] at hQ
      rintro _ _ _ ⟨rfl, c, rfl, rfl⟩
      simp only [w_snormal]
      obtain ⟨ws, hws⟩ : ∃ ws, ws = schedL s 64 := ⟨_, rfl⟩
      have hwl : ws.length = 64 := by rw [hws, schedL_len]
      have hsch := schedule_ok (w0 := w0) s hs64'
      rw [← hws] at hsch
      have n10 : (wC ws).length = 64 := by rw [wC_len, hwl]
      cases c
      · simp only [if_true, if_false, reduceIte, Bool.false_eq_true]
        repeat' first
          | simp -implicitDefEqProofs (maxSteps := 400000) (disch := first | with_reducible rfl | omega | (simp only [h_n, PH.n_push, PH.n_put, List.length_cons, List.length_nil] <;> omega) | decide) only [wkAll, wkL, popO, wantedP, if_true, if_false, reduceIte, ne_eq, Nat.reduceAdd, Nat.reduceSub, Nat.reduceMul, Nat.reduceLeDiff, Nat.reduceLT, ofCells, ofCell, reduceCtorEq, Int.reduceLE, Int.reduceLT, Int.reduceToNat, Int.reduceAdd, Int.reduceSub, Int.reduceMul, Int.reduceNeg, Int.reduceBEq, Int.reduceBNe, Int.reduceEq, eqCell, eqCells, binP, unP, convP, lenP, builtinP, sliceDataP, unsafeStringP, appendT, appendS, appendP, copyP, srcP, mmsP, mmP, indexOp, indexAddrOp, sliceOp, bndsP, bndP, capw, capCut, loadOp, storeOp, loadP, fieldOp, fieldAddrOp, arrayAtOp, buildP, buildSliceP, makeSliceP, placeF, fillP, setL, PK.agg, isZero, gt_iff_lt, Nat.reducePow, Nat.reduceGT, reps, seg, wkN, if_pos, if_neg, t_nil, t_no, t_mv, t_fx, t_op, t_true, t_false, t_mvk, t_se0, t_se, and_true, tf3, Try.ze3, tf9, Try.ze9, tf23, Try.ze23, tf79, Try.ze79, tf99, Try.ze99, tf107, Try.ze107, pl56_3Sha4, pl56_7Sha4, pl56_8Sha4, pl56_10Sha4, pl56_16Sha4]
          | refine w_pure (hsch) ?_
          | refine w_dec (fun _ => ?_) (fun _ => ?_)
          | refine w_eqc (fun _ => ?_) (fun _ => ?_)
          | refine w_neqc (fun _ => ?_) (fun _ => ?_)
          | refine w_nneqc (fun _ => ?_) (fun _ => ?_)
          | ((first | refine w_split (fun h => ?_) (fun h => ?_) | refine d_split (fun h => ?_) (fun h => ?_) | refine w_csplit (fun h => ?_) (fun h => ?_)) <;> (try simp only [wkS] at h) <;> (have h2 := h) <;> (try simp only [wkT, ne_eq] at h2) <;> (try simp only [h]))
          | refine And.intro ?_ ?_
          | refine w_drawnTF (id := 3) tb56_3Sha4 pl56_3Sha4 [0, 1, 2, 3, 4, 5] 23 (by kernel_rfl) (by kernel_rfl) (by simp) ?_
          | refine w_drawnF (id := 7) tb56_7Sha4 pl56_7Sha4 37 (by kernel_rfl) (by kernel_rfl) (by simp) ?_
          | refine w_drawnF (id := 8) tb56_8Sha4 pl56_8Sha4 65 (by kernel_rfl) (by kernel_rfl) (by simp) ?_
          | refine w_drawnF (id := 10) tb56_10Sha4 pl56_10Sha4 87 (by kernel_rfl) (by kernel_rfl) (by simp) ?_
          | refine w_drawnF (id := 16) tb56_16Sha4 pl56_16Sha4 108 (by kernel_rfl) (by kernel_rfl) (by simp) ?_
        refine w_loopH (α := Nat) ph ph.ob ph.ty (fun i => [.undef, .undef, .ptr ph.n 0, .undef, .ptr (ph.n + 1) 0, .undef, .ptr (ph.n + 3) 0, .ptr (ph.n + 2) 0, .undef, .undef, .undef, .undef, .undef, .undef, .undef, .undef, .undef, .undef, .undef, .undef, .undef, .undef, .undef, .undef, .agg (wC ws), .int .i64 i, .undef, .undef, .undef, .undef, .undef, .undef, .undef, .undef, .undef, .undef, .undef, .undef, .undef, .undef, .undef, .undef, .undef, .undef, .undef, .undef, .undef, .undef, .undef, .undef, .undef, .undef, .undef, .undef, .undef, .undef, .undef, .undef, .undef, .undef, .undef, .undef, .undef, .undef, .undef, .undef, .undef, .undef, .undef, .undef, .undef, .undef, .undef, .undef, .undef, .undef, .undef, .undef, .undef, .undef, .undef, .undef, .undef, .undef, .undef, .undef, .undef, .undef, .undef, .undef, .undef, .undef, .undef, .undef, .undef, .undef, .undef, .undef, .undef, .undef, .undef, .undef, .undef, .undef, .undef, .undef, .undef, .undef, .undef, .undef]) (fun i => [some (.own (wC (roundsL h s i))), some (.own (wC z8W)), some (.own (wC h)), some (.own (wC shaK))]) (fun i => i ≤ 64) (fun i => 64 - i) 0 (by simp) (fun _ _ => by simp) (.eq (by simp [FadeTo]) rfl) ?_
        intro i hi K hK
        rcases Nat.lt_or_ge i 64 with hlt | hge
        · have hlt' : (i : Int) < 64 := by omega
          obtain ⟨k, hk⟩ := get_someW (show i < shaK.length by rw [shaK_len]; exact hlt)
          obtain ⟨x, hx⟩ := get_someW (show i < ws.length by rw [hwl]; exact hlt)
          have ck : (wC shaK)[i]? = some (.int .u32 k.toNat) := by rw [wC_get, hk]; rfl
          have cx : (wC ws)[i]? = some (.int .u32 x.toNat) := by rw [wC_get, hx]; rfl
          obtain ⟨a, b, c, d, e, f, g, y, hL⟩ := eight (roundsL_len hl s i)
          have hc : wC (roundsL h s i) = [.int .u32 a.toNat, .int .u32 b.toNat, .int .u32 c.toNat, .int .u32 d.toNat, .int .u32 e.toNat, .int .u32 f.toNat, .int .u32 g.toNat, .int .u32 y.toNat] := by rw [hL]; rfl
          have hr : roundsL h s (i + 1) = roundL [a, b, c, d, e, f, g, y] k x := by
            rw [roundsL, hL, ← hws, List.getD_eq_getElem?_getD, hk, List.getD_eq_getElem?_getD, hx]; rfl
          obtain ⟨t, ht⟩ : ∃ t, t = y + (rotr e 6 ^^^ rotr e 11 ^^^ rotr e 25) + ((e &&& f) ^^^ (~~~ e &&& g)) + k + x := ⟨_, rfl⟩
          obtain ⟨u, hu⟩ : ∃ u, u = (rotr a 2 ^^^ rotr a 13 ^^^ rotr a 22) + ((a &&& b) ^^^ (a &&& c) ^^^ (b &&& c)) := ⟨_, rfl⟩
          have hr2 : wC (roundsL h s (i + 1)) = [.int .u32 (t + u).toNat, .int .u32 a.toNat, .int .u32 b.toNat, .int .u32 c.toNat, .int .u32 (d + t).toNat, .int .u32 e.toNat, .int .u32 f.toNat, .int .u32 g.toNat] := by
            rw [hr, ht, hu]; rfl
          have ht' := ht.symm
          have hu' := hu.symm
          have hlen : i + 1 ≤ (wC shaK).length := by rw [n3]; omega
          rw [hc]
          repeat' first
            | simp -implicitDefEqProofs (maxSteps := 400000) (disch := first | with_reducible rfl | omega | (simp only [h_n, PH.n_push, PH.n_put, List.length_cons, List.length_nil] <;> omega) | decide) only [wkAll, wkL, popO, wantedP, if_true, if_false, reduceIte, ne_eq, Nat.reduceAdd, Nat.reduceSub, Nat.reduceMul, Nat.reduceLeDiff, Nat.reduceLT, ofCells, ofCell, reduceCtorEq, Int.reduceLE, Int.reduceLT, Int.reduceToNat, Int.reduceAdd, Int.reduceSub, Int.reduceMul, Int.reduceNeg, Int.reduceBEq, Int.reduceBNe, Int.reduceEq, eqCell, eqCells, binP, unP, convP, lenP, builtinP, sliceDataP, unsafeStringP, appendT, appendS, appendP, copyP, srcP, mmsP, mmP, indexOp, indexAddrOp, sliceOp, bndsP, bndP, capw, capCut, loadOp, storeOp, loadP, fieldOp, fieldAddrOp, arrayAtOp, buildP, buildSliceP, makeSliceP, placeF, fillP, setL, PK.agg, isZero, gt_iff_lt, Nat.reducePow, Nat.reduceGT, reps, seg, wkN, if_pos, if_neg, t_nil, t_no, t_mv, t_fx, t_op, t_true, t_false, t_mvk, t_se0, t_se, and_true, tf3, Try.ze3, tf9, Try.ze9, tf23, Try.ze23, tf79, Try.ze79, tf99, Try.ze99, tf107, Try.ze107, pl56_3Sha4, pl56_7Sha4, pl56_8Sha4, pl56_10Sha4, pl56_16Sha4, hlt', ck, cx, n3, n10, hlen, Int.toNat_natCast, xor32, add32, and32, or32, ch_eq, maj_eq, ht', hu']
            | refine w_pure (turn_ok e 6 (by omega) (by omega)) ?_
            | refine w_pure (turn_ok e 11 (by omega) (by omega)) ?_
            | refine w_pure (turn_ok e 25 (by omega) (by omega)) ?_
            | refine w_pure (turn_ok a 2 (by omega) (by omega)) ?_
            | refine w_pure (turn_ok a 13 (by omega) (by omega)) ?_
            | refine w_pure (turn_ok a 22 (by omega) (by omega)) ?_
            | refine w_dec (fun _ => ?_) (fun _ => ?_)
            | refine w_eqc (fun _ => ?_) (fun _ => ?_)
            | refine w_neqc (fun _ => ?_) (fun _ => ?_)
            | refine w_nneqc (fun _ => ?_) (fun _ => ?_)
            | ((first | refine w_split (fun h => ?_) (fun h => ?_) | refine d_split (fun h => ?_) (fun h => ?_) | refine w_csplit (fun h => ?_) (fun h => ?_)) <;> (try simp only [wkS] at h) <;> (have h2 := h) <;> (try simp only [wkT, ne_eq] at h2) <;> (try simp only [h]))
            | refine And.intro ?_ ?_
            | refine w_drawnTF (id := 3) tb56_3Sha4 pl56_3Sha4 [0, 1, 2, 3, 4, 5] 23 (by kernel_rfl) (by kernel_rfl) (by simp) ?_
            | refine w_drawnF (id := 7) tb56_7Sha4 pl56_7Sha4 37 (by kernel_rfl) (by kernel_rfl) (by simp) ?_
            | refine w_drawnF (id := 8) tb56_8Sha4 pl56_8Sha4 65 (by kernel_rfl) (by kernel_rfl) (by simp) ?_
            | refine w_drawnF (id := 10) tb56_10Sha4 pl56_10Sha4 87 (by kernel_rfl) (by kernel_rfl) (by simp) ?_
            | refine w_drawnF (id := 16) tb56_16Sha4 pl56_16Sha4 108 (by kernel_rfl) (by kernel_rfl) (by simp) ?_
          refine w_inl ([Go.ResultVar.tmp 2]) Try.func68 rfl rfl (by decide) fun _ hI => ?_
          simp only [start, List.length_cons, List.length_nil, List.cons_append, List.nil_append, Nat.reduceAdd, Nat.reduceSub, List.replicate_succ, List.replicate_zero, Try.ntmps68]
          repeat' first
            | simp -implicitDefEqProofs (maxSteps := 400000) (disch := first | with_reducible rfl | omega | (simp only [h_n, PH.n_push, PH.n_put, List.length_cons, List.length_nil] <;> omega) | decide) only [wkAll, wkL, popO, wantedP, if_true, if_false, reduceIte, ne_eq, Nat.reduceAdd, Nat.reduceSub, Nat.reduceMul, Nat.reduceLeDiff, Nat.reduceLT, ofCells, ofCell, reduceCtorEq, Int.reduceLE, Int.reduceLT, Int.reduceToNat, Int.reduceAdd, Int.reduceSub, Int.reduceMul, Int.reduceNeg, Int.reduceBEq, Int.reduceBNe, Int.reduceEq, eqCell, eqCells, binP, unP, convP, lenP, builtinP, sliceDataP, unsafeStringP, appendT, appendS, appendP, copyP, srcP, mmsP, mmP, indexOp, indexAddrOp, sliceOp, bndsP, bndP, capw, capCut, loadOp, storeOp, loadP, fieldOp, fieldAddrOp, arrayAtOp, buildP, buildSliceP, makeSliceP, placeF, fillP, setL, PK.agg, isZero, gt_iff_lt, Nat.reducePow, Nat.reduceGT, reps, seg, wkN, if_pos, if_neg, tf23, Try.ze23, tf99, Try.ze99, Option.getD_none]
            | refine w_dec (fun _ => ?_) (fun _ => ?_)
            | refine w_eqc (fun _ => ?_) (fun _ => ?_)
            | refine w_neqc (fun _ => ?_) (fun _ => ?_)
            | refine w_nneqc (fun _ => ?_) (fun _ => ?_)
            | ((first | refine w_split (fun h => ?_) (fun h => ?_) | refine d_split (fun h => ?_) (fun h => ?_) | refine w_csplit (fun h => ?_) (fun h => ?_)) <;> (try simp only [wkS] at h) <;> (have h2 := h) <;> (try simp only [wkT, ne_eq] at h2) <;> (try simp only [h]))
          refine hI (by first | exact .inr rfl | exact .inl rfl) trivial (by first | (simp -implicitDefEqProofs (maxSteps := 400000) (disch := first | with_reducible rfl | omega | (simp only [h_n, PH.n_push, PH.n_put, List.length_cons, List.length_nil] <;> omega) | decide) only [wkAll, wkL, popO, wantedP, if_true, if_false, reduceIte, ne_eq, Nat.reduceAdd, Nat.reduceSub, Nat.reduceMul, Nat.reduceLeDiff, Nat.reduceLT, ofCells, ofCell, reduceCtorEq, Int.reduceLE, Int.reduceLT, Int.reduceToNat, Int.reduceAdd, Int.reduceSub, Int.reduceMul, Int.reduceNeg, Int.reduceBEq, Int.reduceBNe, Int.reduceEq, eqCell, eqCells, binP, unP, convP, lenP, builtinP, sliceDataP, unsafeStringP, appendT, appendS, appendP, copyP, srcP, mmsP, mmP, indexOp, indexAddrOp, sliceOp, bndsP, bndP, capw, capCut, loadOp, storeOp, loadP, fieldOp, fieldAddrOp, arrayAtOp, buildP, buildSliceP, makeSliceP, placeF, fillP, setL, PK.agg, isZero, gt_iff_lt, Nat.reducePow, Nat.reduceGT, reps, seg, wkN, if_pos, if_neg, tf23, Try.ze23, tf99, Try.ze99, resP, resPs, resP1]; rfl) | rfl) ?_
          repeat' first
            | simp -implicitDefEqProofs (maxSteps := 400000) (disch := first | with_reducible rfl | omega | (simp only [h_n, PH.n_push, PH.n_put, List.length_cons, List.length_nil] <;> omega) | decide) only [wkAll, wkL, popO, wantedP, if_true, if_false, reduceIte, ne_eq, Nat.reduceAdd, Nat.reduceSub, Nat.reduceMul, Nat.reduceLeDiff, Nat.reduceLT, ofCells, ofCell, reduceCtorEq, Int.reduceLE, Int.reduceLT, Int.reduceToNat, Int.reduceAdd, Int.reduceSub, Int.reduceMul, Int.reduceNeg, Int.reduceBEq, Int.reduceBNe, Int.reduceEq, eqCell, eqCells, binP, unP, convP, lenP, builtinP, sliceDataP, unsafeStringP, appendT, appendS, appendP, copyP, srcP, mmsP, mmP, indexOp, indexAddrOp, sliceOp, bndsP, bndP, capw, capCut, loadOp, storeOp, loadP, fieldOp, fieldAddrOp, arrayAtOp, buildP, buildSliceP, makeSliceP, placeF, fillP, setL, PK.agg, isZero, gt_iff_lt, Nat.reducePow, Nat.reduceGT, reps, seg, wkN, if_pos, if_neg, t_nil, t_no, t_mv, t_fx, t_op, t_true, t_false, t_mvk, t_se0, t_se, and_true, tf3, Try.ze3, tf9, Try.ze9, tf23, Try.ze23, tf79, Try.ze79, tf99, Try.ze99, tf107, Try.ze107, pl56_3Sha4, pl56_7Sha4, pl56_8Sha4, pl56_10Sha4, pl56_16Sha4, Option.getD_none, Nat.min_self, add32, ht', hu']
            | refine w_dec (fun _ => ?_) (fun _ => ?_)
            | refine w_eqc (fun _ => ?_) (fun _ => ?_)
            | refine w_neqc (fun _ => ?_) (fun _ => ?_)
            | refine w_nneqc (fun _ => ?_) (fun _ => ?_)
            | ((first | refine w_split (fun h => ?_) (fun h => ?_) | refine d_split (fun h => ?_) (fun h => ?_) | refine w_csplit (fun h => ?_) (fun h => ?_)) <;> (try simp only [wkS] at h) <;> (have h2 := h) <;> (try simp only [wkT, ne_eq] at h2) <;> (try simp only [h]))
            | refine And.intro ?_ ?_
            | refine w_drawnTF (id := 3) tb56_3Sha4 pl56_3Sha4 [0, 1, 2, 3, 4, 5] 23 (by kernel_rfl) (by kernel_rfl) (by simp) ?_
            | refine w_drawnF (id := 7) tb56_7Sha4 pl56_7Sha4 37 (by kernel_rfl) (by kernel_rfl) (by simp) ?_
            | refine w_drawnF (id := 8) tb56_8Sha4 pl56_8Sha4 65 (by kernel_rfl) (by kernel_rfl) (by simp) ?_
            | refine w_drawnF (id := 10) tb56_10Sha4 pl56_10Sha4 87 (by kernel_rfl) (by kernel_rfl) (by simp) ?_
            | refine w_drawnF (id := 16) tb56_16Sha4 pl56_16Sha4 108 (by kernel_rfl) (by kernel_rfl) (by simp) ?_
          refine hK (i + 1) _ _ (by omega) (by omega) (.cut [_, _] hW (by simp [FadeTo]) (by rw [hr2]; rfl) (by simp [scs_cons, scs_nil, sc_ptr, sc_fsl, sc_gsl, sc_sl, sc_agg, sc_func, sc_int, sc_bool, sc_str, sc_undef, sc_nilptr, sc_nilsl, sc_yield, sc_tuple, sc_fptr, scs_bytes, scs_append, scs_w]) (by simp [scs_cons, scs_nil, sc_ptr, sc_fsl, sc_gsl, sc_sl, sc_agg, sc_func, sc_int, sc_bool, sc_str, sc_undef, sc_nilptr, sc_nilsl, sc_yield, sc_tuple, sc_fptr, scs_bytes, scs_append, scs_w]))
        · have hge' : ¬ (i : Int) < 64 := by omega
          have : i = 64 := by omega
          subst this
          obtain ⟨L, hL⟩ : ∃ L, L = roundsL h s 64 := ⟨_, rfl⟩
          have hLl : L.length = 8 := by rw [hL]; exact roundsL_len hl s 64
          have hbw : blockW h s = addW L h 8 := by rw [addW_all hLl hl, blockW, hL]
          rw [hbw] at hQ
          rw [← hL]
          clear hL hbw
          repeat' first
            | simp -implicitDefEqProofs (maxSteps := 400000) (disch := first | with_reducible rfl | omega | (simp only [h_n, PH.n_push, PH.n_put, List.length_cons, List.length_nil] <;> omega) | decide) only [wkAll, wkL, popO, wantedP, if_true, if_false, reduceIte, ne_eq, Nat.reduceAdd, Nat.reduceSub, Nat.reduceMul, Nat.reduceLeDiff, Nat.reduceLT, ofCells, ofCell, reduceCtorEq, Int.reduceLE, Int.reduceLT, Int.reduceToNat, Int.reduceAdd, Int.reduceSub, Int.reduceMul, Int.reduceNeg, Int.reduceBEq, Int.reduceBNe, Int.reduceEq, eqCell, eqCells, binP, unP, convP, lenP, builtinP, sliceDataP, unsafeStringP, appendT, appendS, appendP, copyP, srcP, mmsP, mmP, indexOp, indexAddrOp, sliceOp, bndsP, bndP, capw, capCut, loadOp, storeOp, loadP, fieldOp, fieldAddrOp, arrayAtOp, buildP, buildSliceP, makeSliceP, placeF, fillP, setL, PK.agg, isZero, gt_iff_lt, Nat.reducePow, Nat.reduceGT, reps, seg, wkN, if_pos, if_neg, t_nil, t_no, t_mv, t_fx, t_op, t_true, t_false, t_mvk, t_se0, t_se, and_true, tf3, Try.ze3, tf9, Try.ze9, tf23, Try.ze23, tf79, Try.ze79, tf99, Try.ze99, tf107, Try.ze107, pl56_3Sha4, pl56_7Sha4, pl56_8Sha4, pl56_10Sha4, pl56_16Sha4, hge']
            | refine w_dec (fun _ => ?_) (fun _ => ?_)
            | refine w_eqc (fun _ => ?_) (fun _ => ?_)
            | refine w_neqc (fun _ => ?_) (fun _ => ?_)
            | refine w_nneqc (fun _ => ?_) (fun _ => ?_)
            | ((first | refine w_split (fun h => ?_) (fun h => ?_) | refine d_split (fun h => ?_) (fun h => ?_) | refine w_csplit (fun h => ?_) (fun h => ?_)) <;> (try simp only [wkS] at h) <;> (have h2 := h) <;> (try simp only [wkT, ne_eq] at h2) <;> (try simp only [h]))
            | refine And.intro ?_ ?_
            | refine w_drawnTF (id := 3) tb56_3Sha4 pl56_3Sha4 [0, 1, 2, 3, 4, 5] 23 (by kernel_rfl) (by kernel_rfl) (by simp) ?_
            | refine w_drawnF (id := 7) tb56_7Sha4 pl56_7Sha4 37 (by kernel_rfl) (by kernel_rfl) (by simp) ?_
            | refine w_drawnF (id := 8) tb56_8Sha4 pl56_8Sha4 65 (by kernel_rfl) (by kernel_rfl) (by simp) ?_
            | refine w_drawnF (id := 10) tb56_10Sha4 pl56_10Sha4 87 (by kernel_rfl) (by kernel_rfl) (by simp) ?_
            | refine w_drawnF (id := 16) tb56_16Sha4 pl56_16Sha4 108 (by kernel_rfl) (by kernel_rfl) (by simp) ?_
          refine w_loopH (α := Nat) ph ph.ob ph.ty (fun i => [.undef, .undef, .ptr ph.n 0, .undef, .ptr (ph.n + 1) 0, .undef, .undef, .ptr (ph.n + 2) 0, .undef, .undef, .undef, .undef, .undef, .undef, .undef, .undef, .undef, .undef, .undef, .undef, .undef, .undef, .undef, .undef, .undef, .undef, .undef, .undef, .undef, .undef, .undef, .undef, .undef, .undef, .undef, .undef, .undef, .undef, .undef, .undef, .undef, .undef, .undef, .undef, .undef, .undef, .undef, .undef, .undef, .undef, .undef, .undef, .undef, .undef, .undef, .undef, .undef, .undef, .undef, .undef, .undef, .undef, .undef, .undef, .undef, .undef, .undef, .undef, .undef, .undef, .undef, .undef, .undef, .undef, .undef, .undef, .undef, .undef, .undef, .undef, .undef, .undef, .undef, .undef, .undef, .undef, .undef, .undef, .undef, .undef, .undef, .undef, .undef, .undef, .undef, .undef, .undef, .int .i64 i, .undef, .undef, .undef, .undef, .undef, .undef, .undef, .undef, .undef, .undef, .undef, .undef]) (fun i => [some (.own (wC (addW L h i))), some (.own (wC z8W)), some (.own (wC h)), some (.own (wC shaK))]) (fun i => i ≤ 8) (fun i => 8 - i) 0 (by simp) (fun _ _ => by simp) (.eq (by simp [FadeTo]) (by simp only [addW_zero])) ?_
          clear hi hK hge hge'
          intro i hi K hK
          have l1 : (wC (addW L h i)).length = 8 := by rw [wC_len, addW_len hLl hl]
          rcases Nat.lt_or_ge i 8 with hlt | hge
          · have hlt' : (i : Int) < 8 := by omega
            obtain ⟨x, hx⟩ := get_someW (show i < L.length by rw [hLl]; exact hlt)
            obtain ⟨y, hy⟩ := get_someW (show i < h.length by rw [hl]; exact hlt)
            have cx : (wC (addW L h i))[i]? = some (.int .u32 x.toNat) := by rw [wC_get, addW_get hLl hl hlt, hx]; rfl
            have cy : (wC h)[i]? = some (.int .u32 y.toNat) := by rw [wC_get, hy]; rfl
            have hsucc := (addW_succ hLl hl hlt hx hy).symm
            have m1 : i + 1 ≤ (wC h).length := by omega
            have m2 : i + 1 ≤ (wC (addW L h i)).length := by omega
            repeat' first
              | simp -implicitDefEqProofs (maxSteps := 400000) (disch := first | with_reducible rfl | omega | (simp only [h_n, PH.n_push, PH.n_put, List.length_cons, List.length_nil] <;> omega) | decide) only [wkAll, wkL, popO, wantedP, if_true, if_false, reduceIte, ne_eq, Nat.reduceAdd, Nat.reduceSub, Nat.reduceMul, Nat.reduceLeDiff, Nat.reduceLT, ofCells, ofCell, reduceCtorEq, Int.reduceLE, Int.reduceLT, Int.reduceToNat, Int.reduceAdd, Int.reduceSub, Int.reduceMul, Int.reduceNeg, Int.reduceBEq, Int.reduceBNe, Int.reduceEq, eqCell, eqCells, binP, unP, convP, lenP, builtinP, sliceDataP, unsafeStringP, appendT, appendS, appendP, copyP, srcP, mmsP, mmP, indexOp, indexAddrOp, sliceOp, bndsP, bndP, capw, capCut, loadOp, storeOp, loadP, fieldOp, fieldAddrOp, arrayAtOp, buildP, buildSliceP, makeSliceP, placeF, fillP, setL, PK.agg, isZero, gt_iff_lt, Nat.reducePow, Nat.reduceGT, reps, seg, wkN, if_pos, if_neg, t_nil, t_no, t_mv, t_fx, t_op, t_true, t_false, t_mvk, t_se0, t_se, and_true, tf3, Try.ze3, tf9, Try.ze9, tf23, Try.ze23, tf79, Try.ze79, tf99, Try.ze99, tf107, Try.ze107, pl56_3Sha4, pl56_7Sha4, pl56_8Sha4, pl56_10Sha4, pl56_16Sha4, hlt', cx, cy, Int.toNat_natCast, add32, wC_set, hsucc, n1, l1, m1, m2]
              | refine w_dec (fun _ => ?_) (fun _ => ?_)
              | refine w_eqc (fun _ => ?_) (fun _ => ?_)
              | refine w_neqc (fun _ => ?_) (fun _ => ?_)
              | refine w_nneqc (fun _ => ?_) (fun _ => ?_)
              | ((first | refine w_split (fun h => ?_) (fun h => ?_) | refine d_split (fun h => ?_) (fun h => ?_) | refine w_csplit (fun h => ?_) (fun h => ?_)) <;> (try simp only [wkS] at h) <;> (have h2 := h) <;> (try simp only [wkT, ne_eq] at h2) <;> (try simp only [h]))
              | refine And.intro ?_ ?_
              | refine w_drawnTF (id := 3) tb56_3Sha4 pl56_3Sha4 [0, 1, 2, 3, 4, 5] 23 (by kernel_rfl) (by kernel_rfl) (by simp) ?_
              | refine w_drawnF (id := 7) tb56_7Sha4 pl56_7Sha4 37 (by kernel_rfl) (by kernel_rfl) (by simp) ?_
              | refine w_drawnF (id := 8) tb56_8Sha4 pl56_8Sha4 65 (by kernel_rfl) (by kernel_rfl) (by simp) ?_
              | refine w_drawnF (id := 10) tb56_10Sha4 pl56_10Sha4 87 (by kernel_rfl) (by kernel_rfl) (by simp) ?_
              | refine w_drawnF (id := 16) tb56_16Sha4 pl56_16Sha4 108 (by kernel_rfl) (by kernel_rfl) (by simp) ?_
            refine hK (i + 1) _ _ (by omega) (by omega) (.eq (by simp [FadeTo]) rfl)
          · have hge' : ¬ (i : Int) < 8 := by omega
            have : i = 8 := by omega
            subst this
            have l2 : setL (wC z8W) 0 (wC (addW L h 8)) = wC (addW L h 8) := setL_whole (by rw [n7, l1])
            have l3 : (wC (addW L h 8)).take 8 = wC (addW L h 8) := take_w (addW_len hLl hl 8)
            generalize addW L h 8 = R at *
            repeat' first
              | simp -implicitDefEqProofs (maxSteps := 400000) (disch := first | with_reducible rfl | omega | (simp only [h_n, PH.n_push, PH.n_put, List.length_cons, List.length_nil] <;> omega) | decide) only [wkAll, wkL, popO, wantedP, if_true, if_false, reduceIte, ne_eq, Nat.reduceAdd, Nat.reduceSub, Nat.reduceMul, Nat.reduceLeDiff, Nat.reduceLT, ofCells, ofCell, reduceCtorEq, Int.reduceLE, Int.reduceLT, Int.reduceToNat, Int.reduceAdd, Int.reduceSub, Int.reduceMul, Int.reduceNeg, Int.reduceBEq, Int.reduceBNe, Int.reduceEq, eqCell, eqCells, binP, unP, convP, lenP, builtinP, sliceDataP, unsafeStringP, appendT, appendS, appendP, copyP, srcP, mmsP, mmP, indexOp, indexAddrOp, sliceOp, bndsP, bndP, capw, capCut, loadOp, storeOp, loadP, fieldOp, fieldAddrOp, arrayAtOp, buildP, buildSliceP, makeSliceP, placeF, fillP, setL, PK.agg, isZero, gt_iff_lt, Nat.reducePow, Nat.reduceGT, reps, seg, wkN, if_pos, if_neg, t_nil, t_no, t_mv, t_fx, t_op, t_true, t_false, t_mvk, t_se0, t_se, and_true, tf3, Try.ze3, tf9, Try.ze9, tf23, Try.ze23, tf79, Try.ze79, tf99, Try.ze99, tf107, Try.ze107, pl56_3Sha4, pl56_7Sha4, pl56_8Sha4, pl56_10Sha4, pl56_16Sha4, hge', Try.sz79, n7, l1, l2, l3, wC_ok]
              | refine w_dec (fun _ => ?_) (fun _ => ?_)
              | refine w_eqc (fun _ => ?_) (fun _ => ?_)
              | refine w_neqc (fun _ => ?_) (fun _ => ?_)
              | refine w_nneqc (fun _ => ?_) (fun _ => ?_)
              | ((first | refine w_split (fun h => ?_) (fun h => ?_) | refine d_split (fun h => ?_) (fun h => ?_) | refine w_csplit (fun h => ?_) (fun h => ?_)) <;> (try simp only [wkS] at h) <;> (have h2 := h) <;> (try simp only [wkT, ne_eq] at h2) <;> (try simp only [h]))
              | refine And.intro ?_ ?_
              | refine w_drawnTF (id := 3) tb56_3Sha4 pl56_3Sha4 [0, 1, 2, 3, 4, 5] 23 (by kernel_rfl) (by kernel_rfl) (by simp) ?_
              | refine w_drawnF (id := 7) tb56_7Sha4 pl56_7Sha4 37 (by kernel_rfl) (by kernel_rfl) (by simp) ?_
              | refine w_drawnF (id := 8) tb56_8Sha4 pl56_8Sha4 65 (by kernel_rfl) (by kernel_rfl) (by simp) ?_
              | refine w_drawnF (id := 10) tb56_10Sha4 pl56_10Sha4 87 (by kernel_rfl) (by kernel_rfl) (by simp) ?_
              | refine w_drawnF (id := 16) tb56_16Sha4 pl56_16Sha4 108 (by kernel_rfl) (by kernel_rfl) (by simp) ?_
            refine hQ (by first | exact .inr rfl | exact .inl rfl) (by first | exact trivial | exact marks1) (by first | (simp -implicitDefEqProofs (maxSteps := 400000) (disch := first | with_reducible rfl | omega | (simp only [h_n, PH.n_push, PH.n_put, List.length_cons, List.length_nil] <;> omega) | decide) only [wkAll, wkL, popO, wantedP, if_true, if_false, reduceIte, ne_eq, Nat.reduceAdd, Nat.reduceSub, Nat.reduceMul, Nat.reduceLeDiff, Nat.reduceLT, ofCells, ofCell, reduceCtorEq, Int.reduceLE, Int.reduceLT, Int.reduceToNat, Int.reduceAdd, Int.reduceSub, Int.reduceMul, Int.reduceNeg, Int.reduceBEq, Int.reduceBNe, Int.reduceEq, eqCell, eqCells, binP, unP, convP, lenP, builtinP, sliceDataP, unsafeStringP, appendT, appendS, appendP, copyP, srcP, mmsP, mmP, indexOp, indexAddrOp, sliceOp, bndsP, bndP, capw, capCut, loadOp, storeOp, loadP, fieldOp, fieldAddrOp, arrayAtOp, buildP, buildSliceP, makeSliceP, placeF, fillP, setL, PK.agg, isZero, gt_iff_lt, Nat.reducePow, Nat.reduceGT, reps, seg, wkN, if_pos, if_neg, t_nil, t_no, t_mv, t_fx, t_op, t_true, t_false, t_mvk, t_se0, t_se, and_true, tf3, Try.ze3, tf9, Try.ze9, tf23, Try.ze23, tf79, Try.ze79, tf99, Try.ze99, tf107, Try.ze107, pl56_3Sha4, pl56_7Sha4, pl56_8Sha4, pl56_10Sha4, pl56_16Sha4, resP, resPs, resP1, Try.sz79, n7, l1, l2, l3, wC_ok]; rfl) | rfl) ⟨6, by repeat' first | exact frz_scalar rfl | apply frz_tuple | apply frz_agg | apply frz_fsl | apply frz_gsl (by omega) | exact frzs_nil | apply frzs_cons | exact frzs_scalars (wC_scalar _)⟩ (by first | exact keepsH0 | exact keeps1 (by assumption) | exact keepsH (fun _ _ h => h) (fun p hp => by simp only [upF]; (repeat rw [if_neg (by omega)])) | exact keeps1t (by assumption) (fun p hp => by simp only [upF]; (repeat rw [if_neg (by omega)])) | (subst hT; exact keepsH (fun _ _ h => h) fun _ _ => rfl)) (nw_eq ?_)
            rfl
      · simp only [if_true, if_false, reduceIte, Bool.false_eq_true]
        repeat' first
          | simp -implicitDefEqProofs (maxSteps := 400000) (disch := first | with_reducible rfl | omega | (simp only [h_n, PH.n_push, PH.n_put, List.length_cons, List.length_nil] <;> omega) | decide) only [wkAll, wkL, popO, wantedP, if_true, if_false, reduceIte, ne_eq, Nat.reduceAdd, Nat.reduceSub, Nat.reduceMul, Nat.reduceLeDiff, Nat.reduceLT, ofCells, ofCell, reduceCtorEq, Int.reduceLE, Int.reduceLT, Int.reduceToNat, Int.reduceAdd, Int.reduceSub, Int.reduceMul, Int.reduceNeg, Int.reduceBEq, Int.reduceBNe, Int.reduceEq, eqCell, eqCells, binP, unP, convP, lenP, builtinP, sliceDataP, unsafeStringP, appendT, appendS, appendP, copyP, srcP, mmsP, mmP, indexOp, indexAddrOp, sliceOp, bndsP, bndP, capw, capCut, loadOp, storeOp, loadP, fieldOp, fieldAddrOp, arrayAtOp, buildP, buildSliceP, makeSliceP, placeF, fillP, setL, PK.agg, isZero, gt_iff_lt, Nat.reducePow, Nat.reduceGT, reps, seg, wkN, if_pos, if_neg, t_nil, t_no, t_mv, t_fx, t_op, t_true, t_false, t_mvk, t_se0, t_se, and_true, tf3, Try.ze3, tf9, Try.ze9, tf23, Try.ze23, tf79, Try.ze79, tf99, Try.ze99, tf107, Try.ze107, pl56_3Sha4, pl56_7Sha4, pl56_8Sha4, pl56_10Sha4, pl56_16Sha4]
          | refine w_pure (hsch) ?_
          | refine w_dec (fun _ => ?_) (fun _ => ?_)
          | refine w_eqc (fun _ => ?_) (fun _ => ?_)
          | refine w_neqc (fun _ => ?_) (fun _ => ?_)
          | refine w_nneqc (fun _ => ?_) (fun _ => ?_)
          | ((first | refine w_split (fun h => ?_) (fun h => ?_) | refine d_split (fun h => ?_) (fun h => ?_) | refine w_csplit (fun h => ?_) (fun h => ?_)) <;> (try simp only [wkS] at h) <;> (have h2 := h) <;> (try simp only [wkT, ne_eq] at h2) <;> (try simp only [h]))
          | refine And.intro ?_ ?_
          | refine w_drawnTF (id := 3) tb56_3Sha4 pl56_3Sha4 [0, 1, 2, 3, 4, 5] 23 (by kernel_rfl) (by kernel_rfl) (by simp) ?_
          | refine w_drawnF (id := 7) tb56_7Sha4 pl56_7Sha4 37 (by kernel_rfl) (by kernel_rfl) (by simp) ?_
          | refine w_drawnF (id := 8) tb56_8Sha4 pl56_8Sha4 65 (by kernel_rfl) (by kernel_rfl) (by simp) ?_
          | refine w_drawnF (id := 10) tb56_10Sha4 pl56_10Sha4 87 (by kernel_rfl) (by kernel_rfl) (by simp) ?_
          | refine w_drawnF (id := 16) tb56_16Sha4 pl56_16Sha4 108 (by kernel_rfl) (by kernel_rfl) (by simp) ?_
        refine w_loopH (α := Nat) ph ph.ob ph.ty (fun i => [.undef, .undef, .ptr ph.n 0, .undef, .ptr (ph.n + 1) 0, .undef, .ptr (ph.n + 2) 0, .ptr (ph.n + 3) 0, .undef, .undef, .undef, .undef, .undef, .undef, .undef, .undef, .undef, .undef, .undef, .undef, .undef, .undef, .undef, .undef, .agg (wC ws), .int .i64 i, .undef, .undef, .undef, .undef, .undef, .undef, .undef, .undef, .undef, .undef, .undef, .undef, .undef, .undef, .undef, .undef, .undef, .undef, .undef, .undef, .undef, .undef, .undef, .undef, .undef, .undef, .undef, .undef, .undef, .undef, .undef, .undef, .undef, .undef, .undef, .undef, .undef, .undef, .undef, .undef, .undef, .undef, .undef, .undef, .undef, .undef, .undef, .undef, .undef, .undef, .undef, .undef, .undef, .undef, .undef, .undef, .undef, .undef, .undef, .undef, .undef, .undef, .undef, .undef, .undef, .undef, .undef, .undef, .undef, .undef, .undef, .undef, .undef, .undef, .undef, .undef, .undef, .undef, .undef, .undef, .undef, .undef, .undef, .undef]) (fun i => [some (.own (wC (roundsL h s i))), some (.own (wC z8W)), some (.own (wC shaK)), some (.own (wC h))]) (fun i => i ≤ 64) (fun i => 64 - i) 0 (by simp) (fun _ _ => by simp) (.eq (by simp [FadeTo]) rfl) ?_
        intro i hi K hK
        rcases Nat.lt_or_ge i 64 with hlt | hge
        · have hlt' : (i : Int) < 64 := by omega
          obtain ⟨k, hk⟩ := get_someW (show i < shaK.length by rw [shaK_len]; exact hlt)
          obtain ⟨x, hx⟩ := get_someW (show i < ws.length by rw [hwl]; exact hlt)
          have ck : (wC shaK)[i]? = some (.int .u32 k.toNat) := by rw [wC_get, hk]; rfl
          have cx : (wC ws)[i]? = some (.int .u32 x.toNat) := by rw [wC_get, hx]; rfl
          obtain ⟨a, b, c, d, e, f, g, y, hL⟩ := eight (roundsL_len hl s i)
          have hc : wC (roundsL h s i) = [.int .u32 a.toNat, .int .u32 b.toNat, .int .u32 c.toNat, .int .u32 d.toNat, .int .u32 e.toNat, .int .u32 f.toNat, .int .u32 g.toNat, .int .u32 y.toNat] := by rw [hL]; rfl
          have hr : roundsL h s (i + 1) = roundL [a, b, c, d, e, f, g, y] k x := by
            rw [roundsL, hL, ← hws, List.getD_eq_getElem?_getD, hk, List.getD_eq_getElem?_getD, hx]; rfl
          obtain ⟨t, ht⟩ : ∃ t, t = y + (rotr e 6 ^^^ rotr e 11 ^^^ rotr e 25) + ((e &&& f) ^^^ (~~~ e &&& g)) + k + x := ⟨_, rfl⟩
          obtain ⟨u, hu⟩ : ∃ u, u = (rotr a 2 ^^^ rotr a 13 ^^^ rotr a 22) + ((a &&& b) ^^^ (a &&& c) ^^^ (b &&& c)) := ⟨_, rfl⟩
          have hr2 : wC (roundsL h s (i + 1)) = [.int .u32 (t + u).toNat, .int .u32 a.toNat, .int .u32 b.toNat, .int .u32 c.toNat, .int .u32 (d + t).toNat, .int .u32 e.toNat, .int .u32 f.toNat, .int .u32 g.toNat] := by
            rw [hr, ht, hu]; rfl
          have ht' := ht.symm
          have hu' := hu.symm
          have hlen : i + 1 ≤ (wC shaK).length := by rw [n3]; omega
          rw [hc]
          repeat' first
            | simp -implicitDefEqProofs (maxSteps := 400000) (disch := first | with_reducible rfl | omega | (simp only [h_n, PH.n_push, PH.n_put, List.length_cons, List.length_nil] <;> omega) | decide) only [wkAll, wkL, popO, wantedP, if_true, if_false, reduceIte, ne_eq, Nat.reduceAdd, Nat.reduceSub, Nat.reduceMul, Nat.reduceLeDiff, Nat.reduceLT, ofCells, ofCell, reduceCtorEq, Int.reduceLE, Int.reduceLT, Int.reduceToNat, Int.reduceAdd, Int.reduceSub, Int.reduceMul, Int.reduceNeg, Int.reduceBEq, Int.reduceBNe, Int.reduceEq, eqCell, eqCells, binP, unP, convP, lenP, builtinP, sliceDataP, unsafeStringP, appendT, appendS, appendP, copyP, srcP, mmsP, mmP, indexOp, indexAddrOp, sliceOp, bndsP, bndP, capw, capCut, loadOp, storeOp, loadP, fieldOp, fieldAddrOp, arrayAtOp, buildP, buildSliceP, makeSliceP, placeF, fillP, setL, PK.agg, isZero, gt_iff_lt, Nat.reducePow, Nat.reduceGT, reps, seg, wkN, if_pos, if_neg, t_nil, t_no, t_mv, t_fx, t_op, t_true, t_false, t_mvk, t_se0, t_se, and_true, tf3, Try.ze3, tf9, Try.ze9, tf23, Try.ze23, tf79, Try.ze79, tf99, Try.ze99, tf107, Try.ze107, pl56_3Sha4, pl56_7Sha4, pl56_8Sha4, pl56_10Sha4, pl56_16Sha4, hlt', ck, cx, n3, n10, hlen, Int.toNat_natCast, xor32, add32, and32, or32, ch_eq, maj_eq, ht', hu']
            | refine w_pure (turn_ok e 6 (by omega) (by omega)) ?_
            | refine w_pure (turn_ok e 11 (by omega) (by omega)) ?_
            | refine w_pure (turn_ok e 25 (by omega) (by omega)) ?_
            | refine w_pure (turn_ok a 2 (by omega) (by omega)) ?_
            | refine w_pure (turn_ok a 13 (by omega) (by omega)) ?_
            | refine w_pure (turn_ok a 22 (by omega) (by omega)) ?_
            | refine w_dec (fun _ => ?_) (fun _ => ?_)
            | refine w_eqc (fun _ => ?_) (fun _ => ?_)
            | refine w_neqc (fun _ => ?_) (fun _ => ?_)
            | refine w_nneqc (fun _ => ?_) (fun _ => ?_)
            | ((first | refine w_split (fun h => ?_) (fun h => ?_) | refine d_split (fun h => ?_) (fun h => ?_) | refine w_csplit (fun h => ?_) (fun h => ?_)) <;> (try simp only [wkS] at h) <;> (have h2 := h) <;> (try simp only [wkT, ne_eq] at h2) <;> (try simp only [h]))
            | refine And.intro ?_ ?_
            | refine w_drawnTF (id := 3) tb56_3Sha4 pl56_3Sha4 [0, 1, 2, 3, 4, 5] 23 (by kernel_rfl) (by kernel_rfl) (by simp) ?_
            | refine w_drawnF (id := 7) tb56_7Sha4 pl56_7Sha4 37 (by kernel_rfl) (by kernel_rfl) (by simp) ?_
            | refine w_drawnF (id := 8) tb56_8Sha4 pl56_8Sha4 65 (by kernel_rfl) (by kernel_rfl) (by simp) ?_
            | refine w_drawnF (id := 10) tb56_10Sha4 pl56_10Sha4 87 (by kernel_rfl) (by kernel_rfl) (by simp) ?_
            | refine w_drawnF (id := 16) tb56_16Sha4 pl56_16Sha4 108 (by kernel_rfl) (by kernel_rfl) (by simp) ?_
          refine w_inl ([Go.ResultVar.tmp 2]) Try.func68 rfl rfl (by decide) fun _ hI => ?_
          simp only [start, List.length_cons, List.length_nil, List.cons_append, List.nil_append, Nat.reduceAdd, Nat.reduceSub, List.replicate_succ, List.replicate_zero, Try.ntmps68]
          repeat' first
            | simp -implicitDefEqProofs (maxSteps := 400000) (disch := first | with_reducible rfl | omega | (simp only [h_n, PH.n_push, PH.n_put, List.length_cons, List.length_nil] <;> omega) | decide) only [wkAll, wkL, popO, wantedP, if_true, if_false, reduceIte, ne_eq, Nat.reduceAdd, Nat.reduceSub, Nat.reduceMul, Nat.reduceLeDiff, Nat.reduceLT, ofCells, ofCell, reduceCtorEq, Int.reduceLE, Int.reduceLT, Int.reduceToNat, Int.reduceAdd, Int.reduceSub, Int.reduceMul, Int.reduceNeg, Int.reduceBEq, Int.reduceBNe, Int.reduceEq, eqCell, eqCells, binP, unP, convP, lenP, builtinP, sliceDataP, unsafeStringP, appendT, appendS, appendP, copyP, srcP, mmsP, mmP, indexOp, indexAddrOp, sliceOp, bndsP, bndP, capw, capCut, loadOp, storeOp, loadP, fieldOp, fieldAddrOp, arrayAtOp, buildP, buildSliceP, makeSliceP, placeF, fillP, setL, PK.agg, isZero, gt_iff_lt, Nat.reducePow, Nat.reduceGT, reps, seg, wkN, if_pos, if_neg, tf23, Try.ze23, tf99, Try.ze99, Option.getD_none]
            | refine w_dec (fun _ => ?_) (fun _ => ?_)
            | refine w_eqc (fun _ => ?_) (fun _ => ?_)
            | refine w_neqc (fun _ => ?_) (fun _ => ?_)
            | refine w_nneqc (fun _ => ?_) (fun _ => ?_)
            | ((first | refine w_split (fun h => ?_) (fun h => ?_) | refine d_split (fun h => ?_) (fun h => ?_) | refine w_csplit (fun h => ?_) (fun h => ?_)) <;> (try simp only [wkS] at h) <;> (have h2 := h) <;> (try simp only [wkT, ne_eq] at h2) <;> (try simp only [h]))
          refine hI (by first | exact .inr rfl | exact .inl rfl) trivial (by first | (simp -implicitDefEqProofs (maxSteps := 400000) (disch := first | with_reducible rfl | omega | (simp only [h_n, PH.n_push, PH.n_put, List.length_cons, List.length_nil] <;> omega) | decide) only [wkAll, wkL, popO, wantedP, if_true, if_false, reduceIte, ne_eq, Nat.reduceAdd, Nat.reduceSub, Nat.reduceMul, Nat.reduceLeDiff, Nat.reduceLT, ofCells, ofCell, reduceCtorEq, Int.reduceLE, Int.reduceLT, Int.reduceToNat, Int.reduceAdd, Int.reduceSub, Int.reduceMul, Int.reduceNeg, Int.reduceBEq, Int.reduceBNe, Int.reduceEq, eqCell, eqCells, binP, unP, convP, lenP, builtinP, sliceDataP, unsafeStringP, appendT, appendS, appendP, copyP, srcP, mmsP, mmP, indexOp, indexAddrOp, sliceOp, bndsP, bndP, capw, capCut, loadOp, storeOp, loadP, fieldOp, fieldAddrOp, arrayAtOp, buildP, buildSliceP, makeSliceP, placeF, fillP, setL, PK.agg, isZero, gt_iff_lt, Nat.reducePow, Nat.reduceGT, reps, seg, wkN, if_pos, if_neg, tf23, Try.ze23, tf99, Try.ze99, resP, resPs, resP1]; rfl) | rfl) ?_
          repeat' first
            | simp -implicitDefEqProofs (maxSteps := 400000) (disch := first | with_reducible rfl | omega | (simp only [h_n, PH.n_push, PH.n_put, List.length_cons, List.length_nil] <;> omega) | decide) only [wkAll, wkL, popO, wantedP, if_true, if_false, reduceIte, ne_eq, Nat.reduceAdd, Nat.reduceSub, Nat.reduceMul, Nat.reduceLeDiff, Nat.reduceLT, ofCells, ofCell, reduceCtorEq, Int.reduceLE, Int.reduceLT, Int.reduceToNat, Int.reduceAdd, Int.reduceSub, Int.reduceMul, Int.reduceNeg, Int.reduceBEq, Int.reduceBNe, Int.reduceEq, eqCell, eqCells, binP, unP, convP, lenP, builtinP, sliceDataP, unsafeStringP, appendT, appendS, appendP, copyP, srcP, mmsP, mmP, indexOp, indexAddrOp, sliceOp, bndsP, bndP, capw, capCut, loadOp, storeOp, loadP, fieldOp, fieldAddrOp, arrayAtOp, buildP, buildSliceP, makeSliceP, placeF, fillP, setL, PK.agg, isZero, gt_iff_lt, Nat.reducePow, Nat.reduceGT, reps, seg, wkN, if_pos, if_neg, t_nil, t_no, t_mv, t_fx, t_op, t_true, t_false, t_mvk, t_se0, t_se, and_true, tf3, Try.ze3, tf9, Try.ze9, tf23, Try.ze23, tf79, Try.ze79, tf99, Try.ze99, tf107, Try.ze107, pl56_3Sha4, pl56_7Sha4, pl56_8Sha4, pl56_10Sha4, pl56_16Sha4, Option.getD_none, Nat.min_self, add32, ht', hu']
            | refine w_dec (fun _ => ?_) (fun _ => ?_)
            | refine w_eqc (fun _ => ?_) (fun _ => ?_)
            | refine w_neqc (fun _ => ?_) (fun _ => ?_)
            | refine w_nneqc (fun _ => ?_) (fun _ => ?_)
            | ((first | refine w_split (fun h => ?_) (fun h => ?_) | refine d_split (fun h => ?_) (fun h => ?_) | refine w_csplit (fun h => ?_) (fun h => ?_)) <;> (try simp only [wkS] at h) <;> (have h2 := h) <;> (try simp only [wkT, ne_eq] at h2) <;> (try simp only [h]))
            | refine And.intro ?_ ?_
            | refine w_drawnTF (id := 3) tb56_3Sha4 pl56_3Sha4 [0, 1, 2, 3, 4, 5] 23 (by kernel_rfl) (by kernel_rfl) (by simp) ?_
            | refine w_drawnF (id := 7) tb56_7Sha4 pl56_7Sha4 37 (by kernel_rfl) (by kernel_rfl) (by simp) ?_
            | refine w_drawnF (id := 8) tb56_8Sha4 pl56_8Sha4 65 (by kernel_rfl) (by kernel_rfl) (by simp) ?_
            | refine w_drawnF (id := 10) tb56_10Sha4 pl56_10Sha4 87 (by kernel_rfl) (by kernel_rfl) (by simp) ?_
            | refine w_drawnF (id := 16) tb56_16Sha4 pl56_16Sha4 108 (by kernel_rfl) (by kernel_rfl) (by simp) ?_
          refine hK (i + 1) _ _ (by omega) (by omega) (.cut [_, _] hW (by simp [FadeTo]) (by rw [hr2]; rfl) (by simp [scs_cons, scs_nil, sc_ptr, sc_fsl, sc_gsl, sc_sl, sc_agg, sc_func, sc_int, sc_bool, sc_str, sc_undef, sc_nilptr, sc_nilsl, sc_yield, sc_tuple, sc_fptr, scs_bytes, scs_append, scs_w]) (by simp [scs_cons, scs_nil, sc_ptr, sc_fsl, sc_gsl, sc_sl, sc_agg, sc_func, sc_int, sc_bool, sc_str, sc_undef, sc_nilptr, sc_nilsl, sc_yield, sc_tuple, sc_fptr, scs_bytes, scs_append, scs_w]))
        · have hge' : ¬ (i : Int) < 64 := by omega
          have : i = 64 := by omega
          subst this
          obtain ⟨L, hL⟩ : ∃ L, L = roundsL h s 64 := ⟨_, rfl⟩
          have hLl : L.length = 8 := by rw [hL]; exact roundsL_len hl s 64
          have hbw : blockW h s = addW L h 8 := by rw [addW_all hLl hl, blockW, hL]
          rw [hbw] at hQ
          rw [← hL]
          clear hL hbw
          repeat' first
            | simp -implicitDefEqProofs (maxSteps := 400000) (disch := first | with_reducible rfl | omega | (simp only [h_n, PH.n_push, PH.n_put, List.length_cons, List.length_nil] <;> omega) | decide) only [wkAll, wkL, popO, wantedP, if_true, if_false, reduceIte, ne_eq, Nat.reduceAdd, Nat.reduceSub, Nat.reduceMul, Nat.reduceLeDiff, Nat.reduceLT, ofCells, ofCell, reduceCtorEq, Int.reduceLE, Int.reduceLT, Int.reduceToNat, Int.reduceAdd, Int.reduceSub, Int.reduceMul, Int.reduceNeg, Int.reduceBEq, Int.reduceBNe, Int.reduceEq, eqCell, eqCells, binP, unP, convP, lenP, builtinP, sliceDataP, unsafeStringP, appendT, appendS, appendP, copyP, srcP, mmsP, mmP, indexOp, indexAddrOp, sliceOp, bndsP, bndP, capw, capCut, loadOp, storeOp, loadP, fieldOp, fieldAddrOp, arrayAtOp, buildP, buildSliceP, makeSliceP, placeF, fillP, setL, PK.agg, isZero, gt_iff_lt, Nat.reducePow, Nat.reduceGT, reps, seg, wkN, if_pos, if_neg, t_nil, t_no, t_mv, t_fx, t_op, t_true, t_false, t_mvk, t_se0, t_se, and_true, tf3, Try.ze3, tf9, Try.ze9, tf23, Try.ze23, tf79, Try.ze79, tf99, Try.ze99, tf107, Try.ze107, pl56_3Sha4, pl56_7Sha4, pl56_8Sha4, pl56_10Sha4, pl56_16Sha4, hge']
            | refine w_dec (fun _ => ?_) (fun _ => ?_)
            | refine w_eqc (fun _ => ?_) (fun _ => ?_)
            | refine w_neqc (fun _ => ?_) (fun _ => ?_)
            | refine w_nneqc (fun _ => ?_) (fun _ => ?_)
            | ((first | refine w_split (fun h => ?_) (fun h => ?_) | refine d_split (fun h => ?_) (fun h => ?_) | refine w_csplit (fun h => ?_) (fun h => ?_)) <;> (try simp only [wkS] at h) <;> (have h2 := h) <;> (try simp only [wkT, ne_eq] at h2) <;> (try simp only [h]))
            | refine And.intro ?_ ?_
            | refine w_drawnTF (id := 3) tb56_3Sha4 pl56_3Sha4 [0, 1, 2, 3, 4, 5] 23 (by kernel_rfl) (by kernel_rfl) (by simp) ?_
            | refine w_drawnF (id := 7) tb56_7Sha4 pl56_7Sha4 37 (by kernel_rfl) (by kernel_rfl) (by simp) ?_
            | refine w_drawnF (id := 8) tb56_8Sha4 pl56_8Sha4 65 (by kernel_rfl) (by kernel_rfl) (by simp) ?_
            | refine w_drawnF (id := 10) tb56_10Sha4 pl56_10Sha4 87 (by kernel_rfl) (by kernel_rfl) (by simp) ?_
            | refine w_drawnF (id := 16) tb56_16Sha4 pl56_16Sha4 108 (by kernel_rfl) (by kernel_rfl) (by simp) ?_
          refine w_loopH (α := Nat) ph ph.ob ph.ty (fun i => [.undef, .undef, .ptr ph.n 0, .undef, .ptr (ph.n + 1) 0, .undef, .undef, .ptr (ph.n + 3) 0, .undef, .undef, .undef, .undef, .undef, .undef, .undef, .undef, .undef, .undef, .undef, .undef, .undef, .undef, .undef, .undef, .undef, .undef, .undef, .undef, .undef, .undef, .undef, .undef, .undef, .undef, .undef, .undef, .undef, .undef, .undef, .undef, .undef, .undef, .undef, .undef, .undef, .undef, .undef, .undef, .undef, .undef, .undef, .undef, .undef, .undef, .undef, .undef, .undef, .undef, .undef, .undef, .undef, .undef, .undef, .undef, .undef, .undef, .undef, .undef, .undef, .undef, .undef, .undef, .undef, .undef, .undef, .undef, .undef, .undef, .undef, .undef, .undef, .undef, .undef, .undef, .undef, .undef, .undef, .undef, .undef, .undef, .undef, .undef, .undef, .undef, .undef, .undef, .undef, .int .i64 i, .undef, .undef, .undef, .undef, .undef, .undef, .undef, .undef, .undef, .undef, .undef, .undef]) (fun i => [some (.own (wC (addW L h i))), some (.own (wC z8W)), some (.own (wC shaK)), some (.own (wC h))]) (fun i => i ≤ 8) (fun i => 8 - i) 0 (by simp) (fun _ _ => by simp) (.eq (by simp [FadeTo]) (by simp only [addW_zero])) ?_
          clear hi hK hge hge'
          intro i hi K hK
          have l1 : (wC (addW L h i)).length = 8 := by rw [wC_len, addW_len hLl hl]
          rcases Nat.lt_or_ge i 8 with hlt | hge
          · have hlt' : (i : Int) < 8 := by omega
            obtain ⟨x, hx⟩ := get_someW (show i < L.length by rw [hLl]; exact hlt)
            obtain ⟨y, hy⟩ := get_someW (show i < h.length by rw [hl]; exact hlt)
            have cx : (wC (addW L h i))[i]? = some (.int .u32 x.toNat) := by rw [wC_get, addW_get hLl hl hlt, hx]; rfl
            have cy : (wC h)[i]? = some (.int .u32 y.toNat) := by rw [wC_get, hy]; rfl
            have hsucc := (addW_succ hLl hl hlt hx hy).symm
            have m1 : i + 1 ≤ (wC h).length := by omega
            have m2 : i + 1 ≤ (wC (addW L h i)).length := by omega
            repeat' first
              | simp -implicitDefEqProofs (maxSteps := 400000) (disch := first | with_reducible rfl | omega | (simp only [h_n, PH.n_push, PH.n_put, List.length_cons, List.length_nil] <;> omega) | decide) only [wkAll, wkL, popO, wantedP, if_true, if_false, reduceIte, ne_eq, Nat.reduceAdd, Nat.reduceSub, Nat.reduceMul, Nat.reduceLeDiff, Nat.reduceLT, ofCells, ofCell, reduceCtorEq, Int.reduceLE, Int.reduceLT, Int.reduceToNat, Int.reduceAdd, Int.reduceSub, Int.reduceMul, Int.reduceNeg, Int.reduceBEq, Int.reduceBNe, Int.reduceEq, eqCell, eqCells, binP, unP, convP, lenP, builtinP, sliceDataP, unsafeStringP, appendT, appendS, appendP, copyP, srcP, mmsP, mmP, indexOp, indexAddrOp, sliceOp, bndsP, bndP, capw, capCut, loadOp, storeOp, loadP, fieldOp, fieldAddrOp, arrayAtOp, buildP, buildSliceP, makeSliceP, placeF, fillP, setL, PK.agg, isZero, gt_iff_lt, Nat.reducePow, Nat.reduceGT, reps, seg, wkN, if_pos, if_neg, t_nil, t_no, t_mv, t_fx, t_op, t_true, t_false, t_mvk, t_se0, t_se, and_true, tf3, Try.ze3, tf9, Try.ze9, tf23, Try.ze23, tf79, Try.ze79, tf99, Try.ze99, tf107, Try.ze107, pl56_3Sha4, pl56_7Sha4, pl56_8Sha4, pl56_10Sha4, pl56_16Sha4, hlt', cx, cy, Int.toNat_natCast, add32, wC_set, hsucc, n1, l1, m1, m2]
              | refine w_dec (fun _ => ?_) (fun _ => ?_)
              | refine w_eqc (fun _ => ?_) (fun _ => ?_)
              | refine w_neqc (fun _ => ?_) (fun _ => ?_)
              | refine w_nneqc (fun _ => ?_) (fun _ => ?_)
              | ((first | refine w_split (fun h => ?_) (fun h => ?_) | refine d_split (fun h => ?_) (fun h => ?_) | refine w_csplit (fun h => ?_) (fun h => ?_)) <;> (try simp only [wkS] at h) <;> (have h2 := h) <;> (try simp only [wkT, ne_eq] at h2) <;> (try simp only [h]))
              | refine And.intro ?_ ?_
              | refine w_drawnTF (id := 3) tb56_3Sha4 pl56_3Sha4 [0, 1, 2, 3, 4, 5] 23 (by kernel_rfl) (by kernel_rfl) (by simp) ?_
              | refine w_drawnF (id := 7) tb56_7Sha4 pl56_7Sha4 37 (by kernel_rfl) (by kernel_rfl) (by simp) ?_
              | refine w_drawnF (id := 8) tb56_8Sha4 pl56_8Sha4 65 (by kernel_rfl) (by kernel_rfl) (by simp) ?_
              | refine w_drawnF (id := 10) tb56_10Sha4 pl56_10Sha4 87 (by kernel_rfl) (by kernel_rfl) (by simp) ?_
              | refine w_drawnF (id := 16) tb56_16Sha4 pl56_16Sha4 108 (by kernel_rfl) (by kernel_rfl) (by simp) ?_
            refine hK (i + 1) _ _ (by omega) (by omega) (.eq (by simp [FadeTo]) rfl)
          · have hge' : ¬ (i : Int) < 8 := by omega
            have : i = 8 := by omega
            subst this
            have l2 : setL (wC z8W) 0 (wC (addW L h 8)) = wC (addW L h 8) := setL_whole (by rw [n7, l1])
            have l3 : (wC (addW L h 8)).take 8 = wC (addW L h 8) := take_w (addW_len hLl hl 8)
            generalize addW L h 8 = R at *
            repeat' first
              | simp -implicitDefEqProofs (maxSteps := 400000) (disch := first | with_reducible rfl | omega | (simp only [h_n, PH.n_push, PH.n_put, List.length_cons, List.length_nil] <;> omega) | decide) only [wkAll, wkL, popO, wantedP, if_true, if_false, reduceIte, ne_eq, Nat.reduceAdd, Nat.reduceSub, Nat.reduceMul, Nat.reduceLeDiff, Nat.reduceLT, ofCells, ofCell, reduceCtorEq, Int.reduceLE, Int.reduceLT, Int.reduceToNat, Int.reduceAdd, Int.reduceSub, Int.reduceMul, Int.reduceNeg, Int.reduceBEq, Int.reduceBNe, Int.reduceEq, eqCell, eqCells, binP, unP, convP, lenP, builtinP, sliceDataP, unsafeStringP, appendT, appendS, appendP, copyP, srcP, mmsP, mmP, indexOp, indexAddrOp, sliceOp, bndsP, bndP, capw, capCut, loadOp, storeOp, loadP, fieldOp, fieldAddrOp, arrayAtOp, buildP, buildSliceP, makeSliceP, placeF, fillP, setL, PK.agg, isZero, gt_iff_lt, Nat.reducePow, Nat.reduceGT, reps, seg, wkN, if_pos, if_neg, t_nil, t_no, t_mv, t_fx, t_op, t_true, t_false, t_mvk, t_se0, t_se, and_true, tf3, Try.ze3, tf9, Try.ze9, tf23, Try.ze23, tf79, Try.ze79, tf99, Try.ze99, tf107, Try.ze107, pl56_3Sha4, pl56_7Sha4, pl56_8Sha4, pl56_10Sha4, pl56_16Sha4, hge', Try.sz79, n7, l1, l2, l3, wC_ok]
              | refine w_dec (fun _ => ?_) (fun _ => ?_)
              | refine w_eqc (fun _ => ?_) (fun _ => ?_)
              | refine w_neqc (fun _ => ?_) (fun _ => ?_)
              | refine w_nneqc (fun _ => ?_) (fun _ => ?_)
              | ((first | refine w_split (fun h => ?_) (fun h => ?_) | refine d_split (fun h => ?_) (fun h => ?_) | refine w_csplit (fun h => ?_) (fun h => ?_)) <;> (try simp only [wkS] at h) <;> (have h2 := h) <;> (try simp only [wkT, ne_eq] at h2) <;> (try simp only [h]))
              | refine And.intro ?_ ?_
              | refine w_drawnTF (id := 3) tb56_3Sha4 pl56_3Sha4 [0, 1, 2, 3, 4, 5] 23 (by kernel_rfl) (by kernel_rfl) (by simp) ?_
              | refine w_drawnF (id := 7) tb56_7Sha4 pl56_7Sha4 37 (by kernel_rfl) (by kernel_rfl) (by simp) ?_
              | refine w_drawnF (id := 8) tb56_8Sha4 pl56_8Sha4 65 (by kernel_rfl) (by kernel_rfl) (by simp) ?_
              | refine w_drawnF (id := 10) tb56_10Sha4 pl56_10Sha4 87 (by kernel_rfl) (by kernel_rfl) (by simp) ?_
              | refine w_drawnF (id := 16) tb56_16Sha4 pl56_16Sha4 108 (by kernel_rfl) (by kernel_rfl) (by simp) ?_
            refine hQ (by first | exact .inr rfl | exact .inl rfl) (by first | exact trivial | exact marks1) (by first | (simp -implicitDefEqProofs (maxSteps := 400000) (disch := first | with_reducible rfl | omega | (simp only [h_n, PH.n_push, PH.n_put, List.length_cons, List.length_nil] <;> omega) | decide) only [wkAll, wkL, popO, wantedP, if_true, if_false, reduceIte, ne_eq, Nat.reduceAdd, Nat.reduceSub, Nat.reduceMul, Nat.reduceLeDiff, Nat.reduceLT, ofCells, ofCell, reduceCtorEq, Int.reduceLE, Int.reduceLT, Int.reduceToNat, Int.reduceAdd, Int.reduceSub, Int.reduceMul, Int.reduceNeg, Int.reduceBEq, Int.reduceBNe, Int.reduceEq, eqCell, eqCells, binP, unP, convP, lenP, builtinP, sliceDataP, unsafeStringP, appendT, appendS, appendP, copyP, srcP, mmsP, mmP, indexOp, indexAddrOp, sliceOp, bndsP, bndP, capw, capCut, loadOp, storeOp, loadP, fieldOp, fieldAddrOp, arrayAtOp, buildP, buildSliceP, makeSliceP, placeF, fillP, setL, PK.agg, isZero, gt_iff_lt, Nat.reducePow, Nat.reduceGT, reps, seg, wkN, if_pos, if_neg, t_nil, t_no, t_mv, t_fx, t_op, t_true, t_false, t_mvk, t_se0, t_se, and_true, tf3, Try.ze3, tf9, Try.ze9, tf23, Try.ze23, tf79, Try.ze79, tf99, Try.ze99, tf107, Try.ze107, pl56_3Sha4, pl56_7Sha4, pl56_8Sha4, pl56_10Sha4, pl56_16Sha4, resP, resPs, resP1, Try.sz79, n7, l1, l2, l3, wC_ok]; rfl) | rfl) ⟨6, by repeat' first | exact frz_scalar rfl | apply frz_tuple | apply frz_agg | apply frz_fsl | apply frz_gsl (by omega) | exact frzs_nil | apply frzs_cons | exact frzs_scalars (wC_scalar _)⟩ (by first | exact keepsH0 | exact keeps1 (by assumption) | exact keepsH (fun _ _ h => h) (fun p hp => by simp only [upF]; (repeat rw [if_neg (by omega)])) | exact keeps1t (by assumption) (fun p hp => by simp only [upF]; (repeat rw [if_neg (by omega)])) | (subst hT; exact keepsH (fun _ _ h => h) fun _ _ => rfl)) (nw_eq ?_)
            rfl
  · rename_i hs64
    have hb : blockL h s = (z8W, 10) := by rw [blockL, if_neg (by omega)]; unfold z8W; rfl
    rw [hb] at hQ
    refine hQ (by first | exact .inr rfl | exact .inl rfl) (by first | exact trivial | exact marks1) (by first | (simp -implicitDefEqProofs (maxSteps := 400000) (disch := first | with_reducible rfl | omega | (simp only [h_n, PH.n_push, PH.n_put, List.length_cons, List.length_nil] <;> omega) | decide) only [wkAll, wkL, popO, wantedP, if_true, if_false, reduceIte, ne_eq, Nat.reduceAdd, Nat.reduceSub, Nat.reduceMul, Nat.reduceLeDiff, Nat.reduceLT, ofCells, ofCell, reduceCtorEq, Int.reduceLE, Int.reduceLT, Int.reduceToNat, Int.reduceAdd, Int.reduceSub, Int.reduceMul, Int.reduceNeg, Int.reduceBEq, Int.reduceBNe, Int.reduceEq, eqCell, eqCells, binP, unP, convP, lenP, builtinP, sliceDataP, unsafeStringP, appendT, appendS, appendP, copyP, srcP, mmsP, mmP, indexOp, indexAddrOp, sliceOp, bndsP, bndP, capw, capCut, loadOp, storeOp, loadP, fieldOp, fieldAddrOp, arrayAtOp, buildP, buildSliceP, makeSliceP, placeF, fillP, setL, PK.agg, isZero, gt_iff_lt, Nat.reducePow, Nat.reduceGT, reps, seg, wkN, if_pos, if_neg, t_nil, t_no, t_mv, t_fx, t_op, t_true, t_false, t_mvk, t_se0, t_se, and_true, tf3, Try.ze3, tf9, Try.ze9, tf23, Try.ze23, tf79, Try.ze79, tf99, Try.ze99, tf107, Try.ze107, pl56_3Sha4, pl56_7Sha4, pl56_8Sha4, pl56_10Sha4, pl56_16Sha4, resP, resPs, resP1, -Try.ze79, ze23w, Try.sz79, n7, n8, n9, n11, n1, n5, wC_ok]; rfl) | rfl) ⟨6, by repeat' first | exact frz_scalar rfl | apply frz_tuple | apply frz_agg | apply frz_fsl | apply frz_gsl (by omega) | exact frzs_nil | apply frzs_cons | exact frzs_scalars (wC_scalar _)⟩ (by first | exact keepsH0 | exact keeps1 (by assumption) | exact keepsH (fun _ _ h => h) (fun p hp => by simp only [upF]; (repeat rw [if_neg (by omega)])) | exact keeps1t (by assumption) (fun p hp => by simp only [upF]; (repeat rw [if_neg (by omega)])) | (subst hT; exact keepsH (fun _ _ h => h) fun _ _ => rfl)) (nw_eq ?_)
    rfl
end Pv
