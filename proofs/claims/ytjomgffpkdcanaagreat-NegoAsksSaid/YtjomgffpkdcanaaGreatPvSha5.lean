/- Part of the proof: the layer of pure values, or walks through functions (PvSha5, PvShaH). -/
import Derived.Test.YtjomgffpkdcanaaGreatPvSha4
import Derived.Test.YtjomgffpkdcanaaGreatPvNg2
set_option linter.all false
namespace Pv
set_option maxRecDepth 20000
set_option maxHeartbeats 4000000
open Go Go.Proofs Go.RowKit
def tb92_12Sha5 : Tab := [[], [], [], [2], [], [2, 3, 4], [2, 3, 4, 5], [], [7], [2, 3, 4, 5, 6, 7, 8], [], [], [11], [10, 11, 12], [10, 11, 12, 13], [2, 3, 4, 5, 6, 7, 8, 9, 10, 11, 12, 13, 14], [], [2, 3, 4, 5, 16], [], [2, 3, 4, 5, 16, 17, 18], [2, 3, 4, 5, 16, 17, 18, 19], [], [21], [2, 3, 4, 5, 16, 17, 18, 19, 20, 21, 22], [2, 3, 4, 5, 6, 7, 8, 9, 10, 11, 12, 13, 14, 15, 16, 17, 18, 19, 20, 21, 22, 23], [], [], [26], [25, 26, 27], [25, 26, 27, 28], [2, 3, 4, 5, 6, 7, 8, 9, 10, 11, 12, 13, 14, 15, 16, 17, 18, 19, 20, 21, 22, 23, 24, 25, 26, 27, 28, 29], [0, 1, 2, 3, 4, 5, 6, 7, 8, 9, 10, 11, 12, 13, 14, 15, 16, 17, 18, 19, 20, 21, 22, 23, 24, 25, 26, 27, 28, 29, 30], [0, 1, 2, 3, 4, 5, 6, 7, 8, 9, 10, 11, 12, 13, 14, 15, 16, 17, 18, 19, 20, 21, 22, 23, 24, 25, 26, 27, 28, 29, 30, 31]]
def pl92_12Sha5 : Plan := [(0, true, []), (1, true, []), (2, true, []), (4, true, []), (7, true, []), (8, true, []), (10, true, []), (11, true, []), (12, true, []), (13, true, []), (14, true, []), (16, true, []), (18, true, []), (21, true, []), (22, true, []), (25, true, []), (26, true, []), (27, true, []), (28, true, []), (29, true, []), (3, false, [0, 1, 4, 7, 8, 10, 11, 12, 13, 14, 16, 18, 21, 22, 25, 26, 27, 28, 29]), (5, false, [0, 1, 7, 8, 10, 11, 12, 13, 14, 16, 18, 21, 22, 25, 26, 27, 28, 29]), (6, true, []), (9, true, []), (15, true, []), (17, false, [0, 1, 7, 8, 10, 11, 12, 13, 14, 18, 21, 22, 25, 26, 27, 28, 29, 6, 9, 15]), (19, false, [0, 1, 7, 8, 10, 11, 12, 13, 14, 21, 22, 25, 26, 27, 28, 29, 6, 9, 15]), (20, true, []), (23, true, []), (24, true, []), (30, true, []), (31, true, []), (32, false, [])]
def tb92_17Sha5 : Tab := [[], [0], [], [2], [2, 3], [], [5], [2, 3, 4, 5, 6], [2, 3, 4, 5, 6, 7], [], [9], [2, 3, 4, 5, 6, 7, 9, 10], [2, 3, 4, 5, 6, 7, 8, 9, 10, 11], [0, 1, 2, 3, 4, 5, 6, 7, 8, 9, 10, 11, 12], [], [14], [], [16], [14, 15, 16, 17], [], [19], [19, 20], [], [22], [19, 20, 21, 22, 23], [14, 15, 16, 17, 18, 19, 20, 21, 22, 23, 24], [0, 1, 2, 3, 4, 5, 6, 7, 8, 9, 10, 11, 12, 13, 14, 15, 16, 17, 18, 19, 20, 21, 22, 23, 24, 25], [], [], [27, 28], [27, 28, 29], [0, 1, 2, 3, 4, 5, 6, 7, 8, 9, 10, 11, 12, 13, 14, 15, 16, 17, 18, 19, 20, 21, 22, 23, 24, 25, 26, 27, 28, 29, 30], [], [], [32, 33], [32, 33, 34], [0, 1, 2, 3, 4, 5, 6, 7, 8, 9, 10, 11, 12, 13, 14, 15, 16, 17, 18, 19, 20, 21, 22, 23, 24, 25, 26, 27, 28, 29, 30, 31, 32, 33, 34, 35], [0, 1, 2, 3, 4, 5, 6, 7, 8, 9, 10, 11, 12, 13, 14, 15, 16, 17, 18, 19, 20, 21, 22, 23, 24, 25, 26, 27, 28, 29, 30, 31, 32, 33, 34, 35, 36]]
def pl92_17Sha5 : Plan := [(0, true, []), (1, true, []), (2, true, []), (3, true, []), (5, true, []), (6, true, []), (9, true, []), (10, true, []), (14, true, []), (15, true, []), (16, true, []), (17, true, []), (18, true, []), (19, true, []), (20, true, []), (21, true, []), (22, true, []), (23, true, []), (24, true, []), (25, true, []), (27, true, []), (28, true, []), (29, true, []), (30, true, []), (32, true, []), (33, true, []), (34, true, []), (35, true, []), (4, false, [0, 1, 5, 6, 9, 10, 14, 15, 16, 17, 18, 19, 20, 21, 22, 23, 24, 25, 27, 28, 29, 30, 32, 33, 34, 35]), (7, false, [0, 1, 9, 10, 14, 15, 16, 17, 18, 19, 20, 21, 22, 23, 24, 25, 27, 28, 29, 30, 32, 33, 34, 35]), (8, true, []), (11, false, [0, 1, 14, 15, 16, 17, 18, 19, 20, 21, 22, 23, 24, 25, 27, 28, 29, 30, 32, 33, 34, 35, 8]), (12, true, []), (13, true, []), (26, true, []), (31, true, []), (36, true, []), (37, false, [])]
def tb92_18Sha5 : Tab := [[], [0], [0, 1], [], [3], [0, 1, 2, 3, 4], [0, 1, 2, 3, 4, 5], [], [7], [0, 1, 2, 3, 4, 5, 7, 8], [0, 1, 2, 3, 4, 5, 6, 7, 8, 9], [], [11], [], [13], [11, 12, 13, 14], [], [16], [], [18], [16, 17, 18, 19], [11, 12, 13, 14, 15, 16, 17, 18, 19, 20], [], [22], [], [24], [22, 23, 24, 25], [11, 12, 13, 14, 15, 16, 17, 18, 19, 20, 21, 22, 23, 24, 25, 26], [0, 1, 2, 3, 4, 5, 6, 7, 8, 9, 10, 11, 12, 13, 14, 15, 16, 17, 18, 19, 20, 21, 22, 23, 24, 25, 26, 27], [0, 1, 2, 3, 4, 5, 6, 7, 8, 9, 10, 11, 12, 13, 14, 15, 16, 17, 18, 19, 20, 21, 22, 23, 24, 25, 26, 27, 28]]
def pl92_18Sha5 : Plan := [(0, true, []), (1, true, []), (3, true, []), (4, true, []), (7, true, []), (8, true, []), (11, true, []), (12, true, []), (13, true, []), (14, true, []), (15, true, []), (16, true, []), (17, true, []), (18, true, []), (19, true, []), (20, true, []), (21, true, []), (22, true, []), (23, true, []), (24, true, []), (25, true, []), (26, true, []), (27, true, []), (2, false, [3, 4, 7, 8, 11, 12, 13, 14, 15, 16, 17, 18, 19, 20, 21, 22, 23, 24, 25, 26, 27]), (5, false, [7, 8, 11, 12, 13, 14, 15, 16, 17, 18, 19, 20, 21, 22, 23, 24, 25, 26, 27]), (6, true, []), (9, false, [11, 12, 13, 14, 15, 16, 17, 18, 19, 20, 21, 22, 23, 24, 25, 26, 27, 6]), (10, true, []), (28, true, []), (29, false, [])]
def tb92_23Sha5 : Tab := [[], [], [1], [1, 2], [], [4], [4, 5], [1, 2, 3, 4, 5, 6], [0, 1, 2, 3, 4, 5, 6, 7], [0, 1, 2, 3, 4, 5, 6, 7, 8]]
def pl92_23Sha5 : Plan := [(0, true, []), (1, true, []), (2, true, []), (3, true, []), (4, true, []), (5, true, []), (6, true, []), (7, true, []), (8, true, []), (9, false, [])]
def tb92_9Sha5 : Tab := [[], [], [], [], [3], [2, 3, 4], [2, 3, 4, 5], [2, 3, 4, 5, 6], [], [], [9], [9, 10], [8, 9, 10, 11], [8, 9, 10, 11, 12], [8, 9, 10, 11, 12, 13], [2, 3, 4, 5, 6, 7, 8, 9, 10, 11, 12, 13, 14], [], [], [17], [17, 18], [16, 17, 18, 19], [16, 17, 18, 19, 20], [16, 17, 18, 19, 20, 21], [2, 3, 4, 5, 6, 7, 8, 9, 10, 11, 12, 13, 14, 15, 16, 17, 18, 19, 20, 21, 22], [], [], [25], [25, 26], [24, 25, 26, 27], [24, 25, 26, 27, 28], [2, 3, 4, 5, 6, 7, 8, 9, 10, 11, 12, 13, 14, 15, 16, 17, 18, 19, 20, 21, 22, 23, 24, 25, 26, 27, 28, 29], [0, 1, 2, 3, 4, 5, 6, 7, 8, 9, 10, 11, 12, 13, 14, 15, 16, 17, 18, 19, 20, 21, 22, 23, 24, 25, 26, 27, 28, 29, 30], [0, 1, 2, 3, 4, 5, 6, 7, 8, 9, 10, 11, 12, 13, 14, 15, 16, 17, 18, 19, 20, 21, 22, 23, 24, 25, 26, 27, 28, 29, 30, 31]]
def pl92_9Sha5 : Plan := [(0, true, []), (1, true, []), (2, true, []), (3, true, []), (4, true, []), (5, true, []), (6, true, []), (7, true, []), (8, true, []), (9, true, []), (10, true, []), (11, true, []), (12, true, []), (13, true, []), (14, true, []), (15, true, []), (16, true, []), (17, true, []), (18, true, []), (19, true, []), (20, true, []), (21, true, []), (22, true, []), (23, true, []), (24, true, []), (25, true, []), (26, true, []), (27, true, []), (28, true, []), (29, true, []), (30, true, []), (31, true, []), (32, false, [])]
variable {w0 : World}

theorem refTurn_n (x : UInt32) (n : Nat) (m : Int) (hm : m = (n : Int)) (h0 : 0 < n) (h : n < 32) : Fn (Cx w0) 101 [.int .u32 x.toNat, .int .u64 m] (.int .u32 (rotr x n).toNat) := hm ▸ refTurn_ok x n h0 h
theorem beW4 (s : List UInt8) (i : Nat) (b0 b1 b2 b3 : UInt8) (h0 : s[i]? = some b0) (h1 : s[i + 1]? = some b1) (h2 : s[i + 2]? = some b2) (h3 : s[i + 3]? = some b3) :
    ((b0.toUInt32 <<< 24 ||| b1.toUInt32 <<< 16) ||| b2.toUInt32 <<< 8) ||| b3.toUInt32 = beW s i 4 := by
  simp only [beW, Nat.add_zero, List.getD_eq_getElem?_getD, h0, h1, h2, h3, Option.getD_some]
  generalize b0.toUInt32 = a; generalize b1.toUInt32 = b; generalize b2.toUInt32 = c; generalize b3.toUInt32 = d
  rw [show (0 : UInt32) <<< 8 = 0 from rfl, UInt32.zero_or]
  simp only [UInt32.shiftLeft_or]
  have e1 : (a <<< 8) <<< 8 = a <<< 16 := (UInt32.shiftLeft_add (by decide) (by decide) (by decide)).symm
  have e2 : (a <<< 16) <<< 8 = a <<< 24 := (UInt32.shiftLeft_add (by decide) (by decide) (by decide)).symm
  have e3 : (b <<< 8) <<< 8 = b <<< 16 := (UInt32.shiftLeft_add (by decide) (by decide) (by decide)).symm
  rw [e1, e2, e3]
theorem mk64 (ph : PH) : makeSliceP Tryz.prog 153 (.int .i64 64) (.int .i64 64) ph = some (.sl ph.n 0 1 64 (some 64), ph.push (wC zW)) := by
  have e : reps 64 [PV.int .u32 0] = wC zW := by unfold zW; rw [← wC_zero]; rfl
  simp only [makeSliceP, Tryz.sl153, Tryz.sz128, Tryz.by128, Tryz.ze128, PV.cells, List.length_cons, List.length_nil]
  rw [if_pos (by decide)]
  show some (_, ph.push (reps 64 [PV.int .u32 0])) = _
  rw [e]; rfl
theorem not32 (x : UInt32) : bitsP .xor .u32 (4294967295 : Int) (x.toNat : Int) = ((~~~ x).toNat : Int) := by
  have := xor32 4294967295 x
  have e : (4294967295 : UInt32) ^^^ x = ~~~ x := by
    have : (4294967295 : UInt32) = -1 := rfl
    rw [this, UInt32.neg_one_xor]
  rw [e] at this
  exact this
theorem schedW_z (s : List UInt8) : schedW s 0 = zW := by unfold zW; rfl

theorem refBlock_ok (h : List UInt32) (hl : h.length = 8) (s : List UInt8) (hs : s.length < 2 ^ 47) : Fn (Cx w0) 92 [.agg (wC h), .str s] (.tuple [.agg (wC (blockL h s).1), .int .i64 (blockL h s).2]) := by
  have n1 : (wC h).length = 8 := by rw [wC_len, hl]
  have n3 : (wC shaK).length = 64 := by rw [wC_len, shaK_len]
  have n5 : (wC h).take 8 = wC h := take_w hl
  have n7 : (wC z8W).length = 8 := by rw [wC_len, z8W_len]
  have n8 : setL (wC z8W) 0 (wC h) = wC h := setL_whole (by rw [n7, n1])
  have n9 : setL (wC z8W) 0 (wC z8W) = wC z8W := setL_whole rfl
  have n11 : (wC z8W).take 8 = wC z8W := take_w z8W_len
  refine fn_H ([Go.ResultVar.cell 4 129, Go.ResultVar.tmp 5]) Tryz.func92 rfl rfl (by decide) fun ph hW Q hQ => ?_
  simp only [start, List.length_cons, List.length_nil, List.cons_append, List.nil_append, Nat.reduceAdd, Nat.reduceSub, List.replicate_succ, List.replicate_zero, Tryz.ntmps92]
  repeat' first | simp -implicitDefEqProofs (maxSteps := 400000) (disch := first | with_reducible rfl | omega | (simp only [wkH] <;> omega) | decide) only [wkAll, wkL, popO, wantedP, Nat.reduceAdd, Nat.reduceLeDiff, binP, lenP, builtinP, storeOp, buildP, placeF, fillP, if_pos, if_neg, tf9, tf129, mk64, ze23w, n7, n9, wC_ok] | refine w_pure (refConstants_ok) ?_ | refine w_dec (fun _ => ?_) (fun _ => ?_) | refine w_eqc (fun _ => ?_) (fun _ => ?_) | refine w_neqc (fun _ => ?_) (fun _ => ?_) | refine w_nneqc (fun _ => ?_) (fun _ => ?_) | ((first | refine w_split (fun h => ?_) (fun h => ?_) | refine d_split (fun h => ?_) (fun h => ?_) | refine w_csplit (fun h => ?_) (fun h => ?_)) <;> (try simp only [wkS] at h) <;> (have h2 := h) <;> (try simp only [wkT, ne_eq] at h2) <;> (try simp only [h])) | refine w_drawnF (id := 9) tb92_9Sha5 pl92_9Sha5 60 (by kernel_rfl) (by kernel_rfl) (by simp) ?_ | refine w_drawnF (id := 12) tb92_12Sha5 pl92_12Sha5 102 (by kernel_rfl) (by kernel_rfl) (by simp) ?_ | refine w_drawnF (id := 17) tb92_17Sha5 pl92_17Sha5 144 (by kernel_rfl) (by kernel_rfl) (by simp) ?_ | refine w_drawnF (id := 18) tb92_18Sha5 pl92_18Sha5 173 (by kernel_rfl) (by kernel_rfl) (by simp) ?_ | refine w_drawnF (id := 23) tb92_23Sha5 pl92_23Sha5 206 (by kernel_rfl) (by kernel_rfl) (by simp) ?_
  · rename_i hs64
    have hb : blockL h s = (z8W, 10) := by rw [blockL, if_neg (by omega)]; unfold z8W; rfl
    rw [hb] at hQ
    refine hQ (by first | exact .inr rfl | exact .inl rfl) (by first | exact trivial | exact marks1) (by first | (simp -implicitDefEqProofs (maxSteps := 400000) (disch := first | with_reducible rfl | omega | (simp only [wkH] <;> omega) | decide) only [wkAll, wkL, Nat.reduceLeDiff, loadOp, loadP, PK.agg, seg, if_pos, tf129, resP, resPs, resP1, n7, n11]; rfl) | rfl) ⟨6, by repeat' first | exact frz_scalar rfl | apply frz_tuple | apply frz_agg | apply frz_fsl | apply frz_gsl (by omega) | exact frzs_nil | apply frzs_cons | exact frzs_scalars (wC_scalar _)⟩ (by first | exact keepsH0 | exact keeps1 (by assumption) | exact keepsH (fun _ _ h => h) (fun p hp => by simp only [upF]; (repeat rw [if_neg (by omega)])) | exact keeps1t (by assumption) (fun p hp => by simp only [upF]; (repeat rw [if_neg (by omega)])) | (subst hT; exact keepsH (fun _ _ h => h) fun _ _ => rfl)) (nw_eq ?_)
    rfl
  · rename_i hs64
    have hs64' : s.length = 64 := by omega
    have hb : blockL h s = (blockW h s, 0) := by rw [blockL, if_pos hs64']
    rw [hb] at hQ
    refine w_loopH (α := Nat) ph ph.ob ph.ty (fun i => [.undef, .str s, .ptr ph.n 0, .undef, .ptr (ph.n + 1) 0, .undef, .fsl 1 64 (wC shaK), .sl (ph.n + 2) 0 1 64 (some 64), .int .i64 i, .undef, .undef, .undef, .undef, .undef, .undef, .undef, .undef, .undef, .undef, .undef, .undef, .undef, .undef, .undef, .undef, .undef, .undef, .undef, .undef, .undef, .undef, .undef, .undef, .undef, .undef, .undef, .undef, .undef, .undef, .undef, .undef, .undef, .undef, .undef, .undef, .undef, .undef, .undef, .undef, .undef, .undef, .undef, .undef, .undef, .undef, .undef, .undef, .undef, .undef, .undef, .undef, .undef, .undef, .undef, .undef, .undef, .undef, .undef, .undef, .undef, .undef, .undef, .undef, .undef, .undef, .undef, .undef, .undef, .undef, .undef, .undef, .undef, .undef, .undef, .undef, .undef, .undef, .undef, .undef, .undef, .undef, .undef, .undef, .undef, .undef, .undef, .undef, .undef, .undef, .undef, .undef, .undef, .undef, .undef, .undef, .undef, .undef, .undef, .undef, .undef, .undef, .undef, .undef, .undef, .undef, .undef, .undef, .undef, .undef, .undef, .undef, .undef, .undef, .undef, .undef, .undef, .undef, .undef, .undef, .undef, .undef, .undef, .undef, .undef, .undef, .undef, .undef, .undef, .undef, .undef, .undef, .undef, .undef, .undef, .undef, .undef, .undef, .undef, .undef, .undef, .undef, .undef, .undef, .undef, .undef, .undef, .undef, .undef, .undef, .undef, .undef, .undef, .undef, .undef, .undef, .undef, .undef, .undef, .undef, .undef, .undef, .undef, .undef, .undef, .undef, .undef, .undef, .undef, .undef, .undef, .undef, .undef, .undef, .undef, .undef, .undef, .undef, .undef, .undef, .undef, .undef, .undef, .undef, .undef, .undef, .undef, .undef, .undef, .undef, .undef, .undef, .undef, .undef, .undef, .undef, .undef, .undef]) (fun i => [some (.own (wC h)), some (.own (wC z8W)), some (.own (wC (schedW s i)))]) (fun i => i ≤ 64) (fun i => 64 - i) 0 (by simp) (fun _ _ => by simp) (.eq (by simp [FadeTo]) (by simp only [schedW_z])) ?_
    intro i hi K hK
    have hsl : (wC (schedW s i)).length = 64 := by rw [wC_len, schedW_len _ _ hi]
    rcases Nat.lt_or_ge i 64 with hlt | hge
    · have hlt' : (i : Int) < 64 := by omega
      have hs2 := (schedW_succ s i hlt).symm
      rcases Nat.lt_or_ge i 16 with h16 | h16
      · have h16' : (i : Int) < 16 := by omega
        obtain ⟨b0, g0⟩ := get_someW (show 4 * i < s.length by omega)
        obtain ⟨b1, g1⟩ := get_someW (show 4 * i + 1 < s.length by omega)
        obtain ⟨b2, g2⟩ := get_someW (show 4 * i + 2 < s.length by omega)
        obtain ⟨b3, g3⟩ := get_someW (show 4 * i + 3 < s.length by omega)
        have hn : nextW s (schedL s i) = beW s (4 * i) 4 := by rw [nextW, schedL_len, if_pos h16]
        rw [hn, ← beW4 s _ b0 b1 b2 b3 g0 g1 g2 g3] at hs2
        have i0 : 4 * (i : Int) = ((4 * i : Nat) : Int) := by omega
        have i1 : ((4 * i : Nat) : Int) + 1 = ((4 * i + 1 : Nat) : Int) := by omega
        have i2 : ((4 * i : Nat) : Int) + 2 = ((4 * i + 2 : Nat) : Int) := by omega
        have i3 : ((4 * i : Nat) : Int) + 3 = ((4 * i + 3 : Nat) : Int) := by omega
        have c0 : ∀ b : UInt8, (b.toNat : Int) = (b.toUInt32.toNat : Int) := fun b => (b32 b).symm
        have hlen : i + 1 ≤ (wC (schedW s i)).length := by omega
        repeat' first | simp -implicitDefEqProofs (maxSteps := 400000) (disch := first | with_reducible rfl | omega | (simp only [wkH] <;> omega) | decide) only [wkAll, wkL, popO, wantedP, Nat.reduceLeDiff, Int.reduceLE, binP, convP, indexOp, indexAddrOp, storeOp, setL, wkN, if_pos, tf5, tf9, tf128, tf153, pl92_9Sha5, hlt', h16', i0, i1, i2, i3, g0, g1, g2, g3, c0, shl32_8, shl32_16, shl32_24, wrap32, or32, wC_set, hsl, hs2] | refine w_dec (fun _ => ?_) (fun _ => ?_) | refine w_eqc (fun _ => ?_) (fun _ => ?_) | refine w_neqc (fun _ => ?_) (fun _ => ?_) | refine w_nneqc (fun _ => ?_) (fun _ => ?_) | ((first | refine w_split (fun h => ?_) (fun h => ?_) | refine d_split (fun h => ?_) (fun h => ?_) | refine w_csplit (fun h => ?_) (fun h => ?_)) <;> (try simp only [wkS] at h) <;> (have h2 := h) <;> (try simp only [wkT, ne_eq] at h2) <;> (try simp only [h])) | refine w_drawnF (id := 9) tb92_9Sha5 pl92_9Sha5 60 (by kernel_rfl) (by kernel_rfl) (by simp) ?_ | refine w_drawnF (id := 12) tb92_12Sha5 pl92_12Sha5 102 (by kernel_rfl) (by kernel_rfl) (by simp) ?_ | refine w_drawnF (id := 17) tb92_17Sha5 pl92_17Sha5 144 (by kernel_rfl) (by kernel_rfl) (by simp) ?_ | refine w_drawnF (id := 18) tb92_18Sha5 pl92_18Sha5 173 (by kernel_rfl) (by kernel_rfl) (by simp) ?_ | refine w_drawnF (id := 23) tb92_23Sha5 pl92_23Sha5 206 (by kernel_rfl) (by kernel_rfl) (by simp) ?_
        exact hK (i + 1) _ _ (by omega) (by omega) (.eq (by simp [FadeTo]) rfl)
      · have h16' : ¬ (i : Int) < 16 := by omega
        have hn : nextW s (schedL s i) = (schedL s i).getD (i - 16) 0 + (schedL s i).getD (i - 7) 0 + sig0 ((schedL s i).getD (i - 15) 0) + sig1 ((schedL s i).getD (i - 2) 0) := by
          rw [nextW, schedL_len, if_neg (by omega)]
        have g1 := schedW_get s i (i - 15) (by omega)
        have g2 := schedW_get s i (i - 2) (by omega)
        have g3 := schedW_get s i (i - 16) (by omega)
        have g4 := schedW_get s i (i - 7) (by omega)
        generalize (schedL s i).getD (i - 15) 0 = a1 at *
        generalize (schedL s i).getD (i - 2) 0 = a2 at *
        generalize (schedL s i).getD (i - 16) 0 = a3 at *
        generalize (schedL s i).getD (i - 7) 0 = a4 at *
        have c1 : (wC (schedW s i))[i - 15]? = some (.int .u32 a1.toNat) := by rw [wC_get, g1]; rfl
        have c2 : (wC (schedW s i))[i - 2]? = some (.int .u32 a2.toNat) := by rw [wC_get, g2]; rfl
        have c3 : (wC (schedW s i))[i - 16]? = some (.int .u32 a3.toNat) := by rw [wC_get, g3]; rfl
        have c4 : (wC (schedW s i))[i - 7]? = some (.int .u32 a4.toNat) := by rw [wC_get, g4]; rfl
        have hcomm : a3 + a4 + sig0 a1 + sig1 a2 = sig1 a2 + a4 + sig0 a1 + a3 := by
          rw [UInt32.add_comm _ (sig1 a2), UInt32.add_comm a3 a4, UInt32.add_assoc a4, UInt32.add_comm a3, ← UInt32.add_assoc, ← UInt32.add_assoc]
        rw [hn, hcomm] at hs2
        simp only [sig0, sig1] at hs2
        have i1 : (i : Int) - 15 = ((i - 15 : Nat) : Int) := by omega
        have i2 : (i : Int) - 2 = ((i - 2 : Nat) : Int) := by omega
        have i3 : (i : Int) - 16 = ((i - 16 : Nat) : Int) := by omega
        have i4 : (i : Int) - 7 = ((i - 7 : Nat) : Int) := by omega
        have hlen : i + 1 ≤ (wC (schedW s i)).length := by omega
        repeat' first | simp -implicitDefEqProofs (maxSteps := 400000) (disch := first | with_reducible rfl | omega | (simp only [wkH] <;> omega) | decide) only [wkAll, wkL, popO, wantedP, Nat.reduceLeDiff, Int.reduceLE, binP, indexAddrOp, loadOp, storeOp, loadP, setL, PK.agg, seg, wkN, if_pos, if_neg, tf128, tf153, pl92_12Sha5, hlt', h16', i1, i2, i3, i4, c1, c2, c3, c4, shr32_3, shr32_10, xor32, add32, wC_set, hsl, hs2] | refine w_pure (refTurn_n a1 7 7 rfl (by omega) (by omega)) ?_ | refine w_pure (refTurn_n a1 18 18 rfl (by omega) (by omega)) ?_ | refine w_pure (refTurn_n a2 17 17 rfl (by omega) (by omega)) ?_ | refine w_pure (refTurn_n a2 19 19 rfl (by omega) (by omega)) ?_ | refine w_dec (fun _ => ?_) (fun _ => ?_) | refine w_eqc (fun _ => ?_) (fun _ => ?_) | refine w_neqc (fun _ => ?_) (fun _ => ?_) | refine w_nneqc (fun _ => ?_) (fun _ => ?_) | ((first | refine w_split (fun h => ?_) (fun h => ?_) | refine d_split (fun h => ?_) (fun h => ?_) | refine w_csplit (fun h => ?_) (fun h => ?_)) <;> (try simp only [wkS] at h) <;> (have h2 := h) <;> (try simp only [wkT, ne_eq] at h2) <;> (try simp only [h])) | refine w_drawnF (id := 9) tb92_9Sha5 pl92_9Sha5 60 (by kernel_rfl) (by kernel_rfl) (by simp) ?_ | refine w_drawnF (id := 12) tb92_12Sha5 pl92_12Sha5 102 (by kernel_rfl) (by kernel_rfl) (by simp) ?_ | refine w_drawnF (id := 17) tb92_17Sha5 pl92_17Sha5 144 (by kernel_rfl) (by kernel_rfl) (by simp) ?_ | refine w_drawnF (id := 18) tb92_18Sha5 pl92_18Sha5 173 (by kernel_rfl) (by kernel_rfl) (by simp) ?_ | refine w_drawnF (id := 23) tb92_23Sha5 pl92_23Sha5 206 (by kernel_rfl) (by kernel_rfl) (by simp) ?_
        exact hK (i + 1) _ _ (by omega) (by omega) (.eq (by simp [FadeTo]) rfl)
    · have hge' : ¬ (i : Int) < 64 := by omega
      have : i = 64 := by omega
      subst this
      rw [schedW_all]
      obtain ⟨ws, hws⟩ : ∃ ws, ws = schedL s 64 := ⟨_, rfl⟩
      have hwl : ws.length = 64 := by rw [hws, schedL_len]
      rw [← hws]
      have n10 : (wC ws).length = 64 := by rw [wC_len, hwl]
      clear hi hK hsl hge
      repeat' first | simp -implicitDefEqProofs (maxSteps := 400000) (disch := first | with_reducible rfl | omega | (simp only [wkH] <;> omega) | decide) only [wkAll, wkL, popO, wantedP, Nat.reduceAdd, Nat.reduceLeDiff, Int.reduceLT, binP, loadOp, storeOp, loadP, PK.agg, seg, wkN, if_pos, if_neg, tf129, ze23w, n7, n8, n1, n5, wC_ok] | refine w_dec (fun _ => ?_) (fun _ => ?_) | refine w_eqc (fun _ => ?_) (fun _ => ?_) | refine w_neqc (fun _ => ?_) (fun _ => ?_) | refine w_nneqc (fun _ => ?_) (fun _ => ?_) | ((first | refine w_split (fun h => ?_) (fun h => ?_) | refine d_split (fun h => ?_) (fun h => ?_) | refine w_csplit (fun h => ?_) (fun h => ?_)) <;> (try simp only [wkS] at h) <;> (have h2 := h) <;> (try simp only [wkT, ne_eq] at h2) <;> (try simp only [h])) | refine w_drawnF (id := 9) tb92_9Sha5 pl92_9Sha5 60 (by kernel_rfl) (by kernel_rfl) (by simp) ?_ | refine w_drawnF (id := 12) tb92_12Sha5 pl92_12Sha5 102 (by kernel_rfl) (by kernel_rfl) (by simp) ?_ | refine w_drawnF (id := 17) tb92_17Sha5 pl92_17Sha5 144 (by kernel_rfl) (by kernel_rfl) (by simp) ?_ | refine w_drawnF (id := 18) tb92_18Sha5 pl92_18Sha5 173 (by kernel_rfl) (by kernel_rfl) (by simp) ?_ | refine w_drawnF (id := 23) tb92_23Sha5 pl92_23Sha5 206 (by kernel_rfl) (by kernel_rfl) (by simp) ?_
      refine w_loopH (α := Nat) ph ph.ob ph.ty (fun i => [.undef, .undef, .ptr ph.n 0, .undef, .ptr (ph.n + 1) 0, .undef, .fsl 1 64 (wC shaK), .sl (ph.n + 2) 0 1 64 (some 64), .undef, .undef, .undef, .ptr (ph.n + 3) 0, .int .i64 i, .undef, .undef, .undef, .undef, .undef, .undef, .undef, .undef, .undef, .undef, .undef, .undef, .undef, .undef, .undef, .undef, .undef, .undef, .undef, .undef, .undef, .undef, .undef, .undef, .undef, .undef, .undef, .undef, .undef, .undef, .undef, .undef, .undef, .undef, .undef, .undef, .undef, .undef, .undef, .undef, .undef, .undef, .undef, .undef, .undef, .undef, .undef, .undef, .undef, .undef, .undef, .undef, .undef, .undef, .undef, .undef, .undef, .undef, .undef, .undef, .undef, .undef, .undef, .undef, .undef, .undef, .undef, .undef, .undef, .undef, .undef, .undef, .undef, .undef, .undef, .undef, .undef, .undef, .undef, .undef, .undef, .undef, .undef, .undef, .undef, .undef, .undef, .undef, .undef, .undef, .undef, .undef, .undef, .undef, .undef, .undef, .undef, .undef, .undef, .undef, .undef, .undef, .undef, .undef, .undef, .undef, .undef, .undef, .undef, .undef, .undef, .undef, .undef, .undef, .undef, .undef, .undef, .undef, .undef, .undef, .undef, .undef, .undef, .undef, .undef, .undef, .undef, .undef, .undef, .undef, .undef, .undef, .undef, .undef, .undef, .undef, .undef, .undef, .undef, .undef, .undef, .undef, .undef, .undef, .undef, .undef, .undef, .undef, .undef, .undef, .undef, .undef, .undef, .undef, .undef, .undef, .undef, .undef, .undef, .undef, .undef, .undef, .undef, .undef, .undef, .undef, .undef, .undef, .undef, .undef, .undef, .undef, .undef, .undef, .undef, .undef, .undef, .undef, .undef, .undef, .undef, .undef, .undef, .undef, .undef, .undef, .undef, .undef, .undef, .undef, .undef, .undef, .undef, .undef]) (fun i => [some (.own (wC h)), some (.own (wC z8W)), some (.own (wC ws)), some (.own (wC (roundsL h s i)))]) (fun i => i ≤ 64) (fun i => 64 - i) 0 (by simp) (fun _ _ => by simp) (.eq (by simp [FadeTo]) rfl) ?_
      clear hge'
      intro i hi K hK
      rcases Nat.lt_or_ge i 64 with hlt | hge
      · have hlt' : (i : Int) < 64 := by omega
        obtain ⟨k, hk⟩ := get_someW (show i < shaK.length by rw [shaK_len]; exact hlt)
        obtain ⟨x, hx⟩ := get_someW (show i < ws.length by rw [hwl]; exact hlt)
        have ck : (wC shaK)[i]? = some (.int .u32 k.toNat) := by rw [wC_get, hk]; rfl
        have cx : (wC ws)[i]? = some (.int .u32 x.toNat) := by rw [wC_get, hx]; rfl
        obtain ⟨a, b, c, d, e, f, g, y, hL⟩ := eight (roundsL_len hl s i)
        have hc : wC (roundsL h s i) = [.int .u32 a.toNat, .int .u32 b.toNat, .int .u32 c.toNat, .int .u32 d.toNat, .int .u32 e.toNat, .int .u32 f.toNat, .int .u32 g.toNat, .int .u32 y.toNat] := by rw [hL]; rfl
        have hr : roundsL h s (i + 1) = roundL [a, b, c, d, e, f, g, y] k x := by
          rw [roundsL, hL, ← hws, List.getD_eq_getElem?_getD, hk, List.getD_eq_getElem?_getD, hx]; rfl
        obtain ⟨t, ht⟩ : ∃ t, t = y + (rotr e 6 ^^^ rotr e 11 ^^^ rotr e 25) + ((e &&& f) ^^^ (~~~ e &&& g)) + k + x := ⟨_, rfl⟩
        obtain ⟨u, hu⟩ : ∃ u, u = (rotr a 2 ^^^ rotr a 13 ^^^ rotr a 22) + ((a &&& b) ^^^ (a &&& c) ^^^ (b &&& c)) := ⟨_, rfl⟩
        have hr2 : wC (roundsL h s (i + 1)) = [.int .u32 (t + u).toNat, .int .u32 a.toNat, .int .u32 b.toNat, .int .u32 c.toNat, .int .u32 (d + t).toNat, .int .u32 e.toNat, .int .u32 f.toNat, .int .u32 g.toNat] := by
          rw [hr, ht, hu]; rfl
        have ht' := ht.symm
        have hu' := hu.symm
        have hlen : i + 1 ≤ (wC shaK).length := by rw [n3]; omega
        have hlen2 : i + 1 ≤ (wC ws).length := by rw [n10]; omega
        have mx : IntKind.max .u32 = 4294967295 := rfl
        have sg : IntKind.signed .u32 = false := rfl
        rw [hc]
        repeat' first | simp -implicitDefEqProofs (maxSteps := 400000) (disch := first | with_reducible rfl | omega | (simp only [wkH] <;> omega) | decide) only [wkAll, wkL, popO, wantedP, ne_eq, Nat.reduceAdd, Nat.reduceLeDiff, Nat.reduceLT, Int.reduceLE, Int.reduceLT, Int.reduceToNat, Int.reduceNeg, binP, unP, indexAddrOp, loadOp, storeOp, loadP, buildP, placeF, fillP, setL, PK.agg, gt_iff_lt, seg, wkN, if_pos, if_neg, tf128, tf129, Tryz.ze129, tf153, pl92_17Sha5, pl92_18Sha5, hlt', ck, cx, n10, List.getElem?_drop, mx, sg, not32, xor32, add32, and32, ht', hu'] | refine w_pure (refTurn_n e 6 6 rfl (by omega) (by omega)) ?_ | refine w_pure (refTurn_n e 11 11 rfl (by omega) (by omega)) ?_ | refine w_pure (refTurn_n e 25 25 rfl (by omega) (by omega)) ?_ | refine w_pure (refTurn_n a 2 2 rfl (by omega) (by omega)) ?_ | refine w_pure (refTurn_n a 13 13 rfl (by omega) (by omega)) ?_ | refine w_pure (refTurn_n a 22 22 rfl (by omega) (by omega)) ?_ | refine w_dec (fun _ => ?_) (fun _ => ?_) | refine w_eqc (fun _ => ?_) (fun _ => ?_) | refine w_neqc (fun _ => ?_) (fun _ => ?_) | refine w_nneqc (fun _ => ?_) (fun _ => ?_) | ((first | refine w_split (fun h => ?_) (fun h => ?_) | refine d_split (fun h => ?_) (fun h => ?_) | refine w_csplit (fun h => ?_) (fun h => ?_)) <;> (try simp only [wkS] at h) <;> (have h2 := h) <;> (try simp only [wkT, ne_eq] at h2) <;> (try simp only [h])) | refine w_drawnF (id := 9) tb92_9Sha5 pl92_9Sha5 60 (by kernel_rfl) (by kernel_rfl) (by simp) ?_ | refine w_drawnF (id := 12) tb92_12Sha5 pl92_12Sha5 102 (by kernel_rfl) (by kernel_rfl) (by simp) ?_ | refine w_drawnF (id := 17) tb92_17Sha5 pl92_17Sha5 144 (by kernel_rfl) (by kernel_rfl) (by simp) ?_ | refine w_drawnF (id := 18) tb92_18Sha5 pl92_18Sha5 173 (by kernel_rfl) (by kernel_rfl) (by simp) ?_ | refine w_drawnF (id := 23) tb92_23Sha5 pl92_23Sha5 206 (by kernel_rfl) (by kernel_rfl) (by simp) ?_
        refine hK (i + 1) _ _ (by omega) (by omega) (.eq (by simp [FadeTo]) (by rw [hr2]))
      · have hge' : ¬ (i : Int) < 64 := by omega
        have : i = 64 := by omega
        subst this
        obtain ⟨L, hL⟩ : ∃ L, L = roundsL h s 64 := ⟨_, rfl⟩
        have hLl : L.length = 8 := by rw [hL]; exact roundsL_len hl s 64
        have hbw : blockW h s = addW L h 8 := by rw [addW_all hLl hl, blockW, hL]
        rw [hbw] at hQ
        rw [← hL]
        clear hL hbw
        repeat' first | simp -implicitDefEqProofs (maxSteps := 400000) (disch := first | with_reducible rfl | omega | (simp only [wkH] <;> omega) | decide) only [wkAll, wkL, popO, wantedP, Int.reduceLT, binP, wkN, if_pos] | refine w_dec (fun _ => ?_) (fun _ => ?_) | refine w_eqc (fun _ => ?_) (fun _ => ?_) | refine w_neqc (fun _ => ?_) (fun _ => ?_) | refine w_nneqc (fun _ => ?_) (fun _ => ?_) | ((first | refine w_split (fun h => ?_) (fun h => ?_) | refine d_split (fun h => ?_) (fun h => ?_) | refine w_csplit (fun h => ?_) (fun h => ?_)) <;> (try simp only [wkS] at h) <;> (have h2 := h) <;> (try simp only [wkT, ne_eq] at h2) <;> (try simp only [h])) | refine w_drawnF (id := 9) tb92_9Sha5 pl92_9Sha5 60 (by kernel_rfl) (by kernel_rfl) (by simp) ?_ | refine w_drawnF (id := 12) tb92_12Sha5 pl92_12Sha5 102 (by kernel_rfl) (by kernel_rfl) (by simp) ?_ | refine w_drawnF (id := 17) tb92_17Sha5 pl92_17Sha5 144 (by kernel_rfl) (by kernel_rfl) (by simp) ?_ | refine w_drawnF (id := 18) tb92_18Sha5 pl92_18Sha5 173 (by kernel_rfl) (by kernel_rfl) (by simp) ?_ | refine w_drawnF (id := 23) tb92_23Sha5 pl92_23Sha5 206 (by kernel_rfl) (by kernel_rfl) (by simp) ?_
        refine w_loopH (α := Nat) ph ph.ob ph.ty (fun i => [.undef, .undef, .ptr ph.n 0, .undef, .ptr (ph.n + 1) 0, .undef, .undef, .undef, .undef, .undef, .undef, .ptr (ph.n + 3) 0, .undef, .undef, .undef, .int .i64 i, .undef, .undef, .undef, .undef, .undef, .undef, .undef, .undef, .undef, .undef, .undef, .undef, .undef, .undef, .undef, .undef, .undef, .undef, .undef, .undef, .undef, .undef, .undef, .undef, .undef, .undef, .undef, .undef, .undef, .undef, .undef, .undef, .undef, .undef, .undef, .undef, .undef, .undef, .undef, .undef, .undef, .undef, .undef, .undef, .undef, .undef, .undef, .undef, .undef, .undef, .undef, .undef, .undef, .undef, .undef, .undef, .undef, .undef, .undef, .undef, .undef, .undef, .undef, .undef, .undef, .undef, .undef, .undef, .undef, .undef, .undef, .undef, .undef, .undef, .undef, .undef, .undef, .undef, .undef, .undef, .undef, .undef, .undef, .undef, .undef, .undef, .undef, .undef, .undef, .undef, .undef, .undef, .undef, .undef, .undef, .undef, .undef, .undef, .undef, .undef, .undef, .undef, .undef, .undef, .undef, .undef, .undef, .undef, .undef, .undef, .undef, .undef, .undef, .undef, .undef, .undef, .undef, .undef, .undef, .undef, .undef, .undef, .undef, .undef, .undef, .undef, .undef, .undef, .undef, .undef, .undef, .undef, .undef, .undef, .undef, .undef, .undef, .undef, .undef, .undef, .undef, .undef, .undef, .undef, .undef, .undef, .undef, .undef, .undef, .undef, .undef, .undef, .undef, .undef, .undef, .undef, .undef, .undef, .undef, .undef, .undef, .undef, .undef, .undef, .undef, .undef, .undef, .undef, .undef, .undef, .undef, .undef, .undef, .undef, .undef, .undef, .undef, .undef, .undef, .undef, .undef, .undef, .undef, .undef, .undef, .undef, .undef, .undef, .undef, .undef, .undef]) (fun i => [some (.own (wC h)), some (.own (wC z8W)), some (.own (wC ws)), some (.own (wC (addW L h i)))]) (fun i => i ≤ 8) (fun i => 8 - i) 0 (by simp) (fun _ _ => by simp) (.eq (by simp [FadeTo]) (by simp only [addW_zero])) ?_
        clear hi hK hge hge'
        intro i hi K hK
        have l1 : (wC (addW L h i)).length = 8 := by rw [wC_len, addW_len hLl hl]
        rcases Nat.lt_or_ge i 8 with hlt | hge
        · have hlt' : (i : Int) < 8 := by omega
          obtain ⟨x, hx⟩ := get_someW (show i < L.length by rw [hLl]; exact hlt)
          obtain ⟨y, hy⟩ := get_someW (show i < h.length by rw [hl]; exact hlt)
          have cx : (wC (addW L h i))[i]? = some (.int .u32 x.toNat) := by rw [wC_get, addW_get hLl hl hlt, hx]; rfl
          have cy : (wC h)[i]? = some (.int .u32 y.toNat) := by rw [wC_get, hy]; rfl
          have hsucc := (addW_succ hLl hl hlt hx hy).symm
          have m1 : i + 1 ≤ (wC h).length := by omega
          have m2 : i + 1 ≤ (wC (addW L h i)).length := by omega
          repeat' first | simp -implicitDefEqProofs (maxSteps := 400000) (disch := first | with_reducible rfl | omega | (simp only [wkH] <;> omega) | decide) only [wkAll, wkL, popO, wantedP, Nat.reduceLeDiff, binP, indexAddrOp, loadOp, storeOp, loadP, setL, PK.agg, seg, wkN, if_pos, if_neg, tf128, tf129, pl92_23Sha5, hlt', cx, cy, add32, wC_set, hsucc, n1, l1] | refine w_dec (fun _ => ?_) (fun _ => ?_) | refine w_eqc (fun _ => ?_) (fun _ => ?_) | refine w_neqc (fun _ => ?_) (fun _ => ?_) | refine w_nneqc (fun _ => ?_) (fun _ => ?_) | ((first | refine w_split (fun h => ?_) (fun h => ?_) | refine d_split (fun h => ?_) (fun h => ?_) | refine w_csplit (fun h => ?_) (fun h => ?_)) <;> (try simp only [wkS] at h) <;> (have h2 := h) <;> (try simp only [wkT, ne_eq] at h2) <;> (try simp only [h])) | refine w_drawnF (id := 9) tb92_9Sha5 pl92_9Sha5 60 (by kernel_rfl) (by kernel_rfl) (by simp) ?_ | refine w_drawnF (id := 12) tb92_12Sha5 pl92_12Sha5 102 (by kernel_rfl) (by kernel_rfl) (by simp) ?_ | refine w_drawnF (id := 17) tb92_17Sha5 pl92_17Sha5 144 (by kernel_rfl) (by kernel_rfl) (by simp) ?_ | refine w_drawnF (id := 18) tb92_18Sha5 pl92_18Sha5 173 (by kernel_rfl) (by kernel_rfl) (by simp) ?_ | refine w_drawnF (id := 23) tb92_23Sha5 pl92_23Sha5 206 (by kernel_rfl) (by kernel_rfl) (by simp) ?_
          refine hK (i + 1) _ _ (by omega) (by omega) (.eq (by simp [FadeTo]) rfl)
        · have hge' : ¬ (i : Int) < 8 := by omega
          have : i = 8 := by omega
          subst this
          have l2 : setL (wC z8W) 0 (wC (addW L h 8)) = wC (addW L h 8) := setL_whole (by rw [n7, l1])
          have l3 : (wC (addW L h 8)).take 8 = wC (addW L h 8) := take_w (addW_len hLl hl 8)
          generalize addW L h 8 = R at *
          repeat' first | simp -implicitDefEqProofs (maxSteps := 400000) (disch := first | with_reducible rfl | omega | (simp only [wkH] <;> omega) | decide) only [wkAll, wkL, popO, wantedP, Nat.reduceLeDiff, Int.reduceLT, binP, loadOp, storeOp, loadP, PK.agg, seg, wkN, if_pos, tf129, n7, l1, l2, l3, wC_ok] | refine w_dec (fun _ => ?_) (fun _ => ?_) | refine w_eqc (fun _ => ?_) (fun _ => ?_) | refine w_neqc (fun _ => ?_) (fun _ => ?_) | refine w_nneqc (fun _ => ?_) (fun _ => ?_) | ((first | refine w_split (fun h => ?_) (fun h => ?_) | refine d_split (fun h => ?_) (fun h => ?_) | refine w_csplit (fun h => ?_) (fun h => ?_)) <;> (try simp only [wkS] at h) <;> (have h2 := h) <;> (try simp only [wkT, ne_eq] at h2) <;> (try simp only [h])) | refine w_drawnF (id := 9) tb92_9Sha5 pl92_9Sha5 60 (by kernel_rfl) (by kernel_rfl) (by simp) ?_ | refine w_drawnF (id := 12) tb92_12Sha5 pl92_12Sha5 102 (by kernel_rfl) (by kernel_rfl) (by simp) ?_ | refine w_drawnF (id := 17) tb92_17Sha5 pl92_17Sha5 144 (by kernel_rfl) (by kernel_rfl) (by simp) ?_ | refine w_drawnF (id := 18) tb92_18Sha5 pl92_18Sha5 173 (by kernel_rfl) (by kernel_rfl) (by simp) ?_ | refine w_drawnF (id := 23) tb92_23Sha5 pl92_23Sha5 206 (by kernel_rfl) (by kernel_rfl) (by simp) ?_
          refine hQ (by first | exact .inr rfl | exact .inl rfl) (by first | exact trivial | exact marks1) (by first | (simp -implicitDefEqProofs (maxSteps := 400000) (disch := first | with_reducible rfl | omega | (simp only [wkH] <;> omega) | decide) only [wkAll, wkL, Nat.reduceLeDiff, loadOp, loadP, PK.agg, seg, if_pos, tf129, resP, resPs, resP1, l1, l3]; rfl) | rfl) ⟨6, by repeat' first | exact frz_scalar rfl | apply frz_tuple | apply frz_agg | apply frz_fsl | apply frz_gsl (by omega) | exact frzs_nil | apply frzs_cons | exact frzs_scalars (wC_scalar _)⟩ (by first | exact keepsH0 | exact keeps1 (by assumption) | exact keepsH (fun _ _ h => h) (fun p hp => by simp only [upF]; (repeat rw [if_neg (by omega)])) | exact keeps1t (by assumption) (fun p hp => by simp only [upF]; (repeat rw [if_neg (by omega)])) | (subst hT; exact keepsH (fun _ _ h => h) fun _ _ => rfl)) (nw_eq ?_)
          rfl
end Pv

namespace Pv
open Go

/-! ### Chapter 6: hashes of texts, in plain Lean -/
/-- Whole blocks taken, n of them. -/
def feedN : Nat → List UInt32 → List UInt8 → List UInt32 × List UInt8
  | 0, h, s => (h, s)
  | n + 1, h, s => feedN n (blockW h (s.take 64)) (s.drop 64)
def feed (h : List UInt32) (s : List UInt8) : List UInt32 × List UInt8 := feedN (s.length / 64) h s
structure HS where
  h : List UInt32
  left : List UInt8
  n : UInt64
def writeH (x : HS) (s : List UInt8) : HS := ⟨(feed x.h (x.left ++ s)).1, (feed x.h (x.left ++ s)).2, x.n + UInt64.ofNat s.length⟩
def newH : HS := ⟨shaH0, [], 0⟩
def be8 (n : UInt64) : List UInt8 := (List.range 8).map fun i => (n >>> UInt64.ofNat (56 - 8 * i)).toUInt8
def endH (x : HS) : List UInt8 := 0x80 :: (List.replicate ((119 - x.left.length) % 64) (0 : UInt8) ++ be8 (x.n <<< 3))
def be4 (x : UInt32) : List UInt8 := [(x >>> 24).toUInt8, (x >>> 16).toUInt8, (x >>> 8).toUInt8, x.toUInt8]
def sumH (x : HS) : List UInt8 := (writeH x (endH x)).h.flatMap be4
def shaOf (s : List UInt8) : List UInt8 := sumH (writeH newH s)
def maskL (key : List UInt8) (c : UInt8) : List UInt8 := (key ++ List.replicate (64 - key.length) 0).map (· ^^^ c)
def keyL (key : List UInt8) : List UInt8 := if 64 < key.length then shaOf key else key
def macL (key s : List UInt8) : List UInt8 := shaOf (maskL (keyL key) 0x5c ++ shaOf (maskL (keyL key) 0x36 ++ s))

theorem feed_lt (h : List UInt32) (s : List UInt8) (hs : s.length < 64) : feed h s = (h, s) := by
  rw [feed, Nat.div_eq_of_lt hs, feedN]
theorem feed_step (h : List UInt32) (s : List UInt8) (hs : 64 ≤ s.length) : feed h s = feed (blockW h (s.take 64)) (s.drop 64) := by
  have e : s.length / 64 = (s.drop 64).length / 64 + 1 := by rw [List.length_drop]; omega
  rw [feed, e, feedN, ← feed]
theorem feedN_len : ∀ (n : Nat) (h : List UInt32) (s : List UInt8), h.length = 8 → (feedN n h s).1.length = 8 ∧ (feedN n h s).2.length = s.length - 64 * n
  | 0, h, s, hl => ⟨hl, by simp [feedN]⟩
  | n + 1, h, s, hl => by
    have := feedN_len n (blockW h (s.take 64)) (s.drop 64) (blockW_len hl _)
    rw [feedN]
    refine ⟨this.1, ?_⟩
    rw [this.2, List.length_drop]; omega
theorem feed_len (h : List UInt32) (s : List UInt8) (hl : h.length = 8) : (feed h s).1.length = 8 ∧ (feed h s).2.length = s.length % 64 := by
  have := feedN_len (s.length / 64) h s hl
  refine ⟨this.1, ?_⟩
  rw [feed, this.2]; omega
theorem write_len (x : HS) (s : List UInt8) (h : x.h.length = 8) : (writeH x s).h.length = 8 ∧ (writeH x s).left.length = (x.left.length + s.length) % 64 := by
  have := feed_len x.h (x.left ++ s) h
  rw [List.length_append] at this
  exact this
theorem flat_len : ∀ (l : List UInt32), (l.flatMap be4).length = 4 * l.length
  | [] => rfl
  | a :: l => by rw [List.flatMap_cons, List.length_append, flat_len l]; simp [be4]; omega
theorem sum_len (x : HS) (h : x.h.length = 8) : (sumH x).length = 32 := by
  rw [sumH, flat_len, (write_len x _ h).1]
theorem of_len (s : List UInt8) : (shaOf s).length = 32 := sum_len _ (write_len newH s rfl).1
theorem mac_len (k s : List UInt8) : (macL k s).length = 32 := of_len _
theorem keyL_len (k : List UInt8) : (keyL k).length ≤ 64 := by
  rw [keyL]; split
  · rw [of_len]; decide
  · omega
theorem maskL_len (k : List UInt8) (c : UInt8) (h : k.length ≤ 64) : (maskL k c).length = 64 := by simp [maskL]; omega
/-! ### Words of 64 bits -/
theorem wrap_u64 (n : Nat) : IntKind.wrap .u64 (n : Int) = ((n % 18446744073709551616 : Nat) : Int) := by
  simp [IntKind.wrap, IntKind.bits, IntKind.signed]
theorem add64n (x : UInt64) (n : Nat) : IntKind.wrap .u64 ((x.toNat : Int) + (n : Int)) = ((x + UInt64.ofNat n).toNat : Int) := by
  have : (x.toNat : Int) + (n : Int) = ((x.toNat + n : Nat) : Int) := by omega
  rw [this, wrap_u64, UInt64.toNat_add, UInt64.toNat_ofNat']
  congr 1; omega
theorem shl64 (x : UInt64) (m : Nat) (h : m < 64) : shlP .u64 (x.toNat : Int) (m : Int) = ((x <<< UInt64.ofNat m).toNat : Int) := by
  have e : min ((m : Int)).toNat (IntKind.bits .u64) = m := by simp [IntKind.bits]; omega
  have e2 : (UInt64.ofNat m).toNat = m := by simp; omega
  simp only [shlP]
  rw [e, UInt64.toNat_shiftLeft, e2, Nat.mod_eq_of_lt h, Nat.shiftLeft_eq]
  have : (x.toNat : Int) * 2 ^ m = ((x.toNat * 2 ^ m : Nat) : Int) := by simp
  rw [this, wrap_u64]
theorem shr64 (x : UInt64) (m : Nat) (h : m < 64) : shrP .u64 (x.toNat : Int) (m : Int) = ((x >>> UInt64.ofNat m).toNat : Int) := by
  have e : min ((m : Int)).toNat (IntKind.bits .u64) = m := by simp [IntKind.bits]; omega
  have e2 : (UInt64.ofNat m).toNat = m := by simp; omega
  simp only [shrP]
  rw [e, UInt64.toNat_shiftRight, e2, Nat.mod_eq_of_lt h, Nat.shiftRight_eq_div_pow]
  have e3 : (2 : Int) ^ m = ((2 ^ m : Nat) : Int) := by simp
  rw [e3, Int.fdiv_eq_ediv_of_nonneg _ (Int.natCast_nonneg _)]; rfl
theorem low64 (x : UInt64) : IntKind.wrap .u8 (x.toNat : Int) = (x.toUInt8.toNat : Int) := by
  have : IntKind.wrap .u8 ((x.toNat : Nat) : Int) = ((x.toNat % 256 : Nat) : Int) := by simp [IntKind.wrap, IntKind.bits, IntKind.signed]
  rw [this]; simp

end Pv
