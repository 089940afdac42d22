/- Part of the proof: the layer of pure values, or walks through functions (PvSha8, PvShelf, PvShaR). -/
import Derived.Test.YtjomgffpkdcanaaGreatPvSha6
import Derived.Test.YtjomgffpkdcanaaGreatPvH
import Derived.Test.YtjomgffpkdcanaaGreatPvDrawP
import Derived.Shelf.Strings.Repeat
set_option linter.all false
namespace Pv
set_option maxRecDepth 20000
set_option maxHeartbeats 4000000
open Go Go.Proofs Go.RowKit
def tb80_14Sha8 : Tab := [[], [], [], [1, 2], [1, 2, 3], [1, 2, 3, 4], [1, 2, 3, 4, 5], [], [], [7, 8], [7, 8, 9], [7, 8, 9, 10], [7, 8, 9, 10, 11], [], [], [13, 14], [13, 14, 15], [13, 14, 15, 16], [13, 14, 15, 16, 17], [], [], [19, 20], [19, 20, 21], [19, 20, 21, 22], [1, 2, 3, 4, 5, 6, 7, 8, 9, 10, 11, 12, 13, 14, 15, 16, 17, 18, 19, 20, 21, 22, 23], [0, 1, 2, 3, 4, 5, 6, 7, 8, 9, 10, 11, 12, 13, 14, 15, 16, 17, 18, 19, 20, 21, 22, 23, 24], [0, 1, 2, 3, 4, 5, 6, 7, 8, 9, 10, 11, 12, 13, 14, 15, 16, 17, 18, 19, 20, 21, 22, 23, 24, 25]]
def pl80_14Sha8 : Plan := [(0, true, []), (1, true, []), (2, true, []), (3, true, []), (4, true, []), (5, true, []), (6, true, []), (7, true, []), (8, true, []), (9, true, []), (10, true, []), (11, true, []), (12, true, []), (13, true, []), (14, true, []), (15, true, []), (16, true, []), (17, true, []), (18, true, []), (19, true, []), (20, true, []), (21, true, []), (22, true, []), (23, true, []), (24, false, [0]), (25, false, []), (26, false, [])]
variable {w0 : World}

/-! ### masked, by the document -/
def z64B : List UInt8 := List.replicate 64 0
theorem mk64b (ph : PH) : makeSliceP Tryz.prog 92 (.int .i64 64) (.int .i64 64) ph = some (.sl ph.n 0 1 64 (some 64), ph.push (bytesPV z64B)) := by
  have e : reps 64 [PV.int .u8 0] = bytesPV z64B := rfl
  simp only [makeSliceP, Tryz.sl92, Tryz.sz5, Tryz.by5, Tryz.ze5, PV.cells, List.length_cons, List.length_nil]
  rw [if_pos (by decide)]
  show some (_, ph.push (reps 64 [PV.int .u8 0])) = _
  rw [e]; rfl
/-- The mask, i bytes of it. -/
def maskI (k : List UInt8) (c : UInt8) (i : Nat) : List UInt8 := (maskL k c).take i ++ List.replicate (64 - i) 0
theorem maskI_zero (k : List UInt8) (c : UInt8) : maskI k c 0 = z64B := rfl
attribute [irreducible] z64B
theorem maskI_len (k : List UInt8) (c : UInt8) (hk : k.length ≤ 64) (i : Nat) (h : i ≤ 64) : (maskI k c i).length = 64 := by
  simp [maskI, maskL_len k c hk]; omega
theorem maskI_all (k : List UInt8) (c : UInt8) (hk : k.length ≤ 64) : maskI k c 64 = maskL k c := by
  simp [maskI]; exact List.take_of_length_le (by rw [maskL_len k c hk]; decide)
theorem maskL_at (k : List UInt8) (c : UInt8) (hk : k.length ≤ 64) (i : Nat) (h : i < 64) : (maskL k c)[i]? = some (k.getD i 0 ^^^ c) := by
  rw [maskL, List.getElem?_map]
  rcases Nat.lt_or_ge i k.length with h1 | h1
  · rw [List.getElem?_append_left h1, List.getElem?_eq_getElem h1, List.getD_eq_getElem?_getD, List.getElem?_eq_getElem h1]; rfl
  · rw [List.getElem?_append_right h1, List.getElem?_replicate, if_pos (by omega), List.getD_eq_getElem?_getD, List.getElem?_eq_none h1]; rfl
theorem set_next {α : Type} (l : List α) (i n : Nat) (z x : α) (h : i < n) (hx : l[i]? = some x) (hi : i ≤ l.length) : (l.take i ++ List.replicate (n - i) z).set i x = l.take (i + 1) ++ List.replicate (n - (i + 1)) z := by
  have e : n - i = n - (i + 1) + 1 := by omega
  have hl : (l.take i).length = i := by rw [List.length_take]; omega
  rw [e, List.replicate_succ, List.set_append_right _ _ (by omega), hl, Nat.sub_self, List.set_cons_zero, List.take_add_one, hx]
  simp
theorem maskI_set (k : List UInt8) (c : UInt8) (hk : k.length ≤ 64) (i : Nat) (h : i < 64) : (maskI k c i).set i (k.getD i 0 ^^^ c) = maskI k c (i + 1) :=
  set_next _ _ _ _ _ h (maskL_at k c hk i h) (by rw [maskL_len k c hk]; omega)
theorem bytesPV_set (l : List UInt8) (i : Nat) (b : UInt8) : (bytesPV l).set i (.int .u8 (b.toNat : Int)) = bytesPV (l.set i b) := by simp [bytesPV, List.map_set]
theorem seg_b (l : List UInt8) (h : l.length = 64) : seg (bytesPV l) 0 (64 * 1) = bytesPV l := by
  simp only [seg, List.drop_zero]; exact List.take_of_length_le (by rw [bytesPV_len]; omega)

theorem refMasked_ok (k : List UInt8) (hk : k.length ≤ 64) (c : UInt8) : Fn (Cx w0) 102 [.str k, .int .u8 c.toNat] (.str (maskL k c)) := by
  refine fn_H ([Go.ResultVar.tmp 4]) Tryz.func102 rfl rfl (by decide) fun ph hW Q hQ => ?_
  simp only [start, List.length_cons, List.length_nil, List.cons_append, List.nil_append, Nat.reduceAdd, Nat.reduceSub, List.replicate_succ, List.replicate_zero, Tryz.ntmps102]
  repeat' first | simp -implicitDefEqProofs (maxSteps := 400000) (disch := first | with_reducible rfl | omega | (simp only [wkH] <;> omega) | decide) only [wkAll, wkL, popO, wantedP, mk64b] | refine w_dec (fun _ => ?_) (fun _ => ?_) | refine w_eqc (fun _ => ?_) (fun _ => ?_) | refine w_neqc (fun _ => ?_) (fun _ => ?_) | refine w_nneqc (fun _ => ?_) (fun _ => ?_) | ((first | refine w_split (fun h => ?_) (fun h => ?_) | refine d_split (fun h => ?_) (fun h => ?_) | refine w_csplit (fun h => ?_) (fun h => ?_)) <;> (try simp only [wkS] at h) <;> (have h2 := h) <;> (try simp only [wkT, ne_eq] at h2) <;> (try simp only [h]))
  refine w_loopH (α := Nat) ph ph.ob ph.ty (fun i => [.str k, .int .u8 c.toNat, .undef, .undef, .undef, .sl ph.n 0 1 64 (some 64), .int .i64 i, .undef, .undef, .undef, .undef, .undef, .undef, .undef, .undef, .undef, .undef, .undef, .undef, .undef, .undef, .undef, .undef, .undef, .undef, .undef, .undef, .undef, .undef, .undef]) (fun i => [some (.own (bytesPV (maskI k c i)))]) (fun i => i ≤ 64) (fun i => 64 - i) 0 (by simp) (fun _ _ => by simp) (.eq (by simp [FadeTo]) (by simp only [maskI_zero])) ?_
  intro i hi K hK
  have hl : (bytesPV (maskI k c i)).length = 64 := by rw [bytesPV_len, maskI_len k c hk i hi]
  rcases Nat.lt_or_ge i 64 with hlt | hge
  · have hlt' : (i : Int) < 64 := by omega
    have hs2 := maskI_set k c hk i hlt
    have hlen : i + 1 ≤ (maskI k c i).length := by rw [maskI_len k c hk i hi]; omega
    rcases Nat.lt_or_ge i k.length with h1 | h1
    · have h1' : (i : Int) < (k.length : Int) := by omega
      obtain ⟨x, hx⟩ := get_someW h1
      rw [List.getD_eq_getElem?_getD, hx, Option.getD_some, UInt8.xor_comm] at hs2
      have hlen2 : i + 1 ≤ ((maskI k c i).set i c).length := by rw [List.length_set]; exact hlen
      have hss : ((maskI k c i).set i c).set i (c ^^^ x) = maskI k c (i + 1) := by rw [List.set_set, hs2]
      repeat' first | simp -implicitDefEqProofs (maxSteps := 400000) (disch := first | with_reducible rfl | omega | (simp only [wkH] <;> omega) | decide) only [wkAll, wkL, popO, wantedP, binP, lenP, builtinP, indexOp, indexAddrOp, storeOp, setL, wkN, if_pos, tf5, tf9, tf92, hlt', h1', hx, hlen, xor_u8, bytesPV_set, hss] | refine w_dec (fun _ => ?_) (fun _ => ?_) | refine w_eqc (fun _ => ?_) (fun _ => ?_) | refine w_neqc (fun _ => ?_) (fun _ => ?_) | refine w_nneqc (fun _ => ?_) (fun _ => ?_) | ((first | refine w_split (fun h => ?_) (fun h => ?_) | refine d_split (fun h => ?_) (fun h => ?_) | refine w_csplit (fun h => ?_) (fun h => ?_)) <;> (try simp only [wkS] at h) <;> (have h2 := h) <;> (try simp only [wkT, ne_eq] at h2) <;> (try simp only [h]))
      exact hK (i + 1) _ _ (by omega) (by omega) (.eq (by simp [FadeTo]) rfl)
    · have h1' : ¬ (i : Int) < (k.length : Int) := by omega
      rw [List.getD_eq_getElem?_getD, List.getElem?_eq_none h1, Option.getD_none, UInt8.zero_xor] at hs2
      repeat' first | simp -implicitDefEqProofs (maxSteps := 400000) (disch := first | with_reducible rfl | omega | (simp only [wkH] <;> omega) | decide) only [wkAll, wkL, popO, wantedP, binP, lenP, builtinP, indexAddrOp, storeOp, setL, wkN, if_pos, tf5, tf9, tf92, hlt', h1', hlen, bytesPV_set, hs2] | refine w_dec (fun _ => ?_) (fun _ => ?_) | refine w_eqc (fun _ => ?_) (fun _ => ?_) | refine w_neqc (fun _ => ?_) (fun _ => ?_) | refine w_nneqc (fun _ => ?_) (fun _ => ?_) | ((first | refine w_split (fun h => ?_) (fun h => ?_) | refine d_split (fun h => ?_) (fun h => ?_) | refine w_csplit (fun h => ?_) (fun h => ?_)) <;> (try simp only [wkS] at h) <;> (have h2 := h) <;> (try simp only [wkT, ne_eq] at h2) <;> (try simp only [h]))
      exact hK (i + 1) _ _ (by omega) (by omega) (.eq (by simp [FadeTo]) rfl)
  · have hge' : ¬ (i : Int) < 64 := by omega
    have : i = 64 := by omega
    subst this
    rw [maskI_all k c hk] at hl ⊢
    have hsg := seg_b (maskL k c) (maskL_len k c hk)
    have ht : (bytesPV (maskL k c)).take 64 = bytesPV (maskL k c) := List.take_of_length_le (by omega)
    repeat' first | simp -implicitDefEqProofs (maxSteps := 400000) (disch := first | with_reducible rfl | omega | (simp only [wkH] <;> omega) | decide) only [wkAll, wkL, popO, wantedP, Nat.reduceLeDiff, Int.reduceLT, binP, convP, seg, wkN, if_pos, tf5, tf9, tf92, hl, ht] | refine w_dec (fun _ => ?_) (fun _ => ?_) | refine w_eqc (fun _ => ?_) (fun _ => ?_) | refine w_neqc (fun _ => ?_) (fun _ => ?_) | refine w_nneqc (fun _ => ?_) (fun _ => ?_) | ((first | refine w_split (fun h => ?_) (fun h => ?_) | refine d_split (fun h => ?_) (fun h => ?_) | refine w_csplit (fun h => ?_) (fun h => ?_)) <;> (try simp only [wkS] at h) <;> (have h2 := h) <;> (try simp only [wkT, ne_eq] at h2) <;> (try simp only [h]))
    refine hQ (by first | exact .inr rfl | exact .inl rfl) (by first | exact trivial | exact marks1) (by first | (simp -implicitDefEqProofs (maxSteps := 400000) (disch := first | with_reducible rfl | omega | (simp only [wkH] <;> omega) | decide) only [wkL, resP, resPs, resP1]; rfl) | rfl) ⟨6, by repeat' first | exact frz_scalar rfl | apply frz_tuple | apply frz_agg | apply frz_fsl | apply frz_gsl (by omega) | exact frzs_nil | apply frzs_cons⟩ (by first | exact keepsH0 | exact keeps1 (by assumption) | exact keepsH (fun _ _ h => h) (fun p hp => by simp only [upF]; (repeat rw [if_neg (by omega)])) | exact keeps1t (by assumption) (fun p hp => by simp only [upF]; (repeat rw [if_neg (by omega)])) | (subst hT; exact keepsH (fun _ _ h => h) fun _ _ => rfl)) (nw_eq ?_)
    rfl

/-! ### Sum, by the document -/
def endP (k : Nat) : List UInt8 := 0x80 :: List.replicate k 0
theorem endP_zero : [128] = endP 0 := rfl
theorem endP_succ (k : Nat) : endP k ++ [0] = endP (k + 1) := by simp [endP, List.replicate_succ']
theorem endP_len (k : Nat) : (endP k).length = k + 1 := by simp [endP]
theorem endH_eq (x : HS) : endH x = endP ((119 - x.left.length) % 64) ++ be8 (x.n <<< 3) := rfl
attribute [irreducible] endP
theorem be8_len (n : UInt64) : (be8 n).length = 8 := by simp [be8]
theorem be8_at (n : UInt64) (i : Nat) (h : i < 8) : (be8 n)[i]? = some (n >>> UInt64.ofNat (56 - 8 * i)).toUInt8 := by simp [be8, h]
theorem take_next {α : Type} {l : List α} {i : Nat} {x : α} (h : l[i]? = some x) : l.take (i + 1) = l.take i ++ [x] := by rw [List.take_add_one, h]; rfl
theorem flat_next {h : List UInt32} {i : Nat} {x : UInt32} (hx : h[i]? = some x) : (h.take (i + 1)).flatMap be4 = (h.take i).flatMap be4 ++ be4 x := by rw [take_next hx, List.flatMap_append]; simp
theorem mul64_8 (n : UInt64) : IntKind.wrap .u64 ((n.toNat : Int) * 8) = ((n <<< 3).toNat : Int) := by
  have := shl64 n 3 (by decide)
  rw [show ((3 : Nat) : Int) = 3 from rfl] at this
  rw [show UInt64.ofNat 3 = 3 from rfl] at this
  rw [← this]
  simp [shlP, IntKind.bits]
theorem be4_pv (x : UInt32) : bytesPV (be4 x) = [.int .u8 ((x >>> 24).toUInt8.toNat : Int), .int .u8 ((x >>> 16).toUInt8.toNat : Int), .int .u8 ((x >>> 8).toUInt8.toNat : Int), .int .u8 (x.toUInt8.toNat : Int)] := rfl
theorem hc_w {h : List UInt32} {l : List UInt8} {n : UInt64} {i : Nat} {x : UInt32} (hi : h[i]? = some x) : (hc h l n)[i]? = some (.int .u32 (x.toNat : Int)) := by
  have hlt : i < h.length := (List.getElem?_eq_some_iff.1 hi).1
  rw [hc, List.getElem?_append_left (by rw [wC_len]; exact hlt), wC_get, hi]; rfl

theorem refSum_ok (h : List UInt32) (h8 : h.length = 8) (lf : List UInt8) (hlf : lf.length < 64) (n : UInt64) : Fn (Cx w0) 80 [.agg (hc h lf n)] (.str (sumH ⟨h, lf, n⟩)) := by
  have z8 := z8W_len
  obtain ⟨N3, hN3⟩ : ∃ N3, N3 = n <<< 3 := ⟨_, rfl⟩
  have hm := mul64_8 n
  rw [← hN3] at hm
  obtain ⟨pd, hpd⟩ : ∃ pd, pd = (119 - lf.length) % 64 := ⟨_, rfl⟩
  have hE : endH ⟨h, lf, n⟩ = endP pd ++ be8 N3 := by rw [endH_eq, hpd, hN3]
  refine fn_H ([Go.ResultVar.tmp 2]) Tryz.func80 rfl rfl (by decide) fun ph hW Q hQ => ?_
  simp only [start, List.length_cons, List.length_nil, List.cons_append, List.nil_append, Nat.reduceAdd, Nat.reduceSub, List.replicate_succ, List.replicate_zero, Tryz.ntmps80]
  repeat' first | simp -implicitDefEqProofs (maxSteps := 400000) (disch := first | with_reducible rfl | omega | (simp only [wkH] <;> omega) | decide) only [wkAll, wkL, popO, wantedP, Nat.reduceAdd, Nat.reduceLeDiff, binP, loadOp, loadP, fieldAddrOp, PK.agg, seg, if_pos, if_neg, tf50, tf131, hm, hc_len, hc_g9, hc_ok] | refine w_dec (fun _ => ?_) (fun _ => ?_) | refine w_eqc (fun _ => ?_) (fun _ => ?_) | refine w_neqc (fun _ => ?_) (fun _ => ?_) | refine w_nneqc (fun _ => ?_) (fun _ => ?_) | ((first | refine w_split (fun h => ?_) (fun h => ?_) | refine d_split (fun h => ?_) (fun h => ?_) | refine w_csplit (fun h => ?_) (fun h => ?_)) <;> (try simp only [wkS] at h) <;> (have h2 := h) <;> (try simp only [wkT, ne_eq] at h2) <;> (try simp only [h])) | refine w_drawnF (id := 14) tb80_14Sha8 pl80_14Sha8 67 (by kernel_rfl) (by kernel_rfl) (by simp) ?_
  refine w_loopH (α := Nat) ph ph.ob ph.ty (fun k => [.undef, .ptr ph.n 0, .undef, .int .u64 N3.toNat, .str (endP k), .undef, .undef, .undef, .undef, .undef, .undef, .undef, .undef, .undef, .undef, .undef, .undef, .undef, .undef, .undef, .undef, .undef, .undef, .undef, .undef, .undef, .undef, .undef, .undef, .undef, .undef, .undef, .undef, .undef, .undef, .undef, .undef, .undef, .undef, .undef, .undef, .undef, .undef, .undef, .undef, .undef, .undef, .undef, .undef, .undef, .undef, .undef, .undef, .undef, .undef, .undef, .undef, .undef, .undef, .undef, .undef, .undef, .undef, .undef, .undef, .undef, .undef, .undef, .undef]) (fun _ => [some (.own (hc h lf n))]) (fun k => k ≤ pd) (fun k => pd - k) 0 (by simp) (fun _ _ => by simp) (.eq (by simp [FadeTo, endP_zero]) rfl) ?_
  intro k hk K hK
  have hl := endP_len k
  have e0 : (lf.length : Int) + ((k + 1 : Nat) : Int) = ((lf.length + (k + 1) : Nat) : Int) := by omega
  have em : Int.tmod ((lf.length + (k + 1) : Nat) : Int) 64 = (((lf.length + (k + 1)) % 64 : Nat) : Int) := by rw [Int.tmod_eq_emod_of_nonneg (by omega)]; rfl
  rcases Nat.lt_or_ge k pd with hlt | hge
  · have hne : ((((lf.length + (k + 1)) % 64 : Nat) : Int) != 56) = true := by rw [bne_iff_ne]; omega
    repeat' first | simp -implicitDefEqProofs (maxSteps := 400000) (disch := first | with_reducible rfl | omega | (simp only [wkH] <;> omega) | decide) only [wkAll, wkL, popO, wantedP, Nat.reduceAdd, Nat.reduceLeDiff, Int.reduceEq, binP, lenP, builtinP, loadOp, loadP, fieldAddrOp, PK.agg, seg, wkN, if_pos, if_neg, tf9, tf131, hl, e0, em, hne, endP_succ, hc_len, hc_g8] | refine w_dec (fun _ => ?_) (fun _ => ?_) | refine w_eqc (fun _ => ?_) (fun _ => ?_) | refine w_neqc (fun _ => ?_) (fun _ => ?_) | refine w_nneqc (fun _ => ?_) (fun _ => ?_) | ((first | refine w_split (fun h => ?_) (fun h => ?_) | refine d_split (fun h => ?_) (fun h => ?_) | refine w_csplit (fun h => ?_) (fun h => ?_)) <;> (try simp only [wkS] at h) <;> (have h2 := h) <;> (try simp only [wkT, ne_eq] at h2) <;> (try simp only [h])) | refine w_drawnF (id := 14) tb80_14Sha8 pl80_14Sha8 67 (by kernel_rfl) (by kernel_rfl) (by simp) ?_
    exact hK (k + 1) _ _ (by omega) (by omega) (.eq (by simp [FadeTo]) rfl)
  · have : k = pd := by omega
    subst this
    have hne : ((((lf.length + (k + 1)) % 64 : Nat) : Int) != 56) = false := by rw [bne_eq_false_iff_eq]; omega
    repeat' first | simp -implicitDefEqProofs (maxSteps := 400000) (disch := first | with_reducible rfl | omega | (simp only [wkH] <;> omega) | decide) only [wkAll, wkL, popO, wantedP, Nat.reduceAdd, Nat.reduceLeDiff, Int.reduceEq, binP, lenP, builtinP, loadOp, loadP, fieldAddrOp, PK.agg, seg, wkN, if_pos, if_neg, tf9, tf131, hl, e0, em, hne, hc_len, hc_g8] | refine w_dec (fun _ => ?_) (fun _ => ?_) | refine w_eqc (fun _ => ?_) (fun _ => ?_) | refine w_neqc (fun _ => ?_) (fun _ => ?_) | refine w_nneqc (fun _ => ?_) (fun _ => ?_) | ((first | refine w_split (fun h => ?_) (fun h => ?_) | refine d_split (fun h => ?_) (fun h => ?_) | refine w_csplit (fun h => ?_) (fun h => ?_)) <;> (try simp only [wkS] at h) <;> (have h2 := h) <;> (try simp only [wkT, ne_eq] at h2) <;> (try simp only [h])) | refine w_drawnF (id := 14) tb80_14Sha8 pl80_14Sha8 67 (by kernel_rfl) (by kernel_rfl) (by simp) ?_
    refine w_loopH (α := Nat) ph ph.ob ph.ty (fun j => [.undef, .ptr ph.n 0, .undef, .int .u64 N3.toNat, .str (endP k ++ (be8 N3).take j), .int .i64 (7 - (j : Int)), .undef, .undef, .undef, .undef, .undef, .undef, .undef, .undef, .undef, .undef, .undef, .undef, .undef, .undef, .undef, .undef, .undef, .undef, .undef, .undef, .undef, .undef, .undef, .undef, .undef, .undef, .undef, .undef, .undef, .undef, .undef, .undef, .undef, .undef, .undef, .undef, .undef, .undef, .undef, .undef, .undef, .undef, .undef, .undef, .undef, .undef, .undef, .undef, .undef, .undef, .undef, .undef, .undef, .undef, .undef, .undef, .undef, .undef, .undef, .undef, .undef, .undef, .undef]) (fun _ => [some (.own (hc h lf n))]) (fun j => j ≤ 8) (fun j => 8 - j) 0 (by simp) (fun _ _ => by simp) (.eq (by simp [FadeTo]) rfl) ?_
    clear hK hge hne em e0
    intro j hj K hK
    rcases Nat.lt_or_ge j 8 with hlt | hge
    · have hc1 : (0 : Int) ≤ 7 - (j : Int) := by omega
      have e1 : 8 * (7 - (j : Int)) = ((56 - 8 * j : Nat) : Int) := by omega
      have e2 := shr64 N3 (56 - 8 * j) (by omega)
      have e3 : (0 : Int) ≤ ((56 - 8 * j : Nat) : Int) := by omega
      have hb := be8_at N3 j hlt
      obtain ⟨b, hb2⟩ : ∃ b, b = (N3 >>> UInt64.ofNat (56 - 8 * j)).toUInt8 := ⟨_, rfl⟩
      have e4 := low64 (N3 >>> UInt64.ofNat (56 - 8 * j))
      rw [← hb2] at hb e4
      have ht := take_next hb
      have hst : (endP k ++ (be8 N3).take j) ++ [b] = endP k ++ (be8 N3).take (j + 1) := by rw [ht, List.append_assoc]
      have hl2 : (endP k).length + ((be8 N3).take j).length < 2 ^ 40 := by rw [endP_len, List.length_take, be8_len]; omega
      have hbx : bytesX [PV.int .u8 (b.toNat : Int)] = some [b] := bytesX_bytesPV [b]
      have hbo : bytesOf [PV.int .u8 (b.toNat : Int)] = some [b] := bytesOf_bytesPV [b]
      repeat' first | simp -implicitDefEqProofs (maxSteps := 400000) (disch := first | with_reducible rfl | omega | (simp only [wkH] <;> omega) | decide) only [wkAll, wkL, popO, wantedP, ne_eq, Nat.reduceLeDiff, Nat.reduceLT, binP, convP, buildSliceP, fillP, setL, gt_iff_lt, Nat.reducePow, reps, seg, wkN, if_pos, if_neg, tf5, Tryz.ze5, tf9, tf50, tf92, ge_iff_le, hc1, e1, e2, e3, e4, hbo, hst] | refine w_dec (fun _ => ?_) (fun _ => ?_) | refine w_eqc (fun _ => ?_) (fun _ => ?_) | refine w_neqc (fun _ => ?_) (fun _ => ?_) | refine w_nneqc (fun _ => ?_) (fun _ => ?_) | ((first | refine w_split (fun h => ?_) (fun h => ?_) | refine d_split (fun h => ?_) (fun h => ?_) | refine w_csplit (fun h => ?_) (fun h => ?_)) <;> (try simp only [wkS] at h) <;> (have h2 := h) <;> (try simp only [wkT, ne_eq] at h2) <;> (try simp only [h])) | refine w_drawnF (id := 14) tb80_14Sha8 pl80_14Sha8 67 (by kernel_rfl) (by kernel_rfl) (by simp) ?_
      refine hK (j + 1) _ _ (by omega) (by omega) (.cut [_] hW (by simp [FadeTo] <;> omega) (by rfl) (by simp [scs_cons, scs_nil, sc_ptr, sc_int, sc_str, sc_undef]) (by simp [scs_hc]))
    · have hc1 : ¬ (0 : Int) ≤ 7 - (j : Int) := by omega
      have ht : (be8 N3).take j = be8 N3 := List.take_of_length_le (by rw [be8_len]; omega)
      rw [ht, ← hE]
      have hw := refWrite_ok (w0 := w0) h h8 lf n (endH ⟨h, lf, n⟩) (by rw [hE, List.length_append, endP_len, be8_len]; omega)
      obtain ⟨H2, hH2⟩ : ∃ H2, H2 = (feed h (lf ++ endH ⟨h, lf, n⟩)).1 := ⟨_, rfl⟩
      have hsum : sumH ⟨h, lf, n⟩ = H2.flatMap be4 := by rw [hH2]; rfl
      have h28 : H2.length = 8 := by rw [hH2]; exact (feed_len h _ h8).1
      rw [← hH2] at hw
      rw [hsum] at hQ
      generalize (feed h (lf ++ endH ⟨h, lf, n⟩)).2 = lf2 at hw
      generalize n + UInt64.ofNat (endH ⟨h, lf, n⟩).length = n2 at hw
      repeat' first | simp -implicitDefEqProofs (maxSteps := 400000) (disch := first | with_reducible rfl | omega | (simp only [wkH] <;> omega) | decide) only [wkAll, wkL, popO, wantedP, Nat.reduceLeDiff, binP, loadOp, storeOp, loadP, PK.agg, seg, if_pos, tf131, ge_iff_le, hc1, hc_len, hc_all, hc_t10, hc_ok] | refine w_pure (hw) ?_ | refine w_dec (fun _ => ?_) (fun _ => ?_) | refine w_eqc (fun _ => ?_) (fun _ => ?_) | refine w_neqc (fun _ => ?_) (fun _ => ?_) | refine w_nneqc (fun _ => ?_) (fun _ => ?_) | ((first | refine w_split (fun h => ?_) (fun h => ?_) | refine d_split (fun h => ?_) (fun h => ?_) | refine w_csplit (fun h => ?_) (fun h => ?_)) <;> (try simp only [wkS] at h) <;> (have h2 := h) <;> (try simp only [wkT, ne_eq] at h2) <;> (try simp only [h])) | refine w_drawnF (id := 14) tb80_14Sha8 pl80_14Sha8 67 (by kernel_rfl) (by kernel_rfl) (by simp) ?_
      refine w_growL 1 5 [.undef, .ptr ph.n 0, .undef, .undef, .undef, .undef, .gsl (ph.n + 1) 1 0 [], .int .i64 0, .undef, .undef, .undef, .undef, .undef, .undef, .undef, .undef, .undef, .undef, .undef, .undef, .undef, .undef, .undef, .undef, .undef, .undef, .undef, .undef, .undef, .undef, .undef, .undef, .undef, .undef, .undef, .undef, .undef, .undef, .undef, .undef, .undef, .undef, .undef, .undef, .undef, .undef, .undef, .undef, .undef, .undef, .undef, .undef, .undef, .undef, .undef, .undef, .undef, .undef, .undef, .undef, .undef, .undef, .undef, .undef, .undef, .undef, .undef, .undef, .undef] [some (.own (hc H2 lf2 n2))] (by simp) (by simp [NilL]) (by simp [NilB]) ?_
      refine w_loopH (α := Nat) ph ph.ob ph.ty (fun i => [.undef, .ptr ph.n 0, .undef, .undef, .undef, .undef, .gsl (ph.n + 1) 1 (4 * i) (bytesPV ((H2.take i).flatMap be4)), .int .i64 i, .undef, .undef, .undef, .undef, .undef, .undef, .undef, .undef, .undef, .undef, .undef, .undef, .undef, .undef, .undef, .undef, .undef, .undef, .undef, .undef, .undef, .undef, .undef, .undef, .undef, .undef, .undef, .undef, .undef, .undef, .undef, .undef, .undef, .undef, .undef, .undef, .undef, .undef, .undef, .undef, .undef, .undef, .undef, .undef, .undef, .undef, .undef, .undef, .undef, .undef, .undef, .undef, .undef, .undef, .undef, .undef, .undef, .undef, .undef, .undef, .undef]) (fun i => [some (.own (hc H2 lf2 n2)), some (.grow 1 (4 * i) 5)]) (fun i => i ≤ 8) (fun i => 8 - i) 0 (by simp) (fun _ _ => by simp) (.eq (by simp [FadeTo, bytesPV]) rfl) ?_
      clear hK hj hge hc1 ht
      intro i hi K hK
      rcases Nat.lt_or_ge i 8 with hlt | hge
      · have hlt' : (i : Int) < 8 := by omega
        obtain ⟨x, hx⟩ := get_someW (show i < H2.length by omega)
        have cx := hc_w (l := lf2) (n := n2) hx
        have hf := flat_next hx
        repeat' first | simp -implicitDefEqProofs (maxSteps := 400000) (disch := first | with_reducible rfl | omega | (simp only [wkH] <;> omega) | decide) only [wkAll, wkL, popO, wantedP, ne_eq, Nat.reduceAdd, Nat.reduceLeDiff, Nat.reduceLT, reduceCtorEq, Int.reduceLE, binP, convP, builtinP, srcP, indexAddrOp, loadOp, loadP, fieldAddrOp, buildSliceP, fillP, setL, PK.agg, gt_iff_lt, Nat.reducePow, reps, seg, wkN, if_pos, if_neg, tf5, Tryz.ze5, tf92, tf128, tf129, tf131, pl80_14Sha8, hlt', cx, app_g, shr32_24, shr32_16, shr32_8, low32, hc_len] | refine w_dec (fun _ => ?_) (fun _ => ?_) | refine w_eqc (fun _ => ?_) (fun _ => ?_) | refine w_neqc (fun _ => ?_) (fun _ => ?_) | refine w_nneqc (fun _ => ?_) (fun _ => ?_) | ((first | refine w_split (fun h => ?_) (fun h => ?_) | refine d_split (fun h => ?_) (fun h => ?_) | refine w_csplit (fun h => ?_) (fun h => ?_)) <;> (try simp only [wkS] at h) <;> (have h2 := h) <;> (try simp only [wkT, ne_eq] at h2) <;> (try simp only [h])) | refine w_drawnF (id := 14) tb80_14Sha8 pl80_14Sha8 67 (by kernel_rfl) (by kernel_rfl) (by simp) ?_
        refine hK (i + 1) _ _ (by omega) (by omega) (.cut [_] hW (by simp [FadeTo, hf, bytesPV_append, be4_pv, Nat.mul_succ]) (by first | rfl | (simp [hf, bytesPV_append, be4_pv, Nat.mul_succ]; rfl) | simp [hf, bytesPV_append, be4_pv, Nat.mul_succ]) (by simp [scs_cons, scs_nil, sc_ptr, sc_gsl, sc_int, sc_undef, scs_bytes, scs_bytes]) (by simp [scs_hc]))
      · have hge' : ¬ (i : Int) < 8 := by omega
        have ht : H2.take i = H2 := List.take_of_length_le (by omega)
        rw [ht]
        repeat' first | simp -implicitDefEqProofs (maxSteps := 400000) (disch := first | with_reducible rfl | omega | (simp only [wkH] <;> omega) | decide) only [wkAll, wkL, popO, wantedP, binP, convP, wkN, if_pos, tf5, tf9, tf92, hge'] | refine w_dec (fun _ => ?_) (fun _ => ?_) | refine w_eqc (fun _ => ?_) (fun _ => ?_) | refine w_neqc (fun _ => ?_) (fun _ => ?_) | refine w_nneqc (fun _ => ?_) (fun _ => ?_) | ((first | refine w_split (fun h => ?_) (fun h => ?_) | refine d_split (fun h => ?_) (fun h => ?_) | refine w_csplit (fun h => ?_) (fun h => ?_)) <;> (try simp only [wkS] at h) <;> (have h2 := h) <;> (try simp only [wkT, ne_eq] at h2) <;> (try simp only [h])) | refine w_drawnF (id := 14) tb80_14Sha8 pl80_14Sha8 67 (by kernel_rfl) (by kernel_rfl) (by simp) ?_
        refine hQ (by first | exact .inr rfl | exact .inl rfl) (by first | exact trivial | exact marks1) (by first | (simp -implicitDefEqProofs (maxSteps := 400000) (disch := first | with_reducible rfl | omega | (simp only [wkH] <;> omega) | decide) only [wkL, resP, resPs, resP1]; rfl) | rfl) ⟨6, by repeat' first | exact frz_scalar rfl | apply frz_tuple | apply frz_agg | apply frz_fsl | apply frz_gsl (by omega) | exact frzs_nil | apply frzs_cons⟩ (by first | exact keepsH0 | exact keeps1 (by assumption) | exact keepsH (fun _ _ h => h) (fun p hp => by simp only [upF]; (repeat rw [if_neg (by omega)])) | exact keeps1t (by assumption) (fun p hp => by simp only [upF]; (repeat rw [if_neg (by omega)])) | (subst hT; exact keepsH (fun _ _ h => h) fun _ _ => rfl)) (nw_eq ?_)
        rfl
end Pv

namespace Pv
open Go Go.RowKit
variable {X : Ctx} {G : Ghost} {ph : PH} {w w' : World}

/-! ### Contracts of the kit's shelf, told as functions of their arguments -/
theorem hb_below (h : Below w.heap.size w w') {k : Nat} {o : Obj} (hk : w.heap[k]? = some o) : w'.heap[k]? = some o := by
  have : k < w.heap.size := by
    rcases Nat.lt_or_ge k w.heap.size with h1 | h1
    · exact h1
    · rw [Array.getElem?_eq_none h1] at hk; cases hk
  rw [h.block k this]; exact hk
theorem cell_below (h : Below w.heap.size w w') {a : Addr} {v : Value} (hc : w.cell? a = some v) : w'.cell? a = some v := by
  have : w'.heap[a.block]? = w.heap[a.block]? := by
    rcases Nat.lt_or_ge a.block w.heap.size with h1 | h1
    · exact h.block _ h1
    · exfalso
      unfold World.cell? at hc
      rw [Array.getElem?_eq_none h1] at hc
      cases hc
  unfold World.cell? at hc ⊢
  rw [this]; exact hc
theorem Rel.below_w (h : Rel X G ph w) (hb : Below w.heap.size w w') : Rel X G ph w' := by
  have hX : X.B ≤ w.heap.size := h.below.size
  refine ⟨h.len, h.below.trans (hb.mono hX), ?_, h.disj, ?_, h.fdisj, ?_, ?_, ?_⟩
  · intro p cells hp
    obtain ⟨L, vals, cs, e, fz, hL, o⟩ := h.own p cells hp
    exact ⟨L, vals, cs, e, fz, hL, ⟨o.rv, o.lt, o.ge, hb_below hb o.hb, o.sz, o.fr, o.at_, o.one⟩⟩
  · intro a v ha
    exact ⟨(h.fz a v ha).1, cell_below hb (h.fz a v ha).2⟩
  · intro r o hr
    obtain ⟨h1, h2⟩ := h.ob r o hr
    refine ⟨h1, ?_⟩
    cases o with
    | loop l =>
      obtain ⟨rt, k1, k2⟩ := h2
      exact ⟨rt, k1, hb_below hb k2⟩
    | defd => exact hb_below hb h2
  · intro p e hp
    obtain ⟨L, cs, fz, k1, k2, k3⟩ := h.ty p e hp
    exact ⟨L, cs, fz, k1, k2, hb_below hb k3⟩
  · refine ⟨?_, h.grow.disj, h.grow.new⟩
    intro p sz top e hg
    obtain ⟨x, o⟩ := h.grow.own p sz top e hg
    refine ⟨x, o.loc, o.max, o.nil, ?_⟩
    intro a rcap hx
    have r := o.row a rcap hx
    obtain ⟨cs, fz, k1, k2⟩ := r.hb
    exact ⟨r.sp, r.ge, r.le, r.off, ⟨cs, fz, hb_below hb k1, k2⟩, r.ff, r.own⟩

theorem fn_of_calls {f : FuncId} {fn : Func} {args : List PV} {v : PV} (hf : X.P.funcs[f]? = some fn) (hb : fn.body.isSome = true) (hnm : (fn.name == "runtime.NumGoroutine") = false)
    (h : ∀ (G : Ghost) (w : World) (rargs : List Value), RVs G args rargs → Calls X.P f rargs.toArray w fun e w' => (∃ u, e = .returned u ∧ RV G v u) ∧ Below w.heap.size w w') : Fn X f args v := by
  intro ph G w rargs hr ha
  refine .inr ⟨w, run_enter (P := X.P) (w := w) (args := rargs.toArray) hf hb hnm, (h G w rargs ha).mono ?_⟩
  rintro e w' ⟨⟨u, rfl, hu⟩, hbl⟩
  exact ⟨G, v, ph, (LeN.refl _ _), hr.below_w hbl, hu, Nat.le_refl _, rfl, rfl⟩
end Pv

namespace Go.Proofs
open Go.Shelf Go.RowKit
def Tryz.laysRepeat_ren : Go.Shelf.Ren := ⟨fun | 105 => 95 | 212 => 103 | 99 => 104 | 165 => 105 | 166 => 53 | 170 => 99 | 169 => 55 | 263 => 113 | 264 => 114 | 206 => 115 | 240 => 72 | 241 => 116 | 276 => 85 | 277 => 119 | n => n, fun | 9 => 9 | 3 => 3 | 4 => 4 | 20 => 20 | 0 => 0 | 46 => 105 | 109 => 157 | 5 => 5 | 72 => 96 | 76 => 99 | 51 => 128 | 146 => 166 | 53 => 50 | 148 => 168 | 70 => 94 | 37 => 92 | 75 => 98 | 127 => 118 | 164 => 135 | 80 => 101 | n => n, fun | n => n⟩
theorem Tryz.laysRepeat : Lays.n105 Tryz.prog Tryz.laysRepeat_ren where
  mixed := by kernel_rfl
  f99 := Tryz.func104.trans (congrArg some (by kernel_rfl))
  f105 := Tryz.func95.trans (congrArg some (by kernel_rfl))
  f165 := Tryz.func105.trans (congrArg some (by kernel_rfl))
  f166 := Tryz.func53.trans (congrArg some (by kernel_rfl))
  f169 := Tryz.func55.trans (congrArg some (by kernel_rfl))
  f170 := Tryz.func99.trans (congrArg some (by kernel_rfl))
  f206 := Tryz.func115.trans (congrArg some (by kernel_rfl))
  f212 := Tryz.func103.trans (congrArg some (by kernel_rfl))
  f240 := Tryz.func72.trans (congrArg some (by kernel_rfl))
  f241 := Tryz.func116.trans (congrArg some (by kernel_rfl))
  f263 := Tryz.func113.trans (congrArg some (by kernel_rfl))
  f264 := Tryz.func114.trans (congrArg some (by kernel_rfl))
  f276 := Tryz.func85.trans (congrArg some (by kernel_rfl))
  f277 := Tryz.func119.trans (congrArg some (by kernel_rfl))
  t0 := Tryz.underlying0
  a0 := Tryz.isAgg0
  z0 := Tryz.sizeOf0
  v0 := Tryz.zeroValue0
  t3 := Tryz.underlying3
  a3 := Tryz.isAgg3
  z3 := Tryz.sizeOf3
  v3 := Tryz.zeroValue3
  t4 := Tryz.underlying4
  a4 := Tryz.isAgg4
  z4 := Tryz.sizeOf4
  v4 := Tryz.zeroValue4
  t5 := Tryz.underlying5
  a5 := Tryz.isAgg5
  z5 := Tryz.sizeOf5
  v5 := Tryz.zeroValue5
  t9 := Tryz.underlying9
  a9 := Tryz.isAgg9
  z9 := Tryz.sizeOf9
  v9 := Tryz.zeroValue9
  t20 := Tryz.underlying20
  a20 := Tryz.isAgg20
  z20 := Tryz.sizeOf20
  v20 := Tryz.zeroValue20
  t37 := Tryz.underlying92
  a37 := Tryz.isAgg92
  z37 := Tryz.sizeOf92
  v37 := Tryz.zeroValue92
  t46 := Tryz.underlying105
  a46 := Tryz.isAgg105
  z46 := Tryz.sizeOf105
  v46 := Tryz.zeroValue105
  t51 := Tryz.underlying128
  a51 := Tryz.isAgg128
  z51 := Tryz.sizeOf128
  v51 := Tryz.zeroValue128
  t53 := Tryz.underlying50
  a53 := Tryz.isAgg50
  z53 := Tryz.sizeOf50
  v53 := Tryz.zeroValue50
  t70 := Tryz.underlying94
  a70 := Tryz.isAgg94
  z70 := Tryz.sizeOf94
  v70 := Tryz.zeroValue94
  t72 := Tryz.underlying96
  a72 := Tryz.isAgg96
  z72 := Tryz.sizeOf96
  v72 := Tryz.zeroValue96
  t75 := Tryz.underlying98
  a75 := Tryz.isAgg98
  z75 := Tryz.sizeOf98
  v75 := Tryz.zeroValue98
  t76 := Tryz.underlying99
  a76 := Tryz.isAgg99
  z76 := Tryz.sizeOf99
  v76 := Tryz.zeroValue99
  t109 := Tryz.underlying157
  a109 := Tryz.isAgg157
  z109 := Tryz.sizeOf157
  v109 := Tryz.zeroValue157
  t127 := Tryz.underlying118
  a127 := Tryz.isAgg118
  z127 := Tryz.sizeOf118
  v127 := Tryz.zeroValue118
  t146 := Tryz.underlying166
  a146 := Tryz.isAgg166
  z146 := Tryz.sizeOf166
  v146 := Tryz.zeroValue166
  t148 := Tryz.underlying168
  a148 := Tryz.isAgg168
  z148 := Tryz.sizeOf168
  v148 := Tryz.zeroValue168
  t164 := Tryz.underlying135
  a164 := Tryz.isAgg135
  z164 := Tryz.sizeOf135
  v164 := Tryz.zeroValue135
theorem Tryz.extraRepeat : Builder.Extra Tryz.prog Tryz.laysRepeat_ren where
  sizeBuilder := by kernel_rfl
  liesBuilder := by kernel_rfl
  t5 := Tryz.laysRepeat.t5
  a5 := Tryz.laysRepeat.a5
  z5 := Tryz.laysRepeat.z5
  v5 := Tryz.laysRepeat.v5
  infoByte := by kernel_rfl
  cellsByte := by kernel_rfl
  sizeByte := by kernel_rfl
  neB5 := by decide
end Go.Proofs
namespace Pv
open Go Go.Proofs Go.RowKit
variable {w0 : World}
theorem repeatL_byte (b : UInt8) : ∀ n, Lib.repeatL [b] n = List.replicate n b
  | 0 => rfl
  | n + 1 => by rw [Lib.repeatL, repeatL_byte b n]; rfl
/-- strings.Repeat of one byte. -/
theorem repeat_ok (b : UInt8) (n : Nat) (hn : n ≤ 2 ^ 40) : Fn (Cx w0) 95 [.str [b], .int .i64 n] (.str (List.replicate n b)) := by
  refine fn_of_calls Tryz.func95 (by kernel_rfl) (by kernel_rfl) ?_
  intro G w rargs hr
  cases hr with
  | cons _ v1 _ _ h1 h2 =>
    cases h2 with
    | cons _ v2 _ _ h3 h4 =>
      cases h4
      cases h1 with
      | str _ t ht =>
        cases h3
        have hsz : t.size = 1 := by
          show t.data.size = 1
          rw [← Array.length_toList, ht]; rfl
        refine (Any.strings_Repeat Tryz.laysRepeat Tryz.extraRepeat t n w (by omega) (by rw [hsz]; omega)).mono fun e w' ⟨he, hw⟩ => ⟨⟨_, he, ?_⟩, hw⟩
        refine .str _ _ ?_
        rw [ht, repeatL_byte]
end Pv
