/- Part of the proof: the layer of pure values, or walks through functions (PvBldX, PvBits, PvKeS). -/
import Derived.Test.YtjomgffpkdcanaaGreatPvDrawP
import Derived.Test.YtjomgffpkdcanaaGreatPvH
import Derived.Laws.Externs
import Derived.Test.YtjomgffpkdcanaaGreatPvNum
set_option linter.all false
namespace Pv
set_option maxRecDepth 20000
open Go Go.Proofs Go.RowKit
def tb55_1BldX : Tab := [[], [0], [0, 1], [0, 1, 2], [0, 1, 2, 3], [], [5], [5, 6], [5, 6, 7], [5, 6, 7, 8], [0, 1, 2, 3, 4, 5, 6, 7, 8, 9], [0, 1, 2, 3, 4, 5, 6, 7, 8, 9, 10]]
def pl55_1BldX : Plan := [(0, true, []), (1, true, []), (2, true, []), (3, true, []), (5, true, []), (6, true, []), (7, true, []), (8, true, []), (9, true, []), (4, false, [5, 6, 7, 8, 9]), (10, false, []), (11, false, [])]
variable {w0 : World}

/-- internal/abi.NoEscape: the pointer as it is. -/
theorem noEscape_ok (ph : PH) (v : PV) : Eff (Cx w0) 85 [v] ph v ph := by
  intro G w rargs hr ha
  cases ha with
  | cons _ u _ _ h1 h2 =>
    cases h2
    refine .inl ⟨u, w, ?_, G, v, ph, .refl _ _, hr, h1, Nat.le_refl _, rfl, rfl⟩
    have hrun := run_callFunc_extern (P := Tryz.prog) Tryz.func85 (by kernel_rfl) (by kernel_rfl) (by kernel_rfl) (show Extern.find Tryz.f85 = some Extern.AbiNoEscape.same by kernel_rfl) #[u] w
    show (callFunc 85 #[u]).run Tryz.prog w = _
    rw [hrun]; rfl

/-- (*Builder).Len -/
theorem bldLen_ok (ph : PH) (p q : Nat) (w : Bool) (s : List UInt8) (h : ph.get p = some (bldC w p q s)) : Eff (Cx w0) 99 [.ptr p 0] ph (.int .i64 s.length) ph := by
  have hp := PH.get_lt h
  unfold bldC at h
  refine eff_of ([Go.ResultVar.tmp 2]) Tryz.func99 rfl rfl (by decide) rfl (fun h => h) fun hW Q hQ => ?_
  simp only [start, List.length_cons, List.length_nil, List.cons_append, List.nil_append, Nat.reduceAdd, Nat.reduceSub, List.replicate_succ, List.replicate_zero, Tryz.ntmps99]
  repeat' first | simp -implicitDefEqProofs (maxSteps := 400000) (disch := first | with_reducible rfl | omega | (simp only [wkH] <;> omega) | decide) only [wkAll, wkL, popO, wantedP, Nat.reduceAdd, Nat.reduceLeDiff, lenP, builtinP, loadOp, loadP, fieldAddrOp, PK.agg, seg, if_pos, if_neg, tf92, tf96, h_getlt hp, h] | refine w_dec (fun _ => ?_) (fun _ => ?_) | refine w_eqc (fun _ => ?_) (fun _ => ?_) | refine w_neqc (fun _ => ?_) (fun _ => ?_) | refine w_nneqc (fun _ => ?_) (fun _ => ?_) | ((first | refine w_split (fun h => ?_) (fun h => ?_) | refine d_split (fun h => ?_) (fun h => ?_) | refine w_csplit (fun h => ?_) (fun h => ?_)) <;> (try simp only [wkS] at h) <;> (have h2 := h) <;> (try simp only [wkT, ne_eq] at h2) <;> (try simp only [h]))
  refine hQ (by first | exact .inr rfl | exact .inl rfl) (by first | exact trivial | exact marks1) (by first | (simp -implicitDefEqProofs (maxSteps := 400000) (disch := first | with_reducible rfl | omega | (simp only [wkH] <;> omega) | decide) only [wkL, resP, resPs, resP1]; rfl) | rfl) ⟨6, by repeat' first | exact frz_scalar rfl | apply frz_tuple | apply frz_agg | apply frz_fsl | apply frz_gsl (by omega) | exact frzs_nil | apply frzs_cons⟩ (by first | exact keepsH0 | exact keeps1 (by assumption) | exact keepsH (fun _ _ h => h) (fun p hp => by simp only [upF]; (repeat rw [if_neg (by omega)])) | exact keeps1t (by assumption) (fun p hp => by simp only [upF]; (repeat rw [if_neg (by omega)])) | (subst hT; exact keepsH (fun _ _ h => h) fun _ _ => rfl)) (nw_eq ?_)
  rfl

/-- (*Builder).WriteString -/
theorem bldW_ok (ph : PH) (p q : Nat) (w : Bool) (s t : List UInt8) (h : ph.get p = some (bldC w p q s)) (hg : ph.gro q = some (1, s.length, 5)) (ht : ph.ty p = some 96) (hb : s.length + t.length ≤ 140737488355328) :
    Eff (Cx w0) 53 [.ptr p 0, .str t] ph (.tuple [.int .i64 t.length, .nilif]) ((ph.putG q 1 (s.length + t.length) 5).put p (bldC true p q (s ++ t))) := by
  have hp := PH.get_lt h
  have hq := PH.gro_lt hg
  have hne : p ≠ q := by
    rintro rfl
    rw [PH.get_eq] at h; rw [PH.gro_eq] at hg; rw [h] at hg; cases hg
  obtain ⟨T, hT⟩ : ∃ T, T = (ph.putG q 1 (s.length + t.length) 5).put p (bldC true p q (s ++ t)) := ⟨_, rfl⟩
  rw [← hT]
  have hTn : T.n = ph.n := by rw [hT]; simp
  have hTw : WF ph → WF T := fun hW => hT ▸ hW.putG.put (by simpa using hp) (by simp [bldC, Scs, Sc, hp, hq, adP_t]; exact scs_scalars (bytesPV_scalar _))
  unfold bldC at h
  refine eff_of ([Go.ResultVar.tmp 4, Go.ResultVar.tmp 5]) Tryz.func53 rfl rfl (by decide) hTn hTw fun hW Q hQ => ?_
  simp only [start, List.length_cons, List.length_nil, List.cons_append, List.nil_append, Nat.reduceAdd, Nat.reduceSub, List.replicate_succ, List.replicate_zero, Tryz.ntmps53]
  obtain ⟨B1, hB1⟩ : ∃ B1, B1 = ph.put p [.ptr p 0, .gsl q 1 s.length (bytesPV s)] := ⟨_, rfl⟩
  have hn1 : B1.n = ph.n := by rw [hB1]; simp
  have hpn : p < B1.n := by omega
  have hqn : q < B1.n := by omega
  have e1 : B1.gro q = some (1, s.length, 5) := by rw [hB1, PH.gro_put, if_neg (fun e => hne e.symm)]; exact hg
  have e2 : B1.get p = some [.ptr p 0, .gsl q 1 s.length (bytesPV s)] := by rw [hB1]; exact put_same hp
  obtain ⟨B2, hB2⟩ : ∃ B2, B2 = B1.putG q 1 (s.length + t.length) 5 := ⟨_, rfl⟩
  have hpn2 : p < B2.n := by rw [hB2]; simpa using hpn
  have e3 : B2.get p = some [.ptr p 0, .gsl q 1 s.length (bytesPV s)] := by rw [hB2, PH.get_putG, if_neg hne]; exact e2
  have e4 : B2.put p [.ptr p 0, .gsl q 1 (s.length + t.length) (bytesPV s ++ bytesPV t)] = T := by
    rw [hT, hB2, hB1, put_putG hne, put_put]; unfold bldC; rw [bytesPV_append, List.length_append]; rfl
  have hB1' := hB1.symm
  have hB2' := hB2.symm
  repeat' first | simp -implicitDefEqProofs (maxSteps := 400000) (disch := first | with_reducible rfl | omega | (simp only [wkH] <;> omega) | decide) only [wkAll, wkL, popO, wantedP] | refine w_dec (fun _ => ?_) (fun _ => ?_) | refine w_eqc (fun _ => ?_) (fun _ => ?_) | refine w_neqc (fun _ => ?_) (fun _ => ?_) | refine w_nneqc (fun _ => ?_) (fun _ => ?_) | ((first | refine w_split (fun h => ?_) (fun h => ?_) | refine d_split (fun h => ?_) (fun h => ?_) | refine w_csplit (fun h => ?_) (fun h => ?_)) <;> (try simp only [wkS] at h) <;> (have h2 := h) <;> (try simp only [wkT, ne_eq] at h2) <;> (try simp only [h]))
  cases w
  · simp only [adP_f] at h ⊢
    refine w_inl ([]) Tryz.func72 rfl rfl (by decide) fun _ hI => ?_
    simp only [start, List.length_cons, List.length_nil, List.cons_append, List.nil_append, Nat.reduceAdd, Nat.reduceSub, List.replicate_succ, List.replicate_zero, Tryz.ntmps72]
    repeat' first | simp -implicitDefEqProofs (maxSteps := 400000) (disch := first | with_reducible rfl | omega | (simp only [wkH] <;> omega) | decide) only [wkAll, wkL, popO, wantedP, ne_eq, Nat.reduceAdd, Nat.reduceLeDiff, Nat.reduceLT, reduceCtorEq, binP, convP, loadOp, loadP, fieldAddrOp, PK.agg, seg, if_pos, if_neg, tf94, tf96, Tryz.underlying135, h_getlt hp, h, Tryz.underlying135] | refine w_dec (fun _ => ?_) (fun _ => ?_) | refine w_eqc (fun _ => ?_) (fun _ => ?_) | refine w_neqc (fun _ => ?_) (fun _ => ?_) | refine w_nneqc (fun _ => ?_) (fun _ => ?_) | ((first | refine w_split (fun h => ?_) (fun h => ?_) | refine d_split (fun h => ?_) (fun h => ?_) | refine w_csplit (fun h => ?_) (fun h => ?_)) <;> (try simp only [wkS] at h) <;> (have h2 := h) <;> (try simp only [wkT, ne_eq] at h2) <;> (try simp only [h]))
    refine w_eff (noEscape_ok _ _) ?_
    repeat' first | simp -implicitDefEqProofs (maxSteps := 400000) (disch := first | with_reducible rfl | omega | (simp only [wkH] <;> omega) | decide) only [wkAll, wkL, popO, wantedP, ne_eq, Nat.reduceAdd, Nat.reduceLeDiff, reduceCtorEq, convP, storeOp, fieldAddrOp, setL, if_pos, tf94, tf96, Tryz.underlying135, h_getlt hp, h, h_putlt hp, ht, Tryz.underlying135] | refine w_dec (fun _ => ?_) (fun _ => ?_) | refine w_eqc (fun _ => ?_) (fun _ => ?_) | refine w_neqc (fun _ => ?_) (fun _ => ?_) | refine w_nneqc (fun _ => ?_) (fun _ => ?_) | ((first | refine w_split (fun h => ?_) (fun h => ?_) | refine d_split (fun h => ?_) (fun h => ?_) | refine w_csplit (fun h => ?_) (fun h => ?_)) <;> (try simp only [wkS] at h) <;> (have h2 := h) <;> (try simp only [wkT, ne_eq] at h2) <;> (try simp only [h]))
    refine hI (by first | exact .inr rfl | exact .inl rfl) trivial (by first | (simp -implicitDefEqProofs (maxSteps := 400000) (disch := first | with_reducible rfl | omega | (simp only [wkH] <;> omega) | decide) only [wkL, resP, resPs]; rfl) | rfl) ?_
    simp only [hB1']
    repeat' first | simp -implicitDefEqProofs (maxSteps := 400000) (disch := first | with_reducible rfl | omega | (simp only [wkH] <;> omega) | decide) only [wkAll, wkL, popO, wantedP, ne_eq, Nat.reduceAdd, Nat.reduceLeDiff, reduceCtorEq, lenP, builtinP, srcP, loadOp, storeOp, loadP, fieldAddrOp, setL, PK.agg, Nat.reducePow, seg, if_pos, if_neg, tf5, Tryz.ze5, tf9, tf92, tf96, h_getlt hpn, h_grolt hqn, e1, e2, app_g, h_putGlt hqn, hB2', h_getlt hpn2, e3, h_putlt hpn2, e4] | refine w_dec (fun _ => ?_) (fun _ => ?_) | refine w_eqc (fun _ => ?_) (fun _ => ?_) | refine w_neqc (fun _ => ?_) (fun _ => ?_) | refine w_nneqc (fun _ => ?_) (fun _ => ?_) | ((first | refine w_split (fun h => ?_) (fun h => ?_) | refine d_split (fun h => ?_) (fun h => ?_) | refine w_csplit (fun h => ?_) (fun h => ?_)) <;> (try simp only [wkS] at h) <;> (have h2 := h) <;> (try simp only [wkT, ne_eq] at h2) <;> (try simp only [h]))
    refine hQ (by first | exact .inr rfl | exact .inl rfl) (by first | exact trivial | exact marks1) (by first | (simp -implicitDefEqProofs (maxSteps := 400000) (disch := first | with_reducible rfl | omega | (simp only [wkH] <;> omega) | decide) only [wkL, resP, resPs, resP1]; rfl) | rfl) ⟨6, by repeat' first | exact frz_scalar rfl | apply frz_tuple | apply frz_agg | apply frz_fsl | apply frz_gsl (by omega) | exact frzs_nil | apply frzs_cons⟩ (by first | exact keepsH0 | exact keeps1 (by assumption) | exact keepsH (fun _ _ h => h) (fun p hp => by simp only [upF]; (repeat rw [if_neg (by omega)])) | exact keeps1t (by assumption) (fun p hp => by simp only [upF]; (repeat rw [if_neg (by omega)])) | (subst hT; exact keepsH (fun _ _ h => h) fun _ _ => rfl)) (nw_eq ?_)
    rfl
  · simp only [adP_t] at h ⊢
    have hB3 : B1 = ph := by rw [hB1]; exact put_self h
    rw [hB3] at hB2 hB2'
    have hTo : T.ob = ph.ob := by rw [hT]; rfl
    refine w_inl ([]) Tryz.func72 rfl rfl (by decide) fun _ hI => ?_
    simp only [start, List.length_cons, List.length_nil, List.cons_append, List.nil_append, Nat.reduceAdd, Nat.reduceSub, List.replicate_succ, List.replicate_zero, Tryz.ntmps72]
    repeat' first | simp -implicitDefEqProofs (maxSteps := 400000) (disch := first | with_reducible rfl | omega | (simp only [wkH] <;> omega) | decide) only [wkAll, wkL, popO, wantedP, Nat.reduceAdd, Nat.reduceLeDiff, binP, loadOp, loadP, fieldAddrOp, PK.agg, seg, if_pos, if_neg, tf94, tf96, h_getlt hp, h] | refine w_dec (fun _ => ?_) (fun _ => ?_) | refine w_eqc (fun _ => ?_) (fun _ => ?_) | refine w_neqc (fun _ => ?_) (fun _ => ?_) | refine w_nneqc (fun _ => ?_) (fun _ => ?_) | ((first | refine w_split (fun h => ?_) (fun h => ?_) | refine d_split (fun h => ?_) (fun h => ?_) | refine w_csplit (fun h => ?_) (fun h => ?_)) <;> (try simp only [wkS] at h) <;> (have h2 := h) <;> (try simp only [wkT, ne_eq] at h2) <;> (try simp only [h]))
    refine hI (by first | exact .inr rfl | exact .inl rfl) trivial (by first | (simp -implicitDefEqProofs (maxSteps := 400000) (disch := first | with_reducible rfl | omega | (simp only [wkH] <;> omega) | decide) only [wkL, resP, resPs]; rfl) | rfl) ?_
    repeat' first | simp -implicitDefEqProofs (maxSteps := 400000) (disch := first | with_reducible rfl | omega | (simp only [wkH] <;> omega) | decide) only [wkAll, wkL, popO, wantedP, ne_eq, Nat.reduceAdd, Nat.reduceLeDiff, reduceCtorEq, lenP, builtinP, srcP, loadOp, storeOp, loadP, fieldAddrOp, setL, PK.agg, Nat.reducePow, seg, if_pos, if_neg, tf5, Tryz.ze5, tf9, tf92, tf96, h_getlt hp, h_grolt hq, hg, h, app_g, h_putGlt hq, hB2', h_getlt hpn2, e3, h_putlt hpn2, e4] | refine w_dec (fun _ => ?_) (fun _ => ?_) | refine w_eqc (fun _ => ?_) (fun _ => ?_) | refine w_neqc (fun _ => ?_) (fun _ => ?_) | refine w_nneqc (fun _ => ?_) (fun _ => ?_) | ((first | refine w_split (fun h => ?_) (fun h => ?_) | refine d_split (fun h => ?_) (fun h => ?_) | refine w_csplit (fun h => ?_) (fun h => ?_)) <;> (try simp only [wkS] at h) <;> (have h2 := h) <;> (try simp only [wkT, ne_eq] at h2) <;> (try simp only [h]))
    refine hQ (by first | exact .inr rfl | exact .inl rfl) (by first | exact trivial | exact marks1) (by first | (simp -implicitDefEqProofs (maxSteps := 400000) (disch := first | with_reducible rfl | omega | (simp only [wkH] <;> omega) | decide) only [wkL, resP, resPs, resP1]; rfl) | rfl) ⟨6, by repeat' first | exact frz_scalar rfl | apply frz_tuple | apply frz_agg | apply frz_fsl | apply frz_gsl (by omega) | exact frzs_nil | apply frzs_cons⟩ (by first | exact keepsH0 | exact keeps1 (by assumption) | exact keepsH (fun _ _ h => h) (fun p hp => by simp only [upF]; (repeat rw [if_neg (by omega)])) | exact keeps1t (by assumption) (fun p hp => by simp only [upF]; (repeat rw [if_neg (by omega)])) | (subst hT; exact keepsH (fun _ _ h => h) fun _ _ => rfl)) (nw_eq ?_)
    rfl

/-- (*Builder).String -/
theorem bldS_ok (ph : PH) (p q : Nat) (w : Bool) (s : List UInt8) (h : ph.get p = some (bldC w p q s)) (hg : ph.gro q = some (1, s.length, 5)) (hb : s.length < 4611686018427387904) : Eff (Cx w0) 55 [.ptr p 0] ph (.str s) ph := by
  have hp := PH.get_lt h
  have hq := PH.gro_lt hg
  unfold bldC at h
  refine eff_of ([Go.ResultVar.tmp 2]) Tryz.func55 rfl rfl (by decide) rfl (fun h => h) fun hW Q hQ => ?_
  simp only [start, List.length_cons, List.length_nil, List.cons_append, List.nil_append, Nat.reduceAdd, Nat.reduceSub, List.replicate_succ, List.replicate_zero, Tryz.ntmps55]
  cases hs : s.length with
  | zero =>
    obtain rfl := List.length_eq_zero_iff.1 hs
    simp only [List.length_nil] at h hg
    repeat' first | simp -implicitDefEqProofs (maxSteps := 400000) (disch := first | with_reducible rfl | omega | (simp only [wkH] <;> omega) | decide) only [wkAll, wkL, popO, wantedP, Nat.reduceAdd, Nat.reduceLeDiff, lenP, builtinP, sliceDataP, unsafeStringP, loadOp, loadP, fieldAddrOp, PK.agg, seg, wkN, if_pos, if_neg, tf92, tf96, pl55_1BldX, h_getlt hp, h] | refine w_dec (fun _ => ?_) (fun _ => ?_) | refine w_eqc (fun _ => ?_) (fun _ => ?_) | refine w_neqc (fun _ => ?_) (fun _ => ?_) | refine w_nneqc (fun _ => ?_) (fun _ => ?_) | ((first | refine w_split (fun h => ?_) (fun h => ?_) | refine d_split (fun h => ?_) (fun h => ?_) | refine w_csplit (fun h => ?_) (fun h => ?_)) <;> (try simp only [wkS] at h) <;> (have h2 := h) <;> (try simp only [wkT, ne_eq] at h2) <;> (try simp only [h])) | refine w_drawnF (id := 1) tb55_1BldX pl55_1BldX 14 (by kernel_rfl) (by kernel_rfl) (by simp) ?_
    refine hQ (by first | exact .inr rfl | exact .inl rfl) (by first | exact trivial | exact marks1) (by first | (simp -implicitDefEqProofs (maxSteps := 400000) (disch := first | with_reducible rfl | omega | (simp only [wkH] <;> omega) | decide) only [wkL, resP, resPs, resP1]; rfl) | rfl) ⟨6, by repeat' first | exact frz_scalar rfl | apply frz_tuple | apply frz_agg | apply frz_fsl | apply frz_gsl (by omega) | exact frzs_nil | apply frzs_cons⟩ (by first | exact keepsH0 | exact keeps1 (by assumption) | exact keepsH (fun _ _ h => h) (fun p hp => by simp only [upF]; (repeat rw [if_neg (by omega)])) | exact keeps1t (by assumption) (fun p hp => by simp only [upF]; (repeat rw [if_neg (by omega)])) | (subst hT; exact keepsH (fun _ _ h => h) fun _ _ => rfl)) (nw_eq ?_)
    rfl
  | succ n =>
    rw [hs] at h hg
    repeat' first | simp -implicitDefEqProofs (maxSteps := 400000) (disch := first | with_reducible rfl | omega | (simp only [wkH] <;> omega) | decide) only [wkAll, wkL, popO, wantedP, Nat.reduceAdd, Nat.reduceLeDiff, lenP, builtinP, sliceDataP, unsafeStringP, loadOp, loadP, fieldAddrOp, PK.agg, seg, if_pos, if_neg, tf5, tf92, tf96, tf118, pl55_1BldX, h_getlt hp, h, h_grolt hq, hg, bytesX_bytesPV] | refine w_dec (fun _ => ?_) (fun _ => ?_) | refine w_eqc (fun _ => ?_) (fun _ => ?_) | refine w_neqc (fun _ => ?_) (fun _ => ?_) | refine w_nneqc (fun _ => ?_) (fun _ => ?_) | ((first | refine w_split (fun h => ?_) (fun h => ?_) | refine d_split (fun h => ?_) (fun h => ?_) | refine w_csplit (fun h => ?_) (fun h => ?_)) <;> (try simp only [wkS] at h) <;> (have h2 := h) <;> (try simp only [wkT, ne_eq] at h2) <;> (try simp only [h])) | refine w_drawnF (id := 1) tb55_1BldX pl55_1BldX 14 (by kernel_rfl) (by kernel_rfl) (by simp) ?_
    refine hQ (by first | exact .inr rfl | exact .inl rfl) (by first | exact trivial | exact marks1) (by first | (simp -implicitDefEqProofs (maxSteps := 400000) (disch := first | with_reducible rfl | omega | (simp only [wkH] <;> omega) | decide) only [wkL, resP, resPs, resP1]; rfl) | rfl) ⟨6, by repeat' first | exact frz_scalar rfl | apply frz_tuple | apply frz_agg | apply frz_fsl | apply frz_gsl (by omega) | exact frzs_nil | apply frzs_cons⟩ (by first | exact keepsH0 | exact keeps1 (by assumption) | exact keepsH (fun _ _ h => h) (fun p hp => by simp only [upF]; (repeat rw [if_neg (by omega)])) | exact keeps1t (by assumption) (fun p hp => by simp only [upF]; (repeat rw [if_neg (by omega)])) | (subst hT; exact keepsH (fun _ _ h => h) fun _ _ => rfl)) (nw_eq ?_)
    rfl
end Pv

namespace Pv
open Go Go.RowKit

/-! ### Bits of numbers -/
theorem ofInt_nat (w n : Nat) : BitVec.ofInt w (n : Int) = BitVec.ofNat w n := by simp

theorem xor_u8 (a b : UInt8) : bitsP .xor .u8 a.toNat b.toNat = ((a ^^^ b).toNat : Int) := by
  have h1 := a.toNat_lt; have h2 := b.toNat_lt
  show IntKind.wrap .u8 (((BitVec.ofInt 8 (a.toNat : Int)) ^^^ (BitVec.ofInt 8 (b.toNat : Int))).toNat : Int) = _
  rw [ofInt_nat, ofInt_nat, BitVec.toNat_xor, BitVec.toNat_ofNat, BitVec.toNat_ofNat, Nat.mod_eq_of_lt h1, Nat.mod_eq_of_lt h2, ← UInt8.toNat_xor]
  exact wrap_u8_b _
end Pv

namespace Pv
open Go

/-! ### Rows -/
theorem rows_drop {α : Type} (f : α → List PV) (n : Nat) (hf : ∀ a, (f a).length = n) : ∀ (l : List α) (i : Nat) (r : α), l[i]? = some r → (l.flatMap f).drop (i * n) = f r ++ (l.drop (i + 1)).flatMap f
  | [], i, r, h => by simp at h
  | a :: l, 0, r, h => by simp at h; subst h; simp
  | a :: l, i + 1, r, h => by
    simp only [List.getElem?_cons_succ] at h
    rw [List.flatMap_cons, Nat.add_mul, Nat.one_mul, Nat.add_comm, ← List.drop_drop, ← hf a, List.drop_left, hf a]
    exact rows_drop f n hf l i r h

theorem rows_len {α : Type} (f : α → List PV) (n : Nat) (hf : ∀ a, (f a).length = n) (l : List α) : (l.flatMap f).length = l.length * n := by
  induction l with
  | nil => simp
  | cons a l ih => simp [ih, hf, Nat.add_mul]; omega

def intsC (l : List Int) : List PV := l.map (.int .i64 ·)
theorem intsC_drop (l : List Int) (i : Nat) (n : Int) (h : l[i]? = some n) : (intsC l).drop i = .int .i64 n :: intsC (l.drop (i + 1)) := by
  obtain ⟨hi, rfl⟩ := List.getElem?_eq_some_iff.1 h
  unfold intsC
  rw [← List.map_drop, List.drop_eq_getElem_cons hi, List.map_cons, List.map_drop]
theorem intsC_len (l : List Int) : (intsC l).length = l.length := by simp [intsC]
theorem intsC_ok (l : List Int) : (intsC l).all scalarV = true := by simp [intsC, scalarV]
theorem intsC_append (l m : List Int) : intsC (l ++ m) = intsC l ++ intsC m := by simp [intsC]

theorem get_some {α : Type} {l : List α} {i : Nat} (h : i < l.length) : ∃ r, l[i]? = some r := ⟨_, List.getElem?_eq_getElem h⟩
theorem take_snoc {α : Type} {l : List α} {i : Nat} {r : α} (h : l[i]? = some r) : l.take (i + 1) = l.take i ++ [r] := by
  obtain ⟨hi, rfl⟩ := List.getElem?_eq_some_iff.1 h
  exact List.take_succ_eq_append_getElem hi

/-! ### Chapter 18 -/
structure KR where
  c : Bool
  k : Int
  b : List UInt8
  deriving DecidableEq

def krC (r : KR) : List PV := [.bool r.c, .int .i64 r.k, .str r.b]
def krsC (l : List KR) : List PV := l.flatMap krC
theorem krsC_drop (l : List KR) (i : Nat) (r : KR) (h : l[i]? = some r) : (krsC l).drop (i * 3) = .bool r.c :: .int .i64 r.k :: .str r.b :: krsC (l.drop (i + 1)) := by
  rw [krsC, rows_drop krC 3 (fun _ => rfl) l i r h]; rfl
theorem krsC_len (l : List KR) : (krsC l).length = l.length * 3 := rows_len krC 3 (fun _ => rfl) l
theorem krsC_snoc (l : List KR) (r : KR) : krsC (l ++ [r]) = krsC l ++ krC r := by simp [krsC]
theorem krsC_ok (l : List KR) : (krsC l).all scalarV = true := by
  induction l with
  | nil => rfl
  | cons r l ih => simp [krsC, krC, scalarV] at ih ⊢; try exact ih

def twoL (n : Int) : List UInt8 := [u8 (n / 256), u8 n]

def pairOk (n : Int) : Bool := decide (0 ≤ n) && decide (n < 65536)
def pairsL (l : List Int) : List UInt8 × Int := if l.length > 512 then ([], 18) else if l.all pairOk then (l.flatMap twoL, 0) else ([], 13)

theorem u8_fold (n : Int) : UInt8.ofNat (n % 256).toNat = u8 n := rfl
theorem twoL_len (n : Int) : (twoL n).length = 2 := rfl
theorem twoLs_len (l : List Int) : (l.flatMap twoL).length = l.length * 2 := by
  induction l with
  | nil => rfl
  | cons a l ih => simp [ih, twoL]; omega

theorem take_eq_step {α : Type} {a b : List α} {i : Nat} {x : α} (h : a.take i = b.take i) (ha : a[i]? = some x) (hb : b[i]? = some x) : a.take (i + 1) = b.take (i + 1) := by
  rw [take_snoc ha, take_snoc hb, h]
theorem get_ne {α : Type} {a b : List α} {i : Nat} {x y : α} (ha : a[i]? = some x) (hb : b[i]? = some y) (h : x ≠ y) : a ≠ b := by
  rintro rfl; rw [ha] at hb; cases hb; exact h rfl

def findL (l : List KR) (k : Int) : List KR := l.filter fun r => decide (r.k = k)
def unkR (r : KR) : Bool := r.c && (decide (r.k < 0) || decide (8 ≤ r.k))
def idxL {α : Type} (p : α → Bool) (l : List α) : Int := match l.findIdx? p with | some i => i | none => -1

theorem idxL_found {α : Type} {p : α → Bool} {l : List α} {i : Nat} {r : α} (h : (l.take i).any p = false) (hr : l[i]? = some r) (hp : p r = true) : idxL p l = i := by
  obtain ⟨hi, rfl⟩ := List.getElem?_eq_some_iff.1 hr
  have : l.findIdx? p = some i := by
    rw [List.findIdx?_eq_some_iff_getElem]
    refine ⟨hi, hp, fun j hj => ?_⟩
    rw [List.any_eq_false] at h
    have := h l[j] (by rw [List.mem_take_iff_getElem]; exact ⟨j, by omega, rfl⟩)
    simpa using this
  simp [idxL, this]
theorem idxL_none {α : Type} {p : α → Bool} {l : List α} (h : l.any p = false) : idxL p l = -1 := by
  have : l.findIdx? p = none := by
    rw [List.findIdx?_eq_none_iff]; rw [List.any_eq_false] at h; intro x hx; simpa using h x hx
  simp [idxL, this]
theorem scs_krs {n : Nat} {l : List KR} : Scs n (krsC l) = True := eq_true (scs_scalars (krsC_ok l))
theorem scs_ints {n : Nat} {l : List Int} : Scs n (intsC l) = True := eq_true (scs_scalars (intsC_ok l))
theorem find_snoc {l : List KR} {i : Nat} {r : KR} (k : Int) (h : l[i]? = some r) : findL (l.take (i + 1)) k = findL (l.take i) k ++ if r.k = k then [r] else [] := by
  rw [take_snoc h, findL, List.filter_append]; simp only [List.filter_cons, List.filter_nil]; split <;> simp_all [findL]
theorem find_le (l : List KR) (i : Nat) (k : Int) : (findL (l.take i) k).length ≤ i := by
  have := List.length_filter_le (fun r : KR => decide (r.k = k)) (l.take i)
  unfold findL; simp at this ⊢; omega

def kr0 : KR := ⟨false, 0, []⟩
/-- The record that a text begins with; 'at_': where it stands. -/
def oneT (at_ : Nat) : List UInt8 → KR × Int
  | b0 :: b1 :: b2 :: b3 :: r =>
    let k := b0.toNat * 256 + b1.toNat
    let n := b2.toNat * 256 + b3.toNat
    if n > 1024 ∨ at_ + 4 + n > 2048 then (kr0, 12)
    else if k % 32768 = 0 ∧ (k < 32768 ∨ 0 < n) then (kr0, 10)
    else if r.length < n then (kr0, 11)
    else (⟨decide (32768 ≤ k), ((k % 32768 : Nat) : Int), r.take n⟩, 0)
  | _ => (kr0, 11)
theorem take_all {α : Type} {l : List α} {n : Nat} (h : l.length ≤ n) : l.take n = l := List.take_of_length_le h
theorem num_or (a b : UInt8) : bitsP .or .i64 ((a.toNat : Int) * 256) b.toNat = ((a.toNat * 256 + b.toNat : Nat) : Int) := by rw [or_bytes]; omega
theorem num_lt (a b : UInt8) : a.toNat * 256 + b.toNat < 65536 := by have := a.toNat_lt; have := b.toNat_lt; omega
end Pv
