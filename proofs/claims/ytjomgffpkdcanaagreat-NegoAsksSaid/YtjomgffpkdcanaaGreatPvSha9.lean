/- Part of the proof: the layer of pure values, or walks through functions (PvSha9, PvShaX). -/
import Derived.Test.YtjomgffpkdcanaaGreatPvSha8
import Derived.Test.YtjomgffpkdcanaaGreatPvSha5
set_option linter.all false
namespace Pv
set_option maxRecDepth 20000
set_option maxHeartbeats 4000000
open Go Go.Proofs Go.RowKit
variable {w0 : World}

theorem set_both {α : Type} {m l : List α} {i : Nat} {x : α} (hi : i < l.length) (hm : m[i]? = some x) : (m.take i ++ l.drop i).set i x = m.take (i + 1) ++ l.drop (i + 1) := by
  have hl : (m.take i).length = i := by rw [List.length_take]; have := (List.getElem?_eq_some_iff.1 hm).1; omega
  rw [List.set_append_right _ _ (by omega), hl, Nat.sub_self, List.drop_eq_getElem_cons hi, List.set_cons_zero, take_next hm, List.append_assoc]; rfl
theorem masked_ok (k : List UInt8) (hk : k.length ≤ 64) (c : UInt8) : Fn (Cx w0) 118 [.str k, .int .u8 c.toNat] (.str (maskL k c)) := by
  have e1 : (64 : Int) - (k.length : Int) = ((64 - k.length : Nat) : Int) := by omega
  have hrep := repeat_ok (w0 := w0) 0 (64 - k.length) (by omega)
  obtain ⟨m, hm⟩ : ∃ m, m = k ++ List.replicate (64 - k.length) 0 := ⟨_, rfl⟩
  have hml : m.length = 64 := by rw [hm]; simp; omega
  have hml2 : k.length + (List.replicate (64 - k.length) (0 : UInt8)).length < 2 ^ 40 := by simp; omega
  obtain ⟨M, hM⟩ : ∃ M, M = maskL k c := ⟨_, rfl⟩
  have hMl : M.length = 64 := by rw [hM, maskL_len k c hk]
  have hMm : M = m.map (· ^^^ c) := by rw [hM, hm]; rfl
  rw [← hM]
  have hms := hm.symm
  refine fn_H ([Go.ResultVar.tmp 4]) Tryz.func118 rfl rfl (by decide) fun ph hW Q hQ => ?_
  simp only [start, List.length_cons, List.length_nil, List.cons_append, List.nil_append, Nat.reduceAdd, Nat.reduceSub, List.replicate_succ, List.replicate_zero, Tryz.ntmps118]
  repeat' first | simp -implicitDefEqProofs (maxSteps := 400000) (disch := first | with_reducible rfl | omega | (simp only [wkH] <;> omega) | decide) only [wkAll, wkL, popO, wantedP, binP, convP, lenP, builtinP, wkN, if_pos, tf5, tf9, tf92, e1, hms, hml] | refine w_pure (hrep) ?_ | refine w_dec (fun _ => ?_) (fun _ => ?_) | refine w_eqc (fun _ => ?_) (fun _ => ?_) | refine w_neqc (fun _ => ?_) (fun _ => ?_) | refine w_nneqc (fun _ => ?_) (fun _ => ?_) | ((first | refine w_split (fun h => ?_) (fun h => ?_) | refine d_split (fun h => ?_) (fun h => ?_) | refine w_csplit (fun h => ?_) (fun h => ?_)) <;> (try simp only [wkS] at h) <;> (have h2 := h) <;> (try simp only [wkT, ne_eq] at h2) <;> (try simp only [h]))
  refine w_loopH (α := Nat) ph ph.ob ph.ty (fun i => [.undef, .int .u8 c.toNat, .undef, .undef, .undef, .sl ph.n 0 1 64 none, .undef, .undef, .undef, .undef, .undef, .undef, .undef, .undef, .undef, .int .i64 64, .int .i64 i, .undef, .undef, .undef, .undef, .undef, .undef, .undef, .undef, .undef, .undef, .undef, .undef]) (fun i => [some (.own (bytesPV (M.take i ++ m.drop i)))]) (fun i => i ≤ 64) (fun i => 64 - i) 0 (by simp) (fun _ _ => by simp) (.eq (by simp [FadeTo]) (by simp)) ?_
  intro i hi K hK
  have hl : (M.take i ++ m.drop i).length = 64 := by simp; omega
  rcases Nat.lt_or_ge i 64 with hlt | hge
  · have hlt' : (i : Int) < 64 := by omega
    obtain ⟨x, hx⟩ := get_someW (show i < m.length by omega)
    have hMx : M[i]? = some (x ^^^ c) := by rw [hMm, List.getElem?_map, hx]; rfl
    have hnx := set_both (show i < m.length by omega) hMx
    have hg : (M.take i ++ m.drop i)[i]? = some x := by
      rw [List.getElem?_append_right (by simp; omega), List.getElem?_drop, ← hx]; congr 1; simp; omega
    generalize M.take i ++ m.drop i = cur at *
    have cx : (bytesPV cur)[i]? = some (.int .u8 x.toNat) := by rw [bytesPV_get, hg]; rfl
    have hlen : i + 1 ≤ cur.length := by omega
    repeat' first | simp -implicitDefEqProofs (maxSteps := 400000) (disch := first | with_reducible rfl | omega | (simp only [wkH] <;> omega) | decide) only [wkAll, wkL, popO, wantedP, Nat.reduceLeDiff, binP, indexAddrOp, loadOp, storeOp, loadP, setL, PK.agg, seg, wkN, if_pos, if_neg, tf5, tf92, hlt', cx, xor_u8, bytesPV_set, hnx, hl] | refine w_dec (fun _ => ?_) (fun _ => ?_) | refine w_eqc (fun _ => ?_) (fun _ => ?_) | refine w_neqc (fun _ => ?_) (fun _ => ?_) | refine w_nneqc (fun _ => ?_) (fun _ => ?_) | ((first | refine w_split (fun h => ?_) (fun h => ?_) | refine d_split (fun h => ?_) (fun h => ?_) | refine w_csplit (fun h => ?_) (fun h => ?_)) <;> (try simp only [wkS] at h) <;> (have h2 := h) <;> (try simp only [wkT, ne_eq] at h2) <;> (try simp only [h]))
    exact hK (i + 1) _ _ (by omega) (by omega) (.eq (by simp [FadeTo]) rfl)
  · have hge' : ¬ (i : Int) < 64 := by omega
    have ht : M.take i ++ m.drop i = M := by rw [List.take_of_length_le (by omega), List.drop_eq_nil_of_le (by omega), List.append_nil]
    rw [ht] at hl ⊢
    have ht2 : (bytesPV M).take 64 = bytesPV M := List.take_of_length_le (by rw [bytesPV_len]; omega)
    repeat' first | simp -implicitDefEqProofs (maxSteps := 400000) (disch := first | with_reducible rfl | omega | (simp only [wkH] <;> omega) | decide) only [wkAll, wkL, popO, wantedP, Nat.reduceLeDiff, binP, convP, seg, wkN, if_pos, tf5, tf9, tf92, hge', hl, ht2] | refine w_dec (fun _ => ?_) (fun _ => ?_) | refine w_eqc (fun _ => ?_) (fun _ => ?_) | refine w_neqc (fun _ => ?_) (fun _ => ?_) | refine w_nneqc (fun _ => ?_) (fun _ => ?_) | ((first | refine w_split (fun h => ?_) (fun h => ?_) | refine d_split (fun h => ?_) (fun h => ?_) | refine w_csplit (fun h => ?_) (fun h => ?_)) <;> (try simp only [wkS] at h) <;> (have h2 := h) <;> (try simp only [wkT, ne_eq] at h2) <;> (try simp only [h]))
    refine hQ (by first | exact .inr rfl | exact .inl rfl) (by first | exact trivial | exact marks1) (by first | (simp -implicitDefEqProofs (maxSteps := 400000) (disch := first | with_reducible rfl | omega | (simp only [wkH] <;> omega) | decide) only [wkL, resP, resPs, resP1]; rfl) | rfl) ⟨6, by repeat' first | exact frz_scalar rfl | apply frz_tuple | apply frz_agg | apply frz_fsl | apply frz_gsl (by omega) | exact frzs_nil | apply frzs_cons⟩ (by first | exact keepsH0 | exact keeps1 (by assumption) | exact keepsH (fun _ _ h => h) (fun p hp => by simp only [upF]; (repeat rw [if_neg (by omega)])) | exact keeps1t (by assumption) (fun p hp => by simp only [upF]; (repeat rw [if_neg (by omega)])) | (subst hT; exact keepsH (fun _ _ h => h) fun _ _ => rfl)) (nw_eq ?_)
    rfl

theorem bytesPV_cok (l : List UInt8) : (bytesPV l).all cellOk = true := by simp [bytesPV, cellOk]
/-! ### Sum -/
theorem w_cutL {X : Ctx} {ρ : Option Nat} {n0 : Nat} {Q : Exit → PSt → PH → Prop} {c : Code} {tm : List PV} {ms : List Nat} {ph : PH} (b : PH) (l : List (Option Blk)) (ob : Nat → Option PObj) (ty : Nat → Option TypeId) (st : List PV) (hn : n0 ≤ b.n + l.length)
    (hi : HTo b l ob ty st tm ph) (h : vc X ρ n0 (.loop c) Q ⟨st, ms⟩ (H b l ob ty)) : vc X ρ n0 (.loop c) Q ⟨tm, ms⟩ ph := by
  show PWp X ρ n0 (.loop c) Q ⟨tm, ms⟩ ph
  exact PWp.weak (s' := ⟨st, ms⟩) (ph' := H b l ob ty) (hi.weak hn) rfl (vc_ok _ _ _ _ h)
/-- The blocks, when bytes of s are behind the text e. -/
def sumB (c : List PV) (e s : List UInt8) : List (Option Blk) := some (.own c) :: ((s.flatMap fun b => [none, some (.own [.int .u8 (b.toNat : Int)])]) ++ [some (.own (bytesPV (e ++ s)))])
section sumB
variable {c : List PV} {e s : List UInt8}
theorem garb_len : ∀ (s : List UInt8), (s.flatMap fun b => [(none : Option Blk), some (.own [.int .u8 (b.toNat : Int)])]).length = 2 * s.length
  | [] => rfl
  | b :: s => by rw [List.flatMap_cons, List.length_append, garb_len s]; simp; omega
theorem sumB_len : (sumB c e s).length = 2 + 2 * s.length := by rw [sumB, List.length_cons, List.length_append, garb_len]; simp; omega
theorem sumB_0 : (sumB c e s)[0]? = some (some (.own c)) := rfl
theorem sumB_at : (sumB c e s)[1 + 2 * s.length]? = some (some (.own (bytesPV (e ++ s)))) := by
  rw [sumB, Nat.add_comm, List.getElem?_cons_succ, List.getElem?_append_right (by rw [garb_len]; exact Nat.le_refl _), garb_len, Nat.sub_self]; rfl
theorem sumB_next (b : UInt8) : (sumB c e s ++ [some (Blk.own [.int .u8 (b.toNat : Int)])]).set (1 + 2 * s.length) none ++ [some (Blk.own (bytesPV (e ++ (s ++ [b]))))] = sumB c e (s ++ [b]) := by
  have h1 : (sumB c e s ++ [some (Blk.own [.int .u8 (b.toNat : Int)])]).set (1 + 2 * s.length) none = some (Blk.own c) :: ((s.flatMap fun b => [(none : Option Blk), some (Blk.own [.int .u8 (b.toNat : Int)])]) ++ [none, some (Blk.own [.int .u8 (b.toNat : Int)])]) := by
    rw [sumB, Nat.add_comm, List.cons_append, List.set_cons_succ, List.append_assoc, List.set_append_right _ _ (by rw [garb_len]; exact Nat.le_refl _), garb_len, Nat.sub_self]; rfl
  rw [h1, sumB, List.flatMap_append]
  simp
end sumB

theorem sum_ok (h : List UInt32) (h8 : h.length = 8) (lf : List UInt8) (hlf : lf.length < 64) (n : UInt64) : Fn (Cx w0) 87 [.agg (hc h lf n)] (.str (sumH ⟨h, lf, n⟩)) := by
  have z8 := z8W_len
  obtain ⟨N3, hN3⟩ : ∃ N3, N3 = n <<< 3 := ⟨_, rfl⟩
  have hm := shl64 n 3 (by decide)
  rw [show ((3 : Nat) : Int) = 3 from rfl, show UInt64.ofNat 3 = 3 from rfl, ← hN3] at hm
  obtain ⟨pd, hpd⟩ : ∃ pd, pd = (119 - lf.length) % 64 := ⟨_, rfl⟩
  have hE : endH ⟨h, lf, n⟩ = endP pd ++ be8 N3 := by rw [endH_eq, hpd, hN3]
  have e1 : (119 : Int) - (lf.length : Int) = ((119 - lf.length : Nat) : Int) := by omega
  have em : Int.tmod ((119 - lf.length : Nat) : Int) 64 = (pd : Int) := by rw [Int.tmod_eq_emod_of_nonneg (by omega), hpd]; rfl
  have hrep := repeat_ok (w0 := w0) 0 pd (by omega)
  have hep : (128 : UInt8) :: List.replicate pd 0 = endP pd := by unfold endP; rfl
  have hpl : (endP pd).length = pd + 1 := endP_len pd
  have hrl : (List.replicate pd (0 : UInt8)).length = pd := List.length_replicate
  refine fn_H ([Go.ResultVar.tmp 2]) Tryz.func87 rfl rfl (by decide) fun ph hW Q hQ => ?_
  simp only [start, List.length_cons, List.length_nil, List.cons_append, List.nil_append, Nat.reduceAdd, Nat.reduceSub, List.replicate_succ, List.replicate_zero, Tryz.ntmps87]
  repeat' first | simp -implicitDefEqProofs (maxSteps := 400000) (disch := first | with_reducible rfl | omega | (simp only [wkH] <;> omega) | decide) only [wkAll, wkL, popO, wantedP, Nat.reduceAdd, Nat.reduceLeDiff, Int.reduceEq, binP, convP, lenP, builtinP, loadOp, loadP, fieldAddrOp, PK.agg, seg, wkN, if_pos, if_neg, tf5, tf9, tf92, tf131, e1, em, hep, hrl, hc_len, hc_g8, hc_ok] | refine w_pure (hrep) ?_ | refine w_dec (fun _ => ?_) (fun _ => ?_) | refine w_eqc (fun _ => ?_) (fun _ => ?_) | refine w_neqc (fun _ => ?_) (fun _ => ?_) | refine w_nneqc (fun _ => ?_) (fun _ => ?_) | ((first | refine w_split (fun h => ?_) (fun h => ?_) | refine d_split (fun h => ?_) (fun h => ?_) | refine w_csplit (fun h => ?_) (fun h => ?_)) <;> (try simp only [wkS] at h) <;> (have h2 := h) <;> (try simp only [wkT, ne_eq] at h2) <;> (try simp only [h]))
  refine w_loopH (α := Nat) ph ph.ob ph.ty (fun i => [.undef, .ptr ph.n 0, .undef, .undef, .sl (ph.n + (1 + 2 * i)) 0 1 (pd + 1 + i) none, .undef, .undef, .undef, .undef, .undef, .undef, .undef, .undef, .undef, .undef, .undef, .undef, .undef, .int .i64 i, .undef, .undef, .undef, .undef, .undef, .undef, .undef, .undef, .undef, .undef, .undef, .undef, .undef, .undef, .undef, .undef, .undef, .undef, .undef, .undef, .undef, .undef, .undef, .undef, .undef, .undef, .undef, .undef, .undef, .undef, .undef, .undef, .undef, .undef, .undef, .undef, .undef, .undef, .undef]) (fun i => sumB (hc h lf n) (endP pd) ((be8 N3).take i)) (fun i => i ≤ 8) (fun i => 8 - i) 0 (by simp) (fun _ _ => by simp) (.eq (by simp [FadeTo, hpl]) (by simp [sumB])) ?_
  intro i hi K hK
  have hti : ((be8 N3).take i).length = i := by rw [List.length_take, be8_len]; omega
  rcases Nat.lt_or_ge i 8 with hlt | hge
  · have hlt' : (i : Int) < 8 := by omega
    have i1 : 8 * (i : Int) = ((8 * i : Nat) : Int) := by omega
    have i2 : (56 : Int) - ((8 * i : Nat) : Int) = ((56 - 8 * i : Nat) : Int) := by omega
    have i3 : (0 : Int) ≤ ((56 - 8 * i : Nat) : Int) := by omega
    have e2 := shr64 N3 (56 - 8 * i) (by omega)
    have hb := be8_at N3 i hlt
    obtain ⟨b, hb2⟩ : ∃ b, b = (N3 >>> UInt64.ofNat (56 - 8 * i)).toUInt8 := ⟨_, rfl⟩
    have e4 := low64 (N3 >>> UInt64.ofNat (56 - 8 * i))
    rw [← hb2] at hb e4
    have ht := take_next hb
    obtain ⟨s, hs⟩ : ∃ s, s = (be8 N3).take i := ⟨_, rfl⟩
    rw [← hs] at hti ht
    have f1 := sumB_len (c := hc h lf n) (e := endP pd) (s := s)
    have f2 := sumB_0 (c := hc h lf n) (e := endP pd) (s := s)
    have f3 := sumB_at (c := hc h lf n) (e := endP pd) (s := s)
    have f6 := sumB_next (c := hc h lf n) (e := endP pd) (s := s) b
    rw [hti] at f1 f3 f6
    rw [← ht] at f6
    have hse : (endP pd ++ s).length = pd + 1 + i := by rw [List.length_append, hpl, hti]
    have hsn : bytesPV (endP pd ++ (be8 N3).take (i + 1)) = bytesPV (endP pd ++ s) ++ [.int .u8 (b.toNat : Int)] := by rw [ht, ← List.append_assoc, bytesPV_append]; rfl
    rw [hsn] at f6
    rw [← hs]
    obtain ⟨E, hEe⟩ : ∃ E, E = endP pd ++ s := ⟨_, rfl⟩
    rw [← hEe] at f3 f6 hse
    generalize sumB (hc h lf n) (endP pd) s = L at *
    have f4 : ∀ y, (L ++ [y])[1 + 2 * i]? = some (some (.own (bytesPV E))) := fun y => by rw [List.getElem?_append_left (by omega)]; exact f3
    have f5 : ∀ y, (L ++ [y])[2 + 2 * i]? = some y := fun y => by rw [List.getElem?_append_right (by omega), f1, Nat.sub_self]; rfl
    repeat' first | simp -implicitDefEqProofs (maxSteps := 400000) (disch := first | with_reducible rfl | omega | (simp only [wkH] <;> omega) | decide) only [wkAll, wkL, popO, wantedP, ne_eq, Nat.reduceAdd, Nat.reduceLeDiff, Nat.reduceLT, reduceCtorEq, Int.reduceLE, binP, convP, builtinP, appendT, appendP, srcP, loadOp, loadP, fieldAddrOp, buildSliceP, fillP, setL, PK.agg, gt_iff_lt, Nat.reducePow, reps, seg, wkN, if_pos, if_neg, tf5, Tryz.ze5, tf50, tf92, tf131, hlt', hm, i1, i2, i3, e2, e4, f1, f2, bytesPV_cok, f4, f5, hse, hc_len, hc_g9] | refine w_dec (fun _ => ?_) (fun _ => ?_) | refine w_eqc (fun _ => ?_) (fun _ => ?_) | refine w_neqc (fun _ => ?_) (fun _ => ?_) | refine w_nneqc (fun _ => ?_) (fun _ => ?_) | ((first | refine w_split (fun h => ?_) (fun h => ?_) | refine d_split (fun h => ?_) (fun h => ?_) | refine w_csplit (fun h => ?_) (fun h => ?_)) <;> (try simp only [wkS] at h) <;> (have h2 := h) <;> (try simp only [wkT, ne_eq] at h2) <;> (try simp only [h]))
    refine hK (i + 1) _ _ (by omega) (by omega) (.eq (by simp [FadeTo]; omega) (by rw [f6]))
  · have hge' : ¬ (i : Int) < 8 := by omega
    have : i = 8 := by omega
    subst this
    have htk : (be8 N3).take 8 = be8 N3 := List.take_of_length_le (by rw [be8_len]; exact Nat.le_refl _)
    rw [htk] at hti ⊢
    have f1 := sumB_len (c := hc h lf n) (e := endP pd) (s := be8 N3)
    have f2 := sumB_0 (c := hc h lf n) (e := endP pd) (s := be8 N3)
    have f3 := sumB_at (c := hc h lf n) (e := endP pd) (s := be8 N3)
    rw [hti] at f1 f3
    rw [← hE] at f3
    have hEl : (endH ⟨h, lf, n⟩).length = pd + 1 + 8 := by rw [hE, List.length_append, hpl, hti]
    have hw := write_ok (w0 := w0) h h8 lf n (endH ⟨h, lf, n⟩) (by rw [hEl]; omega)
    obtain ⟨H2, hH2⟩ : ∃ H2, H2 = (feed h (lf ++ endH ⟨h, lf, n⟩)).1 := ⟨_, rfl⟩
    have hsum : sumH ⟨h, lf, n⟩ = H2.flatMap be4 := by rw [hH2]; rfl
    have h28 : H2.length = 8 := by rw [hH2]; exact (feed_len h _ h8).1
    rw [← hH2] at hw
    rw [hsum] at hQ
    generalize (feed h (lf ++ endH ⟨h, lf, n⟩)).2 = lf2 at hw
    generalize n + UInt64.ofNat (endH ⟨h, lf, n⟩).length = n2 at hw
    clear hK
    generalize endH ⟨h, lf, n⟩ = E at *
    generalize sumB (hc h lf n) (endP pd) (be8 N3) = L at *
    have ht2 : (bytesPV E).take (pd + 1 + 8) = bytesPV E := List.take_of_length_le (by rw [bytesPV_len]; omega)
    repeat' first | simp -implicitDefEqProofs (maxSteps := 400000) (disch := first | with_reducible rfl | omega | (simp only [wkH] <;> omega) | decide) only [wkAll, wkL, popO, wantedP, Nat.reduceAdd, Nat.reduceMul, Nat.reduceLeDiff, Int.reduceLT, binP, convP, loadOp, loadP, fieldOp, PK.agg, seg, wkN, if_pos, tf5, tf9, tf92, tf129, tf131, f2, f3, hEl, ht2, hc_len, hc_t10, hc_t8] | refine w_pure (hw) ?_ | refine w_dec (fun _ => ?_) (fun _ => ?_) | refine w_eqc (fun _ => ?_) (fun _ => ?_) | refine w_neqc (fun _ => ?_) (fun _ => ?_) | refine w_nneqc (fun _ => ?_) (fun _ => ?_) | ((first | refine w_split (fun h => ?_) (fun h => ?_) | refine d_split (fun h => ?_) (fun h => ?_) | refine w_csplit (fun h => ?_) (fun h => ?_)) <;> (try simp only [wkS] at h) <;> (have h2 := h) <;> (try simp only [wkT, ne_eq] at h2) <;> (try simp only [h]))
    refine w_cutL ph [] ph.ob ph.ty [.undef, .undef, .undef, .undef, .undef, .undef, .nilsl, .undef, .undef, .undef, .undef, .undef, .undef, .undef, .undef, .undef, .undef, .undef, .undef, .undef, .undef, .undef, .undef, .undef, .undef, .undef, .undef, .undef, .undef, .undef, .undef, .undef, .undef, .undef, .undef, .undef, .undef, .agg (wC H2), .int .i64 0, .undef, .undef, .undef, .undef, .undef, .undef, .undef, .undef, .undef, .undef, .undef, .undef, .undef, .undef, .undef, .undef, .undef, .undef, .undef] (by simp) (.cut L hW (by simp [FadeTo]) (by rfl) (by simp [scs_cons, scs_nil, sc_agg, sc_int, sc_undef, sc_nilsl, scs_w]) (by simp [])) ?_
    refine w_growL 1 5 [.undef, .undef, .undef, .undef, .undef, .undef, .gsl ph.n 1 0 [], .undef, .undef, .undef, .undef, .undef, .undef, .undef, .undef, .undef, .undef, .undef, .undef, .undef, .undef, .undef, .undef, .undef, .undef, .undef, .undef, .undef, .undef, .undef, .undef, .undef, .undef, .undef, .undef, .undef, .undef, .agg (wC H2), .int .i64 0, .undef, .undef, .undef, .undef, .undef, .undef, .undef, .undef, .undef, .undef, .undef, .undef, .undef, .undef, .undef, .undef, .undef, .undef, .undef] [] (by simp) (by simp [NilL]) (by simp [NilB]) ?_
    refine w_loopH (α := Nat) ph ph.ob ph.ty (fun i => [.undef, .undef, .undef, .undef, .undef, .undef, .gsl ph.n 1 (4 * i) (bytesPV ((H2.take i).flatMap be4)), .undef, .undef, .undef, .undef, .undef, .undef, .undef, .undef, .undef, .undef, .undef, .undef, .undef, .undef, .undef, .undef, .undef, .undef, .undef, .undef, .undef, .undef, .undef, .undef, .undef, .undef, .undef, .undef, .undef, .undef, .agg (wC H2), .int .i64 i, .undef, .undef, .undef, .undef, .undef, .undef, .undef, .undef, .undef, .undef, .undef, .undef, .undef, .undef, .undef, .undef, .undef, .undef, .undef]) (fun i => [some (.grow 1 (4 * i) 5)]) (fun i => i ≤ 8) (fun i => 8 - i) 0 (by simp) (fun _ _ => by simp) (.eq (by simp [FadeTo, bytesPV]) rfl) ?_
    clear hi hge hge'
    intro i hi K hK
    rcases Nat.lt_or_ge i 8 with hlt | hge
    · have hlt' : (i : Int) < 8 := by omega
      obtain ⟨x, hx⟩ := get_someW (show i < H2.length by omega)
      have cx : (wC H2)[i]? = some (.int .u32 x.toNat) := by rw [wC_get, hx]; rfl
      have hf := flat_next hx
      have hl2 : (wC H2).length = 8 := by rw [wC_len, h28]
      repeat' first | simp -implicitDefEqProofs (maxSteps := 400000) (disch := first | with_reducible rfl | omega | (simp only [wkH] <;> omega) | decide) only [wkAll, wkL, popO, wantedP, ne_eq, Nat.reduceAdd, Nat.reduceLeDiff, Nat.reduceLT, reduceCtorEq, Int.reduceLE, binP, convP, builtinP, srcP, indexOp, loadP, buildSliceP, fillP, setL, PK.agg, gt_iff_lt, Nat.reducePow, reps, seg, wkN, if_pos, if_neg, tf5, Tryz.ze5, tf92, tf128, tf129, hlt', cx, hl2, app_g, shr32_24, shr32_16, shr32_8, low32] | refine w_dec (fun _ => ?_) (fun _ => ?_) | refine w_eqc (fun _ => ?_) (fun _ => ?_) | refine w_neqc (fun _ => ?_) (fun _ => ?_) | refine w_nneqc (fun _ => ?_) (fun _ => ?_) | ((first | refine w_split (fun h => ?_) (fun h => ?_) | refine d_split (fun h => ?_) (fun h => ?_) | refine w_csplit (fun h => ?_) (fun h => ?_)) <;> (try simp only [wkS] at h) <;> (have h2 := h) <;> (try simp only [wkT, ne_eq] at h2) <;> (try simp only [h]))
      refine hK (i + 1) _ _ (by omega) (by omega) (.cut [_] hW (by simp [FadeTo, hf, bytesPV_append, be4_pv, Nat.mul_succ]) (by first | rfl | (simp [hf, bytesPV_append, be4_pv, Nat.mul_succ]; rfl) | simp [hf, bytesPV_append, be4_pv, Nat.mul_succ]) (by simp [scs_cons, scs_nil, sc_gsl, sc_agg, sc_int, sc_undef, scs_bytes, scs_bytes, scs_w]) (by simp []))
    · have hge' : ¬ (i : Int) < 8 := by omega
      have ht : H2.take i = H2 := List.take_of_length_le (by omega)
      rw [ht]
      repeat' first | simp -implicitDefEqProofs (maxSteps := 400000) (disch := first | with_reducible rfl | omega | (simp only [wkH] <;> omega) | decide) only [wkAll, wkL, popO, wantedP, binP, convP, wkN, if_pos, tf5, tf9, tf92, hge'] | refine w_dec (fun _ => ?_) (fun _ => ?_) | refine w_eqc (fun _ => ?_) (fun _ => ?_) | refine w_neqc (fun _ => ?_) (fun _ => ?_) | refine w_nneqc (fun _ => ?_) (fun _ => ?_) | ((first | refine w_split (fun h => ?_) (fun h => ?_) | refine d_split (fun h => ?_) (fun h => ?_) | refine w_csplit (fun h => ?_) (fun h => ?_)) <;> (try simp only [wkS] at h) <;> (have h2 := h) <;> (try simp only [wkT, ne_eq] at h2) <;> (try simp only [h]))
      refine hQ (by first | exact .inr rfl | exact .inl rfl) (by first | exact trivial | exact marks1) (by first | (simp -implicitDefEqProofs (maxSteps := 400000) (disch := first | with_reducible rfl | omega | (simp only [wkH] <;> omega) | decide) only [wkL, resP, resPs, resP1]; rfl) | rfl) ⟨6, by repeat' first | exact frz_scalar rfl | apply frz_tuple | apply frz_agg | apply frz_fsl | apply frz_gsl (by omega) | exact frzs_nil | apply frzs_cons⟩ (by first | exact keepsH0 | exact keeps1 (by assumption) | exact keepsH (fun _ _ h => h) (fun p hp => by simp only [upF]; (repeat rw [if_neg (by omega)])) | exact keeps1t (by assumption) (fun p hp => by simp only [upF]; (repeat rw [if_neg (by omega)])) | (subst hT; exact keepsH (fun _ _ h => h) fun _ _ => rfl)) (nw_eq ?_)
      rfl

theorem of_ok (s : List UInt8) (hs : s.length < 2 ^ 45) : Fn (Cx w0) 78 [.str s] (.str (shaOf s)) := by
  have h1 := new_ok (w0 := w0)
  have h2 := write_ok (w0 := w0) shaH0 rfl [] 0 s (by simp; omega)
  have hl := feed_len shaH0 ([] ++ s) rfl
  have h3 := sum_ok (w0 := w0) (feed shaH0 ([] ++ s)).1 hl.1 (feed shaH0 ([] ++ s)).2 (by rw [hl.2]; omega) (0 + UInt64.ofNat s.length)
  have he : shaOf s = sumH ⟨(feed shaH0 ([] ++ s)).1, (feed shaH0 ([] ++ s)).2, 0 + UInt64.ofNat s.length⟩ := rfl
  rw [← he] at h3
  generalize (feed shaH0 ([] ++ s)).1 = a at *
  generalize (feed shaH0 ([] ++ s)).2 = b at *
  generalize 0 + UInt64.ofNat s.length = c at *
  clear he
  generalize shaOf s = d at *
  refine fn_H ([Go.ResultVar.tmp 2]) Tryz.func78 rfl rfl (by decide) fun ph hW Q hQ => ?_
  simp only [start, List.length_cons, List.length_nil, List.cons_append, List.nil_append, Nat.reduceAdd, Nat.reduceSub, List.replicate_succ, List.replicate_zero, Tryz.ntmps78]
  repeat' first | simp -implicitDefEqProofs (maxSteps := 400000) (disch := first | with_reducible rfl | omega | (simp only [wkH] <;> omega) | decide) only [wkAll, wkL, popO, wantedP] | refine w_pure (h1) ?_ | refine w_pure (h2) ?_ | refine w_pure (h3) ?_ | refine w_dec (fun _ => ?_) (fun _ => ?_) | refine w_eqc (fun _ => ?_) (fun _ => ?_) | refine w_neqc (fun _ => ?_) (fun _ => ?_) | refine w_nneqc (fun _ => ?_) (fun _ => ?_) | ((first | refine w_split (fun h => ?_) (fun h => ?_) | refine d_split (fun h => ?_) (fun h => ?_) | refine w_csplit (fun h => ?_) (fun h => ?_)) <;> (try simp only [wkS] at h) <;> (have h2 := h) <;> (try simp only [wkT, ne_eq] at h2) <;> (try simp only [h]))
  refine hQ (by first | exact .inr rfl | exact .inl rfl) (by first | exact trivial | exact marks1) (by first | (simp -implicitDefEqProofs (maxSteps := 400000) (disch := first | with_reducible rfl | omega | (simp only [wkH] <;> omega) | decide) only [wkL, resP, resPs, resP1]; rfl) | rfl) ⟨6, by repeat' first | exact frz_scalar rfl | apply frz_tuple | apply frz_agg | apply frz_fsl | apply frz_gsl (by omega) | exact frzs_nil | apply frzs_cons⟩ (by first | exact keepsH0 | exact keeps1 (by assumption) | exact keepsH (fun _ _ h => h) (fun p hp => by simp only [upF]; (repeat rw [if_neg (by omega)])) | exact keeps1t (by assumption) (fun p hp => by simp only [upF]; (repeat rw [if_neg (by omega)])) | (subst hT; exact keepsH (fun _ _ h => h) fun _ _ => rfl)) (nw_eq ?_)
  rfl
theorem refOf_ok (s : List UInt8) (hs : s.length < 2 ^ 45) : Fn (Cx w0) 70 [.str s] (.str (shaOf s)) := by
  have h1 := refNew_ok (w0 := w0)
  have h2 := refWrite_ok (w0 := w0) shaH0 rfl [] 0 s (by simp; omega)
  have hl := feed_len shaH0 ([] ++ s) rfl
  have h3 := refSum_ok (w0 := w0) (feed shaH0 ([] ++ s)).1 hl.1 (feed shaH0 ([] ++ s)).2 (by rw [hl.2]; omega) (0 + UInt64.ofNat s.length)
  have he : shaOf s = sumH ⟨(feed shaH0 ([] ++ s)).1, (feed shaH0 ([] ++ s)).2, 0 + UInt64.ofNat s.length⟩ := rfl
  rw [← he] at h3
  generalize (feed shaH0 ([] ++ s)).1 = a at *
  generalize (feed shaH0 ([] ++ s)).2 = b at *
  generalize 0 + UInt64.ofNat s.length = c at *
  clear he
  generalize shaOf s = d at *
  refine fn_H ([Go.ResultVar.tmp 2]) Tryz.func70 rfl rfl (by decide) fun ph hW Q hQ => ?_
  simp only [start, List.length_cons, List.length_nil, List.cons_append, List.nil_append, Nat.reduceAdd, Nat.reduceSub, List.replicate_succ, List.replicate_zero, Tryz.ntmps70]
  repeat' first | simp -implicitDefEqProofs (maxSteps := 400000) (disch := first | with_reducible rfl | omega | (simp only [wkH] <;> omega) | decide) only [wkAll, wkL, popO, wantedP] | refine w_pure (h1) ?_ | refine w_pure (h2) ?_ | refine w_pure (h3) ?_ | refine w_dec (fun _ => ?_) (fun _ => ?_) | refine w_eqc (fun _ => ?_) (fun _ => ?_) | refine w_neqc (fun _ => ?_) (fun _ => ?_) | refine w_nneqc (fun _ => ?_) (fun _ => ?_) | ((first | refine w_split (fun h => ?_) (fun h => ?_) | refine d_split (fun h => ?_) (fun h => ?_) | refine w_csplit (fun h => ?_) (fun h => ?_)) <;> (try simp only [wkS] at h) <;> (have h2 := h) <;> (try simp only [wkT, ne_eq] at h2) <;> (try simp only [h]))
  refine hQ (by first | exact .inr rfl | exact .inl rfl) (by first | exact trivial | exact marks1) (by first | (simp -implicitDefEqProofs (maxSteps := 400000) (disch := first | with_reducible rfl | omega | (simp only [wkH] <;> omega) | decide) only [wkL, resP, resPs, resP1]; rfl) | rfl) ⟨6, by repeat' first | exact frz_scalar rfl | apply frz_tuple | apply frz_agg | apply frz_fsl | apply frz_gsl (by omega) | exact frzs_nil | apply frzs_cons⟩ (by first | exact keepsH0 | exact keeps1 (by assumption) | exact keepsH (fun _ _ h => h) (fun p hp => by simp only [upF]; (repeat rw [if_neg (by omega)])) | exact keeps1t (by assumption) (fun p hp => by simp only [upF]; (repeat rw [if_neg (by omega)])) | (subst hT; exact keepsH (fun _ _ h => h) fun _ _ => rfl)) (nw_eq ?_)
  rfl

theorem mac_ok (k s : List UInt8) (hk : k.length < 2 ^ 44) (hs : s.length < 2 ^ 44) : Fn (Cx w0) 112 [.str k, .str s] (.str (macL k s)) := by
  have m1 := masked_ok (w0 := w0) (keyL k) (keyL_len k) 0x5c
  have m2 := masked_ok (w0 := w0) (keyL k) (keyL_len k) 0x36
  rw [show (((0x5c : UInt8).toNat : Nat) : Int) = 92 from rfl] at m1
  rw [show (((0x36 : UInt8).toNat : Nat) : Int) = 54 from rfl] at m2
  have hm : macL k s = shaOf (maskL (keyL k) 0x5c ++ shaOf (maskL (keyL k) 0x36 ++ s)) := rfl
  have l1 := maskL_len (keyL k) 0x5c (keyL_len k)
  have l2 := maskL_len (keyL k) 0x36 (keyL_len k)
  have h1 := of_ok (w0 := w0) (maskL (keyL k) 0x36 ++ s) (by rw [List.length_append, l2]; omega)
  have l3 := of_len (maskL (keyL k) 0x36 ++ s)
  have h2 := of_ok (w0 := w0) (maskL (keyL k) 0x5c ++ shaOf (maskL (keyL k) 0x36 ++ s)) (by rw [List.length_append, l1, l3]; omega)
  rw [← hm] at h2
  generalize maskL (keyL k) 0x36 = x2 at *
  generalize maskL (keyL k) 0x5c = x1 at *
  generalize shaOf (x2 ++ s) = y at *
  clear hm
  generalize macL k s = z at *
  have h0 := of_ok (w0 := w0) k (by omega)
  refine fn_H ([Go.ResultVar.tmp 4]) Tryz.func112 rfl rfl (by decide) fun ph hW Q hQ => ?_
  simp only [start, List.length_cons, List.length_nil, List.cons_append, List.nil_append, Nat.reduceAdd, Nat.reduceSub, List.replicate_succ, List.replicate_zero, Tryz.ntmps112]
  rcases Nat.lt_or_ge 64 k.length with h | h
  · have h' : (64 : Int) < (k.length : Int) := by omega
    have hkl : keyL k = shaOf k := by rw [keyL, if_pos h]
    rw [hkl] at m1 m2
    generalize shaOf k = q at *
    repeat' first | simp -implicitDefEqProofs (maxSteps := 400000) (disch := first | with_reducible rfl | omega | (simp only [wkH] <;> omega) | decide) only [wkAll, wkL, popO, wantedP, binP, lenP, builtinP, gt_iff_lt, if_pos, tf9, h'] | refine w_pure (h0) ?_ | refine w_pure (m1) ?_ | refine w_pure (m2) ?_ | refine w_pure (h1) ?_ | refine w_pure (h2) ?_ | refine w_dec (fun _ => ?_) (fun _ => ?_) | refine w_eqc (fun _ => ?_) (fun _ => ?_) | refine w_neqc (fun _ => ?_) (fun _ => ?_) | refine w_nneqc (fun _ => ?_) (fun _ => ?_) | ((first | refine w_split (fun h => ?_) (fun h => ?_) | refine d_split (fun h => ?_) (fun h => ?_) | refine w_csplit (fun h => ?_) (fun h => ?_)) <;> (try simp only [wkS] at h) <;> (have h2 := h) <;> (try simp only [wkT, ne_eq] at h2) <;> (try simp only [h]))
    refine hQ (by first | exact .inr rfl | exact .inl rfl) (by first | exact trivial | exact marks1) (by first | (simp -implicitDefEqProofs (maxSteps := 400000) (disch := first | with_reducible rfl | omega | (simp only [wkH] <;> omega) | decide) only [wkL, resP, resPs, resP1]; rfl) | rfl) ⟨6, by repeat' first | exact frz_scalar rfl | apply frz_tuple | apply frz_agg | apply frz_fsl | apply frz_gsl (by omega) | exact frzs_nil | apply frzs_cons⟩ (by first | exact keepsH0 | exact keeps1 (by assumption) | exact keepsH (fun _ _ h => h) (fun p hp => by simp only [upF]; (repeat rw [if_neg (by omega)])) | exact keeps1t (by assumption) (fun p hp => by simp only [upF]; (repeat rw [if_neg (by omega)])) | (subst hT; exact keepsH (fun _ _ h => h) fun _ _ => rfl)) (nw_eq ?_)
    rfl
  · have h' : ¬ (64 : Int) < (k.length : Int) := by omega
    have hkl : keyL k = k := by rw [keyL, if_neg (by omega)]
    rw [hkl] at m1 m2
    repeat' first | simp -implicitDefEqProofs (maxSteps := 400000) (disch := first | with_reducible rfl | omega | (simp only [wkH] <;> omega) | decide) only [wkAll, wkL, popO, wantedP, binP, lenP, builtinP, gt_iff_lt, if_pos, tf9, h'] | refine w_pure (m1) ?_ | refine w_pure (m2) ?_ | refine w_pure (h1) ?_ | refine w_pure (h2) ?_ | refine w_dec (fun _ => ?_) (fun _ => ?_) | refine w_eqc (fun _ => ?_) (fun _ => ?_) | refine w_neqc (fun _ => ?_) (fun _ => ?_) | refine w_nneqc (fun _ => ?_) (fun _ => ?_) | ((first | refine w_split (fun h => ?_) (fun h => ?_) | refine d_split (fun h => ?_) (fun h => ?_) | refine w_csplit (fun h => ?_) (fun h => ?_)) <;> (try simp only [wkS] at h) <;> (have h2 := h) <;> (try simp only [wkT, ne_eq] at h2) <;> (try simp only [h]))
    refine hQ (by first | exact .inr rfl | exact .inl rfl) (by first | exact trivial | exact marks1) (by first | (simp -implicitDefEqProofs (maxSteps := 400000) (disch := first | with_reducible rfl | omega | (simp only [wkH] <;> omega) | decide) only [wkL, resP, resPs, resP1]; rfl) | rfl) ⟨6, by repeat' first | exact frz_scalar rfl | apply frz_tuple | apply frz_agg | apply frz_fsl | apply frz_gsl (by omega) | exact frzs_nil | apply frzs_cons⟩ (by first | exact keepsH0 | exact keeps1 (by assumption) | exact keepsH (fun _ _ h => h) (fun p hp => by simp only [upF]; (repeat rw [if_neg (by omega)])) | exact keeps1t (by assumption) (fun p hp => by simp only [upF]; (repeat rw [if_neg (by omega)])) | (subst hT; exact keepsH (fun _ _ h => h) fun _ _ => rfl)) (nw_eq ?_)
    rfl
theorem refMac_ok (k s : List UInt8) (hk : k.length < 2 ^ 44) (hs : s.length < 2 ^ 44) : Fn (Cx w0) 94 [.str k, .str s] (.str (macL k s)) := by
  have m1 := refMasked_ok (w0 := w0) (keyL k) (keyL_len k) 0x5c
  have m2 := refMasked_ok (w0 := w0) (keyL k) (keyL_len k) 0x36
  rw [show (((0x5c : UInt8).toNat : Nat) : Int) = 92 from rfl] at m1
  rw [show (((0x36 : UInt8).toNat : Nat) : Int) = 54 from rfl] at m2
  have hm : macL k s = shaOf (maskL (keyL k) 0x5c ++ shaOf (maskL (keyL k) 0x36 ++ s)) := rfl
  have l1 := maskL_len (keyL k) 0x5c (keyL_len k)
  have l2 := maskL_len (keyL k) 0x36 (keyL_len k)
  have h1 := refOf_ok (w0 := w0) (maskL (keyL k) 0x36 ++ s) (by rw [List.length_append, l2]; omega)
  have l3 := of_len (maskL (keyL k) 0x36 ++ s)
  have h2 := refOf_ok (w0 := w0) (maskL (keyL k) 0x5c ++ shaOf (maskL (keyL k) 0x36 ++ s)) (by rw [List.length_append, l1, l3]; omega)
  rw [← hm] at h2
  generalize maskL (keyL k) 0x36 = x2 at *
  generalize maskL (keyL k) 0x5c = x1 at *
  generalize shaOf (x2 ++ s) = y at *
  clear hm
  generalize macL k s = z at *
  have h0 := refOf_ok (w0 := w0) k (by omega)
  refine fn_H ([Go.ResultVar.tmp 4]) Tryz.func94 rfl rfl (by decide) fun ph hW Q hQ => ?_
  simp only [start, List.length_cons, List.length_nil, List.cons_append, List.nil_append, Nat.reduceAdd, Nat.reduceSub, List.replicate_succ, List.replicate_zero, Tryz.ntmps94]
  rcases Nat.lt_or_ge 64 k.length with h | h
  · have h' : (64 : Int) < (k.length : Int) := by omega
    have hkl : keyL k = shaOf k := by rw [keyL, if_pos h]
    rw [hkl] at m1 m2
    generalize shaOf k = q at *
    repeat' first | simp -implicitDefEqProofs (maxSteps := 400000) (disch := first | with_reducible rfl | omega | (simp only [wkH] <;> omega) | decide) only [wkAll, wkL, popO, wantedP, binP, lenP, builtinP, gt_iff_lt, if_pos, tf9, h'] | refine w_pure (h0) ?_ | refine w_pure (m1) ?_ | refine w_pure (m2) ?_ | refine w_pure (h1) ?_ | refine w_pure (h2) ?_ | refine w_dec (fun _ => ?_) (fun _ => ?_) | refine w_eqc (fun _ => ?_) (fun _ => ?_) | refine w_neqc (fun _ => ?_) (fun _ => ?_) | refine w_nneqc (fun _ => ?_) (fun _ => ?_) | ((first | refine w_split (fun h => ?_) (fun h => ?_) | refine d_split (fun h => ?_) (fun h => ?_) | refine w_csplit (fun h => ?_) (fun h => ?_)) <;> (try simp only [wkS] at h) <;> (have h2 := h) <;> (try simp only [wkT, ne_eq] at h2) <;> (try simp only [h]))
    refine hQ (by first | exact .inr rfl | exact .inl rfl) (by first | exact trivial | exact marks1) (by first | (simp -implicitDefEqProofs (maxSteps := 400000) (disch := first | with_reducible rfl | omega | (simp only [wkH] <;> omega) | decide) only [wkL, resP, resPs, resP1]; rfl) | rfl) ⟨6, by repeat' first | exact frz_scalar rfl | apply frz_tuple | apply frz_agg | apply frz_fsl | apply frz_gsl (by omega) | exact frzs_nil | apply frzs_cons⟩ (by first | exact keepsH0 | exact keeps1 (by assumption) | exact keepsH (fun _ _ h => h) (fun p hp => by simp only [upF]; (repeat rw [if_neg (by omega)])) | exact keeps1t (by assumption) (fun p hp => by simp only [upF]; (repeat rw [if_neg (by omega)])) | (subst hT; exact keepsH (fun _ _ h => h) fun _ _ => rfl)) (nw_eq ?_)
    rfl
  · have h' : ¬ (64 : Int) < (k.length : Int) := by omega
    have hkl : keyL k = k := by rw [keyL, if_neg (by omega)]
    rw [hkl] at m1 m2
    repeat' first | simp -implicitDefEqProofs (maxSteps := 400000) (disch := first | with_reducible rfl | omega | (simp only [wkH] <;> omega) | decide) only [wkAll, wkL, popO, wantedP, binP, lenP, builtinP, gt_iff_lt, if_pos, tf9, h'] | refine w_pure (m1) ?_ | refine w_pure (m2) ?_ | refine w_pure (h1) ?_ | refine w_pure (h2) ?_ | refine w_dec (fun _ => ?_) (fun _ => ?_) | refine w_eqc (fun _ => ?_) (fun _ => ?_) | refine w_neqc (fun _ => ?_) (fun _ => ?_) | refine w_nneqc (fun _ => ?_) (fun _ => ?_) | ((first | refine w_split (fun h => ?_) (fun h => ?_) | refine d_split (fun h => ?_) (fun h => ?_) | refine w_csplit (fun h => ?_) (fun h => ?_)) <;> (try simp only [wkS] at h) <;> (have h2 := h) <;> (try simp only [wkT, ne_eq] at h2) <;> (try simp only [h]))
    refine hQ (by first | exact .inr rfl | exact .inl rfl) (by first | exact trivial | exact marks1) (by first | (simp -implicitDefEqProofs (maxSteps := 400000) (disch := first | with_reducible rfl | omega | (simp only [wkH] <;> omega) | decide) only [wkL, resP, resPs, resP1]; rfl) | rfl) ⟨6, by repeat' first | exact frz_scalar rfl | apply frz_tuple | apply frz_agg | apply frz_fsl | apply frz_gsl (by omega) | exact frzs_nil | apply frzs_cons⟩ (by first | exact keepsH0 | exact keeps1 (by assumption) | exact keepsH (fun _ _ h => h) (fun p hp => by simp only [upF]; (repeat rw [if_neg (by omega)])) | exact keeps1t (by assumption) (fun p hp => by simp only [upF]; (repeat rw [if_neg (by omega)])) | (subst hT; exact keepsH (fun _ _ h => h) fun _ _ => rfl)) (nw_eq ?_)
    rfl
end Pv

namespace Pv
open Go
set_option maxRecDepth 100000
end Pv
