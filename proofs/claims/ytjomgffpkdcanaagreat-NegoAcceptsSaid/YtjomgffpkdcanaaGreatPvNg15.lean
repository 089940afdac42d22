/- Part of the proof: the layer of pure values, or walks through functions (PvNg15, PvEntry4, PvNg16, PvKe7, PvKe8, PvNg17, PvKe9, PvNgP, PvNg18, PvNg25). -/
import Derived.Test.YtjomgffpkdcanaaGreatPvNg14
import Derived.Test.YtjomgffpkdcanaaGreatPvNg11
import Derived.Test.YtjomgffpkdcanaaGreatPvNg5
import Derived.Test.YtjomgffpkdcanaaGreatPvNg12
import Derived.Test.YtjomgffpkdcanaaGreatPvSha9
import Derived.Test.YtjomgffpkdcanaaGreatPvKe5
import Derived.Test.YtjomgffpkdcanaaGreatPvSha6
import Derived.Test.YtjomgffpkdcanaaGreatPvNg23
set_option linter.all false
--nosplit
--keep2
namespace Pv
set_option maxRecDepth 20000
set_option maxHeartbeats 4000000
open Go Go.Proofs Go.RowKit
variable {w0 : World}

def awL : List KR := [⟨true, 1, [0, 0]⟩, ⟨true, 4, [0, 15]⟩, ⟨true, 0, []⟩]
def awC : List UInt8 := [99, 111, 111, 107]
def awA : List KR := [⟨true, 1, [0, 0]⟩, ⟨true, 4, [0, 15]⟩, ⟨false, 5, awC⟩, ⟨true, 0, []⟩]
def awB : List KR := [⟨true, 2, [0, 0]⟩, ⟨true, 0, []⟩]
theorem aw19_a : ask0L [15] = (awL, 0) := by decide +kernel
theorem aw19_b : ansL [17, 15] [awC] [] 0 awL = (awA, 15) := by decide +kernel
theorem aw19_c : ansL [] [] [] 0 (⟨true, 99, []⟩ :: awL) = (awB, 0) := by decide +kernel
theorem awake19_ok : Fn (Cx w0) 6 [] (.bool true) := by
  have t1 := negoAsk0_ok (w0 := w0) [15] (by decide)
  rw [aw19_a] at t1
  have t2 := negoAnswer_ok (w0 := w0) [17, 15] [awC] [] 0 awL (by decide) (by decide) (by decide) (by decide) (by decide) (by decide)
  rw [aw19_b] at t2
  have t3 := negoAnswer_ok (w0 := w0) [] [] [] 0 (⟨true, 99, []⟩ :: awL) (by decide) (by decide) (by decide) (by decide) (by decide) (by decide)
  rw [aw19_c] at t3
  refine fn_H ([Go.ResultVar.tmp 0]) Tryz.func6 rfl rfl (by decide) fun ph hW Q hQ => ?_
  simp only [start, List.length_nil, List.nil_append, Nat.reduceSub, List.replicate_succ, List.replicate_zero, Tryz.ntmps6]
  repeat' first | simp -implicitDefEqProofs (maxSteps := 400000) (disch := first | with_reducible rfl | omega | (simp only [wkH] <;> omega) | decide) only [wkAll, wkL, popO, wantedP, ne_eq, Nat.reduceLeDiff, Nat.reduceLT, buildSliceP, fillP, setL, gt_iff_lt, Nat.reducePow, reps, if_pos, if_neg, tf3, Tryz.ze3, tf22]
  refine w_frz (p := ph.n) (cells := [.int .i64 15]) (args' := [.fsl 1 1 [.int .i64 15], .str [], .int .i64 0]) (by rw [h_get0]; rfl) ⟨.inr ⟨0, 1, 1, some 1, rfl, rfl, by simp⟩, .inl rfl, .inl rfl, trivial⟩ ?_
  repeat' first | simp -implicitDefEqProofs (maxSteps := 400000) (disch := first | with_reducible rfl | omega | (simp only [wkH] <;> omega) | decide) only [wkAll, wkL, popO, wantedP, ne_eq, Nat.reduceAdd, Nat.reduceLeDiff, Nat.reduceLT, buildP, buildSliceP, placeF, fillP, setL, gt_iff_lt, Nat.reducePow, reps, if_pos, if_neg, tf3, Tryz.ze3, tf9, Tryz.ze9, tf22, tf23, tf25, Tryz.ze25] | refine w_pure (t1) ?_
  refine w_frzC 1 [.int .i64 17, .int .i64 15] (args' := [.agg [.fsl 1 2 [.int .i64 17, .int .i64 15], .str [], .int .i64 0, .sl (ph.n + 2) 0 1 1 (some 1)], .fsl 3 awL.length (krsC awL)]) (l' := [none, none, some (.own [.str [99, 111, 111, 107]])]) rfl ⟨.inr (.inr ⟨_, _, rfl, rfl, .inr ⟨0, 1, 2, some 2, rfl, rfl, by simp⟩, .inl rfl, .inl rfl, .inl rfl, trivial⟩), .inl rfl, trivial⟩ FB.refl ?_
  refine w_frzC 2 [.str [99, 111, 111, 107]] (args' := [.agg [.fsl 1 2 [.int .i64 17, .int .i64 15], .str [], .int .i64 0, .fsl 1 1 [.str [99, 111, 111, 107]]], .fsl 3 awL.length (krsC awL)]) (l' := [none, none, none]) rfl ⟨.inr (.inr ⟨_, _, rfl, rfl, .inl rfl, .inl rfl, .inl rfl, .inr ⟨0, 1, 1, some 1, rfl, rfl, by simp⟩, trivial⟩), .inl rfl, trivial⟩ FB.refl ?_
  refine w_pure t2 ?_
  repeat' first | simp -implicitDefEqProofs (maxSteps := 400000) (disch := first | with_reducible rfl | omega | (simp only [wkH] <;> omega) | decide) only [wkAll, wkL, popO, wantedP, ne_eq, Nat.reduceAdd, Nat.reduceLeDiff, Nat.reduceLT, reduceCtorEq, builtinP, appendT, appendP, srcP, buildP, buildSliceP, placeF, fillP, setL, gt_iff_lt, Nat.reducePow, reps, seg, if_pos, if_neg, tf25, Tryz.ze25, tf26, tf46, Tryz.ze46]
  refine PCalls.args (args' := [.agg [.fsl 1 0 [], .str [], .int .i64 0, .fsl 1 0 []], .sl (ph.n + 4) 0 3 4 none]) (nws_cons (nw_agg (nws_cons nw_nil (nws_cons (nw_eq rfl) (nws_cons (nw_eq rfl) (nws_cons nw_nil nws_nil))))) (nws_cons (nw_eq rfl) nws_nil)) ?_
  refine w_frz (p := ph.n + 4) (cells := krsC (⟨true, 99, []⟩ :: awL)) (args' := [.agg [.fsl 1 0 [], .str [], .int .i64 0, .fsl 1 0 []], .fsl 3 4 (krsC (⟨true, 99, []⟩ :: awL))]) (by rw [h_get]; rfl) ⟨.inl rfl, .inr ⟨0, 3, 4, none, rfl, rfl, by decide⟩, trivial⟩ ?_
  refine w_pure t3 ?_
  have kz : keysL 0 [] 15 = ([], [], 14) := by decide +kernel
  have ez : tlL 0 [] [] [] 1 = ([], 14) := by decide +kernel
  repeat' first | simp -implicitDefEqProofs (maxSteps := 400000) (disch := first | with_reducible rfl | omega | (simp only [wkH] <;> omega) | decide) only [wkAll, wkL, popO, wantedP, Nat.reduceAdd, Nat.reduceMul, Nat.reduceLeDiff, Int.reduceLE, Int.reduceLT, Int.reduceToNat, binP, lenP, builtinP, indexAddrOp, loadOp, loadP, fieldAddrOp, buildP, placeF, fillP, PK.agg, seg, wkN, if_pos, if_neg, tf3, tf9, tf26, tf46, tf60, Tryz.ze60, kz, ez, awL, awA, awB, awC, krsC, krC, List.flatMap_cons, List.flatMap_nil] | refine w_pure (negoKeys_ok (w0 := w0) _ 0 15 [] [] [] [] _ rfl rfl rfl rfl (fun m => by simp [scs_cons, scs_nil, sc_str, sc_int, sc_bool, sc_nilsl])) ?_ | refine w_pure (refExport16_ok (w0 := w0) _ 0 [] [] [] [] [] [] _ 1 rfl rfl rfl rfl (by decide) (by decide)) ?_
  refine hQ (by first | exact .inr rfl | exact .inl rfl) (by first | exact trivial | exact marks1) (by first | (simp -implicitDefEqProofs (maxSteps := 400000) (disch := first | with_reducible rfl | omega | (simp only [wkH] <;> omega) | decide) only [wkL, resP, resPs, resP1]; rfl) | rfl) ⟨6, by repeat' first | exact frz_scalar rfl | apply frz_tuple | apply frz_agg | apply frz_fsl | apply frz_gsl (by omega) | exact frzs_nil | apply frzs_cons⟩ (by first | exact keepsH0 | exact keeps1 (by assumption)) (nw_eq ?_)
  rfl
end Pv

/- Arguments with the bound of their reach upon every text in them. -/
namespace Pv
open Go Go.RowKit
inductive BdV : PV → Prop
  | int (k : IntKind) (n : Int) : BdV (.int k n)
  | bool (b : Bool) : BdV (.bool b)
  | str (l : List UInt8) (h : l.length < 2 ^ 47) : BdV (.str l)
  | fsl (e len : Nat) (cells : List PV) (h : ∀ c ∈ cells, BdV c) : BdV (.fsl e len cells)
theorem weightsAll_mem {H : Type} {P : Program} {e : TypeId} {l : List (DataW H × List MemPlace)} {x : DataW H × List MemPlace} {n : Nat} (hx : x ∈ l) (hn : n ∈ x.1.weights P e) : n ∈ DataW.weightsAll P e (l.map (·.1)) := by
  induction l with
  | nil => cases hx
  | cons y l ih =>
    rw [List.map_cons, DataW.weightsAll]
    rcases List.mem_cons.1 hx with rfl | h
    · exact List.mem_append_left _ hn
    · exact List.mem_append_right _ (ih h)
section
variable {H : Type} {enc : TypeId × Value → H} {P : Program} {w : World} {base : Nat} {spare : Nat → Bool} {held : Bool}

theorem trod_structB {fuel : Nat} {t : TypeId} {fs : Array Field} {cs : List Value} {x : DataW H × List MemPlace} (hu : P.underlying t = some (.struct fs)) (h : DataW.trod enc P w base spare held fuel t cs = some x) :
    ∃ m xs, fuel = m + 1 ∧ cs.length = P.cellsOf t ∧ (fs.toList.mapM fun f => DataW.trod enc P w base spare held m f.type ((cs.drop f.offset).take (P.cellsOf f.type))) = some xs ∧ x.1 = .agg (xs.map (·.1)) := by
  cases fuel with
  | zero => simp [DataW.trod] at h
  | succ m =>
    unfold DataW.trod at h
    rw [hu] at h
    split at h <;> simp_all
    obtain ⟨hl, xs, hp, hd⟩ := h
    exact ⟨xs, hp, by rw [← hd]⟩

theorem trod_arrB {fuel n : Nat} {t e : TypeId} {cs : List Value} {x : DataW H × List MemPlace} (hu : P.underlying t = some (.array n e)) (h : DataW.trod enc P w base spare held fuel t cs = some x) :
    ∃ (xs : List (DataW H × List MemPlace)) (m : Nat), fuel = m + 1 ∧ cs.length = P.cellsOf t ∧ xs.length = n ∧ (∀ (i : Nat), i < n → DataW.trod enc P w base spare held m e ((cs.drop (i * P.cellsOf e)).take (P.cellsOf e)) = xs[i]?) ∧ x.1 = .agg (xs.map (·.1)) := by
  cases fuel with
  | zero => simp [DataW.trod] at h
  | succ m =>
    unfold DataW.trod at h
    rw [hu] at h
    split at h <;> simp_all
    obtain ⟨hl, xs, hp, hd⟩ := h
    exact ⟨xs, by simpa using mapM_some_length hp, fun i hi => mapM_some_get hp i i (by simp [hi]), by rw [← hd]⟩

theorem trod_rvb : ∀ (d fuel : Nat) (t : TypeId) (cs : List Value) (x : DataW H × List MemPlace) (ks : List FK), DataW.trod enc P w base spare held fuel t cs = some x → shP P d t = some ks → (∀ n ∈ x.1.weights P t, n ≤ reachBytes) →
    ∃ ps, RVs (G0 w) ps cs ∧ OkL ks ps ∧ ∀ p ∈ ps, BdV p := by
  intro d
  induction d with
  | zero => intro fuel t cs x ks _ h; simp [shP] at h
  | succ d ih =>
    intro fuel t cs x ks hx hk hw
    unfold shP at hk
    split at hk
    · rename_i hu; cases hk
      cases fuel with
      | zero => simp [DataW.trod] at hx
      | succ fuel =>
        unfold DataW.trod at hx; rw [hu] at hx
        split at hx <;> simp_all
        exact ⟨_, .cons _ _ _ _ (.bool _) .nil, .cons _ _ _ _ (.bool _) .nil, by simpa using BdV.bool _⟩
    · rename_i k hu; cases hk
      cases fuel with
      | zero => simp [DataW.trod] at hx
      | succ fuel =>
        unfold DataW.trod at hx; rw [hu] at hx
        split at hx <;> simp_all
        obtain ⟨⟨h1, h2⟩, h3⟩ := hx
        subst h1
        exact ⟨_, .cons _ _ _ _ (.int _ _) .nil, .cons _ _ _ _ (.int _ _ h2) .nil, by simpa using BdV.int _ _⟩
    · rename_i hu; cases hk
      cases fuel with
      | zero => simp [DataW.trod] at hx
      | succ fuel =>
        obtain ⟨s, rfl, e2, -⟩ := DataW.trod_string hu hx
        have hlen : s.data.toList.length ≤ maxLen := by
          unfold DataW.trod at hx; rw [hu] at hx
          split at hx <;> simp_all
        have hb := hw s.data.toList.length (by rw [e2]; simp [DataW.weights])
        have := reachBytes_lt
        exact ⟨_, .cons _ _ _ _ (.str _ _ rfl) .nil, .cons _ _ _ _ (.str s.data.toList hlen) .nil, by simpa using BdV.str s.data.toList (by omega)⟩
    · rename_i e hu
      split at hk
      · rename_i row hrow
        split at hk
        · rename_i hc; cases hk
          rcases DataW.trod_slice hu hx with ⟨rfl, -⟩ | ⟨a, len, cap, elems, rest, n, -, rfl, hxe, -, hlc, hcm, hel, heach, -, -⟩
          · exact ⟨_, .cons _ _ _ _ (.fslnil _) .nil, .cons _ _ _ _ (.sl row 0 [] (by decide) (.nil _)) .nil, by simpa using BdV.fsl _ _ [] (by simp)⟩
          · have hsp : 0 < len → a.spot = none := by
              intro hl
              have h0 := heach 0 hl
              rw [List.getElem?_eq_getElem (by omega)] at h0
              obtain ⟨cs', hcs, -⟩ := Option.bind_eq_some_iff.1 h0
              have hl' := (World.cells?_some hcs).2.1
              have := (cells_f hcs 0 _ (List.getElem?_eq_getElem (by omega))).2
              simpa [Addr.add] using this
            have hwe : ∀ e' ∈ elems, ∀ n ∈ e'.1.weights P e, n ≤ reachBytes := by
              intro e' he' n hn
              refine hw n ?_
              rw [hxe]
              simp only [DataW.weights, hu]
              exact List.mem_cons_of_mem _ (List.mem_append_left _ (weightsAll_mem he' hn))
            have key : ∀ m, m ≤ len → ∃ (ps : List PV) (vs : List Value), RVs (G0 w) ps vs ∧ (∀ j v, vs[j]? = some v → (G0 w).f ⟨a.block, a.off + j, none⟩ = some v ∧ a.spot = none) ∧ vs.length = m * row.length ∧ ∃ rows : List (List PV), rows.length = m ∧ (∀ c ∈ rows, OkL row c) ∧ rows.flatten = ps ∧ ∀ p ∈ ps, BdV p := by
              intro m
              induction m with
              | zero => intro _; exact ⟨[], [], .nil, by simp, by simp, [], rfl, by simp, rfl, by simp⟩
              | succ m ihm =>
                intro hm
                obtain ⟨ps, vs, h1, h2, h3, rows, h4, h5, h6, h7⟩ := ihm (by omega)
                have hme := heach m (by omega)
                have : m < elems.length := by omega
                rw [List.getElem?_eq_getElem this] at hme
                obtain ⟨cs', hcs, ht⟩ := Option.bind_eq_some_iff.1 hme
                obtain ⟨qs, g1, g2, g3⟩ := ih _ _ _ _ _ ht hrow (hwe _ (List.getElem_mem _))
                have hf := cells_f hcs
                refine ⟨ps ++ qs, vs ++ cs', h1.append g1, ?_, ?_, rows ++ [qs], by simp [h4], ?_, by simp [h6], fun p hp => (List.mem_append.1 hp).elim (h7 p) (g3 p)⟩
                · intro j v hj
                  by_cases hlt : j < vs.length
                  · rw [List.getElem?_append_left hlt] at hj; exact h2 j v hj
                  · rw [List.getElem?_append_right (by omega)] at hj
                    have := hf _ _ hj
                    rw [add_none (hsp (by omega))] at this
                    refine ⟨?_, hsp (by omega)⟩
                    rw [← this.1]
                    have e1 : a.off + j = a.off + m * P.cellsOf e + (j - vs.length) := by rw [← hc.1]; omega
                    rw [e1]
                · have := (World.cells?_some hcs).2.1
                  simp [h3, this, ← hc.1, Nat.succ_mul]
                · intro c hcm'
                  rcases List.mem_append.1 hcm' with h | h
                  · exact h5 c h
                  · simp at h; subst h; exact g2
            obtain ⟨ps, vs, h1, h2, h3, rows, h4, h5, h6, h7⟩ := key len (Nat.le_refl _)
            have hR : OkR row len ps := by
              rw [← h6, ← h4]
              clear h4 h6 h1 h3 h7 heach key
              induction rows with
              | nil => exact .nil _
              | cons c rows ihr => exact .cons _ _ _ _ (h5 c (by simp)) (ihr fun c' h => h5 c' (List.mem_cons_of_mem _ h))
            refine ⟨_, .cons _ _ _ _ (.fsl row.length len ps vs a cap h1 hlc hR.length ?_ fun j v hj => (h2 j v hj).1) .nil, .cons _ _ _ _ (.sl row len ps (by omega) hR) .nil, by simpa using BdV.fsl _ _ ps h7⟩
            intro hl
            have : 0 < vs.length := by rw [h3]; exact Nat.mul_pos hl hc.2
            exact (h2 0 _ (List.getElem?_eq_getElem this)).2
        · cases hk
      · cases hk
    · rename_i fs hu
      split at hk
      · rename_i ks' hgo
        split at hk
        · rename_i hlen; cases hk
          obtain ⟨fuel, xs, -, hcl, hm, hxe⟩ := trod_structB hu hx
          have go : ∀ (fl : List Field) (off : Nat) (ks : List FK) (xs : List (DataW H × List MemPlace)), shGo P (shP P d) fl off = some ks → (fl.mapM fun f => DataW.trod enc P w base spare held fuel f.type ((cs.drop f.offset).take (P.cellsOf f.type))) = some xs → off + ks.length ≤ cs.length → (∀ n ∈ DataW.weightsEach P (fl.map (·.type)) (xs.map (·.1)), n ≤ reachBytes) →
              ∃ ps, RVs (G0 w) ps ((cs.drop off).take ks.length) ∧ OkL ks ps ∧ ∀ p ∈ ps, BdV p := by
            intro fl
            induction fl with
            | nil =>
              intro off ks xs hg _ _ _
              simp only [shGo, Option.some.injEq] at hg
              subst hg
              exact ⟨[], by simpa using RVs.nil, .nil, by simp⟩
            | cons f fl ihf =>
              intro off ks xs hg hmm hle hww
              unfold shGo at hg
              split at hg
              · rename_i hoff
                split at hg
                · rename_i k1 hk1
                  split at hg
                  · rename_i hk1l
                    simp only [Option.map_eq_some_iff] at hg
                    obtain ⟨k2, hk2, rfl⟩ := hg
                    rw [List.mapM_cons] at hmm
                    simp only [Option.bind_eq_bind, Option.bind_eq_some_iff, Option.pure_def, Option.some.injEq] at hmm
                    obtain ⟨y, hy, ys, hys, rfl⟩ := hmm
                    simp only [List.map_cons, DataW.weightsEach, List.mem_append] at hww
                    obtain ⟨p1, r1, o1, b1⟩ := ih _ _ _ _ _ hy hk1 (fun n hn => hww n (.inl hn))
                    simp only [List.length_append] at hle
                    obtain ⟨p2, r2, o2, b2⟩ := ihf _ _ _ hk2 hys (by omega) (fun n hn => hww n (.inr hn))
                    refine ⟨p1 ++ p2, ?_, o1.append o2, fun p hp => (List.mem_append.1 hp).elim (b1 p) (b2 p)⟩
                    rw [List.length_append, List.take_add, List.drop_drop]
                    rw [hoff, ← hk1l] at r1
                    exact r1.append r2
                  · cases hg
                · cases hg
              · cases hg
          obtain ⟨ps, r, o, b⟩ := go _ _ _ _ hgo hm (by omega) (fun n hn => hw n (by rw [hxe]; simp only [DataW.weights, hu]; exact hn))
          refine ⟨ps, ?_, o, b⟩
          rw [List.drop_zero, List.take_of_length_le (by omega)] at r
          exact r
        · cases hk
      · cases hk
    · rename_i n e hu
      split at hk
      · rename_i row hrow
        split at hk
        · rename_i hc; cases hk
          obtain ⟨xs, m, -, hcl, hxl, heach, hxe⟩ := trod_arrB hu hx
          have hwe : ∀ e' ∈ xs, ∀ n ∈ e'.1.weights P e, n ≤ reachBytes := fun e' he' n hn => hw n (by rw [hxe]; simp only [DataW.weights, hu]; exact weightsAll_mem he' hn)
          have key : ∀ i, i ≤ n → ∃ ps, RVs (G0 w) ps (cs.take (i * row.length)) ∧ OkL ((List.replicate i row).flatten) ps ∧ ∀ p ∈ ps, BdV p := by
            intro i
            induction i with
            | zero => intro _; exact ⟨[], by simpa using RVs.nil, .nil, by simp⟩
            | succ i ihi =>
              intro hi
              obtain ⟨ps, h1, h2, h3⟩ := ihi (by omega)
              have he := heach i (by omega)
              rw [List.getElem?_eq_getElem (by omega)] at he
              obtain ⟨qs, g1, g2, g3⟩ := ih _ _ _ _ _ he hrow (hwe _ (List.getElem_mem _))
              rw [← hc.1] at g1
              refine ⟨ps ++ qs, ?_, ?_, fun p hp => (List.mem_append.1 hp).elim (h3 p) (g3 p)⟩
              · rw [Nat.succ_mul, List.take_add]; exact h1.append g1
              · rw [List.replicate_succ', List.flatten_append]; simpa using h2.append g2
          obtain ⟨ps, h1, h2, h3⟩ := key n (Nat.le_refl _)
          refine ⟨ps, ?_, h2, h3⟩
          rw [List.take_of_length_le (by rw [hcl, ← hc.2]; exact Nat.le_refl _)] at h1
          exact h1
        · cases hk
      · cases hk
    · cases hk
end
section
variable {H : Type} {enc : TypeId × Value → H} {P : Program} {w : World} {spare : Nat → Bool} {held : Bool} {t : TypeId} {v : Value} {d : DataW H} {ps : List MemPlace} {base : Nat} {ks : List FK}
theorem weights_le {ts : List TypeId} {ds : List (DataW H)} (hsz : (DataW.weightsEach P ts ds).all (· ≤ reachBytes) = true) {j : Nat} (ht : ts[j]? = some t) (hd : ds[j]? = some d) : ∀ n ∈ d.weights P t, n ≤ reachBytes := fun n hn => by
  have := List.all_eq_true.1 hsz _ (DataW.weights_mem_each ht hd n hn)
  simpa using this
theorem open_stB {fs : Array Field} {ts : List TypeId} {ds : List (DataW H)} (hu : P.underlying t = some (.struct fs)) (hv : Value.okWide P w .any base t v) (h : DataW.Trod enc P w 0 spare held t v d ps) (hs : shP P 20 t = some ks) (hsz : (DataW.weightsEach P ts ds).all (· ≤ reachBytes) = true) {j : Nat} (ht : ts[j]? = some t) (hd : ds[j]? = some d) : ∃ cells, OkL ks cells ∧ (∀ p ∈ cells, BdV p) ∧ RV (G0 w) (.agg cells) v := by
  obtain ⟨fuel, hf⟩ := h
  obtain ⟨cells, hr, ho, hb⟩ := trod_rvb _ _ _ _ _ _ hf hs (weights_le hsz ht hd)
  obtain ⟨cs, rfl, -⟩ := Go.WideShapes.okWide_struct hu hv
  refine ⟨cells, ho, hb, ?_⟩
  have : cs = cs.toList.toArray := by simp
  rw [this]
  exact .agg _ _ hr
theorem open_slB {e : TypeId} {row : List FK} {ts : List TypeId} {ds : List (DataW H)} (hu : P.underlying t = some (.slice e)) (hv : Value.okWide P w .any base t v) (h : DataW.Trod enc P w 0 spare held t v d ps) (hs : shP P 20 t = some [.sl row]) (hsz : (DataW.weightsEach P ts ds).all (· ≤ reachBytes) = true) {j : Nat} (ht : ts[j]? = some t) (hd : ds[j]? = some d) : ∃ len cells, len ≤ maxLen ∧ OkR row len cells ∧ (∀ p ∈ cells, BdV p) ∧ RV (G0 w) (.fsl row.length len cells) v := by
  obtain ⟨fuel, hf⟩ := h
  obtain ⟨cells, hr, ho, hb⟩ := trod_rvb _ _ _ _ _ _ hf hs (weights_le hsz ht hd)
  obtain ⟨a, l, c, rfl⟩ := Go.WideShapes.okWide_slice hu hv
  have hc : (Value.slice a l c).cells = #[.slice a l c] := rfl
  rw [hc] at hr
  cases ho with
  | cons _ _ p ps h1 h2 =>
    cases h2
    cases hr with
    | cons _ _ _ _ g1 g2 =>
      have hb1 := hb p (by simp)
      cases h1 with
      | sl _ len cells hl hc => cases hb1 with | fsl _ _ _ hb2 => exact ⟨len, cells, hl, hc, hb2, g1⟩
end
end Pv

--nosplit
--keep2
namespace Pv
set_option maxRecDepth 20000
set_option maxHeartbeats 4000000
open Go Go.Proofs Go.RowKit
variable {w0 : World}

end Pv

namespace Pv
set_option maxRecDepth 20000
set_option maxHeartbeats 4000000
open Go Go.Proofs Go.RowKit
variable {w0 : World}

end Pv

namespace Pv
open Go Go.Proofs Go.RowKit

theorem okR_krs : ∀ {n : Nat} {ps : List PV}, OkR [.bool, .int .i64, .str] n ps → ∃ l : List KR, ps = krsC l ∧ l.length = n ∧ ∀ r ∈ l, r.b.length ≤ maxLen
  | _, _, .nil _ => ⟨[], rfl, rfl, by simp⟩
  | _, _, .cons _ _ _ _ h hs => by
    obtain ⟨l, rfl, rfl, hl⟩ := okR_krs hs
    cases h with
    | cons _ _ _ _ h1 h => cases h with
      | cons _ _ _ _ h2 h => cases h with
        | cons _ _ _ _ h3 h => cases h with
          | nil =>
            cases h1; cases h2; cases h3
            rename_i c k hk b hb
            exact ⟨⟨c, k, b⟩ :: l, by simp [krsC, krC], rfl, by simpa using ⟨hb, hl⟩⟩
theorem okR_ints : ∀ {n : Nat} {ps : List PV}, OkR [.int .i64] n ps → ∃ l : List Int, ps = intsC l ∧ l.length = n
  | _, _, .nil _ => ⟨[], rfl, rfl⟩
  | _, _, .cons _ _ _ _ h hs => by
    obtain ⟨l, rfl, rfl⟩ := okR_ints hs
    cases h with
    | cons _ _ _ _ h1 h => cases h with
      | nil =>
        cases h1
        rename_i k hk
        exact ⟨k :: l, by simp [intsC], rfl⟩

end Pv

--nosplit
--keep2
namespace Pv
set_option maxRecDepth 20000
set_option maxHeartbeats 4000000
open Go Go.Proofs Go.RowKit
variable {w0 : World}

theorem few19_ok (n : Nat) (c : List PV) : Fn (Cx w0) 5 [.fsl 3 n c] (.bool (decide (n ≤ 500))) := by
  rw [show decide (n ≤ 500) = decide ((n : Int) ≤ 500) from decide_eq_decide.2 (by omega)]
  refine fn_H ([Go.ResultVar.tmp 2]) Tryz.func5 rfl rfl (by decide) fun ph hW Q hQ => ?_
  simp only [start, List.length_cons, List.length_nil, List.cons_append, List.nil_append, Nat.reduceAdd, Nat.reduceSub, List.replicate_succ, List.replicate_zero, Tryz.ntmps5]
  repeat' first | simp -implicitDefEqProofs (maxSteps := 400000) (disch := first | with_reducible rfl | omega | (simp only [wkH] <;> omega) | decide) only [wkAll, wkL, popO, wantedP, binP, lenP, builtinP, if_pos, tf26]
  refine hQ (by first | exact .inr rfl | exact .inl rfl) (by first | exact trivial | exact marks1) (by first | (simp -implicitDefEqProofs (maxSteps := 400000) (disch := first | with_reducible rfl | omega | (simp only [wkH] <;> omega) | decide) only [wkL, resP, resPs, resP1]; rfl) | rfl) ⟨6, by repeat' first | exact frz_scalar rfl | apply frz_tuple | apply frz_agg | apply frz_fsl | apply frz_gsl (by omega) | exact frzs_nil | apply frzs_cons⟩ (by first | exact keepsH0 | exact keeps1 (by assumption)) (nw_eq ?_)
  rfl
theorem okR_krsB {n : Nat} {ps : List PV} (h : OkR [.bool, .int .i64, .str] n ps) (hb : ∀ p ∈ ps, BdV p) : ∃ l : List KR, ps = krsC l ∧ l.length = n ∧ ∀ r ∈ l, r.b.length < 2 ^ 47 := by
  obtain ⟨l, rfl, h2, -⟩ := okR_krs h
  refine ⟨l, rfl, h2, fun r hr => ?_⟩
  have := hb (.str r.b) (List.mem_flatMap.2 ⟨r, hr, by simp [krC]⟩)
  cases this with | str _ h => exact h
end Pv

namespace Pv
set_option maxRecDepth 20000
open Go

/-! ### The plain laws of chapter 18 -/
/-- A record at the begin of t, t being at place a: what stands in it, and behind it. -/
inductive RD : Nat → List UInt8 → List KR → List UInt8 → Prop
  | fin {a : Nat} {t : List UInt8} {r : KR} (h : oneT a t = (r, 0)) (hk : r.k = 0) : RD a t [r] (t.drop (4 + r.b.length))
  | step {a : Nat} {t : List UInt8} {r : KR} {l : List KR} {rest : List UInt8} (h : oneT a t = (r, 0)) (hk : r.k ≠ 0) (hd : RD (a + 4 + r.b.length) (t.drop (4 + r.b.length)) l rest) : RD a t (r :: l) rest

inductive RE : Nat → List UInt8 → Int → Prop
  | here {a : Nat} {t : List UInt8} {r : KR} {e : Int} (h : oneT a t = (r, e)) (he : e ≠ 0) : RE a t e
  | step {a : Nat} {t : List UInt8} {r : KR} {e : Int} (h : oneT a t = (r, 0)) (hk : r.k ≠ 0) (hd : RE (a + 4 + r.b.length) (t.drop (4 + r.b.length)) e) : RE a t e

theorem RD.walk {s t : List UInt8} {a : Nat} {l pre : List KR} {rest : List UInt8} (h : RD a t l rest) (hw : Walk s a pre) (ht : t = s.drop a) : readL s = (pre ++ l, rest, 0) := by
  induction h generalizing pre with
  | fin h hk =>
    subst ht
    have := hw.fin (by rw [h]) (by rw [h]; exact hk)
    rw [h] at this
    rw [this]; simp [List.drop_drop, Nat.add_assoc]
  | step h hk hd ih =>
    subst ht
    have hw2 := hw.snoc (by rw [h]) (by rw [h]; exact hk)
    rw [h] at hw2
    have := ih hw2 (by simp [List.drop_drop, Nat.add_assoc])
    rw [this]; simp
theorem RE.walk {s t : List UInt8} {a : Nat} {pre : List KR} {e : Int} (h : RE a t e) (hw : Walk s a pre) (ht : t = s.drop a) : readL s = ([], [], e) := by
  induction h generalizing pre with
  | here h he =>
    subst ht
    have := hw.err (by rw [h]; exact he)
    rw [h] at this; exact this
  | step h hk hd ih =>
    subst ht
    have hw2 := hw.snoc (by rw [h]) (by rw [h]; exact hk)
    rw [h] at hw2
    exact ih hw2 (by simp [List.drop_drop, Nat.add_assoc])
theorem RD.read {s : List UInt8} {l : List KR} {rest : List UInt8} (h : RD 0 s l rest) : readL s = (l, rest, 0) := h.walk .nil rfl
theorem RE.read {s : List UInt8} {e : Int} (h : RE 0 s e) : readL s = ([], [], e) := h.walk .nil rfl

end Pv

namespace Pv
open Go Go.RowKit
end Pv

--nosplit
--keep2
namespace Pv
set_option maxRecDepth 20000
set_option maxHeartbeats 4000000
open Go Go.Proofs Go.RowKit
variable {w0 : World}

theorem okR_strsB : ∀ {n : Nat} {ps : List PV}, OkR [.str] n ps → ∃ l : List (List UInt8), ps = l.map PV.str ∧ l.length = n
  | _, _, .nil _ => ⟨[], rfl, rfl⟩
  | _, _, .cons _ _ _ _ h hs => by
    obtain ⟨l, rfl, rfl⟩ := okR_strsB hs
    cases h with
    | cons _ _ _ _ h1 h => cases h with
      | nil => cases h1 with | str s hs => exact ⟨s :: l, by simp, rfl⟩
end Pv

--nosplit
--keep2
namespace Pv
set_option maxRecDepth 20000
set_option maxHeartbeats 4000000
open Go Go.Proofs Go.RowKit
def tb4_5Ng25 : Tab := [[], [], [0, 1], [0, 1, 2], [0, 1, 2, 3], [0, 1, 2, 3], [0, 1, 2, 3, 4, 5], [0, 1, 2, 3, 4, 5, 6], [0, 1, 2, 3, 4, 5, 6, 7], [0, 1, 2, 3, 4, 5, 6, 7, 8], [0, 1, 2, 3, 4, 5, 6, 7, 8], [0, 1, 2, 3, 4, 5, 6, 7, 8, 9, 10], [0, 1, 2, 3, 4, 5, 6, 7, 8], [0, 1, 2, 3, 4, 5, 6, 7, 8], [0, 1, 2, 3, 4, 5, 6, 7, 8, 9, 10, 11, 12, 13], [0, 1, 2, 3, 4, 5, 6, 7, 8, 9, 10, 11, 12, 13, 14], [0, 1, 2, 3, 4, 5, 6, 7, 8, 9, 10, 11, 12, 13, 14, 15], [0, 1, 2, 3, 4, 5, 6, 7, 8, 9, 10, 11, 12, 13, 14, 15, 16], [0, 1, 2, 3, 4, 5, 6, 7, 8, 9, 10, 11, 12, 13, 14, 15, 16, 17], [0, 1, 2, 3, 4, 5, 6, 7, 8, 9, 10, 11, 12, 13, 14, 15, 16, 17], [0, 1, 2, 3, 4, 5, 6, 7, 8, 9, 10, 11, 12, 13, 14, 15, 16, 17, 18, 19], [0, 1, 2, 3, 4, 5, 6, 7, 8, 9, 10, 11, 12, 13, 14, 15, 16, 17, 18, 19, 20], [0, 1, 2, 3, 4, 5, 6, 7, 8, 9, 10, 11, 12, 13, 14, 15, 16, 17, 18, 19, 20, 21], [0, 1, 2, 3, 4, 5, 6, 7, 8, 9, 10, 11, 12, 13, 14, 15, 16, 17, 18, 19, 20, 21, 22], [0, 1, 2, 3, 4, 5, 6, 7, 8, 9, 10, 11, 12, 13, 14, 15, 16, 17, 18, 19, 20, 21, 22, 23], [0, 1, 2, 3, 4, 5, 6, 7, 8, 9, 10, 11, 12, 13, 14, 15, 16, 17, 18, 19, 20, 21, 22, 23, 24]]
def pl4_5Ng25 : Plan := [(0, true, []), (1, true, []), (2, false, []), (3, true, []), (4, true, []), (5, true, []), (6, true, []), (7, true, []), (8, true, []), (9, true, []), (10, true, []), (12, true, []), (13, true, []), (11, false, [12, 13]), (14, false, []), (15, true, []), (16, true, []), (17, true, []), (18, true, []), (19, true, []), (20, false, []), (21, true, []), (22, true, []), (23, false, []), (24, true, []), (25, false, [])]
variable {w0 : World}

theorem accept_c (A : List Int) (l : List KR) : (acceptL A l).1.c.length ≤ l.length := by
  unfold acceptL
  split
  · simp
  · split
    · simp
    · split
      · simp
      · show ((findL l 5).map (·.b)).length ≤ _
        rw [List.length_map]; exact List.length_filter_le _ _
theorem NegoAccepts_law (A : List Int) (l : List KR) (o : DL) (hb : ∀ r ∈ l, r.b.length < 2 ^ 47) :
    Fn (Cx w0) 4 [.fsl 1 A.length (intsC A), .fsl 3 l.length (krsC l), .agg (dlC o)] (.bool true) := by
  have aw := awake19_ok (w0 := w0)
  have tf := few19_ok (w0 := w0) l.length (krsC l)
  by_cases g1 : A.length ≤ 1000
  · have g1' : ¬ (1000 : Int) < (A.length : Int) := by omega
    by_cases g2 : l.length ≤ 500
    · rw [decide_eq_true g2] at tf
      by_cases g3 : o.c.length ≤ 500
      · have g3' : ¬ (500 : Int) < (o.c.length : Int) := by omega
        have hb2 : ∀ r ∈ l, r.b.length < 2 ^ 50 := fun r hr => Nat.lt_trans (hb r hr) (by decide)
        have a1 := negoAccept_ok (w0 := w0) A l (by omega) (by omega) hb2
        have a2 := refAccept_ok (w0 := w0) A l (by omega) (by omega) hb2
        have hc := accept_c A l
        generalize acceptL A l = X at *
        obtain ⟨d, e⟩ := X
        simp only at a1 a2 hc
        have d1 := refSame19_ok (w0 := w0) d d (by omega) (by omega)
        have d2 := negoSame_ok (w0 := w0) o d (by omega) (by omega)
        have d3 := refSame19_ok (w0 := w0) o d (by omega) (by omega)
        have d4 := negoSame_ok (w0 := w0) d d (by omega) (by omega)
        rw [decide_eq_true rfl] at d1 d4
        generalize decide (o = d) = b at *
        unfold dlC at *
        refine fn_H ([Go.ResultVar.tmp 6]) Tryz.func4 rfl rfl (by decide) fun ph hW Q hQ => ?_
        simp only [start, List.length_cons, List.length_nil, List.cons_append, List.nil_append, Nat.reduceAdd, Nat.reduceSub, List.replicate_succ, List.replicate_zero, Tryz.ntmps4]
        repeat' first | simp -implicitDefEqProofs (maxSteps := 400000) (disch := first | with_reducible rfl | omega | (simp only [wkH] <;> omega) | decide) only [wkAll, wkL, popO, wantedP, Nat.reduceAdd, Nat.reduceLeDiff, binP, unP, lenP, builtinP, loadOp, storeOp, loadP, fieldAddrOp, setL, PK.agg, gt_iff_lt, seg, if_pos, if_neg, tf4, tf22, tf23, tf38, Tryz.ze38, pl4_5Ng25, g1', g3', gt_iff_lt] | refine w_pure (tf) ?_ | refine w_pure (a1) ?_ | refine w_pure (a2) ?_ | refine w_pure (d1) ?_ | refine w_pure (d2) ?_ | refine w_pure (d3) ?_ | refine w_pure (d4) ?_ | refine w_pure (aw) ?_ | refine w_drawnF (id := 5) tb4_5Ng25 pl4_5Ng25 63 (by kernel_rfl) (by kernel_rfl) (by simp) ?_
        refine hQ (by first | exact .inr rfl | exact .inl rfl) (by first | exact trivial | exact marks1) (by first | (simp -implicitDefEqProofs (maxSteps := 400000) (disch := first | with_reducible rfl | omega | (simp only [wkH] <;> omega) | decide) only [wkL, resP, resPs, resP1]; rfl) | rfl) ⟨6, by repeat' first | exact frz_scalar rfl | apply frz_tuple | apply frz_agg | apply frz_fsl | apply frz_gsl (by omega) | exact frzs_nil | apply frzs_cons⟩ (by first | exact keepsH0 | exact keeps1 (by assumption)) (nw_eq ?_)
        rfl
      · have g3' : (500 : Int) < (o.c.length : Int) := by omega
        unfold dlC
        refine fn_H ([Go.ResultVar.tmp 6]) Tryz.func4 rfl rfl (by decide) fun ph hW Q hQ => ?_
        simp only [start, List.length_cons, List.length_nil, List.cons_append, List.nil_append, Nat.reduceAdd, Nat.reduceSub, List.replicate_succ, List.replicate_zero, Tryz.ntmps4]
        repeat' first | simp -implicitDefEqProofs (maxSteps := 400000) (disch := first | with_reducible rfl | omega | (simp only [wkH] <;> omega) | decide) only [wkAll, wkL, popO, wantedP, Nat.reduceAdd, Nat.reduceLeDiff, binP, unP, lenP, builtinP, loadOp, loadP, fieldAddrOp, PK.agg, gt_iff_lt, seg, if_pos, if_neg, tf22, tf23, tf38, g1', g3', gt_iff_lt] | refine w_pure (tf) ?_ | refine w_pure (aw) ?_ | refine w_drawnF (id := 5) tb4_5Ng25 pl4_5Ng25 63 (by kernel_rfl) (by kernel_rfl) (by simp) ?_
        refine hQ (by first | exact .inr rfl | exact .inl rfl) (by first | exact trivial | exact marks1) (by first | (simp -implicitDefEqProofs (maxSteps := 400000) (disch := first | with_reducible rfl | omega | (simp only [wkH] <;> omega) | decide) only [wkL, resP, resPs, resP1]; rfl) | rfl) ⟨6, by repeat' first | exact frz_scalar rfl | apply frz_tuple | apply frz_agg | apply frz_fsl | apply frz_gsl (by omega) | exact frzs_nil | apply frzs_cons⟩ (by first | exact keepsH0 | exact keeps1 (by assumption)) (nw_eq ?_)
        rfl
    · rw [decide_eq_false g2] at tf
      unfold dlC
      refine fn_H ([Go.ResultVar.tmp 6]) Tryz.func4 rfl rfl (by decide) fun ph hW Q hQ => ?_
      simp only [start, List.length_cons, List.length_nil, List.cons_append, List.nil_append, Nat.reduceAdd, Nat.reduceSub, List.replicate_succ, List.replicate_zero, Tryz.ntmps4]
      repeat' first | simp -implicitDefEqProofs (maxSteps := 400000) (disch := first | with_reducible rfl | omega | (simp only [wkH] <;> omega) | decide) only [wkAll, wkL, popO, wantedP, binP, unP, lenP, builtinP, gt_iff_lt, if_pos, if_neg, tf22, g1', gt_iff_lt] | refine w_pure (tf) ?_ | refine w_pure (aw) ?_ | refine w_drawnF (id := 5) tb4_5Ng25 pl4_5Ng25 63 (by kernel_rfl) (by kernel_rfl) (by simp) ?_
      refine hQ (by first | exact .inr rfl | exact .inl rfl) (by first | exact trivial | exact marks1) (by first | (simp -implicitDefEqProofs (maxSteps := 400000) (disch := first | with_reducible rfl | omega | (simp only [wkH] <;> omega) | decide) only [wkL, resP, resPs, resP1]; rfl) | rfl) ⟨6, by repeat' first | exact frz_scalar rfl | apply frz_tuple | apply frz_agg | apply frz_fsl | apply frz_gsl (by omega) | exact frzs_nil | apply frzs_cons⟩ (by first | exact keepsH0 | exact keeps1 (by assumption)) (nw_eq ?_)
      rfl
  · have g1' : (1000 : Int) < (A.length : Int) := by omega
    unfold dlC
    refine fn_H ([Go.ResultVar.tmp 6]) Tryz.func4 rfl rfl (by decide) fun ph hW Q hQ => ?_
    simp only [start, List.length_cons, List.length_nil, List.cons_append, List.nil_append, Nat.reduceAdd, Nat.reduceSub, List.replicate_succ, List.replicate_zero, Tryz.ntmps4]
    repeat' first | simp -implicitDefEqProofs (maxSteps := 400000) (disch := first | with_reducible rfl | omega | (simp only [wkH] <;> omega) | decide) only [wkAll, wkL, popO, wantedP, binP, lenP, builtinP, gt_iff_lt, if_pos, tf22, g1', gt_iff_lt] | refine w_pure (aw) ?_ | refine w_drawnF (id := 5) tb4_5Ng25 pl4_5Ng25 63 (by kernel_rfl) (by kernel_rfl) (by simp) ?_
    refine hQ (by first | exact .inr rfl | exact .inl rfl) (by first | exact trivial | exact marks1) (by first | (simp -implicitDefEqProofs (maxSteps := 400000) (disch := first | with_reducible rfl | omega | (simp only [wkH] <;> omega) | decide) only [wkL, resP, resPs, resP1]; rfl) | rfl) ⟨6, by repeat' first | exact frz_scalar rfl | apply frz_tuple | apply frz_agg | apply frz_fsl | apply frz_gsl (by omega) | exact frzs_nil | apply frzs_cons⟩ (by first | exact keepsH0 | exact keeps1 (by assumption)) (nw_eq ?_)
    rfl
theorem okL_deal {c : List PV} (h : OkL [.int .i64, .sl [.str], .str, .int .i64] c) : ∃ d : DL, c = dlC d := by
  cases h with | cons _ _ p1 ps1 g1 h =>
  cases h with | cons _ _ p2 ps2 g2 h =>
  cases h with | cons _ _ p3 ps3 g3 h =>
  cases h with | cons _ _ p4 ps4 g4 h =>
  cases h
  cases g1 with | int _ a _ =>
  cases g2 with | sl _ n2 cs2 _ r2 =>
  cases g3 with | str h _ =>
  cases g4 with | int _ p _ =>
  obtain ⟨C, rfl, rfl⟩ := okR_strsB r2
  exact ⟨⟨a, C, h, p⟩, rfl⟩
theorem NegoAccepts_ok (W : World) (n0 : Nat) (c0 : List PV) (o0 : OkR [.int .i64] n0 c0) (n1 : Nat) (c1 : List PV) (o1 : OkR [.bool, .int .i64, .str] n1 c1) (b1 : ∀ p ∈ c1, BdV p) (c2 : List PV) (o2 : OkL [.int .i64, .sl [.str], .str, .int .i64] c2) : Fn (Cx W) 4 [.fsl 1 n0 c0, .fsl 3 n1 c1, .agg c2] (.bool true) := by
  obtain ⟨A, rfl, rfl⟩ := okR_ints o0
  obtain ⟨l, rfl, rfl, hb⟩ := okR_krsB o1 b1
  obtain ⟨d, rfl⟩ := okL_deal o2
  exact NegoAccepts_law A l d hb
end Pv
