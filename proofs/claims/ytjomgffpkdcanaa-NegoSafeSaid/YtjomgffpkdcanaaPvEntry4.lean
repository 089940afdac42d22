/- Part of the proof: the layer of pure values, or walks through functions (PvEntry4, PvNg16, PvKe7, PvKe8, PvNg17). -/
import Derived.Test.YtjomgffpkdcanaaPvSha9
import Derived.Test.YtjomgffpkdcanaaPvNg11
import Derived.Test.YtjomgffpkdcanaaPvKe2
import Derived.Test.YtjomgffpkdcanaaPvSha6
set_option linter.all false
/- Arguments with the bound of their reach upon every text in them. -/
namespace Pv
open Go Go.RowKit
inductive BdV : PV → Prop
  | int (k : IntKind) (n : Int) : BdV (.int k n)
  | bool (b : Bool) : BdV (.bool b)
  | str (l : List UInt8) (h : l.length < 2 ^ 47) : BdV (.str l)
  | fsl (e len : Nat) (cells : List PV) (h : ∀ c ∈ cells, BdV c) : BdV (.fsl e len cells)
theorem weightsAll_mem {H : Type} {P : Program} {e : TypeId} {l : List (DataW H × List MemPlace)} {x : DataW H × List MemPlace} {n : Nat} (hx : x ∈ l) (hn : n ∈ x.1.weights P e) : n ∈ DataW.weightsAll P e (l.map (·.1)) := by
  induction l with
  | nil => cases hx
  | cons y l ih =>
    rw [List.map_cons, DataW.weightsAll]
    rcases List.mem_cons.1 hx with rfl | h
    · exact List.mem_append_left _ hn
    · exact List.mem_append_right _ (ih h)
section
variable {H : Type} {enc : TypeId × Value → H} {P : Program} {w : World} {base : Nat} {spare : Nat → Bool} {held : Bool}

theorem trod_structB {fuel : Nat} {t : TypeId} {fs : Array Field} {cs : List Value} {x : DataW H × List MemPlace} (hu : P.underlying t = some (.struct fs)) (h : DataW.trod enc P w base spare held fuel t cs = some x) :
    ∃ m xs, fuel = m + 1 ∧ cs.length = P.cellsOf t ∧ (fs.toList.mapM fun f => DataW.trod enc P w base spare held m f.type ((cs.drop f.offset).take (P.cellsOf f.type))) = some xs ∧ x.1 = .agg (xs.map (·.1)) := by
  cases fuel with
  | zero => simp [DataW.trod] at h
  | succ m =>
    unfold DataW.trod at h
    rw [hu] at h
    split at h <;> simp_all
    obtain ⟨hl, xs, hp, hd⟩ := h
    exact ⟨xs, hp, by rw [← hd]⟩

theorem trod_arrB {fuel n : Nat} {t e : TypeId} {cs : List Value} {x : DataW H × List MemPlace} (hu : P.underlying t = some (.array n e)) (h : DataW.trod enc P w base spare held fuel t cs = some x) :
    ∃ (xs : List (DataW H × List MemPlace)) (m : Nat), fuel = m + 1 ∧ cs.length = P.cellsOf t ∧ xs.length = n ∧ (∀ (i : Nat), i < n → DataW.trod enc P w base spare held m e ((cs.drop (i * P.cellsOf e)).take (P.cellsOf e)) = xs[i]?) ∧ x.1 = .agg (xs.map (·.1)) := by
  cases fuel with
  | zero => simp [DataW.trod] at h
  | succ m =>
    unfold DataW.trod at h
    rw [hu] at h
    split at h <;> simp_all
    obtain ⟨hl, xs, hp, hd⟩ := h
    exact ⟨xs, by simpa using mapM_some_length hp, fun i hi => mapM_some_get hp i i (by simp [hi]), by rw [← hd]⟩

theorem trod_rvb : ∀ (d fuel : Nat) (t : TypeId) (cs : List Value) (x : DataW H × List MemPlace) (ks : List FK), DataW.trod enc P w base spare held fuel t cs = some x → shP P d t = some ks → (∀ n ∈ x.1.weights P t, n ≤ reachBytes) →
    ∃ ps, RVs (G0 w) ps cs ∧ OkL ks ps ∧ ∀ p ∈ ps, BdV p := by
  intro d
  induction d with
  | zero => intro fuel t cs x ks _ h; simp [shP] at h
  | succ d ih =>
    intro fuel t cs x ks hx hk hw
    unfold shP at hk
    split at hk
    · rename_i hu; cases hk
      cases fuel with
      | zero => simp [DataW.trod] at hx
      | succ fuel =>
        unfold DataW.trod at hx; rw [hu] at hx
        split at hx <;> simp_all
        exact ⟨_, .cons _ _ _ _ (.bool _) .nil, .cons _ _ _ _ (.bool _) .nil, by simpa using BdV.bool _⟩
    · rename_i k hu; cases hk
      cases fuel with
      | zero => simp [DataW.trod] at hx
      | succ fuel =>
        unfold DataW.trod at hx; rw [hu] at hx
        split at hx <;> simp_all
        obtain ⟨⟨h1, h2⟩, h3⟩ := hx
        subst h1
        exact ⟨_, .cons _ _ _ _ (.int _ _) .nil, .cons _ _ _ _ (.int _ _ h2) .nil, by simpa using BdV.int _ _⟩
    · rename_i hu; cases hk
      cases fuel with
      | zero => simp [DataW.trod] at hx
      | succ fuel =>
        obtain ⟨s, rfl, e2, -⟩ := DataW.trod_string hu hx
        have hlen : s.data.toList.length ≤ maxLen := by
          unfold DataW.trod at hx; rw [hu] at hx
          split at hx <;> simp_all
        have hb := hw s.data.toList.length (by rw [e2]; simp [DataW.weights])
        have := reachBytes_lt
        exact ⟨_, .cons _ _ _ _ (.str _ _ rfl) .nil, .cons _ _ _ _ (.str s.data.toList hlen) .nil, by simpa using BdV.str s.data.toList (by omega)⟩
    · rename_i e hu
      split at hk
      · rename_i row hrow
        split at hk
        · rename_i hc; cases hk
          rcases DataW.trod_slice hu hx with ⟨rfl, -⟩ | ⟨a, len, cap, elems, rest, n, -, rfl, hxe, -, hlc, hcm, hel, heach, -, -⟩
          · exact ⟨_, .cons _ _ _ _ (.fslnil _) .nil, .cons _ _ _ _ (.sl row 0 [] (by decide) (.nil _)) .nil, by simpa using BdV.fsl _ _ [] (by simp)⟩
          · have hsp : 0 < len → a.spot = none := by
              intro hl
              have h0 := heach 0 hl
              rw [List.getElem?_eq_getElem (by omega)] at h0
              obtain ⟨cs', hcs, -⟩ := Option.bind_eq_some_iff.1 h0
              have hl' := (World.cells?_some hcs).2.1
              have := (cells_f hcs 0 _ (List.getElem?_eq_getElem (by omega))).2
              simpa [Addr.add] using this
            have hwe : ∀ e' ∈ elems, ∀ n ∈ e'.1.weights P e, n ≤ reachBytes := by
              intro e' he' n hn
              refine hw n ?_
              rw [hxe]
              simp only [DataW.weights, hu]
              exact List.mem_cons_of_mem _ (List.mem_append_left _ (weightsAll_mem he' hn))
            have key : ∀ m, m ≤ len → ∃ (ps : List PV) (vs : List Value), RVs (G0 w) ps vs ∧ (∀ j v, vs[j]? = some v → (G0 w).f ⟨a.block, a.off + j, none⟩ = some v ∧ a.spot = none) ∧ vs.length = m * row.length ∧ ∃ rows : List (List PV), rows.length = m ∧ (∀ c ∈ rows, OkL row c) ∧ rows.flatten = ps ∧ ∀ p ∈ ps, BdV p := by
              intro m
              induction m with
              | zero => intro _; exact ⟨[], [], .nil, by simp, by simp, [], rfl, by simp, rfl, by simp⟩
              | succ m ihm =>
                intro hm
                obtain ⟨ps, vs, h1, h2, h3, rows, h4, h5, h6, h7⟩ := ihm (by omega)
                have hme := heach m (by omega)
                have : m < elems.length := by omega
                rw [List.getElem?_eq_getElem this] at hme
                obtain ⟨cs', hcs, ht⟩ := Option.bind_eq_some_iff.1 hme
                obtain ⟨qs, g1, g2, g3⟩ := ih _ _ _ _ _ ht hrow (hwe _ (List.getElem_mem _))
                have hf := cells_f hcs
                refine ⟨ps ++ qs, vs ++ cs', h1.append g1, ?_, ?_, rows ++ [qs], by simp [h4], ?_, by simp [h6], fun p hp => (List.mem_append.1 hp).elim (h7 p) (g3 p)⟩
                · intro j v hj
                  by_cases hlt : j < vs.length
                  · rw [List.getElem?_append_left hlt] at hj; exact h2 j v hj
                  · rw [List.getElem?_append_right (by omega)] at hj
                    have := hf _ _ hj
                    rw [add_none (hsp (by omega))] at this
                    refine ⟨?_, hsp (by omega)⟩
                    rw [← this.1]
                    have e1 : a.off + j = a.off + m * P.cellsOf e + (j - vs.length) := by rw [← hc.1]; omega
                    rw [e1]
                · have := (World.cells?_some hcs).2.1
                  simp [h3, this, ← hc.1, Nat.succ_mul]
                · intro c hcm'
                  rcases List.mem_append.1 hcm' with h | h
                  · exact h5 c h
                  · simp at h; subst h; exact g2
            obtain ⟨ps, vs, h1, h2, h3, rows, h4, h5, h6, h7⟩ := key len (Nat.le_refl _)
            have hR : OkR row len ps := by
              rw [← h6, ← h4]
              clear h4 h6 h1 h3 h7 heach key
              induction rows with
              | nil => exact .nil _
              | cons c rows ihr => exact .cons _ _ _ _ (h5 c (by simp)) (ihr fun c' h => h5 c' (List.mem_cons_of_mem _ h))
            refine ⟨_, .cons _ _ _ _ (.fsl row.length len ps vs a cap h1 hlc hR.length ?_ fun j v hj => (h2 j v hj).1) .nil, .cons _ _ _ _ (.sl row len ps (by omega) hR) .nil, by simpa using BdV.fsl _ _ ps h7⟩
            intro hl
            have : 0 < vs.length := by rw [h3]; exact Nat.mul_pos hl hc.2
            exact (h2 0 _ (List.getElem?_eq_getElem this)).2
        · cases hk
      · cases hk
    · rename_i fs hu
      split at hk
      · rename_i ks' hgo
        split at hk
        · rename_i hlen; cases hk
          obtain ⟨fuel, xs, -, hcl, hm, hxe⟩ := trod_structB hu hx
          have go : ∀ (fl : List Field) (off : Nat) (ks : List FK) (xs : List (DataW H × List MemPlace)), shGo P (shP P d) fl off = some ks → (fl.mapM fun f => DataW.trod enc P w base spare held fuel f.type ((cs.drop f.offset).take (P.cellsOf f.type))) = some xs → off + ks.length ≤ cs.length → (∀ n ∈ DataW.weightsEach P (fl.map (·.type)) (xs.map (·.1)), n ≤ reachBytes) →
              ∃ ps, RVs (G0 w) ps ((cs.drop off).take ks.length) ∧ OkL ks ps ∧ ∀ p ∈ ps, BdV p := by
            intro fl
            induction fl with
            | nil =>
              intro off ks xs hg _ _ _
              simp only [shGo, Option.some.injEq] at hg
              subst hg
              exact ⟨[], by simpa using RVs.nil, .nil, by simp⟩
            | cons f fl ihf =>
              intro off ks xs hg hmm hle hww
              unfold shGo at hg
              split at hg
              · rename_i hoff
                split at hg
                · rename_i k1 hk1
                  split at hg
                  · rename_i hk1l
                    simp only [Option.map_eq_some_iff] at hg
                    obtain ⟨k2, hk2, rfl⟩ := hg
                    rw [List.mapM_cons] at hmm
                    simp only [Option.bind_eq_bind, Option.bind_eq_some_iff, Option.pure_def, Option.some.injEq] at hmm
                    obtain ⟨y, hy, ys, hys, rfl⟩ := hmm
                    simp only [List.map_cons, DataW.weightsEach, List.mem_append] at hww
                    obtain ⟨p1, r1, o1, b1⟩ := ih _ _ _ _ _ hy hk1 (fun n hn => hww n (.inl hn))
                    simp only [List.length_append] at hle
                    obtain ⟨p2, r2, o2, b2⟩ := ihf _ _ _ hk2 hys (by omega) (fun n hn => hww n (.inr hn))
                    refine ⟨p1 ++ p2, ?_, o1.append o2, fun p hp => (List.mem_append.1 hp).elim (b1 p) (b2 p)⟩
                    rw [List.length_append, List.take_add, List.drop_drop]
                    rw [hoff, ← hk1l] at r1
                    exact r1.append r2
                  · cases hg
                · cases hg
              · cases hg
          obtain ⟨ps, r, o, b⟩ := go _ _ _ _ hgo hm (by omega) (fun n hn => hw n (by rw [hxe]; simp only [DataW.weights, hu]; exact hn))
          refine ⟨ps, ?_, o, b⟩
          rw [List.drop_zero, List.take_of_length_le (by omega)] at r
          exact r
        · cases hk
      · cases hk
    · rename_i n e hu
      split at hk
      · rename_i row hrow
        split at hk
        · rename_i hc; cases hk
          obtain ⟨xs, m, -, hcl, hxl, heach, hxe⟩ := trod_arrB hu hx
          have hwe : ∀ e' ∈ xs, ∀ n ∈ e'.1.weights P e, n ≤ reachBytes := fun e' he' n hn => hw n (by rw [hxe]; simp only [DataW.weights, hu]; exact weightsAll_mem he' hn)
          have key : ∀ i, i ≤ n → ∃ ps, RVs (G0 w) ps (cs.take (i * row.length)) ∧ OkL ((List.replicate i row).flatten) ps ∧ ∀ p ∈ ps, BdV p := by
            intro i
            induction i with
            | zero => intro _; exact ⟨[], by simpa using RVs.nil, .nil, by simp⟩
            | succ i ihi =>
              intro hi
              obtain ⟨ps, h1, h2, h3⟩ := ihi (by omega)
              have he := heach i (by omega)
              rw [List.getElem?_eq_getElem (by omega)] at he
              obtain ⟨qs, g1, g2, g3⟩ := ih _ _ _ _ _ he hrow (hwe _ (List.getElem_mem _))
              rw [← hc.1] at g1
              refine ⟨ps ++ qs, ?_, ?_, fun p hp => (List.mem_append.1 hp).elim (h3 p) (g3 p)⟩
              · rw [Nat.succ_mul, List.take_add]; exact h1.append g1
              · rw [List.replicate_succ', List.flatten_append]; simpa using h2.append g2
          obtain ⟨ps, h1, h2, h3⟩ := key n (Nat.le_refl _)
          refine ⟨ps, ?_, h2, h3⟩
          rw [List.take_of_length_le (by rw [hcl, ← hc.2]; exact Nat.le_refl _)] at h1
          exact h1
        · cases hk
      · cases hk
    · cases hk
end
section
variable {H : Type} {enc : TypeId × Value → H} {P : Program} {w : World} {spare : Nat → Bool} {held : Bool} {t : TypeId} {v : Value} {d : DataW H} {ps : List MemPlace} {base : Nat} {ks : List FK}
theorem weights_le {ts : List TypeId} {ds : List (DataW H)} (hsz : (DataW.weightsEach P ts ds).all (· ≤ reachBytes) = true) {j : Nat} (ht : ts[j]? = some t) (hd : ds[j]? = some d) : ∀ n ∈ d.weights P t, n ≤ reachBytes := fun n hn => by
  have := List.all_eq_true.1 hsz _ (DataW.weights_mem_each ht hd n hn)
  simpa using this
theorem open_slB {e : TypeId} {row : List FK} {ts : List TypeId} {ds : List (DataW H)} (hu : P.underlying t = some (.slice e)) (hv : Value.okWide P w .any base t v) (h : DataW.Trod enc P w 0 spare held t v d ps) (hs : shP P 20 t = some [.sl row]) (hsz : (DataW.weightsEach P ts ds).all (· ≤ reachBytes) = true) {j : Nat} (ht : ts[j]? = some t) (hd : ds[j]? = some d) : ∃ len cells, len ≤ maxLen ∧ OkR row len cells ∧ (∀ p ∈ cells, BdV p) ∧ RV (G0 w) (.fsl row.length len cells) v := by
  obtain ⟨fuel, hf⟩ := h
  obtain ⟨cells, hr, ho, hb⟩ := trod_rvb _ _ _ _ _ _ hf hs (weights_le hsz ht hd)
  obtain ⟨a, l, c, rfl⟩ := Go.WideShapes.okWide_slice hu hv
  have hc : (Value.slice a l c).cells = #[.slice a l c] := rfl
  rw [hc] at hr
  cases ho with
  | cons _ _ p ps h1 h2 =>
    cases h2
    cases hr with
    | cons _ _ _ _ g1 g2 =>
      have hb1 := hb p (by simp)
      cases h1 with
      | sl _ len cells hl hc => cases hb1 with | fsl _ _ _ hb2 => exact ⟨len, cells, hl, hc, hb2, g1⟩
end
end Pv

--nosplit
--keep2
namespace Pv
set_option maxRecDepth 20000
set_option maxHeartbeats 4000000
open Go Go.Proofs Go.RowKit
variable {w0 : World}

end Pv

namespace Pv
set_option maxRecDepth 20000
set_option maxHeartbeats 4000000
open Go Go.Proofs Go.RowKit
variable {w0 : World}

end Pv

namespace Pv
open Go Go.Proofs Go.RowKit

theorem okR_krs : ∀ {n : Nat} {ps : List PV}, OkR [.bool, .int .i64, .str] n ps → ∃ l : List KR, ps = krsC l ∧ l.length = n ∧ ∀ r ∈ l, r.b.length ≤ maxLen
  | _, _, .nil _ => ⟨[], rfl, rfl, by simp⟩
  | _, _, .cons _ _ _ _ h hs => by
    obtain ⟨l, rfl, rfl, hl⟩ := okR_krs hs
    cases h with
    | cons _ _ _ _ h1 h => cases h with
      | cons _ _ _ _ h2 h => cases h with
        | cons _ _ _ _ h3 h => cases h with
          | nil =>
            cases h1; cases h2; cases h3
            rename_i c k hk b hb
            exact ⟨⟨c, k, b⟩ :: l, by simp [krsC, krC], rfl, by simpa using ⟨hb, hl⟩⟩
theorem okR_ints : ∀ {n : Nat} {ps : List PV}, OkR [.int .i64] n ps → ∃ l : List Int, ps = intsC l ∧ l.length = n
  | _, _, .nil _ => ⟨[], rfl, rfl⟩
  | _, _, .cons _ _ _ _ h hs => by
    obtain ⟨l, rfl, rfl⟩ := okR_ints hs
    cases h with
    | cons _ _ _ _ h1 h => cases h with
      | nil =>
        cases h1
        rename_i k hk
        exact ⟨k :: l, by simp [intsC], rfl⟩

end Pv

--nosplit
--keep2
namespace Pv
set_option maxRecDepth 20000
set_option maxHeartbeats 4000000
open Go Go.Proofs Go.RowKit
variable {w0 : World}

theorem few19_ok (n : Nat) (c : List PV) : Fn (Cx w0) 16 [.fsl 3 n c] (.bool (decide (n ≤ 500))) := by
  rw [show decide (n ≤ 500) = decide ((n : Int) ≤ 500) from decide_eq_decide.2 (by omega)]
  refine fn_H ([Go.ResultVar.tmp 2]) Try.func16 rfl rfl (by decide) fun ph hW Q hQ => ?_
  simp only [start, List.length_cons, List.length_nil, List.cons_append, List.nil_append, Nat.reduceAdd, Nat.reduceSub, List.replicate_succ, List.replicate_zero, Try.ntmps16]
  repeat' first | simp -implicitDefEqProofs (maxSteps := 400000) (disch := first | with_reducible rfl | omega | (simp only [wkH] <;> omega) | decide) only [wkAll, wkL, popO, wantedP, binP, lenP, builtinP, if_pos, tf47]
  refine hQ (by first | exact .inr rfl | exact .inl rfl) (by first | exact trivial | exact marks1) (by first | (simp -implicitDefEqProofs (maxSteps := 400000) (disch := first | with_reducible rfl | omega | (simp only [wkH] <;> omega) | decide) only [wkL, resP, resPs, resP1]; rfl) | rfl) ⟨6, by repeat' first | exact frz_scalar rfl | apply frz_tuple | apply frz_agg | apply frz_fsl | apply frz_gsl (by omega) | exact frzs_nil | apply frzs_cons⟩ (by first | exact keepsH0 | exact keeps1 (by assumption)) (nw_eq ?_)
  rfl
theorem firE_all : ∀ {es : List (Int × Bool)}, (∀ x ∈ es, x.1 ≠ 0) → firE es = 0 → ∀ x ∈ es, x.2 = true
  | [], _, _ => by simp
  | x :: t, h1, h2 => by
    unfold firE at h2
    cases hx : x.2 with
    | true =>
      rw [if_pos hx] at h2
      intro y hy
      rcases List.mem_cons.1 hy with rfl | hy
      · exact hx
      · exact firE_all (fun z hz => h1 z (List.mem_cons_of_mem _ hz)) h2 y hy
    | false =>
      rw [if_neg (by simp [hx]), if_neg (h1 x (by simp))] at h2
      exact absurd h2 (h1 x (by simp))
theorem idxL_neg {α : Type} {p : α → Bool} {l : List α} (h : idxL p l < 0) : idxL p l = -1 := by
  unfold idxL at h ⊢
  split
  · rename_i i hi; rw [hi] at h; simp only at h; omega
  · rfl
theorem portL_in (l : List KR) (h : List UInt8) (h0 : (portL l h).2.2 = 0) : 0 ≤ (portL l h).2.1 ∧ (portL l h).2.1 ≤ 65535 := by
  unfold portL at h0 ⊢
  split
  · simp
  · rename_i hx; rw [hx] at h0
    simp only at h0 ⊢
    split at h0
    · rename_i hy
      simp only [Bool.and_eq_true, portB, decide_eq_true_eq] at hy
      omega
    · cases h0
theorem whereL_in (l : List KR) (h0 : (whereL l).2.2 = 0) : 0 ≤ (whereL l).2.1 ∧ (whereL l).2.1 ≤ 65535 := by
  unfold whereL at h0 ⊢
  by_cases c : 1 < (findL l 6).length ∨ 1 < (findL l 7).length
  · rw [if_pos c] at h0; cases h0
  · rw [if_neg c] at h0 ⊢
    rcases hx : findL l 6 with _ | ⟨r, t⟩
    · rw [hx] at h0; exact portL_in l _ h0
    · rw [hx] at h0
      simp only at h0 ⊢
      cases hh : hostL r.b with
      | false => rw [hh] at h0; simp at h0
      | true => rw [hh] at h0; simp only [Bool.true_eq_false, if_false] at h0 ⊢; exact portL_in l _ h0
/-- What is accepted, of a safe kind. -/
theorem accept_safe {A : List Int} {l : List KR} (h : (acceptL A l).2 = 0) : firE (acE A l) = 0 ∧ firE (acJ ((findL l 5).map (·.b))) = 0 ∧ (whereL l).2.2 = 0 ∧ (acceptL A l).1 = ⟨(singL l 4).1, (findL l 5).map (·.b), (whereL l).1, (whereL l).2.1⟩ := by
  unfold acceptL at h ⊢
  by_cases h1 : firE (acE A l) = 0
  · rw [if_neg (by simpa using h1)] at h ⊢
    by_cases h2 : firE (acJ ((findL l 5).map (·.b))) = 0
    · rw [if_neg (by simpa using h2)] at h ⊢
      by_cases h3 : (whereL l).2.2 = 0
      · rw [if_neg (by simpa using h3)]
        exact ⟨h1, h2, h3, rfl⟩
      · rw [if_pos h3] at h; exact absurd h h3
    · rw [if_pos h2] at h; exact absurd h h2
  · rw [if_pos h1] at h; exact absurd h h1
theorem accept_fail {A : List Int} {l : List KR} (h : (acceptL A l).2 ≠ 0) : (acceptL A l).1 = ⟨0, [], [], 0⟩ := by
  unfold acceptL at h ⊢
  by_cases h1 : firE (acE A l) = 0
  · rw [if_neg (by simpa using h1)] at h ⊢
    by_cases h2 : firE (acJ ((findL l 5).map (·.b))) = 0
    · rw [if_neg (by simpa using h2)] at h ⊢
      by_cases h3 : (whereL l).2.2 = 0
      · rw [if_neg (by simpa using h3)] at h; simp at h
      · rw [if_pos h3]
    · rw [if_pos h2]
  · rw [if_pos h1]
theorem acJ_in {C : List (List UInt8)} (h : firE (acJ C) = 0) : 1 ≤ C.length ∧ C.length ≤ 8 ∧ ∀ s ∈ C, cookB s = true := by
  have := firE_all (es := acJ C) (by simp [acJ]) h
  have h1 := this (19, decide (0 < (C.length : Int))) (by simp [acJ])
  have h2 := this (18, decide ((C.length : Int) ≤ 8)) (by simp [acJ])
  have h3 := this (12, !(C.any fun s => !cookB s)) (by simp [acJ])
  simp only [decide_eq_true_eq] at h1 h2
  refine ⟨by omega, by omega, ?_⟩
  intro s hs
  simp only [Bool.not_eq_true', List.any_eq_false] at h3
  simpa using h3 s hs
theorem acE_in {A : List Int} {l : List KR} (h : firE (acE A l) = 0) : A.any (fun y => (singL l 4).1 == y) = true ∧ idxL unkR l = -1 := by
  have := firE_all (es := acE A l) (by simp [acE]) h
  have h1 := this (23, decide (idxL unkR l < 0)) (by simp [acE])
  have h2 := this (13, A.any (fun y => (singL l 4).1 == y) && decide (0 < kszL (singL l 4).1)) (by simp [acE])
  simp only [decide_eq_true_eq, Bool.and_eq_true] at h1 h2
  exact ⟨h2.1, idxL_neg h1⟩
theorem NegoSafe_law (A : List Int) (l : List KR) (hA0 : A.length ≤ maxLen) (hl0 : l.length ≤ maxLen) (hb : ∀ r ∈ l, r.b.length < 2 ^ 47) : Fn (Cx w0) 5 [.fsl 1 A.length (intsC A), .fsl 3 l.length (krsC l)] (.bool true) := by
  have aw := awake19_ok (w0 := w0)
  have tf := few19_ok (w0 := w0) l.length (krsC l)
  by_cases g1 : A.length ≤ 1000
  · have g1' : ¬ (1000 : Int) < (A.length : Int) := by omega
    by_cases g2 : l.length ≤ 500
    · have ta := negoAccept_ok (w0 := w0) A l (by omega) (by omega) (fun r hr => Nat.lt_trans (hb r hr) (by decide))
      have tu := refUnknown_ok (w0 := w0) l (by omega)
      rw [decide_eq_true g2] at tf
      by_cases he : (acceptL A l).2 = 0
      · obtain ⟨f1, f2, f3, f4⟩ := accept_safe he
        obtain ⟨q1, q2⟩ := acE_in f1
        have q3 := acJ_in f2
        have q4 := whereL_in l f3
        have k1 : A.any (fun y => (acceptL A l).1.a == y) = true := by rw [f4]; exact q1
        have k3 : 1 ≤ (acceptL A l).1.c.length ∧ (acceptL A l).1.c.length ≤ 8 ∧ ∀ s ∈ (acceptL A l).1.c, cookB s = true := by rw [f4]; exact q3
        have k4 : 0 ≤ (acceptL A l).1.p ∧ (acceptL A l).1.p ≤ 65535 := by rw [f4]; exact q4
        clear f1 f2 f3 f4 q1 q3 q4
        rw [he] at ta
        rw [q2] at tu
        generalize (acceptL A l).1 = d at *
        obtain ⟨kc1, kc2, kc⟩ := k3
        obtain ⟨kp1, kp2⟩ := k4
        have kc1' : (1 : Int) ≤ (d.c.length : Int) := by omega
        have kc2' : (d.c.length : Int) ≤ 8 := by omega
        refine fn_H ([Go.ResultVar.tmp 4]) Try.func5 rfl rfl (by decide) fun ph hW Q hQ => ?_
        simp only [start, List.length_cons, List.length_nil, List.cons_append, List.nil_append, Nat.reduceAdd, Nat.reduceSub, List.replicate_succ, List.replicate_zero, Try.ntmps5]
        repeat' first | simp -implicitDefEqProofs (maxSteps := 400000) (disch := first | with_reducible rfl | omega | (simp only [wkH] <;> omega) | decide) only [wkAll, wkL, popO, wantedP, Nat.reduceAdd, Nat.reduceLeDiff, Int.reduceNeg, binP, unP, lenP, builtinP, storeOp, setL, gt_iff_lt, if_pos, if_neg, tf43, tf53, Try.ze53, g1', gt_iff_lt, dlC] | refine w_pure (tf) ?_ | refine w_pure (ta) ?_
        refine w_loopH (α := Nat) ph ph.ob ph.ty (fun i => [.undef, .fsl 3 l.length (krsC l), .undef, .undef, .undef, .ptr ph.n 0, .undef, .bool ((A.take i).any (fun y => d.a == y)), .undef, .undef, .undef, .undef, .undef, .undef, .undef, .undef, .undef, .undef, .undef, .undef, .undef, .undef, .undef, .undef, .undef, .undef, .undef, .undef, .undef, .undef, .undef, .undef, .undef, .undef, .undef, .fsl 1 A.length (intsC A), .int .i64 A.length, .int .i64 i, .undef, .undef, .undef, .undef, .undef, .undef, .undef, .undef, .undef, .undef, .undef, .undef, .undef, .undef, .undef, .undef, .undef, .undef, .undef, .undef, .undef, .undef, .undef, .undef, .undef, .undef, .undef, .undef, .undef, .undef, .undef, .undef, .undef, .undef, .undef, .undef, .undef, .undef, .undef, .undef, .undef, .undef, .undef, .undef, .undef, .undef, .undef, .undef, .undef, .undef, .undef, .undef, .undef, .undef, .undef]) (fun i => [some (.own (dlC d))]) (fun i => i ≤ A.length) (fun i => A.length - i) 0 (by simp) (fun _ _ => by simp []) (.eq (by simp [FadeTo]) rfl) ?_
        intro i hi K hK
        rcases Nat.lt_or_ge i A.length with hlt | hge
        · obtain ⟨x, hx⟩ := get_some hlt
          have hd := intsC_drop A i x hx
          have hlt' : (i : Int) < (A.length : Int) := by omega
          have hla := intsC_len A
          have hK1 := fun tm ph' => hK (i + 1) tm ph' (by omega) (by omega)
          rw [take_snoc hx, List.any_append] at hK1
          clear hK
          unfold dlC
          cases hin : (A.take i).any (fun y => d.a == y) with
          | true =>
            rw [hin, Bool.true_or] at hK1
            repeat' first | simp -implicitDefEqProofs (maxSteps := 400000) (disch := first | with_reducible rfl | omega | (simp only [wkH] <;> omega) | decide) only [wkAll, wkL, popO, wantedP, Nat.reduceLeDiff, Int.reduceNeg, binP, indexAddrOp, loadOp, loadP, PK.agg, seg, wkN, if_pos, if_neg, tf3, tf43, hd, hlt']
            exact hK1 _ _ (.eq (by simp [FadeTo]) rfl)
          | false =>
            rw [hin, Bool.false_or, List.any_cons, List.any_nil, Bool.or_false] at hK1
            have hsym : (x == d.a) = (d.a == x) := by rw [Bool.eq_iff_iff, beq_iff_eq, beq_iff_eq]; exact eq_comm
            repeat' first | simp -implicitDefEqProofs (maxSteps := 400000) (disch := first | with_reducible rfl | omega | (simp only [wkH] <;> omega) | decide) only [wkAll, wkL, popO, wantedP, Nat.reduceAdd, Nat.reduceLeDiff, Int.reduceNeg, binP, indexAddrOp, loadOp, loadP, fieldAddrOp, PK.agg, seg, wkN, if_pos, if_neg, tf3, tf43, tf53, hd, hlt', hsym]
            exact hK1 _ _ (.eq (by simp [FadeTo]) rfl)
        · have hge' : ¬ (i : Int) < (A.length : Int) := by omega
          rw [List.take_of_length_le hge, k1]
          clear hK
          unfold dlC
          repeat' first | simp -implicitDefEqProofs (maxSteps := 400000) (disch := first | with_reducible rfl | omega | (simp only [wkH] <;> omega) | decide) only [wkAll, wkL, popO, wantedP, Nat.reduceAdd, Nat.reduceLeDiff, Int.reduceNeg, binP, lenP, builtinP, loadOp, loadP, fieldAddrOp, PK.agg, seg, if_pos, if_neg, tf23, tf53, hge']
          refine w_loopH (α := Nat) ph ph.ob ph.ty (fun i => [.undef, .fsl 3 l.length (krsC l), .undef, .undef, .undef, .ptr ph.n 0, .undef, .bool true, .undef, .undef, .undef, .undef, .undef, .undef, .undef, .undef, .undef, .undef, .undef, .undef, .undef, .undef, .undef, .undef, .undef, .undef, .undef, .undef, .undef, .undef, .undef, .undef, .undef, .undef, .undef, .undef, .undef, .undef, .undef, .undef, .undef, .undef, .undef, .undef, .undef, .undef, .undef, .undef, .undef, .undef, .fsl 1 d.c.length (d.c.map PV.str), .int .i64 d.c.length, .int .i64 i, .undef, .undef, .undef, .undef, .undef, .undef, .undef, .undef, .undef, .undef, .undef, .undef, .undef, .undef, .undef, .undef, .undef, .undef, .undef, .undef, .undef, .undef, .undef, .undef, .undef, .undef, .undef, .undef, .undef, .undef, .undef, .undef, .undef, .undef, .undef, .undef, .undef, .undef, .undef, .undef]) (fun i => [some (.own (dlC d))]) (fun i => i ≤ d.c.length) (fun i => d.c.length - i) 0 (by simp) (fun _ _ => by simp []) (.eq (by simp [FadeTo]) rfl) ?_
          intro j hj K hK
          unfold dlC at hK ⊢
          rcases Nat.lt_or_ge j d.c.length with hlt | hge2
          · obtain ⟨s, hs⟩ := get_some hlt
            have hlt' : (j : Int) < (d.c.length : Int) := by omega
            have hcs : (d.c.map PV.str)[j]? = some (.str s) := by rw [List.getElem?_map, hs]; rfl
            have tk := refCookie_ok (w0 := w0) s
            rw [kc s (List.mem_of_getElem? hs)] at tk
            repeat' first | simp -implicitDefEqProofs (maxSteps := 400000) (disch := first | with_reducible rfl | omega | (simp only [wkH] <;> omega) | decide) only [wkAll, wkL, popO, wantedP, Int.reduceNeg, binP, indexAddrOp, loadOp, loadP, PK.agg, seg, wkN, if_pos, if_neg, tf9, tf23, List.getElem?_drop, hcs, hlt'] | refine w_pure (tk) ?_
            exact hK (j + 1) _ _ (by omega) (by omega) (.eq (by simp [FadeTo]) rfl)
          · have hge2' : ¬ (j : Int) < (d.c.length : Int) := by omega
            repeat' first | simp -implicitDefEqProofs (maxSteps := 400000) (disch := first | with_reducible rfl | omega | (simp only [wkH] <;> omega) | decide) only [wkAll, wkL, popO, wantedP, Nat.reduceAdd, Nat.reduceLeDiff, Int.reduceNeg, binP, lenP, builtinP, loadOp, loadP, fieldAddrOp, PK.agg, seg, if_pos, if_neg, tf3, tf23, tf53, hge2', kc1', kc2', kp1, kp2] | refine w_pure (tu) ?_ | refine w_pure (aw) ?_
            refine hQ (by first | exact .inr rfl | exact .inl rfl) (by first | exact trivial | exact marks1) (by first | (simp -implicitDefEqProofs (maxSteps := 400000) (disch := first | with_reducible rfl | omega | (simp only [wkH] <;> omega) | decide) only [wkL, Int.reduceNeg, resP, resPs, resP1]; rfl) | rfl) ⟨6, by repeat' first | exact frz_scalar rfl | apply frz_tuple | apply frz_agg | apply frz_fsl | apply frz_gsl (by omega) | exact frzs_nil | apply frzs_cons⟩ (by first | exact keepsH0 | exact keeps1 (by assumption)) (nw_eq ?_)
            rfl
      · have hz := accept_fail he
        have he' : ((acceptL A l).2 != 0) = true := by rw [bne_iff_ne]; exact he
        rw [hz] at ta
        have ts := refSame19_ok (w0 := w0) ⟨0, [], [], 0⟩ ⟨0, [], [], 0⟩ (by decide) (by decide)
        rw [decide_eq_true rfl] at ts
        refine fn_H ([Go.ResultVar.tmp 4]) Try.func5 rfl rfl (by decide) fun ph hW Q hQ => ?_
        simp only [start, List.length_cons, List.length_nil, List.cons_append, List.nil_append, Nat.reduceAdd, Nat.reduceSub, List.replicate_succ, List.replicate_zero, Try.ntmps5]
        repeat' first | simp -implicitDefEqProofs (maxSteps := 400000) (disch := first | with_reducible rfl | omega | (simp only [wkH] <;> omega) | decide) only [wkAll, wkL, popO, wantedP, Nat.reduceAdd, Nat.reduceLeDiff, Int.reduceNeg, binP, unP, lenP, builtinP, loadOp, storeOp, loadP, buildP, placeF, fillP, setL, PK.agg, gt_iff_lt, seg, if_pos, if_neg, tf43, tf53, Try.ze53, g1', gt_iff_lt, he', dlC] | refine w_pure (tf) ?_ | refine w_pure (ta) ?_ | refine w_pureN ts (nws_cons (nw_eq rfl) (nws_cons (nw_agg (nws_cons (nw_eq rfl) (nws_cons nw_nil (nws_cons (nw_eq rfl) (nws_cons (nw_eq rfl) nws_nil))))) nws_nil)) ?_ | refine w_pure (aw) ?_
        refine hQ (by first | exact .inr rfl | exact .inl rfl) (by first | exact trivial | exact marks1) (by first | (simp -implicitDefEqProofs (maxSteps := 400000) (disch := first | with_reducible rfl | omega | (simp only [wkH] <;> omega) | decide) only [wkL, resP, resPs, resP1]; rfl) | rfl) ⟨6, by repeat' first | exact frz_scalar rfl | apply frz_tuple | apply frz_agg | apply frz_fsl | apply frz_gsl (by omega) | exact frzs_nil | apply frzs_cons⟩ (by first | exact keepsH0 | exact keeps1 (by assumption)) (nw_eq ?_)
        rfl
    · rw [decide_eq_false g2] at tf
      refine fn_H ([Go.ResultVar.tmp 4]) Try.func5 rfl rfl (by decide) fun ph hW Q hQ => ?_
      simp only [start, List.length_cons, List.length_nil, List.cons_append, List.nil_append, Nat.reduceAdd, Nat.reduceSub, List.replicate_succ, List.replicate_zero, Try.ntmps5]
      repeat' first | simp -implicitDefEqProofs (maxSteps := 400000) (disch := first | with_reducible rfl | omega | (simp only [wkH] <;> omega) | decide) only [wkAll, wkL, popO, wantedP, Int.reduceNeg, binP, unP, lenP, builtinP, gt_iff_lt, if_pos, if_neg, tf43, g1', gt_iff_lt] | refine w_pure (tf) ?_ | refine w_pure (aw) ?_
      refine hQ (by first | exact .inr rfl | exact .inl rfl) (by first | exact trivial | exact marks1) (by first | (simp -implicitDefEqProofs (maxSteps := 400000) (disch := first | with_reducible rfl | omega | (simp only [wkH] <;> omega) | decide) only [wkL, resP, resPs, resP1]; rfl) | rfl) ⟨6, by repeat' first | exact frz_scalar rfl | apply frz_tuple | apply frz_agg | apply frz_fsl | apply frz_gsl (by omega) | exact frzs_nil | apply frzs_cons⟩ (by first | exact keepsH0 | exact keeps1 (by assumption)) (nw_eq ?_)
      rfl
  · have g1' : (1000 : Int) < (A.length : Int) := by omega
    refine fn_H ([Go.ResultVar.tmp 4]) Try.func5 rfl rfl (by decide) fun ph hW Q hQ => ?_
    simp only [start, List.length_cons, List.length_nil, List.cons_append, List.nil_append, Nat.reduceAdd, Nat.reduceSub, List.replicate_succ, List.replicate_zero, Try.ntmps5]
    repeat' first | simp -implicitDefEqProofs (maxSteps := 400000) (disch := first | with_reducible rfl | omega | (simp only [wkH] <;> omega) | decide) only [wkAll, wkL, popO, wantedP, Int.reduceNeg, binP, lenP, builtinP, gt_iff_lt, if_pos, tf43, g1', gt_iff_lt] | refine w_pure (aw) ?_
    refine hQ (by first | exact .inr rfl | exact .inl rfl) (by first | exact trivial | exact marks1) (by first | (simp -implicitDefEqProofs (maxSteps := 400000) (disch := first | with_reducible rfl | omega | (simp only [wkH] <;> omega) | decide) only [wkL, resP, resPs, resP1]; rfl) | rfl) ⟨6, by repeat' first | exact frz_scalar rfl | apply frz_tuple | apply frz_agg | apply frz_fsl | apply frz_gsl (by omega) | exact frzs_nil | apply frzs_cons⟩ (by first | exact keepsH0 | exact keeps1 (by assumption)) (nw_eq ?_)
    rfl
theorem okR_krsB {n : Nat} {ps : List PV} (h : OkR [.bool, .int .i64, .str] n ps) (hb : ∀ p ∈ ps, BdV p) : ∃ l : List KR, ps = krsC l ∧ l.length = n ∧ ∀ r ∈ l, r.b.length < 2 ^ 47 := by
  obtain ⟨l, rfl, h2, -⟩ := okR_krs h
  refine ⟨l, rfl, h2, fun r hr => ?_⟩
  have := hb (.str r.b) (List.mem_flatMap.2 ⟨r, hr, by simp [krC]⟩)
  cases this with | str _ h => exact h
theorem NegoSafe_ok (W : World) (n0 : Nat) (c0 : List PV) (l0 : n0 ≤ maxLen) (o0 : OkR [.int .i64] n0 c0) (n1 : Nat) (c1 : List PV) (l1 : n1 ≤ maxLen) (o1 : OkR [.bool, .int .i64, .str] n1 c1) (b1 : ∀ p ∈ c1, BdV p) : Fn (Cx W) 5 [.fsl 1 n0 c0, .fsl 3 n1 c1] (.bool true) := by
  obtain ⟨A, rfl, rfl⟩ := okR_ints o0
  obtain ⟨l, rfl, rfl, hb⟩ := okR_krsB o1 b1
  exact NegoSafe_law A l l0 l1 hb
end Pv
