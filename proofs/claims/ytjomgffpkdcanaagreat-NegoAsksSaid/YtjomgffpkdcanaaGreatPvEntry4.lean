/- Part of the proof: the layer of pure values, or walks through functions (PvEntry4, PvNg16, PvKe7, PvKe8, PvNg17, PvKe9, PvNgP). -/
import Derived.Test.YtjomgffpkdcanaaGreatPvEntry
import Derived.Test.YtjomgffpkdcanaaGreatPvNg20
import Derived.Test.YtjomgffpkdcanaaGreatPvKe5
import Derived.Test.YtjomgffpkdcanaaGreatPvSha6
set_option linter.all false
/- Arguments with the bound of their reach upon every text in them. -/
namespace Pv
open Go Go.RowKit
inductive BdV : PV → Prop
  | int (k : IntKind) (n : Int) : BdV (.int k n)
  | bool (b : Bool) : BdV (.bool b)
  | str (l : List UInt8) (h : l.length < 2 ^ 47) : BdV (.str l)
  | fsl (e len : Nat) (cells : List PV) (h : ∀ c ∈ cells, BdV c) : BdV (.fsl e len cells)
theorem weightsAll_mem {H : Type} {P : Program} {e : TypeId} {l : List (DataW H × List MemPlace)} {x : DataW H × List MemPlace} {n : Nat} (hx : x ∈ l) (hn : n ∈ x.1.weights P e) : n ∈ DataW.weightsAll P e (l.map (·.1)) := by
  induction l with
  | nil => cases hx
  | cons y l ih =>
    rw [List.map_cons, DataW.weightsAll]
    rcases List.mem_cons.1 hx with rfl | h
    · exact List.mem_append_left _ hn
    · exact List.mem_append_right _ (ih h)
section
variable {H : Type} {enc : TypeId × Value → H} {P : Program} {w : World} {base : Nat} {spare : Nat → Bool} {held : Bool}

theorem trod_structB {fuel : Nat} {t : TypeId} {fs : Array Field} {cs : List Value} {x : DataW H × List MemPlace} (hu : P.underlying t = some (.struct fs)) (h : DataW.trod enc P w base spare held fuel t cs = some x) :
    ∃ m xs, fuel = m + 1 ∧ cs.length = P.cellsOf t ∧ (fs.toList.mapM fun f => DataW.trod enc P w base spare held m f.type ((cs.drop f.offset).take (P.cellsOf f.type))) = some xs ∧ x.1 = .agg (xs.map (·.1)) := by
  cases fuel with
  | zero => simp [DataW.trod] at h
  | succ m =>
    unfold DataW.trod at h
    rw [hu] at h
    split at h <;> simp_all
    obtain ⟨hl, xs, hp, hd⟩ := h
    exact ⟨xs, hp, by rw [← hd]⟩

theorem trod_arrB {fuel n : Nat} {t e : TypeId} {cs : List Value} {x : DataW H × List MemPlace} (hu : P.underlying t = some (.array n e)) (h : DataW.trod enc P w base spare held fuel t cs = some x) :
    ∃ (xs : List (DataW H × List MemPlace)) (m : Nat), fuel = m + 1 ∧ cs.length = P.cellsOf t ∧ xs.length = n ∧ (∀ (i : Nat), i < n → DataW.trod enc P w base spare held m e ((cs.drop (i * P.cellsOf e)).take (P.cellsOf e)) = xs[i]?) ∧ x.1 = .agg (xs.map (·.1)) := by
  cases fuel with
  | zero => simp [DataW.trod] at h
  | succ m =>
    unfold DataW.trod at h
    rw [hu] at h
    split at h <;> simp_all
    obtain ⟨hl, xs, hp, hd⟩ := h
    exact ⟨xs, by simpa using mapM_some_length hp, fun i hi => mapM_some_get hp i i (by simp [hi]), by rw [← hd]⟩

theorem trod_rvb : ∀ (d fuel : Nat) (t : TypeId) (cs : List Value) (x : DataW H × List MemPlace) (ks : List FK), DataW.trod enc P w base spare held fuel t cs = some x → shP P d t = some ks → (∀ n ∈ x.1.weights P t, n ≤ reachBytes) →
    ∃ ps, RVs (G0 w) ps cs ∧ OkL ks ps ∧ ∀ p ∈ ps, BdV p := by
  intro d
  induction d with
  | zero => intro fuel t cs x ks _ h; simp [shP] at h
  | succ d ih =>
    intro fuel t cs x ks hx hk hw
    unfold shP at hk
    split at hk
    · rename_i hu; cases hk
      cases fuel with
      | zero => simp [DataW.trod] at hx
      | succ fuel =>
        unfold DataW.trod at hx; rw [hu] at hx
        split at hx <;> simp_all
        exact ⟨_, .cons _ _ _ _ (.bool _) .nil, .cons _ _ _ _ (.bool _) .nil, by simpa using BdV.bool _⟩
    · rename_i k hu; cases hk
      cases fuel with
      | zero => simp [DataW.trod] at hx
      | succ fuel =>
        unfold DataW.trod at hx; rw [hu] at hx
        split at hx <;> simp_all
        obtain ⟨⟨h1, h2⟩, h3⟩ := hx
        subst h1
        exact ⟨_, .cons _ _ _ _ (.int _ _) .nil, .cons _ _ _ _ (.int _ _ h2) .nil, by simpa using BdV.int _ _⟩
    · rename_i hu; cases hk
      cases fuel with
      | zero => simp [DataW.trod] at hx
      | succ fuel =>
        obtain ⟨s, rfl, e2, -⟩ := DataW.trod_string hu hx
        have hlen : s.data.toList.length ≤ maxLen := by
          unfold DataW.trod at hx; rw [hu] at hx
          split at hx <;> simp_all
        have hb := hw s.data.toList.length (by rw [e2]; simp [DataW.weights])
        have := reachBytes_lt
        exact ⟨_, .cons _ _ _ _ (.str _ _ rfl) .nil, .cons _ _ _ _ (.str s.data.toList hlen) .nil, by simpa using BdV.str s.data.toList (by omega)⟩
    · rename_i e hu
      split at hk
      · rename_i row hrow
        split at hk
        · rename_i hc; cases hk
          rcases DataW.trod_slice hu hx with ⟨rfl, -⟩ | ⟨a, len, cap, elems, rest, n, -, rfl, hxe, -, hlc, hcm, hel, heach, -, -⟩
          · exact ⟨_, .cons _ _ _ _ (.fslnil _) .nil, .cons _ _ _ _ (.sl row 0 [] (by decide) (.nil _)) .nil, by simpa using BdV.fsl _ _ [] (by simp)⟩
          · have hsp : 0 < len → a.spot = none := by
              intro hl
              have h0 := heach 0 hl
              rw [List.getElem?_eq_getElem (by omega)] at h0
              obtain ⟨cs', hcs, -⟩ := Option.bind_eq_some_iff.1 h0
              have hl' := (World.cells?_some hcs).2.1
              have := (cells_f hcs 0 _ (List.getElem?_eq_getElem (by omega))).2
              simpa [Addr.add] using this
            have hwe : ∀ e' ∈ elems, ∀ n ∈ e'.1.weights P e, n ≤ reachBytes := by
              intro e' he' n hn
              refine hw n ?_
              rw [hxe]
              simp only [DataW.weights, hu]
              exact List.mem_cons_of_mem _ (List.mem_append_left _ (weightsAll_mem he' hn))
            have key : ∀ m, m ≤ len → ∃ (ps : List PV) (vs : List Value), RVs (G0 w) ps vs ∧ (∀ j v, vs[j]? = some v → (G0 w).f ⟨a.block, a.off + j, none⟩ = some v ∧ a.spot = none) ∧ vs.length = m * row.length ∧ ∃ rows : List (List PV), rows.length = m ∧ (∀ c ∈ rows, OkL row c) ∧ rows.flatten = ps ∧ ∀ p ∈ ps, BdV p := by
              intro m
              induction m with
              | zero => intro _; exact ⟨[], [], .nil, by simp, by simp, [], rfl, by simp, rfl, by simp⟩
              | succ m ihm =>
                intro hm
                obtain ⟨ps, vs, h1, h2, h3, rows, h4, h5, h6, h7⟩ := ihm (by omega)
                have hme := heach m (by omega)
                have : m < elems.length := by omega
                rw [List.getElem?_eq_getElem this] at hme
                obtain ⟨cs', hcs, ht⟩ := Option.bind_eq_some_iff.1 hme
                obtain ⟨qs, g1, g2, g3⟩ := ih _ _ _ _ _ ht hrow (hwe _ (List.getElem_mem _))
                have hf := cells_f hcs
                refine ⟨ps ++ qs, vs ++ cs', h1.append g1, ?_, ?_, rows ++ [qs], by simp [h4], ?_, by simp [h6], fun p hp => (List.mem_append.1 hp).elim (h7 p) (g3 p)⟩
                · intro j v hj
                  by_cases hlt : j < vs.length
                  · rw [List.getElem?_append_left hlt] at hj; exact h2 j v hj
                  · rw [List.getElem?_append_right (by omega)] at hj
                    have := hf _ _ hj
                    rw [add_none (hsp (by omega))] at this
                    refine ⟨?_, hsp (by omega)⟩
                    rw [← this.1]
                    have e1 : a.off + j = a.off + m * P.cellsOf e + (j - vs.length) := by rw [← hc.1]; omega
                    rw [e1]
                · have := (World.cells?_some hcs).2.1
                  simp [h3, this, ← hc.1, Nat.succ_mul]
                · intro c hcm'
                  rcases List.mem_append.1 hcm' with h | h
                  · exact h5 c h
                  · simp at h; subst h; exact g2
            obtain ⟨ps, vs, h1, h2, h3, rows, h4, h5, h6, h7⟩ := key len (Nat.le_refl _)
            have hR : OkR row len ps := by
              rw [← h6, ← h4]
              clear h4 h6 h1 h3 h7 heach key
              induction rows with
              | nil => exact .nil _
              | cons c rows ihr => exact .cons _ _ _ _ (h5 c (by simp)) (ihr fun c' h => h5 c' (List.mem_cons_of_mem _ h))
            refine ⟨_, .cons _ _ _ _ (.fsl row.length len ps vs a cap h1 hlc hR.length ?_ fun j v hj => (h2 j v hj).1) .nil, .cons _ _ _ _ (.sl row len ps (by omega) hR) .nil, by simpa using BdV.fsl _ _ ps h7⟩
            intro hl
            have : 0 < vs.length := by rw [h3]; exact Nat.mul_pos hl hc.2
            exact (h2 0 _ (List.getElem?_eq_getElem this)).2
        · cases hk
      · cases hk
    · rename_i fs hu
      split at hk
      · rename_i ks' hgo
        split at hk
        · rename_i hlen; cases hk
          obtain ⟨fuel, xs, -, hcl, hm, hxe⟩ := trod_structB hu hx
          have go : ∀ (fl : List Field) (off : Nat) (ks : List FK) (xs : List (DataW H × List MemPlace)), shGo P (shP P d) fl off = some ks → (fl.mapM fun f => DataW.trod enc P w base spare held fuel f.type ((cs.drop f.offset).take (P.cellsOf f.type))) = some xs → off + ks.length ≤ cs.length → (∀ n ∈ DataW.weightsEach P (fl.map (·.type)) (xs.map (·.1)), n ≤ reachBytes) →
              ∃ ps, RVs (G0 w) ps ((cs.drop off).take ks.length) ∧ OkL ks ps ∧ ∀ p ∈ ps, BdV p := by
            intro fl
            induction fl with
            | nil =>
              intro off ks xs hg _ _ _
              simp only [shGo, Option.some.injEq] at hg
              subst hg
              exact ⟨[], by simpa using RVs.nil, .nil, by simp⟩
            | cons f fl ihf =>
              intro off ks xs hg hmm hle hww
              unfold shGo at hg
              split at hg
              · rename_i hoff
                split at hg
                · rename_i k1 hk1
                  split at hg
                  · rename_i hk1l
                    simp only [Option.map_eq_some_iff] at hg
                    obtain ⟨k2, hk2, rfl⟩ := hg
                    rw [List.mapM_cons] at hmm
                    simp only [Option.bind_eq_bind, Option.bind_eq_some_iff, Option.pure_def, Option.some.injEq] at hmm
                    obtain ⟨y, hy, ys, hys, rfl⟩ := hmm
                    simp only [List.map_cons, DataW.weightsEach, List.mem_append] at hww
                    obtain ⟨p1, r1, o1, b1⟩ := ih _ _ _ _ _ hy hk1 (fun n hn => hww n (.inl hn))
                    simp only [List.length_append] at hle
                    obtain ⟨p2, r2, o2, b2⟩ := ihf _ _ _ hk2 hys (by omega) (fun n hn => hww n (.inr hn))
                    refine ⟨p1 ++ p2, ?_, o1.append o2, fun p hp => (List.mem_append.1 hp).elim (b1 p) (b2 p)⟩
                    rw [List.length_append, List.take_add, List.drop_drop]
                    rw [hoff, ← hk1l] at r1
                    exact r1.append r2
                  · cases hg
                · cases hg
              · cases hg
          obtain ⟨ps, r, o, b⟩ := go _ _ _ _ hgo hm (by omega) (fun n hn => hw n (by rw [hxe]; simp only [DataW.weights, hu]; exact hn))
          refine ⟨ps, ?_, o, b⟩
          rw [List.drop_zero, List.take_of_length_le (by omega)] at r
          exact r
        · cases hk
      · cases hk
    · rename_i n e hu
      split at hk
      · rename_i row hrow
        split at hk
        · rename_i hc; cases hk
          obtain ⟨xs, m, -, hcl, hxl, heach, hxe⟩ := trod_arrB hu hx
          have hwe : ∀ e' ∈ xs, ∀ n ∈ e'.1.weights P e, n ≤ reachBytes := fun e' he' n hn => hw n (by rw [hxe]; simp only [DataW.weights, hu]; exact weightsAll_mem he' hn)
          have key : ∀ i, i ≤ n → ∃ ps, RVs (G0 w) ps (cs.take (i * row.length)) ∧ OkL ((List.replicate i row).flatten) ps ∧ ∀ p ∈ ps, BdV p := by
            intro i
            induction i with
            | zero => intro _; exact ⟨[], by simpa using RVs.nil, .nil, by simp⟩
            | succ i ihi =>
              intro hi
              obtain ⟨ps, h1, h2, h3⟩ := ihi (by omega)
              have he := heach i (by omega)
              rw [List.getElem?_eq_getElem (by omega)] at he
              obtain ⟨qs, g1, g2, g3⟩ := ih _ _ _ _ _ he hrow (hwe _ (List.getElem_mem _))
              rw [← hc.1] at g1
              refine ⟨ps ++ qs, ?_, ?_, fun p hp => (List.mem_append.1 hp).elim (h3 p) (g3 p)⟩
              · rw [Nat.succ_mul, List.take_add]; exact h1.append g1
              · rw [List.replicate_succ', List.flatten_append]; simpa using h2.append g2
          obtain ⟨ps, h1, h2, h3⟩ := key n (Nat.le_refl _)
          refine ⟨ps, ?_, h2, h3⟩
          rw [List.take_of_length_le (by rw [hcl, ← hc.2]; exact Nat.le_refl _)] at h1
          exact h1
        · cases hk
      · cases hk
    · cases hk
end
section
variable {H : Type} {enc : TypeId × Value → H} {P : Program} {w : World} {spare : Nat → Bool} {held : Bool} {t : TypeId} {v : Value} {d : DataW H} {ps : List MemPlace} {base : Nat} {ks : List FK}
theorem weights_le {ts : List TypeId} {ds : List (DataW H)} (hsz : (DataW.weightsEach P ts ds).all (· ≤ reachBytes) = true) {j : Nat} (ht : ts[j]? = some t) (hd : ds[j]? = some d) : ∀ n ∈ d.weights P t, n ≤ reachBytes := fun n hn => by
  have := List.all_eq_true.1 hsz _ (DataW.weights_mem_each ht hd n hn)
  simpa using this
theorem open_stB {fs : Array Field} {ts : List TypeId} {ds : List (DataW H)} (hu : P.underlying t = some (.struct fs)) (hv : Value.okWide P w .any base t v) (h : DataW.Trod enc P w 0 spare held t v d ps) (hs : shP P 20 t = some ks) (hsz : (DataW.weightsEach P ts ds).all (· ≤ reachBytes) = true) {j : Nat} (ht : ts[j]? = some t) (hd : ds[j]? = some d) : ∃ cells, OkL ks cells ∧ (∀ p ∈ cells, BdV p) ∧ RV (G0 w) (.agg cells) v := by
  obtain ⟨fuel, hf⟩ := h
  obtain ⟨cells, hr, ho, hb⟩ := trod_rvb _ _ _ _ _ _ hf hs (weights_le hsz ht hd)
  obtain ⟨cs, rfl, -⟩ := Go.WideShapes.okWide_struct hu hv
  refine ⟨cells, ho, hb, ?_⟩
  have : cs = cs.toList.toArray := by simp
  rw [this]
  exact .agg _ _ hr
theorem open_slB {e : TypeId} {row : List FK} {ts : List TypeId} {ds : List (DataW H)} (hu : P.underlying t = some (.slice e)) (hv : Value.okWide P w .any base t v) (h : DataW.Trod enc P w 0 spare held t v d ps) (hs : shP P 20 t = some [.sl row]) (hsz : (DataW.weightsEach P ts ds).all (· ≤ reachBytes) = true) {j : Nat} (ht : ts[j]? = some t) (hd : ds[j]? = some d) : ∃ len cells, len ≤ maxLen ∧ OkR row len cells ∧ (∀ p ∈ cells, BdV p) ∧ RV (G0 w) (.fsl row.length len cells) v := by
  obtain ⟨fuel, hf⟩ := h
  obtain ⟨cells, hr, ho, hb⟩ := trod_rvb _ _ _ _ _ _ hf hs (weights_le hsz ht hd)
  obtain ⟨a, l, c, rfl⟩ := Go.WideShapes.okWide_slice hu hv
  have hc : (Value.slice a l c).cells = #[.slice a l c] := rfl
  rw [hc] at hr
  cases ho with
  | cons _ _ p ps h1 h2 =>
    cases h2
    cases hr with
    | cons _ _ _ _ g1 g2 =>
      have hb1 := hb p (by simp)
      cases h1 with
      | sl _ len cells hl hc => cases hb1 with | fsl _ _ _ hb2 => exact ⟨len, cells, hl, hc, hb2, g1⟩
end
end Pv

--nosplit
--keep2
namespace Pv
set_option maxRecDepth 20000
set_option maxHeartbeats 4000000
open Go Go.Proofs Go.RowKit
variable {w0 : World}

end Pv

namespace Pv
set_option maxRecDepth 20000
set_option maxHeartbeats 4000000
open Go Go.Proofs Go.RowKit
variable {w0 : World}

end Pv

namespace Pv
open Go Go.Proofs Go.RowKit

theorem okR_krs : ∀ {n : Nat} {ps : List PV}, OkR [.bool, .int .i64, .str] n ps → ∃ l : List KR, ps = krsC l ∧ l.length = n ∧ ∀ r ∈ l, r.b.length ≤ maxLen
  | _, _, .nil _ => ⟨[], rfl, rfl, by simp⟩
  | _, _, .cons _ _ _ _ h hs => by
    obtain ⟨l, rfl, rfl, hl⟩ := okR_krs hs
    cases h with
    | cons _ _ _ _ h1 h => cases h with
      | cons _ _ _ _ h2 h => cases h with
        | cons _ _ _ _ h3 h => cases h with
          | nil =>
            cases h1; cases h2; cases h3
            rename_i c k hk b hb
            exact ⟨⟨c, k, b⟩ :: l, by simp [krsC, krC], rfl, by simpa using ⟨hb, hl⟩⟩
theorem okR_ints : ∀ {n : Nat} {ps : List PV}, OkR [.int .i64] n ps → ∃ l : List Int, ps = intsC l ∧ l.length = n
  | _, _, .nil _ => ⟨[], rfl, rfl⟩
  | _, _, .cons _ _ _ _ h hs => by
    obtain ⟨l, rfl, rfl⟩ := okR_ints hs
    cases h with
    | cons _ _ _ _ h1 h => cases h with
      | nil =>
        cases h1
        rename_i k hk
        exact ⟨k :: l, by simp [intsC], rfl⟩

end Pv

--nosplit
--keep2
namespace Pv
set_option maxRecDepth 20000
set_option maxHeartbeats 4000000
open Go Go.Proofs Go.RowKit
variable {w0 : World}

theorem few19_ok (n : Nat) (c : List PV) : Fn (Cx w0) 5 [.fsl 3 n c] (.bool (decide (n ≤ 500))) := by
  rw [show decide (n ≤ 500) = decide ((n : Int) ≤ 500) from decide_eq_decide.2 (by omega)]
  refine fn_H ([Go.ResultVar.tmp 2]) Tryz.func5 rfl rfl (by decide) fun ph hW Q hQ => ?_
  simp only [start, List.length_cons, List.length_nil, List.cons_append, List.nil_append, Nat.reduceAdd, Nat.reduceSub, List.replicate_succ, List.replicate_zero, Tryz.ntmps5]
  repeat' first | simp -implicitDefEqProofs (maxSteps := 400000) (disch := first | with_reducible rfl | omega | (simp only [wkH] <;> omega) | decide) only [wkAll, wkL, popO, wantedP, binP, lenP, builtinP, if_pos, tf26]
  refine hQ (by first | exact .inr rfl | exact .inl rfl) (by first | exact trivial | exact marks1) (by first | (simp -implicitDefEqProofs (maxSteps := 400000) (disch := first | with_reducible rfl | omega | (simp only [wkH] <;> omega) | decide) only [wkL, resP, resPs, resP1]; rfl) | rfl) ⟨6, by repeat' first | exact frz_scalar rfl | apply frz_tuple | apply frz_agg | apply frz_fsl | apply frz_gsl (by omega) | exact frzs_nil | apply frzs_cons⟩ (by first | exact keepsH0 | exact keeps1 (by assumption)) (nw_eq ?_)
  rfl
theorem okR_krsB {n : Nat} {ps : List PV} (h : OkR [.bool, .int .i64, .str] n ps) (hb : ∀ p ∈ ps, BdV p) : ∃ l : List KR, ps = krsC l ∧ l.length = n ∧ ∀ r ∈ l, r.b.length < 2 ^ 47 := by
  obtain ⟨l, rfl, h2, -⟩ := okR_krs h
  refine ⟨l, rfl, h2, fun r hr => ?_⟩
  have := hb (.str r.b) (List.mem_flatMap.2 ⟨r, hr, by simp [krC]⟩)
  cases this with | str _ h => exact h
end Pv

namespace Pv
set_option maxRecDepth 20000
open Go

/-! ### The plain laws of chapter 18 -/
/-- A record at the begin of t, t being at place a: what stands in it, and behind it. -/
inductive RD : Nat → List UInt8 → List KR → List UInt8 → Prop
  | fin {a : Nat} {t : List UInt8} {r : KR} (h : oneT a t = (r, 0)) (hk : r.k = 0) : RD a t [r] (t.drop (4 + r.b.length))
  | step {a : Nat} {t : List UInt8} {r : KR} {l : List KR} {rest : List UInt8} (h : oneT a t = (r, 0)) (hk : r.k ≠ 0) (hd : RD (a + 4 + r.b.length) (t.drop (4 + r.b.length)) l rest) : RD a t (r :: l) rest

inductive RE : Nat → List UInt8 → Int → Prop
  | here {a : Nat} {t : List UInt8} {r : KR} {e : Int} (h : oneT a t = (r, e)) (he : e ≠ 0) : RE a t e
  | step {a : Nat} {t : List UInt8} {r : KR} {e : Int} (h : oneT a t = (r, 0)) (hk : r.k ≠ 0) (hd : RE (a + 4 + r.b.length) (t.drop (4 + r.b.length)) e) : RE a t e

theorem RD.walk {s t : List UInt8} {a : Nat} {l pre : List KR} {rest : List UInt8} (h : RD a t l rest) (hw : Walk s a pre) (ht : t = s.drop a) : readL s = (pre ++ l, rest, 0) := by
  induction h generalizing pre with
  | fin h hk =>
    subst ht
    have := hw.fin (by rw [h]) (by rw [h]; exact hk)
    rw [h] at this
    rw [this]; simp [List.drop_drop, Nat.add_assoc]
  | step h hk hd ih =>
    subst ht
    have hw2 := hw.snoc (by rw [h]) (by rw [h]; exact hk)
    rw [h] at hw2
    have := ih hw2 (by simp [List.drop_drop, Nat.add_assoc])
    rw [this]; simp
theorem RE.walk {s t : List UInt8} {a : Nat} {pre : List KR} {e : Int} (h : RE a t e) (hw : Walk s a pre) (ht : t = s.drop a) : readL s = ([], [], e) := by
  induction h generalizing pre with
  | here h he =>
    subst ht
    have := hw.err (by rw [h]; exact he)
    rw [h] at this; exact this
  | step h hk hd ih =>
    subst ht
    have hw2 := hw.snoc (by rw [h]) (by rw [h]; exact hk)
    rw [h] at hw2
    exact ih hw2 (by simp [List.drop_drop, Nat.add_assoc])
theorem RD.read {s : List UInt8} {l : List KR} {rest : List UInt8} (h : RD 0 s l rest) : readL s = (l, rest, 0) := h.walk .nil rfl
theorem RE.read {s : List UInt8} {e : Int} (h : RE 0 s e) : readL s = ([], [], e) := h.walk .nil rfl

end Pv

namespace Pv
open Go Go.RowKit
theorem takeB_iff (A : List Int) (a : Int) : takeB A a = true ↔ A.any (fun y => a == y) = true ∧ (a = 15 ∨ a = 17) := by
  unfold takeB
  rw [Bool.and_eq_true, decide_eq_true_iff]
  constructor
  · rintro ⟨h1, h2⟩
    exact ⟨h2, kszL_a (by omega)⟩
  · rintro ⟨h1, h2⟩
    refine ⟨?_, h1⟩
    rcases h2 with rfl | rfl <;> decide
theorem idx_find {α : Type} (p : α → Bool) (l : List α) : (idxL p l < 0 ∧ l.find? p = none) ∨ ∃ (k : Nat) (a : α), idxL p l = (k : Int) ∧ l[k]? = some a ∧ l.find? p = some a ∧ p a = true := by
  unfold idxL
  cases h : l.findIdx? p with
  | none =>
    left
    refine ⟨by decide, ?_⟩
    rw [List.find?_eq_none]
    intro x hx
    have := List.findIdx?_eq_none_iff.1 h x hx
    simp [this]
  | some i =>
    right
    obtain ⟨hi, hp, hn⟩ := List.findIdx?_eq_some_iff_getElem.1 h
    refine ⟨i, l[i], rfl, List.getElem?_eq_getElem hi, ?_, hp⟩
    rw [List.find?_eq_some_iff_getElem]
    exact ⟨hp, i, hi, rfl, fun j hj => by simpa using hn j hj⟩
end Pv
