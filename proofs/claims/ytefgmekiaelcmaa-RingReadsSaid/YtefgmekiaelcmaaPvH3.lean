/- Part of the proof: the layer of pure values, or walks through functions (PvH3). -/
import Derived.Test.YtefgmekiaelcmaaPvEntry3
set_option linter.all false
namespace Pv
open Go Go.RowKit
variable {X : Ctx} {G : Ghost} {ph : PH} {w : World} {ρ : Option Nat} {n0 : Nat} {Q : Exit → PSt → PH → Prop}

/-! ### A row of one's own that is only read from now on: blocks that hold it tell its cells -/
/-- Arguments, those within a struct too. -/
def FA2 (p : Nat) (cells : List PV) : List PV → List PV → Prop
  | [], [] => True
  | a :: az, b :: bs => (b = a ∨ (∃ off esz len cap, a = .sl p off esz len cap ∧ b = .fsl esz len (seg cells off (len * esz)) ∧ off + len * esz ≤ cells.length) ∨ ∃ c c', a = .agg c ∧ b = .agg c' ∧ FA p cells c c') ∧ FA2 p cells az bs
  | _, _ => False
def FB (p : Nat) (cells : List PV) : List (Option Blk) → List (Option Blk) → Prop
  | [], [] => True
  | x :: xs, y :: ys => (y = x ∨ ∃ c c', x = some (.own c) ∧ y = some (.own c') ∧ FA p cells c c') ∧ FB p cells xs ys
  | _, _ => False
theorem FA2.rvs (h : Rel X G ph w) {p : Nat} {cells : List PV} {L : Loc} (hp : ph.get p = some cells) (hL : G.l[p]? = some L) : ∀ {az bs : List PV} {rs : List Value}, FA2 p cells az bs → RVs G az rs → RVs (G.frzB w L.b) bs rs
  | [], [], _, _, hr => by cases hr; exact .nil
  | a :: az, b :: bs, _, hf, hr => by
    obtain ⟨h1, h2⟩ := hf
    cases hr with
    | cons _ r _ rs ha hs =>
      refine .cons _ _ _ _ ?_ (FA2.rvs h hp hL h2 hs)
      rcases h1 with rfl | ⟨off, esz, len, cap, rfl, rfl, hle⟩ | ⟨c, c', rfl, rfl, h3⟩
      · exact ha.mono (le_frzB _ _ _)
      · exact rv_frz h hp hL ha hle
      · cases ha with
        | agg _ vals hv => exact .agg _ _ (h3.rvs h hp hL hv)
  | [], _ :: _, _, hf, _ => hf.elim
  | _ :: _, [], _, hf, _ => hf.elim
theorem FB.at {p : Nat} {cells : List PV} : ∀ {l l' : List (Option Blk)}, FB p cells l l' → l'.length = l.length ∧ ∀ k : Nat, (l'[k]? = l[k]?) ∨ ∃ c c', l[k]? = some (some (.own c)) ∧ l'[k]? = some (some (.own c')) ∧ FA p cells c c'
  | [], [], _ => ⟨rfl, fun _ => .inl rfl⟩
  | x :: xs, y :: ys, h => by
    obtain ⟨h1, h2⟩ := h
    obtain ⟨h3, h4⟩ := h2.at
    refine ⟨by simp [h3], fun k => ?_⟩
    cases k with
    | zero =>
      rcases h1 with rfl | ⟨c, c', rfl, rfl, h⟩
      · exact .inl rfl
      · exact .inr ⟨c, c', rfl, rfl, h⟩
    | succ k => simpa using h4 k
  | [], _ :: _, h => h.elim
  | _ :: _, [], h => h.elim

theorem Rel.frzC {b : PH} {l l' : List (Option Blk)} {ob : Nat → Option PObj} {ty : Nat → Option TypeId} {k : Nat} {cells : List PV} {L : Loc} (hr : Rel X G (H b l ob ty) w) (hk : l[k]? = some (some (.own cells))) (hL : G.l[b.n + k]? = some L) (h2 : FB (b.n + k) cells (l.set k none) l') :
    Rel X (G.frzB w L.b) (H b l' ob ty) w := by
  have hpk : (H b l ob ty).get (b.n + k) = some cells := by rw [h_get, hk]; rfl
  have hp := hr.frzB hpk hL
  rw [show (H b l ob ty).kill (b.n + k) = H b (l.set k none) ob ty from h_kill] at hp
  obtain ⟨h3, h4⟩ := h2.at
  have hgen : ∀ (p : Nat) (hp : ¬ p < b.n), ∃ k, p = b.n + k := fun p hp => ⟨p - b.n, by omega⟩
  have hget : ∀ p c', (H b l' ob ty).get p = some c' → ∃ c, (H b (l.set k none) ob ty).get p = some c := by
    intro p c' hc
    by_cases hpb : p < b.n
    · exact ⟨c', by rw [h_getlt hpb] at hc ⊢; exact hc⟩
    · obtain ⟨j, rfl⟩ := hgen p hpb
      rcases h4 j with h5 | ⟨c, d, h5, h6, h7⟩
      · exact ⟨c', by rw [h_get] at hc ⊢; rw [← h5]; exact hc⟩
      · exact ⟨c, by rw [h_get, h5]; rfl⟩
  refine ⟨by rw [hp.len]; simp [H, h3], hp.below, ?_, ?_, hp.fz, ?_, hp.ob, hp.ty, ?_⟩
  · intro p c' hc
    by_cases hpb : p < b.n
    · have hc2 : (H b (l.set k none) ob ty).get p = some c' := by rw [h_getlt hpb] at hc ⊢; exact hc
      exact hp.own p c' hc2
    · obtain ⟨j, rfl⟩ := hgen p hpb
      rcases h4 j with h5 | ⟨c, d, h5, h6, h7⟩
      · have hc2 : (H b (l.set k none) ob ty).get (b.n + j) = some c' := by rw [h_get] at hc ⊢; rw [← h5]; exact hc
        exact hp.own _ c' hc2
      · rw [h_get, h6] at hc
        cases hc
        have hjk : j ≠ k := by
          rintro rfl
          have hlt : j < l.length := (List.getElem?_eq_some_iff.1 hk).1
          rw [List.getElem?_set, if_pos rfl, if_pos hlt] at h5
          cases h5
        have hc0 : (H b l ob ty).get (b.n + j) = some c := by
          rw [h_get]; rw [List.getElem?_set, if_neg (Ne.symm hjk)] at h5; rw [h5]; rfl
        obtain ⟨M, vals, cs, e', fz, hM, o⟩ := hr.own _ c hc0
        exact ⟨M, vals, cs, e', fz, hM, ⟨h7.rvs hr hpk hL o.rv, o.lt, o.ge, o.hb, o.sz, o.fr, o.at_, o.one⟩⟩
  · intro p q c d L M hpq hp' hq hL hM
    obtain ⟨c0, hc0⟩ := hget p c hp'
    obtain ⟨d0, hd0⟩ := hget q d hq
    exact hp.disj p q _ _ L M hpq hc0 hd0 hL hM
  · intro a v p c L hv hp' hL
    obtain ⟨c0, hc0⟩ := hget p c hp'
    exact hp.fdisj a v p _ L hv hc0 hL
  · refine hp.grow.step rfl (Nat.le_refl _) (fun p r hr => ?_) (fun _ _ => rfl) (fun _ _ h => .inl h) fun q c L hc hL => by
      obtain ⟨c0, hc0⟩ := hget q c hc
      exact .inl ⟨c0, hc0, hL⟩
    by_cases hpb : p < b.n
    · rw [h_grolt hpb] at hr ⊢; exact hr
    · obtain ⟨j, rfl⟩ := hgen p hpb
      rw [h_gro] at hr ⊢
      rcases h4 j with h5 | ⟨c, d, h5, h6, h7⟩
      · rw [← h5]; exact hr
      · rw [h6] at hr; cases hr

/-- A call: block k is only read from now on. -/
theorem w_frzC {f : FuncId} {args args' : List PV} {K : PV → PH → Prop} {b : PH} {l l' : List (Option Blk)} {ob : Nat → Option PObj} {ty : Nat → Option TypeId} (k : Nat) (cells : List PV) (hk : l[k]? = some (some (.own cells))) (ha : FA2 (b.n + k) cells args args') (hb : FB (b.n + k) cells (l.set k none) l')
    (h : PCalls X f args' (H b l' ob ty) K) : PCalls X f args (H b l ob ty) K := by
  intro G w rargs hr hv
  have hpk : (H b l ob ty).get (b.n + k) = some cells := by rw [h_get, hk]; rfl
  obtain ⟨L, hL⟩ : ∃ L, G.l[b.n + k]? = some L := ⟨_, List.getElem?_eq_getElem (by rw [hr.lenN]; exact PH.get_lt hpk)⟩
  have hr' := hr.frzC hk hL hb
  have hv' := ha.rvs hr hpk hL hv
  have hn : (H b l' ob ty).n = (H b l ob ty).n := by rw [h_n, h_n, hb.at.1, List.length_set]
  have key : ∀ v w', CPost X (H b l' ob ty).n (G.frzB w L.b) K v w' → CPost X (H b l ob ty).n G K v w' := by
    rintro v w' ⟨G2, pv, ph', h1, h2, h3, h4, h5⟩
    rw [hn] at h1 h4
    exact ⟨G2, pv, ph', ((le_frzB G w L.b).n _).trans h1, h2, h3, h4, h5⟩
  rcases h _ w rargs hr' hv' with ⟨v, w', e, hc⟩ | ⟨w', e, hc⟩
  · exact .inl ⟨v, w', e, key _ _ hc⟩
  · refine .inr ⟨w', e, Calls.mono hc ?_⟩
    intro e w he
    cases e with
    | returned v => exact key _ _ he
    | _ => exact he

theorem FB.refl {p : Nat} {cells : List PV} : ∀ {l : List (Option Blk)}, FB p cells l l
  | [] => trivial
  | _ :: _ => ⟨.inl rfl, FB.refl⟩
theorem FB.set {p : Nat} {cells c c' : List PV} : ∀ {l : List (Option Blk)} {j : Nat}, l[j]? = some (some (.own c)) → FA p cells c c' → FB p cells l (l.set j (some (.own c')))
  | [], _, h, _ => by simp at h
  | x :: xs, 0, h, hf => by simp at h; subst h; exact ⟨.inr ⟨c, c', rfl, rfl, hf⟩, FB.refl⟩
  | x :: xs, j + 1, h, hf => by simp only [List.getElem?_cons_succ] at h; exact ⟨.inl rfl, FB.set h hf⟩

/-- A round's end, nothing dropped. -/
theorem HTo.cut0 {b : PH} {l : List (Option Blk)} {ob ob' : Nat → Option PObj} {ty ty' : Nat → Option TypeId} {st tm : List PV} {ph' : PH} (hb : WF b) (h : FadeTo tm st) (e : ph' = H b l ob' ty') (h1 : Scs (b.n + l.length) st)
    (h2 : ∀ x ∈ l, ∀ c, x = some (Blk.own c) → Scs (b.n + l.length) c) (ho : ∀ r o, ob r = some o → ob' r = some o := by exact fun _ _ h => h) (ht : ∀ p e, ty p = some e → ty' p = some e := by exact fun _ _ h => h)
    (h3 : ob = b.ob ∨ ∀ r o, ob r = some o → ObSc (b.n + l.length) o := by exact .inl rfl) (h4 : ty = b.ty ∨ ∀ p e, ty p = some e → p < b.n + l.length := by exact .inl rfl) : HTo b l ob ty st tm ph' :=
  HTo.cut [] hb h (by rw [e, List.append_nil]) h1 h2 ho ht h3 h4
end Pv
