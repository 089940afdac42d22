/- Part of the proof: the layer of pure values, or a walk through a function (PvIt2). -/
import Derived.Test.YtinfnpgibmopoaaPvIter
set_option linter.all false
namespace Pv
open Go Go.RowKit
variable {X : Ctx} {G : Ghost} {ph : PH} {w : World} {n0 : Nat} {Q : Exit → PSt → PH → Prop}

theorem PYield.mono {l : Nat} {vs : List PV} {R R' : PV → PH → Prop} (h : PYield X l vs ph R) (hq : ∀ v ph, R v ph → R' v ph) : PYield X l vs ph R' := by
  intro G w rargs hr ha
  obtain ⟨fn, tmps, assign, body, w', e, hR⟩ := h G w rargs hr ha
  refine ⟨fn, tmps, assign, body, w', e, RoundIn.mono hR ?_⟩
  intro e w'' he
  cases e with
  | returned v =>
    obtain ⟨G', pv, ph', h1, h2, h3, h4, h5⟩ := he
    exact ⟨G', pv, ph', h1, h2, h3, h4, hq _ _ h5⟩
  | _ => exact he

/-- A call, its heap told as it stands. -/
theorem pcalls_walk {f : FuncId} {fn : Func} {c : Code} {args : List PV} {R : PV → PH → Prop} (rs : List ResultVar) (hf : X.P.funcs[f]? = some fn) (hrs : fn.results.toList = rs) (hb : fn.body = some c) (hnm : (fn.name == "runtime.NumGoroutine") = false)
    (h : ∀ (Q : Exit → PSt → PH → Prop), (∀ {e : Exit} {tm : List PV} {ms : List Nat} {ph' : PH} {v : PV}, (e = .normal ∨ e = .ret) → Marks ph' ms → resP X.P rs ⟨tm, ms⟩ (ph'.shut ms) = some v → ph.n ≤ (ph'.shut ms).n → R v (ph'.shut ms) → Q e ⟨tm, ms⟩ ph') →
      vc X none ph.n c Q (start fn args) ph) : PCalls X f args ph R := by
  subst hrs
  refine pcalls_of hf hb hnm ?_
  refine vc_ok _ _ _ _ (h _ ?_)
  intro e tm ms ph' v he hm hv hn hR
  exact ⟨he, hm, v, hv, v, _, .refl _ _, hn, hR⟩

/-- A function of its arguments alone, with loops over functions in it. -/
theorem fn_of3 {f : FuncId} {fn : Func} {c : Code} {args : List PV} {v : PV} (rs : List ResultVar) (hf : X.P.funcs[f]? = some fn) (hrs : fn.results.toList = rs) (hb : fn.body = some c) (hnm : (fn.name == "runtime.NumGoroutine") = false)
    (h : ∀ (ph : PH) (Q : Exit → PSt → PH → Prop), (∀ {e : Exit} {tm : List PV} {ms : List Nat} {ph' : PH} {u v' : PV}, (e = .normal ∨ e = .ret) → Marks ph' ms → resP X.P rs ⟨tm, ms⟩ (ph'.shut ms) = some u → (∃ d, frz (ph'.shut ms) ph.n d u = some v') → Keeps ph (ph'.shut ms) → v' = v → Q e ⟨tm, ms⟩ ph') →
      vc X none ph.n c Q (start fn args) ph) : Fn X f args v :=
  fn_of hf hb hnm fun ph => by
    subst hrs
    refine h ph _ ?_
    intro e tm ms ph' u v' he hm hv hf hk hR
    exact ⟨he, hm, u, hv, v', hf.choose, hf.choose_spec, hk, hR⟩

/-- One mark. -/
theorem marks_one {r : Nat} (h : ph.ob r = some .defd) : Marks ph [r] := ⟨h, trivial⟩

/-- Kept, the mark taken away. -/
theorem Keeps.shut1 {base b : PH} {r : Nat} (hn : base.n ≤ b.n) (hbl : ∀ p, p < base.n → b.get p = base.get p) (hob : ∀ o y, base.ob o = some y → b.ob o = some y) (hr : base.ob r = none) : Keeps base (b.shut [r]) := by
  refine ⟨hn, hbl, ?_⟩
  intro o y h
  have : o ≠ r := fun e => by rw [e, hr] at h; cases h
  simp only [PH.shut, PH.setOb, if_neg this]
  exact hob o y h

theorem appendP_ob {P : Program} {sT xT : TypeId} {l x l' : PV} {ph ph' : PH} (h : appendP P sT xT l x ph = some (l', ph')) : ph'.ob = ph.ob := by
  unfold appendP at h
  repeat' split at h
  all_goals first
    | cases h; done
    | (simp only [Option.some.injEq, Prod.mk.injEq] at h; obtain ⟨-, rfl⟩ := h; rfl)

theorem Keeps.wo {base a : PH} {ob : Nat → Option PObj} (h : Keeps base a) (ho : ∀ o, base.ob o ≠ none → ob o = a.ob o) : Keeps base (a.wo ob) :=
  ⟨h.n, h.bl, fun o y hy => by show ob o = _; rw [ho o (by rw [hy]; simp)]; exact h.ob o y hy⟩

theorem SlIs.wo {base a : PH} {l : PV} {sz n : Nat} {cells : List PV} {ob : Nat → Option PObj} (h : SlIs base a l sz cells n) (ho : ∀ o, base.ob o ≠ none → ob o = a.ob o) : SlIs base (a.wo ob) l sz cells n := by
  obtain ⟨h1, h2, h3, h4⟩ := h
  exact ⟨h1, h2, h3.wo ho, h4⟩

theorem SlIs.keep {base a b : PH} {l : PV} {sz n : Nat} {cells : List PV} (h : SlIs base a l sz cells n) (hk : Keeps base b) (hg : ∀ p, l = .sl p 0 sz n none → p < a.n → b.get p = a.get p) : SlIs base b l sz cells n := by
  obtain ⟨h1, h2, h3, h4⟩ := h
  refine ⟨h1, h2, hk, ?_⟩
  rcases h4 with h4 | ⟨hn, p, rfl, hp, hb⟩
  · exact .inl h4
  · exact .inr ⟨hn, p, rfl, by rw [hg p rfl (PH.get_lt hp)]; exact hp, hb⟩

/-- Kept by an iterator that began behind. -/
theorem Keeps.fg {base S a b : PH} {n1 : Nat} (h : Keeps base a) (hF : Fg S n1 a b) (hS : base.n ≤ S.n) (ho : ∀ o, base.ob o ≠ none → S.ob o ≠ none) : Keeps base b :=
  ⟨Nat.le_trans h.n hF.n, fun p hp => by rw [hF.bl p (Nat.lt_of_lt_of_le hp h.n) (by omega)]; exact h.bl p hp, fun o y hy => by rw [hF.ob o (ho o (by rw [hy]; simp))]; exact h.ob o y hy⟩
end Pv
