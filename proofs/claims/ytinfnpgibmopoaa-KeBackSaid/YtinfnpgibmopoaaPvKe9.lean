/- Part of the proof: the layer of pure values, or a walk through a function (PvKe9). -/
import Derived.Test.YtinfnpgibmopoaaPvKe7
set_option linter.all false
namespace Pv
set_option maxRecDepth 20000
open Go

/-! ### The plain laws of chapter 18 -/
/-- A record at the begin of t, t being at place a: what stands in it, and behind it. -/
inductive RD : Nat → List UInt8 → List KR → List UInt8 → Prop
  | fin {a : Nat} {t : List UInt8} {r : KR} (h : oneT a t = (r, 0)) (hk : r.k = 0) : RD a t [r] (t.drop (4 + r.b.length))
  | step {a : Nat} {t : List UInt8} {r : KR} {l : List KR} {rest : List UInt8} (h : oneT a t = (r, 0)) (hk : r.k ≠ 0) (hd : RD (a + 4 + r.b.length) (t.drop (4 + r.b.length)) l rest) : RD a t (r :: l) rest

inductive RE : Nat → List UInt8 → Int → Prop
  | here {a : Nat} {t : List UInt8} {r : KR} {e : Int} (h : oneT a t = (r, e)) (he : e ≠ 0) : RE a t e
  | step {a : Nat} {t : List UInt8} {r : KR} {e : Int} (h : oneT a t = (r, 0)) (hk : r.k ≠ 0) (hd : RE (a + 4 + r.b.length) (t.drop (4 + r.b.length)) e) : RE a t e

theorem RD.walk {s t : List UInt8} {a : Nat} {l pre : List KR} {rest : List UInt8} (h : RD a t l rest) (hw : Walk s a pre) (ht : t = s.drop a) : readL s = (pre ++ l, rest, 0) := by
  induction h generalizing pre with
  | fin h hk =>
    subst ht
    have := hw.fin (by rw [h]) (by rw [h]; exact hk)
    rw [h] at this
    rw [this]; simp [List.drop_drop, Nat.add_assoc]
  | step h hk hd ih =>
    subst ht
    have hw2 := hw.snoc (by rw [h]) (by rw [h]; exact hk)
    rw [h] at hw2
    have := ih hw2 (by simp [List.drop_drop, Nat.add_assoc])
    rw [this]; simp
theorem RE.walk {s t : List UInt8} {a : Nat} {pre : List KR} {e : Int} (h : RE a t e) (hw : Walk s a pre) (ht : t = s.drop a) : readL s = ([], [], e) := by
  induction h generalizing pre with
  | here h he =>
    subst ht
    have := hw.err (by rw [h]; exact he)
    rw [h] at this; exact this
  | step h hk hd ih =>
    subst ht
    have hw2 := hw.snoc (by rw [h]) (by rw [h]; exact hk)
    rw [h] at hw2
    exact ih hw2 (by simp [List.drop_drop, Nat.add_assoc])
theorem RD.read {s : List UInt8} {l : List KR} {rest : List UInt8} (h : RD 0 s l rest) : readL s = (l, rest, 0) := h.walk .nil rfl
theorem RE.read {s : List UInt8} {e : Int} (h : RE 0 s e) : readL s = ([], [], e) := h.walk .nil rfl

theorem readG_rd (s : List UInt8) : ∀ (f a : Nat), (readG s f a).2.2 = 0 → RD a (s.drop a) (readG s f a).1 (s.drop (readG s f a).2.1)
  | 0, a, h => by simp [readG] at h
  | f + 1, a, h => by
    obtain ⟨r, e, hr⟩ : ∃ r e, oneT a (s.drop a) = (r, e) := ⟨_, _, rfl⟩
    simp only [readG, hr] at h ⊢
    by_cases he : e ≠ 0
    · rw [if_pos he] at h; exact absurd h he
    · have he : e = 0 := by simpa using he
      subst he
      simp only [ne_eq, not_true_eq_false, if_false] at h ⊢
      by_cases hk : r.k = 0
      · simp only [hk, if_true]
        have := RD.fin hr hk
        simpa [List.drop_drop, Nat.add_assoc] using this
      · simp only [hk, if_false] at h ⊢
        by_cases h2 : (readG s f (a + 4 + r.b.length)).2.2 = 0
        · simp only [h2, not_true_eq_false, if_false]
          refine RD.step hr hk ?_
          have := readG_rd s f _ h2
          simpa [List.drop_drop, Nat.add_assoc] using this
        · simp only [h2, not_false_eq_true, if_true] at h
          first | done | exact absurd h h2
theorem readL_rd {s : List UInt8} (h : (readL s).2.2 = 0) : RD 0 s (readL s).1 (readL s).2.1 := by
  have h' : (readG s fuelK 0).2.2 = 0 := h
  have := readG_rd s fuelK 0 h'
  simp only [readL, h', if_true]
  simpa using this
theorem readG_err (s : List UInt8) : ∀ (f a : Nat), (readG s f a).2.2 ≠ 0 → (readG s f a).1 = []
  | 0, a, _ => rfl
  | f + 1, a, h => by
    simp only [readG] at h ⊢
    repeat' split at h
    all_goals simp_all
theorem readL_err {s : List UInt8} (h : (readL s).2.2 ≠ 0) : (readL s).1 = [] ∧ (readL s).2.1 = [] := by
  have h' : (readG s fuelK 0).2.2 ≠ 0 := h
  exact ⟨readG_err s _ _ h', by simp only [readL, if_neg h']⟩

/-- What oneT reads stands at the begin. -/
theorem oneT_here {a : Nat} {t : List UInt8} {r : KR} (h : oneT a t = (r, 0)) : ∃ u : List UInt8, t = u ++ t.drop (4 + r.b.length) ∧ u.length = 4 + r.b.length ∧ (∀ o, oneT a (u ++ o) = (r, 0)) ∧ (∀ c, c < u.length → ∃ q, oneT a (u.take c) = (q, 11)) ∧ u = encR r ∧ badR r = 0 ∧ a + 4 + r.b.length ≤ 2048 := by
  have hle := oneT_le (a := a) (s := t) (by rw [h])
  rw [h] at hle
  simp only at hle
  match t, h with
  | b0 :: b1 :: b2 :: b3 :: x, h =>
    have hk := num_lt b0 b1
    have hn := num_lt b2 b3
    simp only [oneT] at h
    split at h
    · cases h
    · rename_i c1
      split at h
      · cases h
      · rename_i c2
        split at h
        · cases h
        · rename_i c3
          cases h
          simp only [List.length_take, List.length_cons] at hle ⊢
          have hm : min (b2.toNat * 256 + b3.toNat) x.length = b2.toNat * 256 + b3.toNat := by omega
          rw [hm] at hle ⊢
          refine ⟨b0 :: b1 :: b2 :: b3 :: x.take (b2.toNat * 256 + b3.toNat), ?_, ?_, ?_, ?_, ?_, ?_, by omega⟩
          · rw [show 4 + (b2.toNat * 256 + b3.toNat) = (b2.toNat * 256 + b3.toNat) + 1 + 1 + 1 + 1 by omega]
            simp only [List.drop_succ_cons, List.cons_append, List.take_append_drop]
          · simp; omega
          · intro o
            simp only [List.cons_append, oneT]
            rw [if_neg c1, if_neg c2, if_neg (by simp; omega)]
            have : (List.take (b2.toNat * 256 + b3.toNat) x ++ o).take (b2.toNat * 256 + b3.toNat) = x.take (b2.toNat * 256 + b3.toNat) := by
              rw [List.take_append_of_le_length (by simp; omega), List.take_take, Nat.min_self]
            rw [this]
          · intro c hc
            by_cases h4 : c < 4
            · exact ⟨kr0, oneT_short (by simp; omega)⟩
            · obtain ⟨d, rfl⟩ : ∃ d, c = d + 1 + 1 + 1 + 1 := ⟨c - 4, by omega⟩
              simp only [List.take_succ_cons, oneT]
              simp only [List.length_cons, List.length_take] at hc
              rw [if_neg c1, if_neg c2, if_pos (by simp; omega)]
              exact ⟨_, rfl⟩
          · simp only [encR, twoL, List.length_take, hm]
            have e1 : ((b0.toNat * 256 + b1.toNat) % 32768 : Nat) + (if decide (32768 ≤ b0.toNat * 256 + b1.toNat) = true then 32768 else 0 : Int) = ((b0.toNat * 256 + b1.toNat : Nat) : Int) := by
              by_cases hc : 32768 ≤ b0.toNat * 256 + b1.toNat
              · simp only [hc, decide_true, if_true]; omega
              · simp only [hc, decide_false, Bool.false_eq_true, if_false]; omega
            rw [e1]
            have q0 := b0.toNat_lt; have q1 := b1.toNat_lt; have q2 := b2.toNat_lt; have q3 := b3.toNat_lt
            have f1 : ∀ a b : UInt8, u8 (((a.toNat * 256 + b.toNat : Nat) : Int) / 256) = a := by
              intro a b
              have := a.toNat_lt; have := b.toNat_lt
              have e : ((a.toNat * 256 + b.toNat : Nat) : Int) / 256 = a.toNat := by omega
              rw [e, u8_nat]
            have f2 : ∀ a b : UInt8, u8 ((a.toNat * 256 + b.toNat : Nat) : Int) = b := by
              intro a b
              have := a.toNat_lt; have := b.toNat_lt
              unfold u8
              have e : (((a.toNat * 256 + b.toNat : Nat) : Int) % 256).toNat = b.toNat := by omega
              rw [e]; simp
            rw [f1, f2, f1, f2]; rfl
          · simp only [badR, List.length_take, hm]
            rw [if_neg (by omega), if_neg (by omega)]

theorem RD.whole {a : Nat} {t : List UInt8} {l : List KR} {rest : List UInt8} (h : RD a t l rest) : ∃ u : List UInt8, t = u ++ rest ∧ 1 ≤ u.length ∧ (∀ o, RD a (u ++ o) l o) ∧ (∀ c, c < u.length → RE a (u.take c) 11) ∧ u = l.flatMap encR ∧ badL l = 0 ∧ a + u.length ≤ 2048 := by
  induction h with
  | fin h hk =>
    obtain ⟨u, h1, h2, h3, h4, h5, h6, h7⟩ := oneT_here h
    refine ⟨u, h1, by omega, fun o => ?_, fun c hc => ?_, by simp [h5], by simp [badL, h6], by omega⟩
    · have := RD.fin (h3 o) hk
      rw [← h2, List.drop_left] at this; exact this
    · obtain ⟨q, hq⟩ := h4 c hc
      exact .here hq (by decide)
  | step h hk hd ih =>
    obtain ⟨u, h1, h2, h3, h4, h5, h6, h7⟩ := oneT_here h
    obtain ⟨v, k1, k2, k3, k4, k5, k6, k7⟩ := ih
    refine ⟨u ++ v, by rw [List.append_assoc, ← k1]; exact h1, by simp; omega, fun o => ?_, fun c hc => ?_, by simp [h5, k5], by simp [badL, h6, k6], by simp; omega⟩
    · refine RD.step (by rw [List.append_assoc]; exact h3 _) hk ?_
      rw [← h2, List.append_assoc, List.drop_left]; exact k3 o
    · by_cases hcu : c < u.length
      · obtain ⟨q, hq⟩ := h4 c hcu
        rw [List.take_append_of_le_length (by omega)]
        exact .here hq (by decide)
      · obtain ⟨d, rfl⟩ : ∃ d, c = u.length + d := ⟨c - u.length, by omega⟩
        rw [List.take_length_add_append]
        refine .step (h3 _) hk ?_
        rw [← h2, List.drop_left]
        exact k4 d (by simp at hc; omega)

/-- What is written is read. -/
theorem oneT_enc {a : Nat} {r : KR} (hb : badR r = 0) (ha : a + 4 + r.b.length ≤ 2048) (hk : r.k = 0 → r.c = true ∧ r.b = []) (o : List UInt8) : oneT a (encR r ++ o) = (r, 0) := by
  obtain ⟨c, k, b⟩ := r
  simp only [badR] at hb ha hk
  split at hb
  · omega
  · rename_i h1
    split at hb
    · omega
    · rename_i h2
      obtain ⟨K, rfl⟩ : ∃ K : Nat, k = K := ⟨k.toNat, by omega⟩
      have f : ∀ n : Nat, n < 65536 → (u8 ((n : Int) / 256)).toNat * 256 + (u8 (n : Int)).toNat = n := by
        intro n hn
        have h1 := u8_toNat ((n : Int) / 256)
        have h2 := u8_toNat (n : Int)
        omega
      obtain ⟨N, hN⟩ : ∃ N : Nat, ((K : Int) + if c = true then 32768 else 0) = (N : Int) ∧ N < 65536 ∧ N % 32768 = K ∧ decide (32768 ≤ N) = c ∧ (c = false → N < 32768) := by
        cases c
        · exact ⟨K, by simp, by omega, by omega, by simp; omega, by omega⟩
        · exact ⟨K + 32768, by simp, by omega, by omega, by simp, by simp⟩
      obtain ⟨e1, e2, e3, e4, e5⟩ := hN
      simp only [encR, twoL, e1, List.cons_append, List.nil_append, oneT, f N e2, f b.length (by omega)]
      rw [if_neg (by omega), if_neg ?_, if_neg (by simp)]
      · rw [e3, e4]; simp
      · rintro ⟨h3, h4⟩
        rw [e3] at h3
        obtain ⟨h5, h6⟩ := hk (by omega)
        subst h5
        rcases h4 with h4 | h4
        · simp at e4; omega
        · simp [h6] at h4

theorem rd_enc (more : List UInt8) : ∀ (l : List KR) (a : Nat), badL l = 0 → (∀ r ∈ l, r.k ≠ 0) → a + (l.flatMap encR).length + 4 ≤ 2048 → RD a ((l ++ [(⟨true, 0, []⟩ : KR)]).flatMap encR ++ more) (l ++ [(⟨true, 0, []⟩ : KR)]) more
  | [], a, _, _, ha => by
    have h := oneT_enc (a := a) (r := ⟨true, 0, []⟩) (by decide) (by simp at ha ⊢; omega) (by simp) more
    have := RD.fin h rfl
    have e : List.drop 4 (encR ⟨true, 0, []⟩ ++ more) = more := rfl
    simp at this ⊢
    rw [e] at this; exact this
  | r :: l, a, hb, hk, ha => by
    simp only [badL] at hb
    split at hb
    · rename_i h0
      simp only [List.flatMap_cons, List.length_append, encR_len] at ha
      have h := oneT_enc (a := a) (r := r) h0 (by omega) (fun h => absurd h (hk r (by simp))) ((l ++ [(⟨true, 0, []⟩ : KR)]).flatMap encR ++ more)
      have ih := rd_enc more l (a + 4 + r.b.length) hb (fun q hq => hk q (List.mem_cons_of_mem _ hq)) (by omega)
      simp only [List.cons_append, List.flatMap_cons, List.append_assoc]
      refine RD.step h (hk r (by simp)) ?_
      have e : 4 + r.b.length = (encR r).length := (encR_len r).symm
      rw [e, List.drop_left]; exact ih
    · rename_i h0; exact absurd hb h0

theorem nums_enc : ∀ (n : List Int), n.all pairOk = true → numsL (n.flatMap twoL) = n
  | [], _ => rfl
  | k :: n, h => by
    simp only [List.all_cons, Bool.and_eq_true, pairOk, decide_eq_true_eq] at h
    have ih := nums_enc n (by simpa [pairOk] using h.2)
    have h1 := u8_toNat (k / 256)
    have h2 := u8_toNat k
    simp only [List.flatMap_cons, twoL, List.cons_append, List.nil_append, numsL]
    have : (((u8 (k / 256)).toNat * 256 + (u8 k).toNat : Nat) : Int) = k := by omega
    rw [this]
    rw [ih]
theorem pairs_back {n : List Int} (h : (pairsL n).2 = 0) : toPairsL (pairsL n).1 = (n, 0) := by
  unfold pairsL at h ⊢
  split at h
  · cases h
  · rename_i h1
    split at h
    · rename_i h2
      rw [if_neg h1, if_pos h2]
      simp only [toPairsL, twoLs_len]
      rw [if_neg (by omega), if_neg (by omega), nums_enc n h2]
    · cases h
end Pv
