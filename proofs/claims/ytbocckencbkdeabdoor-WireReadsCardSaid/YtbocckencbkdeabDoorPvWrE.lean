/- Part of the proof: the layer of pure values, or walks through functions (PvWrE, PvH4, PvH5, PvH6, PvGcE, PvW64, PvW32). -/
import Derived.Test.YtbocckencbkdeabDoorPvBldX
import Derived.Test.YtbocckencbkdeabDoorPvH
set_option linter.all false
set_option linter.all false
namespace Pv
open Go
/-! ### Fields and packets: plain. -/
structure FR where
  k : Int
  b : List UInt8
deriving DecidableEq
def frC (f : FR) : List PV := [.int .i64 f.k, .str f.b]
def frsC (l : List FR) : List PV := l.flatMap frC
theorem frsC_len (l : List FR) : (frsC l).length = l.length * 2 := rows_len frC 2 (fun _ => rfl) l
theorem frsC_drop (l : List FR) (i : Nat) (r : FR) (h : l[i]? = some r) : (frsC l).drop (i * 2) = .int .i64 r.k :: .str r.b :: frsC (l.drop (i + 1)) := by
  rw [frsC, rows_drop frC 2 (fun _ => rfl) l i r h]; rfl
theorem frsC_snoc (l : List FR) (r : FR) : frsC (l ++ [r]) = frsC l ++ frC r := by simp [frsC]
theorem frsC_ok (l : List FR) : (frsC l).all scalarV = true := by
  induction l with
  | nil => rfl
  | cons r l ih => simp only [frsC, List.flatMap_cons, List.all_append, Bool.and_eq_true]; exact ⟨rfl, ih⟩
def encF (f : FR) : List UInt8 := beL f.k.toNat 2 ++ beL (f.b.length + 4) 2 ++ f.b
def encFs (l : List FR) : List UInt8 := l.flatMap encF
theorem encF_len (f : FR) : (encF f).length = f.b.length + 4 := by simp [encF, beL_len]; omega
theorem encFs_snoc (l : List FR) (f : FR) : encFs (l ++ [f]) = encFs l ++ encF f := by simp [encFs]
theorem encFs_cons (f : FR) (l : List FR) : encFs (f :: l) = encF f ++ encFs l := rfl
def badF (f : FR) : Int := if f.k < 0 ∨ 65536 ≤ f.k then 13 else if f.b.length < 12 ∨ f.b.length % 4 ≠ 0 then 10 else 0
def badFs : List FR → Int
  | [] => 0
  | f :: l => if badF f = 0 then badFs l else badF f
theorem badFs_append (l m : List FR) (h : badFs l = 0) : badFs (l ++ m) = badFs m := by
  induction l with
  | nil => rfl
  | cons f l ih =>
    rw [badFs] at h
    by_cases hf : badF f = 0
    · rw [if_pos hf] at h; rw [List.cons_append, badFs, if_pos hf, ih h]
    · rw [if_neg hf] at h; exact absurd h hf
theorem badFs_split {l : List FR} {i : Nat} {f : FR} (h0 : badFs (l.take i) = 0) (hf : l[i]? = some f) (hb : badF f ≠ 0) : badFs l = badF f := by
  obtain ⟨hi, rfl⟩ := List.getElem?_eq_some_iff.1 hf
  conv => lhs; rw [← List.take_append_drop i l, badFs_append _ _ h0, List.drop_eq_getElem_cons hi, badFs, if_neg hb]
theorem badFs_next {l : List FR} {i : Nat} {f : FR} (h0 : badFs (l.take i) = 0) (hf : l[i]? = some f) (hb : badF f = 0) : badFs (l.take (i + 1)) = 0 := by
  rw [List.take_add_one, hf, badFs_append _ _ h0]; show badFs [f] = 0; rw [badFs, if_pos hb]; rfl
def fieldsL (l : List FR) : List UInt8 × Int := if 16 < l.length then ([], 18) else if badFs l ≠ 0 then ([], badFs l) else if 1232 < (encFs l).length then ([], 12) else (encFs l, 0)
/-! #### Read -/
def lenF (s : List UInt8) : Nat := if 4 ≤ s.length then valN ((s.drop 2).take 2) else 0
def badS (s : List UInt8) : Prop := lenF s < 16 ∨ lenF s % 4 ≠ 0 ∨ s.length < lenF s
instance (s : List UInt8) : Decidable (badS s) := by unfold badS; infer_instance
def frOf (s : List UInt8) : FR := ⟨(valN (s.take 2) : Nat), (s.drop 4).take (lenF s - 4)⟩
def tfF : Nat → List UInt8 → List FR → List FR × Int
  | 0, _, _ => ([], 0)
  | f + 1, s, l => if s = [] then (l, 0) else if badS s then ([], 10) else if l.length = 16 then ([], 18) else tfF f (s.drop (lenF s)) (l ++ [frOf s])
theorem tfF_fuel : ∀ (f g : Nat) (s : List UInt8) (l : List FR), s.length < f → s.length < g → tfF f s l = tfF g s l
  | 0, _, _, _, h, _ => absurd h (Nat.not_lt_zero _)
  | _ + 1, 0, _, _, _, h => absurd h (Nat.not_lt_zero _)
  | f + 1, g + 1, s, l, h1, h2 => by
    rw [tfF, tfF]
    by_cases h0 : s = []
    · rw [if_pos h0, if_pos h0]
    · rw [if_neg h0, if_neg h0]
      by_cases hb : badS s
      · rw [if_pos hb, if_pos hb]
      · rw [if_neg hb, if_neg hb]
        split
        · rfl
        · have : 16 ≤ lenF s := by rw [badS, not_or] at hb; omega
          have hl : 0 < s.length := List.length_pos_iff.2 h0
          exact tfF_fuel f g _ _ (by rw [List.length_drop]; omega) (by rw [List.length_drop]; omega)
/-- What is read of s behind l. -/
def tfR (s : List UInt8) (l : List FR) : List FR × Int := tfF (s.length + 1) s l
theorem tfR_eq (s : List UInt8) (l : List FR) : tfR s l = if s = [] then (l, 0) else if badS s then ([], 10) else if l.length = 16 then ([], 18) else tfR (s.drop (lenF s)) (l ++ [frOf s]) := by
  rw [tfR, tfF]
  by_cases h0 : s = []
  · rw [if_pos h0, if_pos h0]
  · rw [if_neg h0, if_neg h0]
    by_cases hb : badS s
    · rw [if_pos hb, if_pos hb]
    · rw [if_neg hb, if_neg hb]
      split
      · rfl
      · have : 16 ≤ lenF s := by rw [badS, not_or] at hb; omega
        have hl : 0 < s.length := List.length_pos_iff.2 h0
        exact tfF_fuel _ _ _ _ (by rw [List.length_drop]; omega) (by omega)
def toFieldsL (s : List UInt8) : List FR × Int := tfR s []
theorem tfR_nil (l : List FR) : tfR [] l = (l, 0) := by rw [tfR_eq, if_pos rfl]
theorem tfR_bad {s : List UInt8} (l : List FR) (h0 : s ≠ []) (hb : badS s) : tfR s l = ([], 10) := by rw [tfR_eq, if_neg h0, if_pos hb]
theorem tfR_many {s : List UInt8} {l : List FR} (h0 : s ≠ []) (hb : ¬ badS s) (hl : l.length = 16) : tfR s l = ([], 18) := by rw [tfR_eq, if_neg h0, if_neg hb, if_pos hl]
theorem tfR_next {s : List UInt8} {l : List FR} (h0 : s ≠ []) (hb : ¬ badS s) (hl : l.length ≠ 16) : tfR s l = tfR (s.drop (lenF s)) (l ++ [frOf s]) := by rw [tfR_eq, if_neg h0, if_neg hb, if_neg hl]
/-! #### There and back -/
theorem val_be' (n k : Nat) (h : n < 256 ^ k) : valN (beL n k) = n := by rw [val_be, Nat.mod_eq_of_lt h]
theorem be_val' (s : List UInt8) : beL (valN s) s.length = s := be_val s _ (Nat.mod_eq_of_lt (valN_lt s))
theorem encF_at (f : FR) (r : List UInt8) (hk : 0 ≤ f.k ∧ f.k < 65536) (hl : f.b.length + 4 < 65536) : lenF (encF f ++ r) = f.b.length + 4 ∧ frOf (encF f ++ r) = f ∧ (encF f ++ r).drop (f.b.length + 4) = r := by
  have h1 := encF_len f
  have e : encF f ++ r = beL f.k.toNat 2 ++ (beL (f.b.length + 4) 2 ++ (f.b ++ r)) := by simp [encF, List.append_assoc]
  have b2 : (beL f.k.toNat 2).length = 2 := beL_len _ _
  have b3 : (beL (f.b.length + 4) 2).length = 2 := beL_len _ _
  have hlen : lenF (encF f ++ r) = f.b.length + 4 := by
    rw [lenF, if_pos (by rw [List.length_append, h1]; omega), e, List.drop_append_of_le_length (by omega), List.drop_eq_nil_of_le (by omega), List.nil_append, List.take_append_of_le_length (by omega), List.take_of_length_le (by omega), val_be' _ _ (by omega)]
  refine ⟨hlen, ?_, ?_⟩
  · rw [frOf, hlen, e]
    have t2 : (beL f.k.toNat 2 ++ (beL (f.b.length + 4) 2 ++ (f.b ++ r))).take 2 = beL f.k.toNat 2 := by rw [List.take_append_of_le_length (by omega), List.take_of_length_le (by omega)]
    have d4 : (beL f.k.toNat 2 ++ (beL (f.b.length + 4) 2 ++ (f.b ++ r))).drop 4 = f.b ++ r := by
      rw [← List.append_assoc, List.drop_append_of_le_length (by rw [List.length_append]; omega), List.drop_eq_nil_of_le (by rw [List.length_append]; omega), List.nil_append]
    rw [t2, d4, val_be' _ _ (by omega), show f.b.length + 4 - 4 = f.b.length by omega, List.take_left]
    have : ((f.k.toNat : Nat) : Int) = f.k := by omega
    rw [this]
  · rw [← h1, List.drop_left]
theorem badF_0 {f : FR} (h : badF f = 0) : (0 ≤ f.k ∧ f.k < 65536) ∧ 12 ≤ f.b.length ∧ f.b.length % 4 = 0 := by
  unfold badF at h
  split at h
  · simp at h
  · split at h
    · simp at h
    · omega
theorem badF_ok {f : FR} (h1 : 0 ≤ f.k ∧ f.k < 65536) (h2 : 12 ≤ f.b.length) (h3 : f.b.length % 4 = 0) : badF f = 0 := by
  unfold badF; rw [if_neg (by omega), if_neg (by omega)]
theorem encFs_le {f : FR} {l : List FR} (h : f ∈ l) : f.b.length + 4 ≤ (encFs l).length := by
  induction l with
  | nil => cases h
  | cons g l ih =>
    rw [encFs_cons, List.length_append, encF_len]
    rcases List.mem_cons.1 h with rfl | h
    · omega
    · have := ih h; omega
theorem read_enc : ∀ (l acc : List FR) (r : List UInt8), badFs l = 0 → (∀ f ∈ l, f.b.length + 4 < 65536) → acc.length + l.length ≤ 16 → tfR (encFs l ++ r) acc = tfR r (acc ++ l)
  | [], acc, r, _, _, _ => by simp [encFs]
  | f :: l, acc, r, hb, hl, hn => by
    rw [badFs] at hb
    by_cases hf : badF f = 0
    · rw [if_pos hf] at hb
      obtain ⟨h1, h2, h3⟩ := badF_0 hf
      obtain ⟨e1, e2, e3⟩ := encF_at f (encFs l ++ r) h1 (hl f (by simp))
      have hne : encF f ++ (encFs l ++ r) ≠ [] := by
        intro h
        have := congrArg List.length h
        rw [List.length_append, encF_len] at this; simp at this
      rw [encFs_cons, List.append_assoc, tfR_next hne (by rw [badS, e1, List.length_append, encF_len]; omega) (by simp at hn; omega), e1, e3, e2, read_enc l (acc ++ [f]) r hb (fun g hg => hl g (by simp [hg])) (by simp at hn ⊢; omega), List.append_assoc]; rfl
    · rw [if_neg hf] at hb; exact absurd hb hf
/-- What is read is written as it stood. -/
theorem enc_read : ∀ (n : Nat) (s : List UInt8) (acc l : List FR), s.length ≤ n → tfR s acc = (l, 0) → ∃ m, l = acc ++ m ∧ encFs m = s ∧ badFs m = 0 ∧ (acc.length ≤ 16 → l.length ≤ 16) ∧ ∀ f ∈ m, f.b.length + 4 < 65536
  | n, s, acc, l, hn, h => by
    by_cases h0 : s = []
    · subst h0
      rw [tfR_nil] at h
      cases h
      exact ⟨[], by simp, rfl, rfl, fun h => h, by simp⟩
    · by_cases hb : badS s
      · rw [tfR_bad _ h0 hb] at h; simp at h
      · by_cases hl : acc.length = 16
        · rw [tfR_many h0 hb hl] at h; simp at h
        · rw [tfR_next h0 hb hl] at h
          have hb' : 16 ≤ lenF s ∧ lenF s % 4 = 0 ∧ lenF s ≤ s.length := by rw [badS] at hb; omega
          match n, hn with
          | 0, hn => exact absurd (List.length_eq_zero_iff.1 (by omega)) h0
          | n + 1, hn =>
            obtain ⟨m, rfl, e2, e3, e4, e5⟩ := enc_read n (s.drop (lenF s)) (acc ++ [frOf s]) l (by rw [List.length_drop]; omega) h
            have hlv : lenF s < 65536 := by
              have := valN_lt ((s.drop 2).take 2)
              rw [List.length_take, List.length_drop, Nat.min_eq_left (by omega)] at this
              rw [lenF, if_pos (by omega)]; exact this
            have hfl : (frOf s).b.length = lenF s - 4 := by rw [frOf, List.length_take, List.length_drop]; omega
            have hv : valN (s.take 2) < 65536 := by
              have := valN_lt (s.take 2)
              rw [List.length_take, Nat.min_eq_left (by omega)] at this; exact this
            have hbf : badF (frOf s) = 0 := badF_ok ⟨by show (0 : Int) ≤ (valN (s.take 2) : Nat); omega, by show ((valN (s.take 2) : Nat) : Int) < _; omega⟩ (by rw [hfl]; omega) (by rw [hfl]; omega)
            have he : encF (frOf s) = s.take (lenF s) := by
              rw [encF, hfl, show lenF s - 4 + 4 = lenF s by omega]
              have t2 : beL (frOf s).k.toNat 2 = s.take 2 := by
                have := be_val' (s.take 2)
                rw [List.length_take, Nat.min_eq_left (by omega)] at this
                show beL ((valN (s.take 2) : Nat) : Int).toNat 2 = _
                rw [Int.toNat_natCast]; exact this
              have t4 : beL (lenF s) 2 = (s.drop 2).take 2 := by
                have := be_val' ((s.drop 2).take 2)
                rw [List.length_take, List.length_drop, Nat.min_eq_left (by omega)] at this
                rw [lenF, if_pos (by omega)]; exact this
              rw [t2, t4]
              show s.take 2 ++ (s.drop 2).take 2 ++ (s.drop 4).take (lenF s - 4) = _
              conv => rhs; rw [show lenF s = 2 + (2 + (lenF s - 4)) by omega, List.take_add, List.take_add, List.drop_drop, ← List.append_assoc]
            refine ⟨frOf s :: m, by simp, by rw [encFs_cons, he, e2, List.take_append_drop], by rw [badFs, if_pos hbf, e3], fun h => e4 (by simp; omega), fun f hf => by
              rcases List.mem_cons.1 hf with rfl | hf
              · rw [hfl]; omega
              · exact e5 f hf⟩
theorem fields_back {l : List FR} (h : (fieldsL l).2 = 0) : toFieldsL (fieldsL l).1 = (l, 0) ∧ (fieldsL l).1 = encFs l ∧ (encFs l).length ≤ 1232 ∧ l.length ≤ 16 ∧ badFs l = 0 := by
  unfold fieldsL at h ⊢
  by_cases h16 : 16 < l.length
  · rw [if_pos h16] at h; simp at h
  · rw [if_neg h16] at h ⊢
    by_cases hb : badFs l ≠ 0
    · rw [if_pos hb] at h; exact absurd h hb
    · rw [if_neg hb] at h ⊢
      by_cases hl : 1232 < (encFs l).length
      · rw [if_pos hl] at h; simp at h
      · rw [if_neg hl]
        have hb0 : badFs l = 0 := by simpa using hb
        have := read_enc l [] [] hb0 (fun f hf => by have := encFs_le hf; omega) (by simp; omega)
        rw [List.append_nil, tfR_nil] at this
        exact ⟨this, rfl, by omega, by omega, hb0⟩
theorem back_fields {s : List UInt8} {l : List FR} (h : toFieldsL s = (l, 0)) (hs : s.length ≤ 1232) : fieldsL l = (s, 0) := by
  obtain ⟨m, rfl, e2, e3, e4, -⟩ := enc_read s.length s [] l (Nat.le_refl _) h
  have h16 := e4 (by simp)
  rw [fieldsL, if_neg (by omega), if_neg (by simpa using e3), e2, if_neg (by omega)]
end Pv

namespace Pv
open Go Go.RowKit
variable {X : Ctx} {ph : PH} {ρ : Option Nat} {n0 : Nat} {Q : Exit → PSt → PH → Prop}

/-- **A loop** that writes into blocks that were there: the base turns with the rounds. -/
theorem w_loopB {α : Type} {c : Code} {tm : List PV} {ms : List Nat} (n : Nat) (ob : Nat → Option PObj) (ty : Nat → Option TypeId) (b : α → PH) (st : α → List PV) (hl : α → List (Option Blk)) (Inv : α → Prop) (μ : α → Nat) (a0 : α) (h0 : Inv a0) (hb : ∀ a, Inv a → (b a).n = n) (hn : ∀ a, Inv a → n0 ≤ n + (hl a).length)
    (hi : HTo (b a0) (hl a0) ob ty (st a0) tm ph)
    (round : ∀ a, Inv a → ∀ B, B = b a → B.n = n → ∀ K : PSt → PH → Prop, (∀ a' tm ph', Inv a' → μ a' < μ a → HTo (b a') (hl a') ob ty (st a') tm ph' → K ⟨tm, ms⟩ ph') → vc X ρ n0 c (PExit.seq K Q) ⟨st a, ms⟩ (H B (hl a) ob ty)) : vc X ρ n0 (.loop c) Q ⟨tm, ms⟩ ph := by
  show PWp X ρ n0 (.loop c) Q ⟨tm, ms⟩ ph
  have hn' : ∀ a, Inv a → n0 ≤ (b a).n + (hl a).length := fun a h => by rw [hb a h]; exact hn a h
  refine PWp.weak (s' := ⟨st a0, ms⟩) (ph' := H (b a0) (hl a0) ob ty) (hi.weak (hn' _ h0)) rfl ?_
  refine pwp_loopN (I := fun j s' ph' => ∃ a, Inv a ∧ μ a = j ∧ HTo (b a) (hl a) ob ty (st a) s'.tm ph' ∧ s'.ms = ms) (μ a0) ⟨a0, h0, rfl, .same (by
    clear hi round
    generalize st a0 = s
    induction s with
    | nil => trivial
    | cons p ps ih => exact ⟨.inr rfl, ih⟩), rfl⟩ ?_
  rintro j s' ph' ⟨a, hI, rfl, hT, hm⟩
  refine PWp.weak (s' := ⟨st a, ms⟩) (ph' := H (b a) (hl a) ob ty) (hT.weak (hn' a hI)) hm.symm ?_
  refine vc_ok _ _ _ _ (round a hI _ rfl (hb a hI) _ ?_)
  intro a' tm' ph' h1 h2 h3
  exact ⟨μ a', h2, a', h1, rfl, h3, rfl⟩

theorem put_putS (p : Nat) (c d : List PV) : (ph.put p c).put p d = ph.put p d := by simp [PH.put]
theorem get_putS {p : Nat} (c : List PV) (h : p < ph.n) : (ph.put p c).get p = some c := by rw [PH.get_put h, if_pos rfl]
/-! A base that has been written into. -/
section
variable {B : PH} {p q k : Nat} {c d : List PV} {l : List (Option Blk)} {ob : Nat → Option PObj} {ty : Nat → Option TypeId}
end
end Pv

namespace Pv
open Go Go.RowKit
variable {X : Ctx} {G : Ghost} {ph : PH} {w : World} {ρ : Option Nat} {n0 : Nat} {Q : Exit → PSt → PH → Prop}

end Pv

namespace Pv
open Go Go.RowKit
variable {X : Ctx} {G : Ghost} {ph : PH} {w : World} {ρ : Option Nat} {n0 : Nat} {Q : Exit → PSt → PH → Prop}
end Pv

set_option linter.all false
namespace Pv
/-! ### A field told by the powers of T: plain. -/
/-- A block as two numbers. -/
structure El where
  hi : UInt64
  lo : UInt64
deriving DecidableEq
namespace El
def xor (a b : El) : El := ⟨a.hi ^^^ b.hi, a.lo ^^^ b.lo⟩
def zero : El := ⟨0, 0⟩
def T (f : El) : El := ⟨(f.hi >>> 1) ^^^ ((f.lo &&& 1) * 16212958658533785600), (f.lo >>> 1) ||| (f.hi <<< 63)⟩
def bit (e : El) (i : Nat) : UInt64 := ((if i < 64 then e.hi else e.lo) >>> UInt64.ofNat (63 - i % 64)) &&& 1
def pw (f : El) : Nat → El
  | 0 => f
  | i + 1 => T (pw f i)
/-- The sum of the first i parts. -/
def sm (a f : El) : Nat → El
  | 0 => zero
  | i + 1 => if bit a i = 1 then xor (sm a f i) (pw f i) else sm a f i
def mul (a f : El) : El := sm a f 128
def one : El := ⟨9223372036854775808, 0⟩
theorem ext' {a b : El} (h : a.hi = b.hi) (l : a.lo = b.lo) : a = b := by cases a; cases b; simp_all
theorem xor_comm (a b : El) : xor a b = xor b a := ext' (UInt64.xor_comm ..) (UInt64.xor_comm ..)
theorem xor_assoc (a b c : El) : xor (xor a b) c = xor a (xor b c) := ext' (UInt64.xor_assoc ..) (UInt64.xor_assoc ..)
theorem xor_zero (a : El) : xor a zero = a := ext' (UInt64.xor_zero) (UInt64.xor_zero)
theorem low_cases (x : UInt64) : x &&& 1 = 0 ∨ x &&& 1 = 1 := by
  have h : (x &&& 1).toNat = x.toNat % 2 := by rw [UInt64.toNat_and]; exact Nat.and_one_is_mod _
  rcases Nat.mod_two_eq_zero_or_one x.toNat with e | e
  · left; apply UInt64.toNat_inj.1; rw [h, e]; rfl
  · right; apply UInt64.toNat_inj.1; rw [h, e]; rfl
theorem and_xor1 (x y : UInt64) : (x ^^^ y) &&& 1 = (x &&& 1) ^^^ (y &&& 1) := by
  apply UInt64.toBitVec_inj.1; simp only [UInt64.toBitVec_and, UInt64.toBitVec_xor]
  ext i; simp; cases x.toBitVec[i] <;> cases y.toBitVec[i] <;> simp
theorem low_mul (x y : UInt64) (c : UInt64) : ((x ^^^ y) &&& 1) * c = ((x &&& 1) * c) ^^^ ((y &&& 1) * c) := by
  rw [and_xor1]
  rcases low_cases x with h | h <;> rcases low_cases y with g | g <;> rw [h, g] <;> simp
theorem shr_xor1 (x y : UInt64) : (x ^^^ y) >>> 1 = (x >>> 1) ^^^ (y >>> 1) := by
  apply UInt64.toBitVec_inj.1; simp only [UInt64.toBitVec_shiftRight, UInt64.toBitVec_xor]
  ext i; simp
theorem or_shl (x y u v : UInt64) : ((x ^^^ y) >>> 1) ||| ((u ^^^ v) <<< 63) = ((x >>> 1) ||| (u <<< 63)) ^^^ ((y >>> 1) ||| (v <<< 63)) := by
  apply UInt64.toBitVec_inj.1; simp only [UInt64.toBitVec_shiftRight, UInt64.toBitVec_shiftLeft, UInt64.toBitVec_or, UInt64.toBitVec_xor]
  ext i hi
  simp
  rcases Nat.lt_or_ge i 63 with h | h
  · simp [h]
  · have : i = 63 := by omega
    subst this; simp
theorem T_xor (a b : El) : T (xor a b) = xor (T a) (T b) := by
  apply ext'
  · show ((a.hi ^^^ b.hi) >>> (1 : UInt64)) ^^^ (((a.lo ^^^ b.lo) &&& (1 : UInt64)) * (16212958658533785600 : UInt64)) = _
    rw [shr_xor1, low_mul]
    show _ = ((a.hi >>> (1 : UInt64)) ^^^ ((a.lo &&& (1 : UInt64)) * (16212958658533785600 : UInt64))) ^^^ ((b.hi >>> (1 : UInt64)) ^^^ ((b.lo &&& (1 : UInt64)) * (16212958658533785600 : UInt64)))
    ac_rfl
  · exact or_shl ..
theorem T_zero : T zero = zero := by decide
theorem pw_xor (a b : El) : ∀ i, pw (xor a b) i = xor (pw a i) (pw b i)
  | 0 => rfl
  | i + 1 => by rw [pw, pw_xor a b i, T_xor]; rfl
theorem pw_zero : ∀ i, pw zero i = zero
  | 0 => rfl
  | i + 1 => by rw [pw, pw_zero i, T_zero]
theorem pw_T (f : El) : ∀ i, pw (T f) i = T (pw f i)
  | 0 => rfl
  | i + 1 => by rw [pw, pw_T f i]; rfl
theorem xor4 (a b c d : El) : xor (xor a b) (xor c d) = xor (xor a c) (xor b d) := by
  rw [xor_assoc, xor_assoc, ← xor_assoc b c d, xor_comm b c, xor_assoc c b d]
theorem sm_xor (a f g : El) : ∀ i, sm a (xor f g) i = xor (sm a f i) (sm a g i)
  | 0 => by rw [sm, sm, sm, xor_zero]
  | i + 1 => by
    rw [sm, sm, sm, sm_xor a f g i]
    split
    · rw [pw_xor, xor4]
    · rfl
theorem sm_zero (a : El) : ∀ i, sm a zero i = zero
  | 0 => rfl
  | i + 1 => by
    rw [sm, sm_zero a i]
    split
    · rw [pw_zero, xor_zero]
    · rfl
theorem sm_T (a f : El) : ∀ i, sm a (T f) i = T (sm a f i)
  | 0 => by rw [sm, sm, T_zero]
  | i + 1 => by
    rw [sm, sm, sm_T a f i]
    split
    · rw [pw_T, T_xor]
    · rfl
theorem sm_pw (a f : El) (n : Nat) : ∀ i, sm a (pw f i) n = pw (sm a f n) i
  | 0 => rfl
  | i + 1 => by rw [pw, sm_T, sm_pw a f n i]; rfl
/-- Two factors turn places. -/
theorem sm_sm (a b c : El) (n : Nat) : ∀ i, sm a (sm b c i) n = sm b (sm a c n) i
  | 0 => sm_zero a n
  | i + 1 => by
    rw [sm, sm]
    split
    · rw [sm_xor, sm_sm a b c n i, sm_pw]
    · exact sm_sm a b c n i
theorem mul_left (a b c : El) : mul a (mul b c) = mul b (mul a c) := sm_sm a b c 128 128
/-! #### One -/
def ei (i : Nat) : El := if i < 64 then ⟨1 <<< UInt64.ofNat (63 - i), 0⟩ else ⟨0, 1 <<< UInt64.ofNat (127 - i)⟩
theorem T_ei : ∀ i, i < 127 → T (ei i) = ei (i + 1) := by
  have : ∀ i : Fin 127, T (ei i.val) = ei (i.val + 1) := by decide +kernel
  exact fun i h => this ⟨i, h⟩
theorem pw_one : ∀ i, i < 128 → pw one i = ei i
  | 0, _ => by decide
  | i + 1, h => by rw [pw, pw_one i (by omega), T_ei i (by omega)]
theorem bit_ei : ∀ i k, i < 128 → k < 128 → bit (ei i) k = if i = k then 1 else 0 := by
  have : ∀ i : Fin 128, ∀ k : Fin 128, bit (ei i.val) k.val = if i.val = k.val then 1 else 0 := by decide +kernel
  exact fun i k h g => this ⟨i, h⟩ ⟨k, g⟩
theorem shr_xor (x y m : UInt64) : (x ^^^ y) >>> m = (x >>> m) ^^^ (y >>> m) := by
  apply UInt64.toBitVec_inj.1; simp only [UInt64.toBitVec_shiftRight, UInt64.toBitVec_xor]
  ext i; simp
theorem bit_xor (a b : El) (k : Nat) : bit (xor a b) k = bit a k ^^^ bit b k := by
  rw [bit, bit, bit]
  split
  · show ((a.hi ^^^ b.hi) >>> _) &&& 1 = _; rw [shr_xor, and_xor1]
  · show ((a.lo ^^^ b.lo) >>> _) &&& 1 = _; rw [shr_xor, and_xor1]
theorem bit_cases (a : El) (k : Nat) : bit a k = 0 ∨ bit a k = 1 := low_cases _
theorem bit_zero (k : Nat) : bit zero k = 0 := by
  rw [bit]; split <;> simp [zero]
theorem bit_sm (a : El) (k : Nat) (hk : k < 128) : ∀ n, n ≤ 128 → bit (sm a one n) k = if k < n then bit a k else 0
  | 0, _ => by rw [sm, bit_zero, if_neg (by omega)]
  | n + 1, h => by
    rw [sm]
    have ih := bit_sm a k hk n (by omega)
    have hb : bit (pw one n) k = if n = k then 1 else 0 := by rw [pw_one n (by omega), bit_ei n k (by omega) hk]
    by_cases hnk : n = k
    · subst hnk
      rw [if_neg (by omega)] at ih
      rw [if_pos rfl] at hb
      rw [show (if n < n + 1 then bit a n else 0) = bit a n from if_pos (by omega)]
      rcases bit_cases a n with e | e
      · rw [e, if_neg (by decide), ih]
      · rw [e, if_pos rfl, bit_xor, ih, hb]; rfl
    · rw [if_neg hnk] at hb
      have e1 : (if k < n + 1 then bit a k else 0) = if k < n then bit a k else 0 := by
        by_cases h1 : k < n
        · rw [if_pos h1, if_pos (by omega)]
        · rw [if_neg h1, if_neg (by omega)]
      rw [e1, ← ih]
      split
      · rw [bit_xor, hb, UInt64.xor_zero]
      · rfl
theorem u64_bits {x y : UInt64} (h : ∀ m, m < 64 → (x >>> UInt64.ofNat m) &&& 1 = (y >>> UInt64.ofNat m) &&& 1) : x = y := by
  have t : ∀ (z : UInt64) m, m < 64 → ((z >>> UInt64.ofNat m) &&& 1).toNat = (z.toNat >>> m) &&& 1 := by
    intro z m hm
    rw [UInt64.toNat_and, UInt64.toNat_shiftRight, UInt64.toNat_ofNat']
    rw [show m % 2 ^ 64 % 64 = m by omega]; rfl
  apply UInt64.toNat_inj.1
  apply Nat.eq_of_testBit_eq
  intro m
  rcases Nat.lt_or_ge m 64 with hm | hm
  · have := congrArg UInt64.toNat (h m hm)
    rw [t x m hm, t y m hm, Nat.and_one_is_mod, Nat.and_one_is_mod] at this
    rw [Nat.testBit, Nat.testBit, Nat.and_comm, Nat.and_one_is_mod, Nat.and_comm, Nat.and_one_is_mod, this]
  · have hx := x.toNat_lt
    have hy := y.toNat_lt
    rw [Nat.testBit_lt_two_pow (Nat.lt_of_lt_of_le hx (Nat.pow_le_pow_right (by decide) hm)), Nat.testBit_lt_two_pow (Nat.lt_of_lt_of_le hy (Nat.pow_le_pow_right (by decide) hm))]
theorem el_bits {a b : El} (h : ∀ k, k < 128 → bit a k = bit b k) : a = b := by
  apply ext'
  · apply u64_bits; intro m hm
    have := h (63 - m) (by omega)
    rw [bit, bit, if_pos (by omega), if_pos (by omega), show 63 - (63 - m) % 64 = m by omega] at this; exact this
  · apply u64_bits; intro m hm
    have := h (127 - m) (by omega)
    rw [bit, bit, if_neg (by omega), if_neg (by omega), show 63 - (127 - m) % 64 = m by omega] at this; exact this
theorem mul_one (a : El) : mul a one = a := el_bits fun k hk => by rw [mul, bit_sm a k hk 128 (by omega), if_pos hk]
theorem mul_comm (a b : El) : mul a b = mul b a := by
  have := mul_left a b one
  rwa [mul_one, mul_one] at this
theorem mul_assoc (a b c : El) : mul (mul a b) c = mul a (mul b c) := by
  rw [mul_comm (mul a b) c, mul_left c a b, mul_comm c b]
end El
end Pv

set_option linter.all false
namespace Pv
open Go Go.RowKit

end Pv

namespace Pv
open Go Go.RowKit

end Pv
