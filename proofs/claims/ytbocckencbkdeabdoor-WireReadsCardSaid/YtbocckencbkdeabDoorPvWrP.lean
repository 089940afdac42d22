/- Part of the proof: the layer of pure values, or walks through functions (PvWrP). -/
import Derived.Test.YtbocckencbkdeabDoorPvWrE
set_option linter.all false
set_option linter.all false
namespace Pv
open Go
/-! ### Packets: plain. -/
structure PK' where
  l : Int
  v : Int
  m : Int
  s : Int
  po : Int
  pr : Int
  d : Nat
  e : Nat
  r : Nat
  a : Nat
  o : Nat
  c : Nat
  x : Nat
  f : List FR
deriving DecidableEq
abbrev PKT := PK'
/-- Within its fields' kinds. -/
def inP (p : PKT) : Prop := p.d < 2 ^ 32 ∧ p.e < 2 ^ 32 ∧ p.r < 2 ^ 32 ∧ p.a < 2 ^ 64 ∧ p.o < 2 ^ 64 ∧ p.c < 2 ^ 64 ∧ p.x < 2 ^ 64
def pkC (p : PKT) : List PV := [.int .i64 p.l, .int .i64 p.v, .int .i64 p.m, .int .i64 p.s, .int .i64 p.po, .int .i64 p.pr, .int .u32 p.d, .int .u32 p.e, .int .u32 p.r, .int .u64 p.a, .int .u64 p.o, .int .u64 p.c, .int .u64 p.x, .fsl 2 p.f.length (frsC p.f)]
def byI (n : Int) : UInt8 := UInt8.ofNat (n % 256).toNat
def sgI (b : UInt8) : Int := if 127 < b.toNat then (b.toNat : Int) - 256 else b.toNat
def okP (p : PKT) : Prop := (0 ≤ p.l ∧ p.l ≤ 3) ∧ (0 ≤ p.v ∧ p.v ≤ 7) ∧ (0 ≤ p.m ∧ p.m ≤ 7) ∧ (0 ≤ p.s ∧ p.s ≤ 255) ∧ (-128 ≤ p.po ∧ p.po ≤ 127) ∧ (-128 ≤ p.pr ∧ p.pr ≤ 127)
instance (p : PKT) : Decidable (okP p) := by unfold okP; infer_instance
def hd4 (p : PKT) : List UInt8 := [byI (p.l * 64 + p.v * 8 + p.m), byI p.s, byI p.po, byI p.pr]
def hdL (p : PKT) : List UInt8 := hd4 p ++ beL p.d 4 ++ beL p.e 4 ++ beL p.r 4 ++ beL p.a 8 ++ beL p.o 8 ++ beL p.c 8 ++ beL p.x 8
def writeP (p : PKT) : List UInt8 × Int := if ¬ okP p then ([], 13) else if (fieldsL p.f).2 ≠ 0 then ([], (fieldsL p.f).2) else (hdL p ++ (fieldsL p.f).1, 0)
def pk0 : PKT := ⟨0, 0, 0, 0, 0, 0, 0, 0, 0, 0, 0, 0, 0, []⟩
def cutL (s : List UInt8) (i n : Nat) : Nat := valN ((s.drop i).take n)
def pkOf (s : List UInt8) (f : List FR) : PKT := ⟨(((s.getD 0 0).toNat / 64 : Nat) : Int), (((s.getD 0 0).toNat / 8 % 8 : Nat) : Int), (((s.getD 0 0).toNat % 8 : Nat) : Int), ((s.getD 1 0).toNat : Int), sgI (s.getD 2 0), sgI (s.getD 3 0), cutL s 4 4, cutL s 8 4, cutL s 12 4, cutL s 16 8, cutL s 24 8, cutL s 32 8, cutL s 40 8, f⟩
def readP (s : List UInt8) : PKT × Int := if s.length < 48 then (pk0, 11) else if 1280 < s.length then (pk0, 12) else if (toFieldsL (s.drop 48)).2 ≠ 0 then (pk0, (toFieldsL (s.drop 48)).2) else (pkOf s (toFieldsL (s.drop 48)).1, 0)
theorem hdL_len (p : PKT) : (hdL p).length = 48 := by simp [hdL, hd4, beL_len]
theorem writeP_ok {p : PKT} (h : (writeP p).2 = 0) : okP p ∧ (fieldsL p.f).2 = 0 ∧ (writeP p).1 = hdL p ++ (fieldsL p.f).1 := by
  unfold writeP at h ⊢
  by_cases h1 : okP p
  · rw [if_neg (by simpa using h1)] at h ⊢
    by_cases h2 : (fieldsL p.f).2 ≠ 0
    · rw [if_pos h2] at h; exact absurd h h2
    · rw [if_neg h2]; exact ⟨h1, by simpa using h2, rfl⟩
  · rw [if_pos h1] at h; simp at h
theorem byI_n (n : Int) (h : 0 ≤ n ∧ n < 256) : ((byI n).toNat : Int) = n := by
  unfold byI
  have : (n % 256).toNat < 256 := by omega
  rw [UInt8.toNat_ofNat', Nat.mod_eq_of_lt (by omega)]; omega
theorem by_sg (b : UInt8) : byI (sgI b) = b := by
  have hb := b.toNat_lt
  apply UInt8.toNat_inj.1
  unfold byI sgI
  rw [UInt8.toNat_ofNat']
  split <;> omega
theorem by_n (b : UInt8) : byI (b.toNat : Int) = b := by
  have hb := b.toNat_lt
  apply UInt8.toNat_inj.1
  unfold byI
  rw [UInt8.toNat_ofNat']; omega
theorem be_cut (s : List UInt8) (i n : Nat) (h : i + n ≤ s.length) : beL (cutL s i n) n = (s.drop i).take n := by
  have := be_val' ((s.drop i).take n)
  rw [List.length_take, List.length_drop, Nat.min_eq_left (by omega)] at this
  exact this
theorem write_read {s : List UInt8} (h : (readP s).2 = 0) : writeP (readP s).1 = (s, 0) ∧ inP (readP s).1 := by
  unfold readP at h ⊢
  by_cases h1 : s.length < 48
  · rw [if_pos h1] at h; simp at h
  · rw [if_neg h1] at h ⊢
    by_cases h2 : 1280 < s.length
    · rw [if_pos h2] at h; simp at h
    · rw [if_neg h2] at h ⊢
      by_cases h3 : (toFieldsL (s.drop 48)).2 ≠ 0
      · rw [if_pos h3] at h; exact absurd h h3
      · rw [if_neg h3]
        obtain ⟨f, hf⟩ : ∃ f, f = (toFieldsL (s.drop 48)).1 := ⟨_, rfl⟩
        have hfe : toFieldsL (s.drop 48) = (f, 0) := by rw [hf]; exact Prod.ext rfl (by simpa using h3)
        rw [← hf]
        have hb := back_fields hfe (by rw [List.length_drop]; omega)
        show writeP (pkOf s f) = (s, 0) ∧ inP (pkOf s f)
        match s, h1 with
        | [], h1 => exact absurd (by decide) h1
        | [_], h1 => exact absurd (by simp) h1
        | [_, _], h1 => exact absurd (by simp) h1
        | [_, _, _], h1 => exact absurd (by simp) h1
        | b0 :: b1 :: b2 :: b3 :: t, h1 =>
          have hlen : t.length + 4 ≤ 1280 ∧ 44 ≤ t.length := by simp at h1 h2; omega
          have t0 := b0.toNat_lt
          have t1 := b1.toNat_lt
          have t2 := b2.toNat_lt
          have t3 := b3.toNat_lt
          have sg : ∀ b : UInt8, -128 ≤ sgI b ∧ sgI b ≤ 127 := by
            intro b; have := b.toNat_lt; unfold sgI; split <;> omega
          have hok : okP (pkOf (b0 :: b1 :: b2 :: b3 :: t) f) := by
            refine ⟨?_, ?_, ?_, ?_, sg _, sg _⟩
            · show (0 : Int) ≤ ((b0.toNat / 64 : Nat) : Int) ∧ ((b0.toNat / 64 : Nat) : Int) ≤ 3; omega
            · show (0 : Int) ≤ ((b0.toNat / 8 % 8 : Nat) : Int) ∧ ((b0.toNat / 8 % 8 : Nat) : Int) ≤ 7; omega
            · show (0 : Int) ≤ ((b0.toNat % 8 : Nat) : Int) ∧ ((b0.toNat % 8 : Nat) : Int) ≤ 7; omega
            · show (0 : Int) ≤ (b1.toNat : Int) ∧ (b1.toNat : Int) ≤ 255; omega
          have hlt : ∀ i n, cutL (b0 :: b1 :: b2 :: b3 :: t) i n < 256 ^ n := by
            intro i n
            have h := valN_lt (((b0 :: b1 :: b2 :: b3 :: t).drop i).take n)
            have h2 : (((b0 :: b1 :: b2 :: b3 :: t).drop i).take n).length ≤ n := by rw [List.length_take]; omega
            exact Nat.lt_of_lt_of_le h (Nat.pow_le_pow_right (by decide) h2)
          refine ⟨?_, hlt 4 4, hlt 8 4, hlt 12 4, hlt 16 8, hlt 24 8, hlt 32 8, hlt 40 8⟩
          have hpf : (pkOf (b0 :: b1 :: b2 :: b3 :: t) f).f = f := rfl
          rw [writeP, if_neg (by simpa using hok), hpf, hb, if_neg (by simp)]
          have l48 : (b0 :: b1 :: b2 :: b3 :: t).length = t.length + 4 := rfl
          have hh4 : hd4 (pkOf (b0 :: b1 :: b2 :: b3 :: t) f) = [b0, b1, b2, b3] := by
            show [byI (((b0.toNat / 64 : Nat) : Int) * 64 + ((b0.toNat / 8 % 8 : Nat) : Int) * 8 + ((b0.toNat % 8 : Nat) : Int)), byI (b1.toNat : Int), byI (sgI b2), byI (sgI b3)] = _
            rw [by_n, by_sg, by_sg, show ((b0.toNat / 64 : Nat) : Int) * 64 + ((b0.toNat / 8 % 8 : Nat) : Int) * 8 + ((b0.toNat % 8 : Nat) : Int) = (b0.toNat : Int) by omega, by_n]
          have hhd : hdL (pkOf (b0 :: b1 :: b2 :: b3 :: t) f) = [b0, b1, b2, b3] ++ t.take 44 := by
            rw [hdL, hh4]
            show [b0, b1, b2, b3] ++ beL (cutL (b0 :: b1 :: b2 :: b3 :: t) 4 4) 4 ++ beL (cutL (b0 :: b1 :: b2 :: b3 :: t) 8 4) 4 ++ beL (cutL (b0 :: b1 :: b2 :: b3 :: t) 12 4) 4 ++ beL (cutL (b0 :: b1 :: b2 :: b3 :: t) 16 8) 8 ++ beL (cutL (b0 :: b1 :: b2 :: b3 :: t) 24 8) 8 ++ beL (cutL (b0 :: b1 :: b2 :: b3 :: t) 32 8) 8 ++ beL (cutL (b0 :: b1 :: b2 :: b3 :: t) 40 8) 8 = _
            rw [be_cut _ 4 4 (by rw [l48]; omega), be_cut _ 8 4 (by rw [l48]; omega), be_cut _ 12 4 (by rw [l48]; omega), be_cut _ 16 8 (by rw [l48]; omega), be_cut _ 24 8 (by rw [l48]; omega), be_cut _ 32 8 (by rw [l48]; omega), be_cut _ 40 8 (by rw [l48]; omega)]
            show [b0, b1, b2, b3] ++ (t.drop 0).take 4 ++ (t.drop 4).take 4 ++ (t.drop 8).take 4 ++ (t.drop 12).take 8 ++ (t.drop 20).take 8 ++ (t.drop 28).take 8 ++ (t.drop 36).take 8 = _
            conv => rhs; rw [show 44 = 4 + (4 + (4 + (8 + (8 + (8 + 8))))) from rfl]
            simp only [List.take_add, List.drop_drop, List.append_assoc, List.drop_zero]
          rw [hhd]
          have : (b0 :: b1 :: b2 :: b3 :: t).drop 48 = t.drop 44 := rfl
          rw [this]
          show ([b0, b1, b2, b3] ++ t.take 44 ++ t.drop 44, (0 : Int)) = _
          rw [List.append_assoc, List.take_append_drop]; rfl
end Pv
