/- Part of the proof: the layer of pure values, or walks through functions (PvGcP). -/
import Derived.Test.YtbocckencbkdeaaPvGcE
set_option linter.all false
set_option linter.all false
namespace Pv
open Go
/-! ### What is sealed and opened: plain. -/
def gcS (w nonce s : List UInt8) : List UInt8 := xorB s (strL w (nonce ++ [0, 0, 0, 2]) s.length)
def gcH (w : List UInt8) : List UInt8 := encB w (zL 16)
def gcM (w nonce : List UInt8) : List UInt8 := encB w (nonce ++ [0, 0, 0, 1])
def gcT (w nonce ad c : List UInt8) : List UInt8 := xorB (elT (ghs (elB (gcH w)) ad c)) (gcM w nonce)
def sealG (key nonce ad s : List UInt8) : List UInt8 × Int :=
  if ¬ goodK key then ([], 13) else if nonce.length ≠ 12 then ([], 10) else if 65536 < s.length then ([], 12) else (gcS (wordsL key) nonce s ++ gcT (wordsL key) nonce ad (gcS (wordsL key) nonce s), 0)
def openG (key nonce ad s : List UInt8) : List UInt8 × Int :=
  if ¬ goodK key then ([], 13) else if nonce.length ≠ 12 then ([], 10) else if s.length < 16 then ([], 11) else if 65552 < s.length then ([], 12) else
  if gcT (wordsL key) nonce ad (s.take (s.length - 16)) = s.drop (s.length - 16) then (gcS (wordsL key) nonce (s.take (s.length - 16)), 0) else ([], 17)
theorem words16 {key : List UInt8} (hk : goodK key) : 16 ≤ (wordsL key).length := by rw [words_len hk]; rcases hk with h | h <;> omega
theorem gcH_len {w : List UInt8} (hw : 16 ≤ w.length) : (gcH w).length = 16 := encB_len (by rw [zL_len]) hw
theorem gcM_len {w nonce : List UInt8} (hw : 16 ≤ w.length) (h : nonce.length = 12) : (gcM w nonce).length = 16 := encB_len (by simp [h]) hw
theorem gcS_len {w nonce : List UInt8} (hw : 16 ≤ w.length) (h : nonce.length = 12) (s : List UInt8) : (gcS w nonce s).length = s.length := by rw [gcS, xorB_len, strL_len (by simp [h]) hw, Nat.min_self]
theorem gcT_len {w nonce : List UInt8} (hw : 16 ≤ w.length) (h : nonce.length = 12) (ad c : List UInt8) : (gcT w nonce ad c).length = 16 := by rw [gcT, xorB_len, elT_len, gcM_len hw h]; rfl

def awZ : List UInt8 := [0, 0, 0, 0, 0, 0, 0, 0, 0, 0, 0, 0, 0, 0, 0, 0]
def awN : List UInt8 := [0, 0, 0, 0, 0, 0, 0, 0, 0, 0, 0, 0]
theorem gcX1 : gcS (wordsL awZ) awN [] ++ gcT (wordsL awZ) awN [] (gcS (wordsL awZ) awN []) = [88, 226, 252, 206, 250, 126, 48, 97, 54, 127, 29, 87, 164, 231, 69, 90] := by decide +kernel
theorem gcX2 : (gcS (wordsL awZ) awN awZ).take 4 = [3, 136, 218, 206] := by decide +kernel
theorem awX1 : sealG awZ awN [] [] = ([88, 226, 252, 206, 250, 126, 48, 97, 54, 127, 29, 87, 164, 231, 69, 90], 0) := by
  rw [sealG, if_neg (by simp [goodK, awZ]), if_neg (by simp [awN]), if_neg (by simp), gcX1]
theorem awX2 : ∃ t, sealG awZ awN [] awZ = (t, 0) ∧ t.length = 32 ∧ t.take 4 = [3, 136, 218, 206] := by
  have hw : 16 ≤ (wordsL awZ).length := words16 (.inl rfl)
  have hn : awN.length = 12 := rfl
  refine ⟨_, by rw [sealG, if_neg (by simp [goodK, awZ]), if_neg (by simp [awN]), if_neg (by simp [awZ])], ?_, ?_⟩
  · rw [List.length_append, gcS_len hw hn, gcT_len hw hn]; rfl
  · rw [List.take_append_of_le_length (by rw [gcS_len hw hn]; decide), gcX2]
/-! #### There and back -/
theorem gcS_gcS {w nonce : List UInt8} (hw : 16 ≤ w.length) (h : nonce.length = 12) (s : List UInt8) : gcS w nonce (gcS w nonce s) = s := by
  rw [show gcS w nonce (gcS w nonce s) = xorB (gcS w nonce s) (strL w (nonce ++ [0, 0, 0, 2]) (gcS w nonce s).length) from rfl, gcS_len hw h, gcS, xorB_cancel _ _ (by rw [strL_len (by simp [h]) hw]; exact Nat.le_refl _)]
theorem seal_e (key nonce ad s : List UInt8) : (sealG key nonce ad s).2 = 0 ↔ goodK key ∧ nonce.length = 12 ∧ s.length ≤ 65536 := by
  unfold sealG
  by_cases hk : goodK key
  · rw [if_neg (by simpa using hk)]
    by_cases hn : nonce.length = 12
    · rw [if_neg (by simpa using hn)]
      by_cases hl : 65536 < s.length
      · rw [if_pos hl]; simp; omega
      · rw [if_neg hl]; simp [hk, hn]; omega
    · rw [if_pos hn]; simp [hn]
  · rw [if_pos hk]; simp [hk]
theorem seal_good {key nonce ad s : List UInt8} (hk : goodK key) (hn : nonce.length = 12) (hl : s.length ≤ 65536) : sealG key nonce ad s = (gcS (wordsL key) nonce s ++ gcT (wordsL key) nonce ad (gcS (wordsL key) nonce s), 0) := by
  rw [sealG, if_neg (by simpa using hk), if_neg (by simpa using hn), if_neg (by omega)]
theorem open_seal {key nonce ad s : List UInt8} (hk : goodK key) (hn : nonce.length = 12) (hl : s.length ≤ 65536) : openG key nonce ad (sealG key nonce ad s).1 = (s, 0) ∧ (sealG key nonce ad s).1.length = s.length + 16 := by
  have hw := words16 hk
  rw [seal_good hk hn hl]
  have h1 := gcS_len hw hn s
  have h2 := gcT_len hw hn ad (gcS (wordsL key) nonce s)
  have hlen : (gcS (wordsL key) nonce s ++ gcT (wordsL key) nonce ad (gcS (wordsL key) nonce s)).length = s.length + 16 := by rw [List.length_append, h1, h2]
  refine ⟨?_, hlen⟩
  show openG key nonce ad (gcS (wordsL key) nonce s ++ gcT (wordsL key) nonce ad (gcS (wordsL key) nonce s)) = _
  unfold openG
  have ht : (gcS (wordsL key) nonce s ++ gcT (wordsL key) nonce ad (gcS (wordsL key) nonce s)).take (s.length + 16 - 16) = gcS (wordsL key) nonce s := by
    rw [show s.length + 16 - 16 = (gcS (wordsL key) nonce s).length by omega, List.take_left]
  have hd : (gcS (wordsL key) nonce s ++ gcT (wordsL key) nonce ad (gcS (wordsL key) nonce s)).drop (s.length + 16 - 16) = gcT (wordsL key) nonce ad (gcS (wordsL key) nonce s) := by
    rw [show s.length + 16 - 16 = (gcS (wordsL key) nonce s).length by omega, List.drop_left]
  rw [if_neg (by simpa using hk), if_neg (by simpa using hn), hlen, if_neg (by omega), if_neg (by omega), ht, hd, if_pos rfl, gcS_gcS hw hn]
theorem seal_open {key nonce ad s : List UInt8} (h : (openG key nonce ad s).2 = 0) : sealG key nonce ad (openG key nonce ad s).1 = (s, 0) := by
  unfold openG at h ⊢
  by_cases hk : goodK key
  · rw [if_neg (by simpa using hk)] at h ⊢
    by_cases hn : nonce.length = 12
    · rw [if_neg (by simpa using hn)] at h ⊢
      by_cases h16 : s.length < 16
      · rw [if_pos h16] at h; simp at h
      · rw [if_neg h16] at h ⊢
        by_cases hl : 65552 < s.length
        · rw [if_pos hl] at h; simp at h
        · rw [if_neg hl] at h ⊢
          by_cases ht : gcT (wordsL key) nonce ad (s.take (s.length - 16)) = s.drop (s.length - 16)
          · rw [if_pos ht]
            have hw := words16 hk
            have hl2 : (gcS (wordsL key) nonce (s.take (s.length - 16))).length ≤ 65536 := by rw [gcS_len hw hn, List.length_take]; omega
            show sealG key nonce ad (gcS (wordsL key) nonce (s.take (s.length - 16))) = _
            rw [seal_good hk hn hl2, gcS_gcS hw hn, ht, List.take_append_drop]
          · rw [if_neg ht] at h; simp at h
    · rw [if_pos hn] at h; simp at h
  · rw [if_pos hk] at h; simp at h
end Pv
