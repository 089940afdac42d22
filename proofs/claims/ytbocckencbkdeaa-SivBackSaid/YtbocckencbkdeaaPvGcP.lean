/- Part of the proof: the layer of pure values, or walks through functions (PvGcP, PvGc6). -/
import Derived.Test.YtbocckencbkdeaaPvGcE
import Derived.Test.YtbocckencbkdeaaPvAe13
set_option linter.all false
set_option linter.all false
namespace Pv
open Go
theorem words16 {key : List UInt8} (hk : goodK key) : 16 ≤ (wordsL key).length := by rw [words_len hk]; rcases hk with h | h <;> omega
end Pv

namespace Pv
set_option maxRecDepth 20000
set_option maxHeartbeats 4000000
open Go Go.Proofs Go.RowKit
variable {w0 : World}

theorem enc_good {key s : List UInt8} (hk : goodK key) (hs : s.length = 16) : encR key s = (encB (wordsL key) s, 0) := by rw [encR, blockR, if_neg (by simpa using hk), if_neg (by simpa using hs)]
theorem str_good {key s : List UInt8} (hk : goodK key) (hs : s.length = 16) {n : Nat} (hn : n ≤ 65536) : strR key s (n : Int) = (strL (wordsL key) s n, 0) := by
  rw [strR, if_neg (by omega), blockR, if_neg (by simpa using hk), if_neg (by simpa using hs), Int.toNat_natCast]
end Pv
