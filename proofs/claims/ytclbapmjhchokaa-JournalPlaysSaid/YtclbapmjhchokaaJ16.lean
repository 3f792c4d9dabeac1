/-
  What the journal laws share: small, a device that there isn't.
-/
import Derived.Test.YtclbapmjhchokaaJ15
namespace Go.Proofs.Ytclbapmjhchokaa
open Go.RowKit

theorem small_calls (a : Option Addr) (n c : Nat) (l : List UInt8) (w : World) (hb : Bytes w a n c l) : Calls Try.prog 39 #[.slice a n c] w fun e w' => e = .returned (.slice a (min n 3000) c) ∧ w' = w := by
  have hcap := hb.cap
  have hl := hb.len
  by_cases h : 3000 < n
  · have g : (3000 : Int) < n := by omega
    have g2 : 3000 ≤ c := by omega
    have g3 : (3000 : Int) ≤ c := by omega
    have e : min n 3000 = 3000 := by omega
    rw [e]
    clear hl
    go_enter Try.func39, Try.ntmps39
    go_wp2
    go_ret
    exact ⟨rfl, rfl⟩
  · have g : decide ((3000 : Int) < n) = false := by simp; omega
    have e : min n 3000 = n := by omega
    rw [e]
    clear hl
    go_enter Try.func39, Try.ntmps39
    go_wp2
    go_ret
    exact ⟨rfl, rfl⟩
/-- At most 3000 bytes. -/
def sm (l : List UInt8) : List UInt8 := l.take 3000
theorem sm_len (l : List UInt8) : (sm l).length ≤ 3000 := by simp [sm]; omega
theorem Bytes.small {w : World} {a : Option Addr} {n c : Nat} {l : List UInt8} (h : Bytes w a n c l) : Bytes w a (min n 3000) c (sm l) := by
  have hl := h.len
  have := h.take (min n 3000) (by omega)
  have e : l.take (min n 3000) = sm l := by
    unfold sm
    by_cases h3 : 3000 ≤ n
    · rw [show min n 3000 = 3000 by omega]
    · rw [List.take_of_length_le (by omega), List.take_of_length_le (by omega)]
  rwa [e] at this
end Go.Proofs.Ytclbapmjhchokaa
