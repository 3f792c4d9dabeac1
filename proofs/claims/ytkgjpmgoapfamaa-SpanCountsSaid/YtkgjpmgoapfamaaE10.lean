/-
  Count.
-/
import Derived.Test.YtkgjpmgoapfamaaE7
import Derived.Test.YtkgjpmgoapfamaaA3
import Derived.Laws.Bits64
namespace Go.Proofs.Ytkgjpmgoapfamaa
open Go.RowKit

theorem size_snoc {L : List Sp} {k : Nat} (h : k < L.length) : size (L.take (k + 1)) = size (L.take k) + (L[k].2 - L[k].1) := by
  unfold size
  rw [List.take_succ_eq_append_getElem h, List.map_append, List.sum_append]
  simp
theorem size_step (a x y : Int) : (a % 18446744073709551616 + (x % 18446744073709551616 - y % 18446744073709551616) % 18446744073709551616) % 18446744073709551616 = (a + (x - y)) % 18446744073709551616 := by omega

def NumOut (x : Int) (w : World) (e : Ending) (w' : World) : Prop := e = .returned (.int .u64 x) ∧ Kp Non w w'

set_option maxRecDepth 100000 in
set_option maxHeartbeats 1000000 in
theorem count_calls (a : Option Addr) (n c : Nat) (l : List Sp) (w : World) (h : Spans w a n c l) (hn : n ≤ 1000000000) : Calls Try.prog 45 #[.slice a n c] w (NumOut (size (norm l) % 18446744073709551616) w) := by
  obtain rfl := h.len
  go_enter Try.func45, Try.ntmps45
  go_wp2_with fail
  refine (norm_calls a l.length c l w h (by omega)).mono ?_
  rintro e w1 ⟨a1, c1, rfl, hO1, hk1⟩
  have hB := hO1.reads encS_len (by omega)
  have hlb := norm_len l
  clear hO1 h
  generalize norm l = B at *
  have hcB := hB.cap
  have hmB := hB.max
  go_wp2_with fail
  go_loopw [3, 9] (fun v3 v9 wr => ∃ k : Nat, k ≤ B.length ∧ v9 = .int .i64 k ∧ v3 = .int .u64 (size (B.take k) % 18446744073709551616) ∧ Kp Non w1 wr) (fun _ v9 _ => B.length - (intOf v9).toNat)
  case atStart => exact ⟨0, by omega, rfl, rfl, Kp.refl _ _⟩
  case round =>
    obtain ⟨k, hk, rfl, rfl, hkr⟩ := hrel
    by_cases hlt : k < B.length
    · have g : (k : Int) < (B.length : Nat) := by omega
      obtain ⟨b, o, rfl⟩ := hB.there (by omega)
      have c0 := Spans.c0 (hB.non hkr) hlt
      have c1 := Spans.c1 (hB.non hkr) hlt
      have HS := Lib.hid (size_snoc hlt)
      generalize B[k] = s at *
      have hkN : Kp Non w1 (wr.alloc (.cells #[.int .i64 s.1, .int .i64 s.2] 30)) := hkr.alloc _
      go_wp2_with fail
      go_roundw
      case rel => exact ⟨k + 1, by omega, by go_num, by rw [HS.out]; simp only [IntKind.wrap_u64, size_step], hkN⟩
      case measure => simp [intOf]; omega
    · obtain rfl : k = B.length := by omega
      rw [List.take_of_length_le (Nat.le_refl _)]
      go_wp2_with fail
      go_ret
      exact ⟨rfl, hk1.trans hkr⟩

theorem norm_id {L : List Sp} (h : Plain L) : norm L = L := norm_eq h fun _ => Iff.rfl
/-- What an int holds, counted from the least one. -/
theorem mem_i64 {l : List Sp} (h : ∀ s ∈ l, (-9223372036854775808 ≤ s.1 ∧ s.1 ≤ 9223372036854775807) ∧ (-9223372036854775808 ≤ s.2 ∧ s.2 ≤ 9223372036854775807)) (x : Int) (hx : mem l x) : (-9223372036854775808 : Int) ≤ x ∧ x < -9223372036854775808 + ((18446744073709551616 : Nat) : Int) := by
  obtain ⟨s, hs, h1, h2⟩ := hx
  have := h s hs
  omega
end Go.Proofs.Ytkgjpmgoapfamaa
