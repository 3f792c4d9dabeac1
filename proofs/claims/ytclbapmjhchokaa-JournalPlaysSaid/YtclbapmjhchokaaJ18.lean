/-
  The document's calls of octet: sums, four bytes, frames.
-/
import Derived.Test.YtclbapmjhchokaaJ17
namespace Go.Proofs.Ytclbapmjhchokaa
open Go.RowKit

theorem csN_succ' (k x : Nat) : csN (k + 1) x = cs (csN k x) := rfl

set_option maxRecDepth 100000 in
set_option maxHeartbeats 1000000 in
theorem refsum_calls (x : Nat) (a : Option Addr) (n c : Nat) (l : List UInt8) (w : World) (hx : x < 4294967296) (hb : Bytes w a n c l) :
    Calls Try.prog 103 #[.int .u32 x, .slice a n c] w fun e w' => e = .returned (.int .u32 (crcL x l : Nat)) ∧ w' = w := by
  have hn := hb.len
  have hm := hb.max
  have hcap := hb.cap
  have HN := Lib.hid hn
  clear hn
  go_enter Try.func103, Try.ntmps103
  go_wp2
  go_loopw [5, 6] (fun v5 v6 wr => ∃ k : Nat, k ≤ n ∧ v5 = .int .u32 (crcL x (l.take k) : Nat) ∧ v6 = .int .i64 k ∧ wr = w) (fun _ v6 _ => n - (intOf v6).toNat)
  case atStart => exact ⟨0, by omega, by simp [crcL], rfl, rfl⟩
  case round =>
    obtain ⟨k, hk, rfl, rfl, rfl⟩ := hrel
    have hl := crcL_lt hx (l.take k)
    by_cases hlt : k < n
    · have g : (k : Int) < n := by omega
      have g0 : (0 : Int) ≤ k := by omega
      have hkl : k < l.length := by have := HN.out; omega
      obtain ⟨ad, rfl⟩ := hb.there (by omega)
      have hc := hb.cellAt hkl
      have e3 := Lib.hid (crcL_take x l k hkl)
      have hb8 := (l[k]).toNat_lt
      have E4 := Lib.hid (show crcB (crcL x (l.take k)) l[k] = csN 8 (crcL x (l.take k) ^^^ (l[k]).toNat) from rfl)
      generalize l[k] = b at *
      generalize crcL x (l.take k) = y at *
      have e6 : IntKind.u32.wrap (b.toNat : Int) = (b.toNat : Int) := by rw [wrap32u]; omega
      have e2 : bits .xor .u32 (y : Int) (b.toNat : Int) = ((y ^^^ b.toNat : Nat) : Int) := bits_xor32 hl (by omega)
      have lz : y ^^^ b.toNat < 4294967296 := xor_lt32 hl (by omega)
      have v6 : IntKind.i64.wrap ((k : Int) + 1) = (k : Int) + 1 := IntWalk.i64_in _ (by omega)
      generalize y ^^^ b.toNat = z at *
      go_wp2_with fail
      go_loopw [5, 7] (fun v5 v7 wq => ∃ q : Nat, q ≤ 8 ∧ v5 = .int .u32 (csN q z : Nat) ∧ v7 = .int .i64 q ∧ wq = wr) (fun _ v7 _ => 8 - (intOf v7).toNat)
      case atStart => exact ⟨0, by omega, rfl, rfl, rfl⟩
      case round =>
        obtain ⟨q, hq, rfl, rfl, rfl⟩ := hrel
        have hlq := csN_lt lz q
        by_cases hq8 : q < 8
        · have gq : (q : Int) < 8 := by omega
          have e7 := Lib.hid (csN_succ' q z)
          generalize csN q z = u at *
          rcases Nat.mod_two_eq_zero_or_one u with h0 | h0
          · have f1 : (u : Int) % 2 = 0 := by omega
            go_wp2
            refine ⟨⟨q + 1, by omega, ?_, by go_num, trivial⟩, by simp [intOf]; omega⟩
            rw [e7.out]
            unfold cs
            rw [if_neg (by omega)]
            rfl
          · have f1 : (u : Int) % 2 = 1 := by omega
            have f2 : bits .xor .u32 ((u : Int) / 2) 3988292384 = ((u / 2 ^^^ 3988292384 : Nat) : Int) := by
              have := bits_xor32 (a := u / 2) (b := 3988292384) (by omega) (by omega)
              rw [← this]
              rfl
            go_wp2
            refine ⟨⟨q + 1, by omega, ?_, by go_num, trivial⟩, by simp [intOf]; omega⟩
            rw [e7.out]
            unfold cs
            rw [if_pos (by omega)]
        · obtain rfl : q = 8 := by omega
          go_wp2
          refine ⟨⟨k + 1, by omega, ?_, by go_num, trivial⟩, by simp [intOf]; omega⟩
          rw [e3.out, E4.out]
    · obtain rfl : k = n := by omega
      have g : ¬ (k : Int) < k := by omega
      have hln := HN.out
      rw [List.take_of_length_le (by omega)]
      go_wp2
      go_ret
      exact ⟨rfl, rfl⟩

theorem crc_calls (a : Option Addr) (n c : Nat) (l : List UInt8) (w : World) (hb : Bytes w a n c l) : Calls Try.prog 90 #[.slice a n c] w fun e w' => e = .returned (.int .u32 (crc l : Nat)) ∧ w' = w := by
  have HS := Lib.hid (refsum_calls 4294967295 a n c l w (by omega) hb)
  have hlt := crcL_lt (x := 4294967295) (by omega) l
  have HC := Lib.hid (show crc l = 4294967295 - crcL 4294967295 l from rfl)
  generalize crcL 4294967295 l = y at *
  generalize crc l = z at *
  have e1 : IntKind.u32.wrap (4294967295 - (y : Int)) = (z : Int) := by rw [wrap32u, HC.out]; omega
  go_enter Try.func90, Try.ntmps90
  go_wp2_with fail
  refine HS.out.mono ?_
  rintro e w' ⟨rfl, rfl⟩
  go_wp2_with fail
  go_ret
  exact ⟨rfl, rfl⟩

def F4 (n : Nat) : Array Value := #[.int .u8 ((n : Int) % 256), .int .u8 ((n : Int) / 256 % 256), .int .u8 ((n : Int) / 65536 % 256), .int .u8 ((n : Int) / 16777216 % 256)]
set_option maxRecDepth 100000 in
theorem reffour_calls (x : Nat) (w : World) (hx : x < 4294967296) : Calls Try.prog 89 #[.int .u32 x] w fun e w' => e = .returned (.slice (some ⟨w.heap.size, 0, none⟩) 4 4) ∧ w' = w.alloc (.cells (F4 x) 5) := by
  have e0 : IntKind.u8.wrap ((x : Int) % 256) = (x : Int) % 256 := by rw [u8wrap]; omega
  have e1 : IntKind.u8.wrap ((x : Int) / 256 % 256) = (x : Int) / 256 % 256 := by rw [u8wrap]; omega
  have e2 : IntKind.u8.wrap ((x : Int) / 65536 % 256) = (x : Int) / 65536 % 256 := by rw [u8wrap]; omega
  have e3 : IntKind.u8.wrap ((x : Int) / 16777216) = (x : Int) / 16777216 % 256 := by rw [u8wrap]
  go_enter Try.func89, Try.ntmps89
  go_wp2
  go_ret
  exact ⟨rfl, rfl⟩
theorem F4_own (x : Nat) (w : World) : OwnB (w.alloc (.cells (F4 x) 5)) w.heap.size 5 (some ⟨w.heap.size, 0, none⟩) 4 4 (le4 x) :=
  ⟨rfl, .inr ⟨w.heap.size, 4, F4 x, rfl, Nat.le_refl _, heap_alloc_new w _, Nat.le_refl _, by unfold maxLen; omega, rfl, le4_cells x⟩⟩

def RFramePost (l : List UInt8) (w : World) (e : Ending) (w' : World) : Prop :=
  ∃ a' c', e = .returned (.slice a' (l.length + 8) c') ∧ OwnB w' w.heap.size 5 a' (l.length + 8) c' (frame l) ∧ Kp Non w w'

set_option maxRecDepth 100000 in
set_option maxHeartbeats 1000000 in
theorem refframe_calls (a : Option Addr) (n c : Nat) (l : List UInt8) (w : World) (hb : Bytes w a n c l) (h : n ≤ 1048576) : Calls Try.prog 48 #[.slice a n c] w (RFramePost l w) := by
  obtain ⟨i0, hi0, hz0, hz1, hz2⟩ := info_parts info5
  have e0 : IntKind.u32.wrap (n : Int) = n := by rw [wrap32u]; omega
  have HL := Lib.hid hb.len
  have hcrc := crc_lt (le4 n ++ l)
  go_enter Try.func48, Try.ntmps48
  go_wp2_with fail
  refine (reffour_calls n w (by omega)).mono ?_
  rintro e w1 ⟨rfl, rfl⟩
  have hO1 := F4_own n w
  have hk1 : Kp Non w (w.alloc (.cells (F4 n) 5)) := (Kp.refl _ _).alloc _
  have hb1 := hb.non hk1
  generalize w.alloc (.cells (F4 n) 5) = w1 at *
  go_wp2_with ((at_builtin; refine wpList_append_bytes rfl _ _ 22 rfl w.heap.size 5 i0 Try.underlying22 hi0 hz0 hz1 hz2 (some ⟨w.heap.size, 0, none⟩) 4 4 (le4 n) rfl hO1 a n c l rfl hb1 (by omega) hk1.size ?_; intro a2 c2 w2 hO2 hg2 _; have hk2 : Kp Non w w2 := hk1.grown hg2 (fun j hj => .inr (World.ownsRow.lt hO1 j hj).1)))
  refine (crc_calls a2 (4 + n) c2 _ w2 hO2.bytes).mono ?_
  rintro e w3 ⟨rfl, rfl⟩
  generalize hq : crc (le4 n ++ l) = q at *
  have HQ := Lib.hid hq
  clear hq
  go_wp2_with fail
  refine (reffour_calls q w3 hcrc).mono ?_
  rintro e w4 ⟨rfl, rfl⟩
  have hO4 := (F4_own q w3).bytes
  have hkA : Kp Non w3 (w3.alloc (.cells (F4 q) 5)) := (Kp.refl _ _).alloc _
  have hO3 := hO2.kp hkA (fun _ _ f => f)
  have hk4 := hk2.trans hkA
  have hsz := hk4.size
  generalize w3.alloc (.cells (F4 q) 5) = w4 at *
  go_wp2_with ((at_builtin; refine wpList_append_bytes rfl _ _ 22 rfl w.heap.size 5 i0 Try.underlying22 hi0 hz0 hz1 hz2 a2 (4 + n) c2 (le4 n ++ l) rfl hO3 (some ⟨w3.heap.size, 0, none⟩) 4 4 (le4 q) rfl hO4 (by omega) hsz ?_; intro a5 c5 w5 hO5 hg5 _; have hk5 : Kp Non w w5 := hk4.grown hg5 (fun j hj => .inr (World.ownsRow.lt hO3 j hj).1)))
  go_ret
  have e8 : 4 + n + 4 = l.length + 8 := by have := HL.out; omega
  rw [e8] at hO5 ⊢
  rw [← HQ.out, HL.out] at hO5
  exact ⟨a5, c5, rfl, hO5, hk5⟩
end Go.Proofs.Ytclbapmjhchokaa
