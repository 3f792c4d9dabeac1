/-
  The calls of octet that make sums.
-/
import Derived.Test.YtclbapmjhchokaaE1
import Derived.Test.YtclbapmjhchokaaJ0
import Derived.Laws.Bits64
import Derived.Laws.Unary
namespace Go.Proofs.Ytclbapmjhchokaa
open Go.RowKit

theorem wrap32u (n : Int) : IntKind.u32.wrap n = n % 4294967296 := by simp [IntKind.wrap, IntKind.bits, IntKind.signed]
theorem ofNat32 {a : Nat} (ha : a < 4294967296) : (BitVec.ofInt 32 (a : Int)).toNat = a := by
  rw [BitVec.ofInt_natCast, BitVec.toNat_ofNat]; exact Nat.mod_eq_of_lt (by omega)
theorem bits_xor32 {a b : Nat} (ha : a < 4294967296) (hb : b < 4294967296) : bits .xor .u32 (a : Int) (b : Int) = ((a ^^^ b : Nat) : Int) := by
  have hx := xor_lt32 ha hb
  show IntKind.u32.wrap ((BitVec.ofInt 32 (a : Int) ^^^ BitVec.ofInt 32 (b : Int)).toNat : Int) = _
  rw [BitVec.toNat_xor, ofNat32 ha, ofNat32 hb, wrap32u]
  omega
theorem bits_and32 {a b : Nat} (ha : a < 4294967296) (hb : b < 4294967296) : bits .and .u32 (a : Int) (b : Int) = ((a &&& b : Nat) : Int) := by
  have hx : a &&& b < 2 ^ 32 := Nat.and_lt_two_pow _ (by omega)
  show IntKind.u32.wrap ((BitVec.ofInt 32 (a : Int) &&& BitVec.ofInt 32 (b : Int)).toNat : Int) = _
  rw [BitVec.toNat_and, ofNat32 ha, ofNat32 hb, wrap32u]
  omega
theorem bits_or32 {a b : Nat} (ha : a < 4294967296) (hb : b < 4294967296) : bits .or .u32 (a : Int) (b : Int) = ((a ||| b : Nat) : Int) := by
  have hx : a ||| b < 2 ^ 32 := Nat.or_lt_two_pow (by omega) (by omega)
  show IntKind.u32.wrap ((BitVec.ofInt 32 (a : Int) ||| BitVec.ofInt 32 (b : Int)).toNat : Int) = _
  rw [BitVec.toNat_or, ofNat32 ha, ofNat32 hb, wrap32u]
  omega
theorem and_one32 {a : Nat} (ha : a < 4294967296) : bits .and .u32 (a : Int) 1 = ((a % 2 : Nat) : Int) := by
  have := bits_and32 ha (b := 1) (by omega)
  rw [show ((1 : Nat) : Int) = 1 from rfl] at this
  rw [this, Nat.and_one_is_mod]
theorem and_255 {a : Nat} (ha : a < 4294967296) : bits .and .u32 (a : Int) 255 = ((a % 256 : Nat) : Int) := by
  have := bits_and32 ha (b := 255) (by omega)
  rw [show ((255 : Nat) : Int) = 255 from rfl] at this
  rw [this, show (255 : Nat) = 2 ^ 8 - 1 from rfl, Nat.and_two_pow_sub_one_eq_mod]
theorem not32 {a : Nat} (ha : a < 4294967296) : bits .xor .u32 IntKind.u32.max (a : Int) = ((4294967295 - a : Nat) : Int) := by
  rw [show IntKind.u32.max = 4294967295 from rfl]
  have := bits_xor32 (a := 4294967295) (b := a) (by omega) ha
  rw [show ((4294967295 : Nat) : Int) = 4294967295 from rfl] at this
  rw [this]
  congr 1
  refine Nat.eq_of_testBit_eq fun i => ?_
  rw [Nat.testBit_xor, show (4294967295 : Nat) = 2 ^ 32 - 1 from rfl, Nat.testBit_two_pow_sub_one, show 2 ^ 32 - 1 - a = 2 ^ 32 - (a + 1) by omega, Nat.testBit_two_pow_sub_succ (by omega)]
  by_cases hi : i < 32
  · simp [hi]
  · have h2 : (2 : Nat) ^ 32 ≤ 2 ^ i := Nat.pow_le_pow_right (by omega) (by omega)
    have : a.testBit i = false := Nat.testBit_lt_two_pow (by omega)
    simp [hi, this]

set_option maxRecDepth 100000 in
theorem step_calls (x : Nat) (w : World) (hx : x < 4294967296) : Calls Try.prog 105 #[.int .u32 x] w fun e w' => e = .returned (.int .u32 (csN 8 x : Nat)) ∧ w' = w := by
  go_enter Try.func105, Try.ntmps105
  go_wp2
  go_loopw [0, 3] (fun v0 v3 wr => ∃ k : Nat, k ≤ 8 ∧ v0 = .int .u32 (csN k x : Nat) ∧ v3 = .int .i64 k ∧ wr = w) (fun _ v3 _ => 8 - (intOf v3).toNat)
  case atStart => exact ⟨0, by omega, rfl, rfl, rfl⟩
  case round =>
    obtain ⟨k, hk, rfl, rfl, rfl⟩ := hrel
    have hl := csN_lt hx k
    by_cases hlt : k < 8
    · have g : (k : Int) < 8 := by omega
      have e1 := and_one32 hl
      have e2 : csN (k + 1) x = cs (csN k x) := rfl
      have e3 := Lib.hid e2
      clear e2
      generalize csN k x = y at *
      rcases Nat.mod_two_eq_zero_or_one y with h0 | h0
      · rw [h0] at e1
        have e4 : bits .and .u32 3988292384 0 = 0 := by decide
        have e5 : bits .xor .u32 ((y : Int) / 2) 0 = ((y / 2 : Nat) : Int) := by
          have := bits_xor32 (a := y / 2) (b := 0) (by omega) (by omega)
          rw [Nat.xor_zero] at this
          rw [← this]
          rfl
        go_wp2
        refine ⟨⟨k + 1, by omega, ?_, by go_num, trivial⟩, by simp [intOf]; omega⟩
        rw [e3.out]
        unfold cs
        rw [if_neg (by omega)]
        rfl
      · rw [h0] at e1
        have e4 : bits .and .u32 3988292384 4294967295 = 3988292384 := by decide
        have e5 : bits .xor .u32 ((y : Int) / 2) 3988292384 = ((y / 2 ^^^ 3988292384 : Nat) : Int) := by
          have := bits_xor32 (a := y / 2) (b := 3988292384) (by omega) (by omega)
          rw [← this]
          rfl
        go_wp2
        refine ⟨⟨k + 1, by omega, ?_, by go_num, trivial⟩, by simp [intOf]; omega⟩
        rw [e3.out]
        unfold cs
        rw [if_pos (by omega)]
    · obtain rfl : k = 8 := by omega
      go_wp2
      go_ret
      exact ⟨rfl, rfl⟩

theorem Bytes.there {w : World} {a : Option Addr} {n c : Nat} {l : List UInt8} (h : Bytes w a n c l) (hn : 0 < n) : ∃ ad, a = some ad := by
  cases a with
  | none => have := h.nil rfl; have := h.cap; omega
  | some ad => exact ⟨ad, rfl⟩
theorem Bytes.cellAt {w : World} {ad : Addr} {n c : Nat} {l : List UInt8} (h : Bytes w (some ad) n c l) {i : Nat} (hi : i < l.length) : w.cell? (ad.add i) = some (.int .u8 (l[i].toNat : Nat)) :=
  h.cells ad i l[i] rfl (List.getElem?_eq_getElem hi)
theorem crcL_take (x : Nat) (l : List UInt8) (i : Nat) (hi : i < l.length) : crcL x (l.take (i + 1)) = crcB (crcL x (l.take i)) l[i] := by
  unfold crcL
  rw [List.take_add_one, List.foldl_append, List.getElem?_eq_getElem hi]
  rfl

set_option maxRecDepth 100000 in
set_option maxHeartbeats 1000000 in
theorem more_calls (x : Nat) (a : Option Addr) (n c : Nat) (l : List UInt8) (w : World) (hx : x < 4294967296) (hb : Bytes w a n c l) :
    Calls Try.prog 104 #[.int .u32 x, .slice a n c] w fun e w' => e = .returned (.int .u32 (4294967295 - crcL (4294967295 - x) l : Nat)) ∧ w' = w := by
  have hn := hb.len
  have hm := hb.max
  have hcap := hb.cap
  have e0 := not32 hx
  have HS := Lib.hid (fun (y : Nat) (W : World) (hy : y < 4294967296) => step_calls y W hy)
  go_enter Try.func104, Try.ntmps104
  go_wp2
  go_loopw [5, 12] (fun v5 v12 wr => ∃ k : Nat, k ≤ n ∧ v5 = .int .u32 (crcL (4294967295 - x) (l.take k) : Nat) ∧ v12 = .int .i64 k ∧ wr = w) (fun _ v12 _ => n - (intOf v12).toNat)
  case atStart => exact ⟨0, by omega, by simp [crcL], rfl, rfl⟩
  case round =>
    obtain ⟨k, hk, rfl, rfl, rfl⟩ := hrel
    have hl := crcL_lt (x := 4294967295 - x) (by omega) (l.take k)
    by_cases hlt : k < n
    · have g : (k : Int) < n := by omega
      have g0 : (0 : Int) ≤ k := by omega
      have hkl : k < l.length := by omega
      obtain ⟨ad, rfl⟩ := hb.there (by omega)
      have hc := hb.cellAt hkl
      have e3 := Lib.hid (crcL_take (4294967295 - x) l k hkl)
      have hb8 := (l[k]).toNat_lt
      have E4 := Lib.hid (crcB_eq (crcL (4294967295 - x) (l.take k)) l[k])
      generalize l[k] = b at *
      generalize crcL (4294967295 - x) (l.take k) = y at *
      have e1 := and_255 hl
      have e2 : bits .xor .u32 ((y : Int) % 256) (b.toNat : Int) = ((y % 256 ^^^ b.toNat : Nat) : Int) := bits_xor32 (a := y % 256) (by omega) (by omega)
      have l3 : y % 256 ^^^ b.toNat < 4294967296 := xor_lt32 (by omega) (by omega)
      have l4 := csN_lt l3 8
      have e5 : bits .xor .u32 ((y : Int) / 256) (csN 8 (y % 256 ^^^ b.toNat) : Nat) = ((y / 256 ^^^ csN 8 (y % 256 ^^^ b.toNat) : Nat) : Int) := by
        have := bits_xor32 (a := y / 256) (by omega) l4
        rw [← this]
        rfl
      have e6 : IntKind.u32.wrap (b.toNat : Int) = (b.toNat : Int) := by rw [wrap32u]; omega
      go_wp2_with fail
      refine (HS.out (y % 256 ^^^ b.toNat) _ l3).mono ?_
      rintro e w' ⟨rfl, rfl⟩
      go_wp2_with fail
      refine ⟨⟨k + 1, by omega, ?_, by go_num, trivial⟩, by simp [intOf]; omega⟩
      rw [e3.out, E4.out]
    · obtain rfl : k = n := by omega
      have g : ¬ (k : Int) < k := by omega
      rw [List.take_of_length_le (by omega)] at hl
      have e1 := not32 hl
      rw [List.take_of_length_le (by omega)]
      go_wp2
      go_ret
      exact ⟨rfl, rfl⟩
end Go.Proofs.Ytclbapmjhchokaa
