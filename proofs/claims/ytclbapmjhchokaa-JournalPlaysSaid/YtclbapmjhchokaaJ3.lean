/-
  The calls of octet: a number in four bytes, a frame, what is no frame.
-/
import Derived.Test.YtclbapmjhchokaaJ2
namespace Go.Proofs.Ytclbapmjhchokaa
open Go.RowKit

theorem or_add (a b i : Nat) (h : b < 2 ^ i) : b ||| (a * 2 ^ i) = b + 2 ^ i * a := by
  rw [Nat.or_comm, Nat.mul_comm, ← Nat.two_pow_add_eq_or_of_lt h, Nat.add_comm]
theorem or8 {b c : Nat} (hb : b < 256) (hc : c < 256) : bits .or .u32 (b : Int) ((c : Int) * 256) = ((b + 256 * c : Nat) : Int) := by
  have := bits_or32 (a := b) (b := c * 256) (by omega) (by omega)
  rw [or_add c b 8 (by omega)] at this
  rw [← this, Int.natCast_mul]; rfl
theorem or16 {b c : Nat} (hb : b < 65536) (hc : c < 256) : bits .or .u32 (b : Int) ((c : Int) * 65536) = ((b + 65536 * c : Nat) : Int) := by
  have := bits_or32 (a := b) (b := c * 65536) (by omega) (by omega)
  rw [or_add c b 16 (by omega)] at this
  rw [← this, Int.natCast_mul]; rfl
theorem or24 {b c : Nat} (hb : b < 16777216) (hc : c < 256) : bits .or .u32 (b : Int) ((c : Int) * 16777216) = ((b + 16777216 * c : Nat) : Int) := by
  have := bits_or32 (a := b) (b := c * 16777216) (by omega) (by omega)
  rw [or_add c b 24 (by omega)] at this
  rw [← this, Int.natCast_mul]; rfl

theorem four_of {l : List UInt8} (h : 4 ≤ l.length) : ∃ b0 b1 b2 b3 r, l = b0 :: b1 :: b2 :: b3 :: r := by
  match l, h with
  | b0 :: b1 :: b2 :: b3 :: r, _ => exact ⟨b0, b1, b2, b3, r, rfl⟩

set_option maxRecDepth 100000 in
set_option maxHeartbeats 1000000 in
theorem number_calls (a : Option Addr) (n c : Nat) (l : List UInt8) (w : World) (hb : Bytes w a n c l) (h4 : 4 ≤ n) :
    Calls Try.prog 102 #[.slice a n c] w fun e w' => e = .returned (.int .u32 (num4 l : Nat)) ∧ Kp Non w w' := by
  obtain ⟨ad, rfl⟩ := hb.there (by omega)
  have hn := hb.len
  obtain ⟨b0, b1, b2, b3, r, rfl⟩ := four_of (l := l) (by omega)
  have c0 := hb.cellAt (i := 0) (by simp)
  have c1 := hb.cellAt (i := 1) (by simp)
  have c2 := hb.cellAt (i := 2) (by simp)
  have c3 := hb.cellAt (i := 3) (by simp)
  simp only [List.getElem_cons_zero, List.getElem_cons_succ] at c0 c1 c2 c3
  have l0 := b0.toNat_lt
  have l1 := b1.toNat_lt
  have l2 := b2.toNat_lt
  have l3 := b3.toNat_lt
  have hv : num4 (b0 :: b1 :: b2 :: b3 :: r) = b0.toNat + 256 * b1.toNat + 65536 * b2.toNat + 16777216 * b3.toNat := rfl
  rw [hv]
  generalize b0.toNat = x0 at *
  generalize b1.toNat = x1 at *
  generalize b2.toNat = x2 at *
  generalize b3.toNat = x3 at *
  have w0 : IntKind.u32.wrap (x0 : Int) = x0 := by rw [wrap32u]; omega
  have w1 : IntKind.u32.wrap (x1 : Int) = x1 := by rw [wrap32u]; omega
  have w2 : IntKind.u32.wrap (x2 : Int) = x2 := by rw [wrap32u]; omega
  have w3 : IntKind.u32.wrap (x3 : Int) = x3 := by rw [wrap32u]; omega
  have v1 : IntKind.u32.wrap ((x1 : Int) * 256) = (x1 : Int) * 256 := by rw [wrap32u]; omega
  have v2 : IntKind.u32.wrap ((x2 : Int) * 65536) = (x2 : Int) * 65536 := by rw [wrap32u]; omega
  have v3 : IntKind.u32.wrap ((x3 : Int) * 16777216) = (x3 : Int) * 16777216 := by rw [wrap32u]; omega
  have o1 := or8 l0 l1
  have o2 : bits .or .u32 ((x0 : Int) + 256 * (x1 : Int)) ((x2 : Int) * 65536) = ((x0 + 256 * x1 + 65536 * x2 : Nat) : Int) := by
    have := or16 (b := x0 + 256 * x1) (c := x2) (by omega) l2
    exact this
  have o3 : bits .or .u32 ((x0 : Int) + 256 * (x1 : Int) + 65536 * (x2 : Int)) ((x3 : Int) * 16777216) = ((x0 + 256 * x1 + 65536 * x2 + 16777216 * x3 : Nat) : Int) := by
    have := or24 (b := x0 + 256 * x1 + 65536 * x2) (c := x3) (by omega) l3
    exact this
  have g0 : (0 : Int) < n := by omega
  have p0 : 0 < n := by omega
  have p1 : 1 < n := by omega
  have p2 : 2 < n := by omega
  have p3 : 3 < n := by omega
  have g1 : (1 : Int) < n := by omega
  have g2 : (2 : Int) < n := by omega
  have g3 : (3 : Int) < n := by omega
  replace c0 : w.cell? ad = some (.int .u8 (x0 : Nat)) := c0
  replace c1 : w.cell? ⟨ad.block, ad.off + 1, none⟩ = some (.int .u8 (x1 : Nat)) := c1
  replace c2 : w.cell? ⟨ad.block, ad.off + 2, none⟩ = some (.int .u8 (x2 : Nat)) := c2
  replace c3 : w.cell? ⟨ad.block, ad.off + 3, none⟩ = some (.int .u8 (x3 : Nat)) := c3
  clear hn hb
  go_enter Try.func102, Try.ntmps102
  go_wp2
  go_quiet (fail)
  go_wp2
  go_ret
  exact ⟨rfl, (Kp.refl _ _).drewN _⟩

theorem Kp.blk_none {w w' : World} (h : Kp (Blk none) w w') : Kp Non w w' := h.mono fun _ _ ⟨_, h, _⟩ => by cases h

def FramePost (l : List UInt8) (w : World) (e : Ending) (w' : World) : Prop :=
  ∃ a' c', e = .returned (.tuple #[.slice a' (l.length + 8) c', .int .i64 0]) ∧ OwnB w' w.heap.size 5 a' (l.length + 8) c' (frame l) ∧ Kp Non w w'

set_option maxRecDepth 100000 in
theorem frame_big (a : Option Addr) (n c : Nat) (w : World) (h : 1048576 < n) : Calls Try.prog 54 #[.slice a n c] w fun e w' => e = .returned (.tuple #[.slice none 0 0, .int .i64 2]) ∧ w' = w := by
  have g : (1048576 : Int) < n := by omega
  go_enter Try.func54, Try.ntmps54
  go_wp2
  go_ret2
  exact ⟨rfl, rfl⟩

set_option maxRecDepth 100000 in
set_option maxHeartbeats 1000000 in
theorem frame_calls (a : Option Addr) (n c : Nat) (l : List UInt8) (w : World) (hb : Bytes w a n c l) (h : n ≤ 1048576) : Calls Try.prog 54 #[.slice a n c] w (FramePost l w) := by
  obtain ⟨i0, hi0, hz0, hz1, hz2⟩ := info_parts info5
  have hn := hb.len
  have g : decide ((1048576 : Int) < n) = false := by simp; omega
  have g' : ¬ 1048576 < n := by omega
  have e0 : IntKind.u32.wrap (n : Int) = n := by rw [wrap32u]; omega
  have HL := Lib.hid hn
  clear hn
  go_enter Try.func54, Try.ntmps54
  go_wp2_with fail
  refine (four_calls w.heap.size none 0 0 [] n w (OwnB.nil w _ _) (Nat.le_refl _) (by omega)).mono ?_
  rintro e w1 ⟨a1, c1, rfl, hO1, hk1⟩
  replace hk1 := hk1.blk_none
  have hb1 := hb.non hk1
  rw [List.nil_append] at hO1
  rw [Nat.zero_add] at *
  go_wp2_with ((at_builtin; refine wpList_append_bytes rfl _ _ 22 rfl w.heap.size 5 i0 Try.underlying22 hi0 hz0 hz1 hz2 a1 4 c1 (le4 n) rfl hO1 a n c l rfl hb1 (by omega) hk1.size ?_; intro a2 c2 w2 hO2 hg2 _; have hk2 : Kp Non w w2 := hk1.grown hg2 (fun j hj => .inr (World.ownsRow.lt hO1 j hj).1)))
  have hB := heap_alloc_new w2 (Obj.cells #[Value.slice a2 (4 + n) c2] 22)
  have hkA := (Kp.refl Non w2).alloc (Obj.cells #[Value.slice a2 (4 + n) c2] 22)
  have hOA := hO2.kp hkA (fun _ _ f => f)
  have hk3 := hk2.trans hkA
  refine (sum_calls w2.heap.size a2 (4 + n) c2 _ _ hOA.bytes (cell_of_row _ _ 0 _ _ _ hB)).mono ?_
  rintro e w3 ⟨rfl, rfl⟩
  have hlt := hOA.lt
  go_wp2_with fail
  refine (four_calls w.heap.size a2 (4 + n) c2 _ (crc (le4 n ++ l)) _ hOA hk3.size (by omega)).mono ?_
  rintro e w4 ⟨a4, c4, rfl, hO4, hk4⟩
  have hk5 : Kp Non w w4 := hk3.comp hk4 (fun _ _ f => f) (fun k hk hbk => by have := (hlt k hbk).1; omega)
  go_wp2_with fail
  go_ret2
  have e8 : 4 + n + 4 = l.length + 8 := by have := HL.out; omega
  rw [e8] at hO4 ⊢
  rw [HL.out] at hO4
  exact ⟨a4, c4, rfl, hO4, hk5⟩

def CopyPost (l : List UInt8) (w : World) (e : Ending) (w' : World) : Prop :=
  ∃ a' c', e = .returned (.slice a' l.length c') ∧ OwnB w' w.heap.size 5 a' l.length c' l ∧ Kp Non w w'
set_option maxRecDepth 100000 in
theorem copied_calls (a : Option Addr) (n c : Nat) (l : List UInt8) (w : World) (hb : Bytes w a n c l) (h : n ≤ 1000000000000) : Calls Try.prog 84 #[.slice a n c] w (CopyPost l w) := by
  obtain ⟨i0, hi0, hz0, hz1, hz2⟩ := info_parts info5
  obtain rfl := hb.len
  go_enter Try.func84, Try.ntmps84
  go_wp2_with ((at_builtin; refine wpList_append_bytes rfl _ _ 22 rfl w.heap.size 5 i0 Try.underlying22 hi0 hz0 hz1 hz2 none 0 0 [] rfl (OwnB.nil w _ _) a l.length c l rfl hb (by omega) (Nat.le_refl _) ?_; intro a2 c2 w2 hO2 hg2 _; have hk2 : Kp Non w w2 := (Kp.refl Non w).grown hg2 (fun j hj => by cases hj); rw [Nat.zero_add, List.nil_append] at hO2; simp only [Nat.zero_add]))
  go_ret
  exact ⟨a2, c2, rfl, hO2, hk2⟩
end Go.Proofs.Ytclbapmjhchokaa
