/-
  The calls of octet that lay frames.
-/
import Derived.Test.YtclbapmjhchokaaJ1
import Derived.Test.YtclbapmjhchokaaE4
namespace Go.Proofs.Ytclbapmjhchokaa
open Go.RowKit

theorem Bytes.ofCells {w : World} {g n c : Nat} {cs : Array Value} {t : TypeId} {fr : Nat × Nat} {l : List UInt8} (h : w.heap[g]? = some (.cells cs t fr)) (hl : cs.toList.take n = l.map byteV) (hn : n = l.length) (hc : n ≤ c) (hm : c ≤ 9223372036854775807) :
    Bytes w (some ⟨g, 0, none⟩) n c l := by
  refine ⟨hn, hc, hm, (fun h => by cases h), fun ad j b ha hb => ?_⟩
  simp only [Option.some.injEq] at ha
  subst ha
  have e1 : (⟨g, 0, none⟩ : Addr).add j = ⟨g, j, none⟩ := by unfold Addr.add; split <;> simp_all
  rw [e1, cell_of_row w g j cs t fr h]
  have hj := (List.getElem?_eq_some_iff.1 hb).1
  have e2 : (cs.toList.take n)[j]? = some (byteV b) := by rw [hl, List.getElem?_map, hb]; rfl
  rw [List.getElem?_take, if_pos (by omega)] at e2
  simpa using e2

def FourPost (base : Nat) (a : Option Addr) (n : Nat) (l : List UInt8) (w : World) (e : Ending) (w' : World) : Prop :=
  ∃ a' c', e = .returned (.slice a' (n + 4) c') ∧ OwnB w' base 5 a' (n + 4) c' l ∧ Kp (Blk a) w w'

theorem u8wrap (n : Int) : IntKind.u8.wrap n = n % 256 := by simp [IntKind.wrap, IntKind.bits, IntKind.signed]
theorem u8v (n : Nat) : byteV (UInt8.ofNat (n % 256)) = .int .u8 ((n : Int) % 256) := by
  unfold byteV
  rw [UInt8.toNat_ofNat']
  congr 1
  omega
/-- Four bytes as values. -/
theorem le4_cells (n : Nat) : [Value.int .u8 ((n : Int) % 256), .int .u8 ((n : Int) / 256 % 256), .int .u8 ((n : Int) / 65536 % 256), .int .u8 ((n : Int) / 16777216 % 256)] = (le4 n).map byteV := by
  simp only [le4, List.map_cons, List.map_nil, u8v]
  rfl

set_option maxRecDepth 100000 in
set_option maxHeartbeats 400000 in
theorem four_calls (base : Nat) (a : Option Addr) (n c : Nat) (l : List UInt8) (x : Nat) (w : World) (ho : OwnB w base 5 a n c l) (hbase : base ≤ w.heap.size) (hn : n ≤ 1000000000000) :
    Calls Try.prog 94 #[.slice a n c, .int .u32 x] w (FourPost base a n (l ++ le4 x) w) := by
  obtain ⟨i0, hi0, hz0, hz1, hz2⟩ := info_parts info5
  have e0 := u8wrap (x : Int)
  have e1 := u8wrap ((x : Int) / 256)
  have e2 := u8wrap ((x : Int) / 65536)
  have e3 := u8wrap ((x : Int) / 16777216)
  have hlt := ho.lt
  go_enter Try.func94, Try.ntmps94
  go_wp2_with ((at_builtin; refine wpList_append_bytes rfl _ _ 22 rfl base 5 i0 Try.underlying22 hi0 hz0 hz1 hz2 a n c l rfl (ho.kp ((Kp.refl Non _).alloc _) (fun _ _ f => f)) (some ⟨w.heap.size, 0, none⟩) 4 4 (le4 x) rfl (Bytes.ofCells (heap_alloc_new w _) (le4_cells x) rfl (by omega) (by omega)) (by omega) ?_ ?_; (simp; omega); intro a2 c2 w2 hO2 hg2 _))
  go_ret
  exact ⟨a2, c2, rfl, hO2, ((Kp.refl (Blk a) w).alloc _).grown hg2 fun k hk => .inl (by cases a <;> simp_all [Value.ownBlock, Blk])⟩

set_option maxHeartbeats 1000000 in
/-- The sum of one row of bytes. -/
theorem sum_calls (b : Nat) (a : Option Addr) (n c : Nat) (l : List UInt8) (w : World) (hb : Bytes w a n c l) (hc : w.cell? ⟨b, 0, none⟩ = some (.slice a n c)) :
    Calls Try.prog 95 #[.slice (some ⟨b, 0, none⟩) 1 1] w fun e w' => e = .returned (.int .u32 (crc l : Nat)) ∧ w' = w := by
  have HM := Lib.hid (more_calls 0 a n c l w (by omega) hb)
  go_enter Try.func95, Try.ntmps95
  go_wp2
  go_loopw [3, 8] (fun v3 v8 wr => ∃ k : Nat, k ≤ 1 ∧ v3 = .int .u32 ((if k = 0 then 0 else crc l : Nat) : Int) ∧ v8 = .int .i64 k ∧ wr = w) (fun _ v8 _ => 1 - (intOf v8).toNat)
  case atStart => exact ⟨0, by omega, by simp, rfl, rfl⟩
  case round =>
    obtain ⟨k, hk, rfl, rfl, rfl⟩ := hrel
    rcases (show k = 0 ∨ k = 1 by omega) with rfl | rfl
    · go_wp2_with fail
      refine HM.out.mono ?_
      rintro e w' ⟨rfl, rfl⟩
      go_wp2_with fail
      exact ⟨⟨1, by omega, by simp [crc], by go_num, trivial⟩, by simp [intOf]⟩
    · go_wp2
      go_ret
      exact ⟨rfl, rfl⟩
end Go.Proofs.Ytclbapmjhchokaa
