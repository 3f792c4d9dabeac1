/-
  lives: the document's examples.
-/
import Derived.Test.YtclbapmjhchokaaE8
import Derived.Laws.MakeOwn
import Derived.Lib.SlBytesConst
namespace Go.Proofs.Ytclbapmjhchokaa
open Go.RowKit

theorem Bytes.ofRow {w : World} {g n c : Nat} {cs : Array Value} {t : TypeId} {fr : Nat × Nat} {l : List UInt8} (h : w.heap[g]? = some (.cells cs t fr)) (hl : cs.toList.take n = l.map byteV) (hn : n = l.length) (hc : n ≤ c) (hm : c ≤ 9223372036854775807) :
    Bytes w (some ⟨g, 0, none⟩) n c l := by
  refine ⟨hn, hc, hm, (fun h => by cases h), fun ad j b ha hb => ?_⟩
  simp only [Option.some.injEq] at ha
  subst ha
  have e1 : (⟨g, 0, none⟩ : Addr).add j = ⟨g, j, none⟩ := by unfold Addr.add; split <;> simp_all
  rw [e1, cell_of_row w g j cs t fr h]
  have h2 : (cs.toList.take n)[j]? = some (byteV b) := by rw [hl]; simp [hb]
  rw [List.getElem?_take] at h2
  split at h2
  · simpa using h2
  · cases h2

def z600 : List UInt8 := List.replicate 600 0
def z600c : Array Value := madeCells #[.int .u8 0] 600
theorem made600 : ∀ w, (Instr.makeSlice 22 (.int .i64 600) (.int .i64 600)).run Try.prog w = .ok (.slice (some ⟨w.heap.size, 0, none⟩) 600 600) (w.alloc (.cells z600c 5)) := by
  intro w
  obtain ⟨i0, hi, hz0, hz1, hz2⟩ := info_parts info5
  have := run_make (P := Try.prog) w 22 5 i0 (.int .u8 0) Try.underlying22 hi hz0 .i64 .i64 600 600 (by omega) (by omega) (by rw [hz2]; omega) (by omega)
  rw [hz1] at this
  exact this
theorem z600c_list : z600c.toList = z600.map byteV := by
  unfold z600c madeCells z600
  rw [List.map_replicate, List.eq_replicate_iff]
  refine ⟨by simp, fun b hb => ?_⟩
  simp only [Array.toList_map, List.mem_map] at hb
  obtain ⟨i, _, rfl⟩ := hb
  simp [Nat.mod_one, byteV]
theorem z600_len : z600.length = 600 := by unfold z600; rw [List.length_replicate]
theorem bytes600 (w : World) : Bytes (w.alloc (.cells z600c 5)) (some ⟨w.heap.size, 0, none⟩) 600 600 z600 :=
  Bytes.ofRow (heap_alloc_new w _) (by rw [z600c_list, List.take_of_length_le (by rw [List.length_map, z600_len]; exact Nat.le_refl _)]) z600_len.symm (Nat.le_refl _) (by omega)

def s0 : St := St.new 2
def s1 : St := (s0.append z600).2
def t1 : St := (s0.append [97, 98]).2
def t2 : St := t1.sync.2
def t3 : St := (t2.append [99, 100]).2
def t4 : St := t3.crash 1
theorem lv1 : (s0.append z600).1 = 0 := by kernel_rfl
theorem lv2 : (s1.putStage [1]).1 = 3 := by kernel_rfl
theorem lv3 : (s0.append [97, 98]).1 = 0 := by kernel_rfl
theorem lv4 : t1.sync.1 = 0 := by kernel_rfl
theorem lv5 : (t2.append [99, 100]).1 = 0 := by kernel_rfl
theorem lv6 : t4.log = [97, 98, 99] := by kernel_rfl
theorem lv7 : t4.off = false := by kernel_rfl
theorem lv8 : t4.used = 1 := by kernel_rfl
theorem lv9 : t4.room = 2 := by kernel_rfl
theorem s0_ok : s0.ok := St.new_ok 2 (by omega) (by omega)
theorem s1_ok : s1.ok := s0_ok.append _
theorem t1_ok : t1.ok := s0_ok.append _
theorem t2_ok : t2.ok := t1_ok.sync
theorem t3_ok : t3.ok := t2_ok.append _
theorem t4_ok : t4.ok := t3_ok.crash _

theorem conv_string (w : World) (a : Option Addr) (n c : Nat) (l : List UInt8) (h : Bytes w a n c l) : (convert 22 9 (.slice a n c)).run Try.prog w = .ok (.string ⟨l.toArray⟩) w :=
  run_string_bytes w 22 9 5 Try.underlying22 Try.underlying5 Try.underlying9 a n c l h

/-- What a law's walk leaves: true, and nothing that was there has turned. -/
def TruePost (w : World) (e : Ending) (w' : World) : Prop := e = .returned (.bool true) ∧ Kp Non w w'

set_option maxRecDepth 100000 in
set_option maxHeartbeats 2000000 in
theorem lives_true (w : World) : Calls Try.prog 19 #[] w (TruePost w) := by
  have hmk := made600
  have hsame := fun (w : World) (C : Array Value) (n c : Nat) => Lib.run_convert_bytes_const (P := Try.prog) w 22 5 C n c Try.underlying22 Try.underlying5
  go_enter Try.func19, Try.ntmps19
  go_wp2_with fail
  refine (new_calls 2 w (by omega) (by omega)).mono ?_
  rintro e w1 ⟨rfl, hd1, hk1⟩
  generalize hn1 : w.heap.size = d1 at *
  go_wp2_with fail
  have hkA : Kp Non w1 (w1.alloc (.cells z600c 5)) := (Kp.refl _ _).alloc _
  refine (append_calls d1 s0 _ _ _ z600 _ (hd1.non hkA) s0_ok (bytes600 w1) (by omega)).mono ?_
  rintro e w2 ⟨rfl, hd2, hk2⟩
  rw [lv1]
  replace hk2 := Kp.dev (hk1.trans hkA) (by omega) hk2
  clear hk1 hkA
  go_wp2_with fail
  have hkB : Kp Non w2 (w2.alloc (.cells #[.int .u8 1] 5)) := (Kp.refl _ _).alloc _
  refine (stage_calls d1 s1 _ _ _ [1] _ (hd2.non hkB) s1_ok (Bytes.ofRow (heap_alloc_new w2 _) rfl rfl (Nat.le_refl _) (by simp)) (by simp)).mono ?_
  rintro e w3 ⟨rfl, _, hk3⟩
  rw [lv2]
  replace hk3 := Kp.dev (hk2.trans hkB) (by omega) hk3
  clear hk2 hkB hd2
  go_wp2_with fail
  refine (new_calls 2 w3 (by omega) (by omega)).mono ?_
  rintro e w4 ⟨rfl, hd4, hk4⟩
  have hd2 : w.heap.size ≤ w3.heap.size := hk3.size
  replace hk4 := hk3.trans hk4
  clear hk3
  generalize w3.heap.size = d2 at *
  go_wp2_with fail
  have hkC : Kp Non w4 (w4.alloc (.cells #[.int .u8 97, .int .u8 98] 5 (2, 3))) := (Kp.refl _ _).alloc _
  refine (append_calls d2 s0 _ _ _ [97, 98] _ (hd4.non hkC) s0_ok (Bytes.ofRow (heap_alloc_new w4 _) rfl rfl (Nat.le_refl _) (by simp)) (by simp)).mono ?_
  rintro e w5 ⟨rfl, hd5, hk5⟩
  rw [lv3]
  replace hk5 := Kp.dev (hk4.trans hkC) (by omega) hk5
  clear hk4 hkC
  go_wp2_with fail
  refine (sync_calls d2 t1 _ hd5 t1_ok).mono ?_
  rintro e w6 ⟨rfl, hd6, hk6⟩
  rw [lv4]
  replace hk6 := Kp.dev hk5 (by omega) hk6
  clear hk5
  go_wp2_with fail
  have hkD : Kp Non w6 (w6.alloc (.cells #[.int .u8 99, .int .u8 100] 5 (2, 3))) := (Kp.refl _ _).alloc _
  refine (append_calls d2 t2 _ _ _ [99, 100] _ (hd6.non hkD) t2_ok (Bytes.ofRow (heap_alloc_new w6 _) rfl rfl (Nat.le_refl _) (by simp)) (by simp)).mono ?_
  rintro e w7 ⟨rfl, hd7, hk7⟩
  rw [lv5]
  replace hk7 := Kp.dev (hk6.trans hkD) (by omega) hk7
  clear hk6 hkD
  go_wp2_with fail
  refine (crash_calls d2 t3 1 _ hd7 t3_ok).mono ?_
  rintro e w8 ⟨rfl, hd8, hk8⟩
  replace hk8 := Kp.dev hk7 (by omega) hk8
  clear hk7
  go_wp2_with fail
  refine (log_calls d2 t4 _ hd8 t4_ok).mono ?_
  rintro e w9 ⟨hk9, he⟩
  rw [lv7, if_neg (by simp), lv6] at he
  obtain ⟨a, c, rfl, hB⟩ := he
  have hd9 := hd8.non hk9
  replace hk9 := hk8.trans hk9
  clear hk8
  have hcv := conv_string w9 a 3 c _ hB.bytes
  go_wp2_with fail
  refine (used_calls d2 t4 _ hd9 t4_ok).mono ?_
  rintro e wA ⟨rfl, n, rfl⟩
  rw [lv8]
  go_wp2_with fail
  refine (room_calls d2 t4 _ (hd9.non ((Kp.refl _ _).drewN n))).mono ?_
  rintro e wB ⟨rfl, rfl⟩
  rw [lv9]
  go_wp2_with fail
  go_ret
  exact ⟨rfl, hk9.drewN n⟩
end Go.Proofs.Ytclbapmjhchokaa
