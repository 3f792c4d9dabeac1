/-
  The laws' own small functions: what an Op lays, one call on a device.
-/
import Derived.Test.YtclbapmjhchokaaG0
namespace Go.Proofs.Ytclbapmjhchokaa
open Go.RowKit

/-- An Op, as data. -/
structure OpD where
  kind : Int
  n : Int
  b : List UInt8
  times : Int

def addB (b l : List UInt8) : List UInt8 := if l.length + b.length ≤ 3000 then l ++ b else l
def repB (b : List UInt8) : Nat → List UInt8
  | 0 => []
  | k + 1 => addB b (repB b k)
def OpD.rounds (o : OpD) : Nat := (o.times % 100 + 1).toNat
def OpD.bytes (o : OpD) : List UInt8 := repB o.b o.rounds

theorem addB_len {b l : List UInt8} (h : l.length ≤ 3000) : (addB b l).length ≤ 3000 := by
  unfold addB
  split
  · simp; omega
  · exact h
theorem repB_len (b : List UInt8) : ∀ k, (repB b k).length ≤ 3000
  | 0 => by simp [repB]
  | k + 1 => addB_len (repB_len b k)
theorem OpD.bytes_len (o : OpD) : o.bytes.length ≤ 3000 := repB_len _ _

/-- The bounds of an Op. -/
structure OpD.ok (o : OpD) : Prop where
  n0 : -9223372036854775808 ≤ o.n
  n1 : o.n ≤ 9223372036854775807
  t0 : 0 ≤ o.times
  t1 : o.times ≤ 18446744073709551615
  bl : o.b.length ≤ 140737488351232

/-- An Op as a value. -/
def OpD.cells (o : OpD) (ba : Option Addr) (bc : Nat) : Array Value := #[.int .i64 o.kind, .int .i64 o.n, .slice ba o.b.length bc, .int .u64 o.times]

def BytesPost (l : List UInt8) (w : World) (e : Ending) (w' : World) : Prop := ∃ a c, e = .returned (.slice a l.length c) ∧ OwnB w' w.heap.size 5 a l.length c l ∧ Kp Non w w'

set_option maxRecDepth 100000 in
set_option maxHeartbeats 1000000 in
theorem bytes_calls (o : OpD) (ba : Option Addr) (bc : Nat) (w : World) (hb : Bytes w ba o.b.length bc o.b) (hok : o.ok) : Calls Try.prog 38 #[.agg (o.cells ba bc)] w (BytesPost o.bytes w) := by
  have h0 := hok.t0
  have hbl := hok.bl
  unfold OpD.cells
  go_enter Try.func38, Try.ntmps38
  go_wp2
  have hR : (o.rounds : Int) = o.times % 100 + 1 := by unfold OpD.rounds; omega
  have hR1 : o.rounds ≤ 100 := by unfold OpD.rounds; omega
  have HR := Lib.hid hR
  clear hR
  obtain ⟨i0, hi, hz0, hz1, hz2⟩ := info_parts info5
  go_loopw [3, 8] (fun v i wr => ∃ (k : Nat) (a : Option Addr) (c : Nat), k ≤ o.rounds ∧ i = .int .u64 k ∧ v = .slice a (repB o.b k).length c ∧ OwnB wr (w.heap.size + 1) 5 a (repB o.b k).length c (repB o.b k) ∧ Kp Non w wr ∧ wr.heap[w.heap.size]? = some (.cells (o.cells ba bc) 42 (0, 0))) (fun _ i _ => o.rounds - (intOf i).toNat)
  case atStart => exact ⟨0, none, 0, Nat.zero_le _, rfl, rfl, OwnB.nil _ _ _, (Kp.refl _ _).alloc _, heap_alloc_new w _⟩
  case round =>
    obtain ⟨k, a, c, hk, rfl, rfl, hO, hK, hB⟩ := hrel
    have hlen := repB_len o.b k
    have x2 : wr.cell? ⟨w.heap.size, 2, none⟩ = some (.slice ba o.b.length bc) := cell_of_row wr _ 2 _ _ _ hB
    have hRk := HR.out
    by_cases hlt : k < o.rounds
    · have g1 : (k : Int) < o.times % 100 + 1 := by omega
      clear hRk
      by_cases hfit : (repB o.b k).length + o.b.length ≤ 3000
      · have g2 : ((repB o.b k).length : Int) + (o.b.length : Int) ≤ 3000 := by omega
        have hnext : repB o.b (k + 1) = repB o.b k ++ o.b := by show addB _ _ = _; unfold addB; rw [if_pos hfit]
        have HN := Lib.hid hnext
        clear hnext
        go_wp2_with ((at_builtin; refine wpList_append_bytes rfl _ _ 22 rfl (w.heap.size + 1) 5 i0 Try.underlying22 hi hz0 hz1 hz2 a (repB o.b k).length c (repB o.b k) rfl hO ba o.b.length bc o.b rfl (hb.non hK) (by omega) ?_ ?_; (have h1 := hK.size; have h2 := heap_lt hB; omega); intro a' c' w1 hO1 hg _))
        have hne : ∀ k, (Value.slice a (repB o.b k).length c).ownBlock = some k → True := fun _ _ => trivial
        clear hne
        have hrow : ∀ j, Value.ownBlock (.slice a (repB o.b k).length c) = some j → w.heap.size + 1 ≤ j := fun j hj => (World.ownsRow.lt hO j hj).1
        refine ⟨⟨k + 1, a', c', by omega, by go_num, by rw [HN.out, List.length_append], by rw [HN.out, List.length_append]; exact hO1, hK.grown hg (fun j hj => .inr (by have := hrow j hj; omega)), ?_⟩, by simp [intOf]; omega⟩
        rw [hg.block _ (heap_lt hB) (fun e => by have := hrow _ e.symm; omega)]
        exact hB
      · have g2 : ¬ ((repB o.b k).length : Int) + (o.b.length : Int) ≤ 3000 := by omega
        have hnext : repB o.b (k + 1) = repB o.b k := by show addB _ _ = _; unfold addB; rw [if_neg hfit]
        have HN := Lib.hid hnext
        clear hnext
        go_wp2
        exact ⟨⟨k + 1, a, c, by omega, by go_num, by rw [HN.out], by rw [HN.out]; exact hO, hK, hB⟩, by simp [intOf]; omega⟩
    · have hke : k = o.rounds := by omega
      have g1 : ¬ (k : Int) < o.times % 100 + 1 := by omega
      have HE := Lib.hid hke
      clear hRk hke
      go_wp2
      go_ret
      have hl : repB o.b k = o.bytes := by unfold OpD.bytes; rw [← HE.out]
      rw [hl] at hO ⊢
      exact ⟨a, c, rfl, hO.base (by omega), hK⟩

/-- One call on a device. -/
def OpD.run (o : OpD) (s : St) : Int × St :=
  if o.kind = 1 then s.append o.bytes else if o.kind = 2 then s.sync else if o.kind = 3 then s.cut o.n else if o.kind = 4 then s.putStage o.bytes else if o.kind = 5 then s.commit
  else if o.kind = 6 then (0, { s with stop := max o.n (-1) }) else if o.kind = 7 then (0, s.crash o.n) else (0, s)

theorem OpD.run_ok (o : OpD) (hok : o.ok) {s : St} (h : s.ok) : (o.run s).2.ok := by
  unfold OpD.run
  split
  · exact h.append _
  · split
    · exact h.sync
    · split
      · exact h.cut _
      · split
        · exact h.putStage _
        · split
          · exact h.commit
          · split
            · exact h.setStop _ hok.n1
            · split
              · exact h.crash _
              · exact h

set_option maxRecDepth 100000 in
set_option maxHeartbeats 4000000 in
theorem do_calls {F : Nat → Prop} (d : Nat) (s : St) (o : OpD) (ba : Option Addr) (bc : Nat) (w : World) (hd : Dev F w d s) (hs : s.ok) (hb : Bytes w ba o.b.length bc o.b) (hok : o.ok) :
    Calls Try.prog 33 #[.pointer (some ⟨d, 0, none⟩), .agg (o.cells ba bc)] w (MPost F d (o.run s) w) := by
  have HB := Lib.hid (fun W (h : Bytes W ba o.b.length bc o.b) => bytes_calls o ba bc W h hok)
  have hbl := o.bytes_len
  have hk0 : Kp Non w (w.alloc (.cells (o.cells ba bc) 42)) := (Kp.refl _ _).alloc _
  have hd0 := hd.non hk0
  have hb0 := hb.non hk0
  unfold OpD.cells at *
  have HD := Lib.hid hd0
  clear hd0
  by_cases k1 : o.kind = 1
  · have HR := Lib.hid (show o.run s = s.append o.bytes by unfold OpD.run; rw [if_pos k1])
    have g1 : (o.kind == 1) = true := by simp [k1]
    clear k1
    go_enter Try.func33, Try.ntmps33
    go_wp2_with fail
    refine (HB.out _ hb0).mono ?_
    rintro e w1 ⟨a, c, rfl, hO, hk1⟩
    go_wp2_with fail
    refine (append_calls d s a _ c o.bytes w1 (HD.out.non hk1) hs hO.bytes (by omega)).mono ?_
    rintro e w2 ⟨rfl, hd2, hk2⟩
    rw [← HR.out] at hd2 ⊢
    go_wp2
    go_ret
    exact MPost.of (hk0.trans hk1) ⟨rfl, hd2, hk2⟩
  by_cases k2 : o.kind = 2
  · have HR := Lib.hid (show o.run s = s.sync by unfold OpD.run; rw [if_neg k1, if_pos k2])
    have g1 : (o.kind == 1) = false := by simp [k1]
    have g2 : (o.kind == 2) = true := by simp [k2]
    clear k1 k2
    go_enter Try.func33, Try.ntmps33
    go_wp2_with fail
    refine (sync_calls d s _ HD.out hs).mono ?_
    rintro e w2 ⟨rfl, hd2, hk2⟩
    rw [← HR.out] at hd2 ⊢
    go_wp2
    go_ret
    exact MPost.of hk0 ⟨rfl, hd2, hk2⟩
  by_cases k3 : o.kind = 3
  · have HR := Lib.hid (show o.run s = s.cut o.n by unfold OpD.run; rw [if_neg k1, if_neg k2, if_pos k3])
    have g1 : (o.kind == 1) = false := by simp [k1]
    have g2 : (o.kind == 2) = false := by simp [k2]
    have g3 : (o.kind == 3) = true := by simp [k3]
    clear k1 k2 k3
    go_enter Try.func33, Try.ntmps33
    go_wp2_with fail
    refine (cut_calls d s o.n _ HD.out hs).mono ?_
    rintro e w2 ⟨rfl, hd2, hk2⟩
    rw [← HR.out] at hd2 ⊢
    go_wp2
    go_ret
    exact MPost.of hk0 ⟨rfl, hd2, hk2⟩
  by_cases k4 : o.kind = 4
  · have HR := Lib.hid (show o.run s = s.putStage o.bytes by unfold OpD.run; rw [if_neg k1, if_neg k2, if_neg k3, if_pos k4])
    have g1 : (o.kind == 1) = false := by simp [k1]
    have g2 : (o.kind == 2) = false := by simp [k2]
    have g3 : (o.kind == 3) = false := by simp [k3]
    have g4 : (o.kind == 4) = true := by simp [k4]
    clear k1 k2 k3 k4
    go_enter Try.func33, Try.ntmps33
    go_wp2_with fail
    refine (HB.out _ hb0).mono ?_
    rintro e w1 ⟨a, c, rfl, hO, hk1⟩
    go_wp2_with fail
    refine (stage_calls d s a _ c o.bytes w1 (HD.out.non hk1) hs hO.bytes (by omega)).mono ?_
    rintro e w2 ⟨rfl, hd2, hk2⟩
    rw [← HR.out] at hd2 ⊢
    go_wp2
    go_ret
    exact MPost.of (hk0.trans hk1) ⟨rfl, hd2, hk2⟩
  by_cases k5 : o.kind = 5
  · have HR := Lib.hid (show o.run s = s.commit by unfold OpD.run; rw [if_neg k1, if_neg k2, if_neg k3, if_neg k4, if_pos k5])
    have g1 : (o.kind == 1) = false := by simp [k1]
    have g2 : (o.kind == 2) = false := by simp [k2]
    have g3 : (o.kind == 3) = false := by simp [k3]
    have g4 : (o.kind == 4) = false := by simp [k4]
    have g5 : (o.kind == 5) = true := by simp [k5]
    clear k1 k2 k3 k4 k5
    go_enter Try.func33, Try.ntmps33
    go_wp2_with fail
    refine (commit_calls d s _ HD.out hs).mono ?_
    rintro e w2 ⟨rfl, hd2, hk2⟩
    rw [← HR.out] at hd2 ⊢
    go_wp2
    go_ret
    exact MPost.of hk0 ⟨rfl, hd2, hk2⟩
  by_cases k6 : o.kind = 6
  · have HR := Lib.hid (show o.run s = (0, { s with stop := max o.n (-1) }) by unfold OpD.run; rw [if_neg k1, if_neg k2, if_neg k3, if_neg k4, if_neg k5, if_pos k6])
    have g1 : (o.kind == 1) = false := by simp [k1]
    have g2 : (o.kind == 2) = false := by simp [k2]
    have g3 : (o.kind == 3) = false := by simp [k3]
    have g4 : (o.kind == 4) = false := by simp [k4]
    have g5 : (o.kind == 5) = false := by simp [k5]
    have g6 : (o.kind == 6) = true := by simp [k6]
    clear k1 k2 k3 k4 k5 k6
    go_enter Try.func33, Try.ntmps33
    go_wp2_with fail
    refine (stop_calls d s o.n _ HD.out).mono ?_
    rintro e w2 ⟨rfl, hd2, hk2⟩
    go_wp2
    go_ret
    rw [HR.out]
    exact MPost.of hk0 ⟨rfl, hd2, hk2⟩
  by_cases k7 : o.kind = 7
  · have HR := Lib.hid (show o.run s = (0, s.crash o.n) by unfold OpD.run; rw [if_neg k1, if_neg k2, if_neg k3, if_neg k4, if_neg k5, if_neg k6, if_pos k7])
    have g1 : (o.kind == 1) = false := by simp [k1]
    have g2 : (o.kind == 2) = false := by simp [k2]
    have g3 : (o.kind == 3) = false := by simp [k3]
    have g4 : (o.kind == 4) = false := by simp [k4]
    have g5 : (o.kind == 5) = false := by simp [k5]
    have g6 : (o.kind == 6) = false := by simp [k6]
    have g7 : (o.kind == 7) = true := by simp [k7]
    clear k1 k2 k3 k4 k5 k6 k7
    go_enter Try.func33, Try.ntmps33
    go_wp2_with fail
    refine (crash_calls d s o.n _ HD.out hs).mono ?_
    rintro e w2 ⟨rfl, hd2, hk2⟩
    go_wp2
    go_ret
    rw [HR.out]
    exact MPost.of hk0 ⟨rfl, hd2, hk2⟩
  · have HR := Lib.hid (show o.run s = (0, s) by unfold OpD.run; rw [if_neg k1, if_neg k2, if_neg k3, if_neg k4, if_neg k5, if_neg k6, if_neg k7])
    have g1 : (o.kind == 1) = false := by simp [k1]
    have g2 : (o.kind == 2) = false := by simp [k2]
    have g3 : (o.kind == 3) = false := by simp [k3]
    have g4 : (o.kind == 4) = false := by simp [k4]
    have g5 : (o.kind == 5) = false := by simp [k5]
    have g6 : (o.kind == 6) = false := by simp [k6]
    have g7 : (o.kind == 7) = false := by simp [k7]
    clear k1 k2 k3 k4 k5 k6 k7
    go_enter Try.func33, Try.ntmps33
    go_wp2
    go_ret
    rw [HR.out]
    exact MPost.of hk0 ⟨rfl, HD.out, Kp.refl _ _⟩
end Go.Proofs.Ytclbapmjhchokaa
