/-
  The document's device: its calls.
-/
import Derived.Test.YtclbapmjhchokaaS1
namespace Go.Proofs.Ytclbapmjhchokaa
open Go.RowKit

theorem refsectors_calls (a : Option Addr) (n c : Nat) (w : World) (hn : n ≤ 9000000000000) : Calls Try.prog 101 #[.slice a n c] w fun e w' => e = .returned (.int .i64 (secs n)) ∧ w' = w := by
  by_cases hz : (n : Int) % 512 = 0
  · have h1 : secs n = (n : Int) / 512 := by unfold secs; omega
    have HZ := Lib.hid h1
    have hb : (((n : Int) % 512) != 0) = false := by simp [hz]
    clear h1 hz
    go_enter Try.func101, Try.ntmps101
    go_wp2
    go_ret
    rw [HZ.out]
    exact ⟨rfl, rfl⟩
  · have h1 : secs n = (n : Int) / 512 + 1 := by unfold secs; omega
    have HZ := Lib.hid h1
    have hb : (((n : Int) % 512) != 0) = true := by simp [hz]
    clear h1 hz
    go_enter Try.func101, Try.ntmps101
    go_wp2
    go_ret
    rw [HZ.out]
    exact ⟨rfl, rfl⟩

def JoinPost (l : List UInt8) (w : World) (e : Ending) (w' : World) : Prop := ∃ a n c, e = .returned (.slice a n c) ∧ Bytes w' a n c l ∧ Kp Non w w'

theorem OwnB.zero (w : World) (e : TypeId) : OwnB (w.alloc (.cells #[] e)) w.heap.size e (some ⟨w.heap.size, 0, none⟩) 0 0 [] :=
  ⟨rfl, .inr ⟨w.heap.size, 0, #[], rfl, Nat.le_refl _, heap_alloc_new w _, Nat.le_refl _, by unfold maxLen; omega, rfl, rfl⟩⟩

set_option maxRecDepth 100000 in
set_option maxHeartbeats 400000 in
theorem join_calls (aa : Option Addr) (an ac : Nat) (al : List UInt8) (ba : Option Addr) (bn bc : Nat) (bl : List UInt8) (w : World) (ha : Bytes w aa an ac al) (hb : Bytes w ba bn bc bl) (h1 : an ≤ 1000000000000) (h2 : bn ≤ 1000000000000) :
    Calls Try.prog 96 #[.slice aa an ac, .slice ba bn bc] w (JoinPost (al ++ bl) w) := by
  obtain ⟨i0, hi0, hz0, hz1, hz2⟩ := info_parts info5
  go_enter Try.func96, Try.ntmps96
  go_wp2_with ((at_builtin; first
    | (refine wpList_append_bytes rfl _ _ 22 rfl w.heap.size 5 i0 Try.underlying22 hi0 hz0 hz1 hz2 (some ⟨w.heap.size, 0, none⟩) 0 0 [] rfl (OwnB.zero w 5) aa an ac al rfl (ha.non ((Kp.refl _ _).alloc _)) (by omega) ?_ ?_; exact ((Kp.refl Non w).alloc _).size; intro a1 c1 w1 hO1 hg1 _; have hk1 : Kp Non w w1 := Kp.grown ((Kp.refl Non w).alloc (.cells #[] 5)) hg1 (fun j hj => .inr (Nat.le_of_eq (Option.some.inj hj))); rw [Nat.zero_add, List.nil_append] at hO1; simp only [Nat.zero_add])
    | (refine wpList_append_bytes rfl _ _ 22 rfl w.heap.size 5 i0 Try.underlying22 hi0 hz0 hz1 hz2 a1 an c1 al rfl hO1 ba bn bc bl rfl (hb.non hk1) (by omega) hk1.size ?_; intro a2 c2 w2 hO2 hg2 _)))
  go_ret
  exact ⟨a2, an + bn, c2, rfl, hO2.bytes, hk1.grown hg2 fun j hj => .inr (World.ownsRow.lt hO1 j hj).1⟩

/-- What the document's counting says, and leaves. -/
def St.how (s : St) : Int := if s.off then 2 else if s.stop = 0 then 1 else 0
def St.told (s : St) : St := if s.off then s else s.fin
def RPost (x : Nat) (r : Int × St) (w : World) (e : Ending) (w' : World) : Prop := e = .returned (.int .i64 r.1) ∧ Ref w' x r.2 ∧ Kp (One x) w w'
def RVoid (x : Nat) (s : St) (w : World) (e : Ending) (w' : World) : Prop := e = .returned (.tuple #[]) ∧ Ref w' x s ∧ Kp (One x) w w'

set_option maxHeartbeats 400000 in
theorem counts_calls (x : Nat) (s : St) (w : World) (hx : Ref w x s) (hst : StopOk s) : Calls Try.prog 100 #[.pointer (some ⟨x, 0, none⟩)] w (RPost x (s.how, s.told) w) := by
  obtain ⟨ia, ic, sa, sc, la, lc, h⟩ := hx
  have c6 := h.c6
  have c7 := h.c7
  have f6 := h.f 6
  have f7 := h.f 7
  have h1 := hst.1
  have h2 := hst.2
  cases ho : s.off with
  | true =>
    have e : (s.how, s.told) = (2, s) := by unfold St.how St.told; rw [ho]; rfl
    rw [e]
    rw [ho] at c7
    clear ho e
    go_enter Try.func100, Try.ntmps100
    go_wp2
    go_ret
    exact ⟨rfl, h.ref, Kp.refl _ _⟩
  | false =>
    by_cases hz : s.stop = 0
    · have e : (s.how, s.told) = (1, { { s with off := true } with stop := -1 }) := by unfold St.how St.told St.fin; rw [ho, if_neg (by simp), if_pos hz, if_neg (by simp), if_pos hz]
      rw [e]
      rw [ho] at c7
      rw [hz] at c6
      clear ho e hz
      go_enter Try.func100, Try.ntmps100
      go_wp2
      go_ret
      exact ⟨rfl, ((h.setOff true).setStop (-1)).ref, ((Kp.refl _ _).set1 _ _).set1 _ _⟩
    · have hz' : (s.stop == 0) = false := by simp [hz]
      by_cases hp : 0 < s.stop
      · have e : (s.how, s.told) = (0, { s with stop := s.stop - 1 }) := by unfold St.how St.told St.fin; rw [ho, if_neg (by simp), if_neg hz, if_neg (by simp), if_neg hz, if_pos hp]
        rw [e]
        rw [ho] at c7
        clear ho e hz
        go_enter Try.func100, Try.ntmps100
        go_wp2
        go_ret
        exact ⟨rfl, (h.setStop (s.stop - 1)).ref, (Kp.refl _ _).set1 _ _⟩
      · have e : (s.how, s.told) = (0, s) := by unfold St.how St.told St.fin; rw [ho, if_neg (by simp), if_neg hz, if_neg (by simp), if_neg hz, if_neg hp]
        rw [e]
        rw [ho] at c7
        clear ho e hz
        go_enter Try.func100, Try.ntmps100
        go_wp2
        go_ret
        exact ⟨rfl, h.ref, Kp.refl _ _⟩

theorem refnew_calls (n : Int) (w : World) : Calls Try.prog 35 #[.int .i64 n] w fun e w' => e = .returned (.pointer (some ⟨w.heap.size, 0, none⟩)) ∧ Ref w' w.heap.size (St.new n) ∧ Kp Non w w' := by
  go_enter Try.func35, Try.ntmps35
  go_wp2
  go_ret
  exact ⟨rfl, ⟨none, 0, none, 0, none, 0, heap_alloc_new w _, Bytes.empty _, Bytes.empty _, Bytes.empty _⟩, (Kp.refl _ _).alloc _⟩

theorem refstop_calls (x : Nat) (s : St) (n : Int) (w : World) (hx : Ref w x s) : Calls Try.prog 58 #[.pointer (some ⟨x, 0, none⟩), .int .i64 n] w (RVoid x { s with stop := max n (-1) } w) := by
  obtain ⟨ia, ic, sa, sc, la, lc, h⟩ := hx
  have c6 := h.c6
  have f6 := h.f 6
  by_cases hn : n < 0
  · rw [show max n (-1) = -1 from by omega]
    go_enter Try.func58, Try.ntmps58
    go_wp2
    go_end0
    exact ⟨rfl, ((h.setStop n).setStop (-1)).ref, ((Kp.refl _ _).set1 _ _).set1 _ _⟩
  · rw [show max n (-1) = n from by omega]
    go_enter Try.func58, Try.ntmps58
    go_wp2
    go_end0
    exact ⟨rfl, (h.setStop n).ref, (Kp.refl _ _).set1 _ _⟩

set_option maxHeartbeats 400000 in
theorem refused_calls (x : Nat) (s : St) (w : World) (hx : Ref w x s) (hok : s.ok) : Calls Try.prog 81 #[.pointer (some ⟨x, 0, none⟩)] w fun e w' => e = .returned (.int .i64 s.used) ∧ ∃ n, w' = w.drewN n := by
  obtain ⟨ia, ic, sa, sc, la, lc, h⟩ := hx
  have c1 := h.c1
  have c2 := h.c2
  have c4 := h.c4
  have b1 := hok.image
  have b2 := hok.stage
  have b3 := hok.log
  have b6 := secs_bd s.image.length (by omega) (by omega)
  have b7 := secs_bd s.stage.length (by omega) (by omega)
  have b8 := secs_bd s.log.length (by omega) (by omega)
  go_enter Try.func81, Try.ntmps81
  go_wp2_with fail
  go_quiet ((go_at_call 101; exact Calls.quiet_of_same (refsectors_calls _ _ _ _ (by omega))))
  go_wp2
  go_ret
  exact ⟨rfl, _, rfl⟩

theorem told_ok {s : St} (h : s.ok) : s.told.ok := by
  unfold St.told
  split
  · exact h
  · exact h.fin
theorem told_eq (s : St) : s.told.room = s.room ∧ s.told.image = s.image ∧ s.told.stage = s.stage ∧ s.told.staged = s.staged ∧ s.told.log = s.log ∧ s.told.sure = s.sure := by
  unfold St.told St.fin
  split
  · exact ⟨rfl, rfl, rfl, rfl, rfl, rfl⟩
  · split
    · exact ⟨rfl, rfl, rfl, rfl, rfl, rfl⟩
    · split <;> exact ⟨rfl, rfl, rfl, rfl, rfl, rfl⟩
/-- The document's counting is the device's. -/
theorem told_count (s s1 : St) (ec : Int) : s.count ec s1 false = (if s.how = 0 then ec else 6, if s.how = 0 then (if ec = 0 then s1.fin else s.told) else s.told) := by
  unfold St.count St.how St.told
  cases s.off with
  | true => simp
  | false =>
    by_cases hz : s.stop = 0
    · simp [hz]
    · by_cases he : ec = 0 <;> simp [hz, he]
theorem how_some (s : St) : s.how = 0 ∨ s.how = 1 ∨ s.how = 2 := by unfold St.how; split <;> (try split) <;> simp
end Go.Proofs.Ytclbapmjhchokaa
