/-
  The device's other calls.
-/
import Derived.Test.YtclbapmjhchokaaE5
namespace Go.Proofs.Ytclbapmjhchokaa
open Go.RowKit
variable {F : Nat → Prop}

def St.new (n : Int) : St := { room := n, image := [], stage := [], staged := false, log := [], sure := 0, stop := -1, off := false }

def NewPost (F : Nat → Prop) (n : Int) (w : World) (e : Ending) (w' : World) : Prop :=
  e = .returned (.tuple #[.pointer (some ⟨w.heap.size, 0, none⟩), .int .i64 0]) ∧ Dev F w' w.heap.size (St.new n) ∧ Kp Non w w'

theorem new_bad (n : Int) (w : World) (h : n < 1 ∨ 65536 < n) : Calls Try.prog 20 #[.int .i64 n] w fun e w' => e = .returned (.tuple #[.pointer none, .int .i64 1]) ∧ w' = w := by
  rcases h with h | h
  · go_enter Try.func20, Try.ntmps20
    go_wp2
    go_ret2
    exact ⟨rfl, rfl⟩
  · have h' : ¬ n < 1 := by omega
    go_enter Try.func20, Try.ntmps20
    go_wp2
    go_ret2
    exact ⟨rfl, rfl⟩

theorem new_calls_f (n : Int) (w : World) (hF : ∀ k, F k → k < w.heap.size) (h1 : 1 ≤ n) (h2 : n ≤ 65536) : Calls Try.prog 20 #[.int .i64 n] w (NewPost F n w) := by
  have h' : ¬ n < 1 := by omega
  have h'' : ¬ 65536 < n := by omega
  go_enter Try.func20, Try.ntmps20
  go_wp2
  go_ret2
  exact ⟨rfl, ⟨none, 0, none, 0, none, 0, heap_alloc_new w _, Bytes.empty _, Bytes.empty _, Bytes.empty _, fun k hk => by have := hF k hk; simp; omega, Away.nil, Away.nil, Away.nil⟩, (Kp.refl _ _).alloc _⟩

theorem new_calls (n : Int) (w : World) (h1 : 1 ≤ n) (h2 : n ≤ 65536) : Calls Try.prog 20 #[.int .i64 n] w (NewPost Non n w) := new_calls_f n w (fun _ f => f.elim) h1 h2

def ReadPost (off : Bool) (l : List UInt8) (w : World) (e : Ending) (w' : World) : Prop :=
  Kp Non w w' ∧ if off then e = .returned (.tuple #[.slice none 0 0, .int .i64 6]) else ∃ a c, e = .returned (.tuple #[.slice a l.length c, .int .i64 0]) ∧ OwnB w' w.heap.size 5 a l.length c l

set_option maxHeartbeats 400000 in
theorem read_calls (d : Nat) (s : St) (f : FuncId) (cs : Array Value) (a : Option Addr) (n c : Nat) (l : List UInt8) (w : World) (hd : Dev F w d s) (hen : Enters f cs) (hf : Calls Try.prog f cs w fun e w' => e = .returned (.slice a n c) ∧ w' = w)
    (hl : Bytes w a n c l) (hn : n ≤ 1000000000000) : Calls Try.prog 68 #[.pointer (some ⟨d, 0, none⟩), .func (.func f) #[] cs] w (ReadPost s.off l w) := by
  obtain ⟨ia, ic, sa, sc, la, lc, hd⟩ := hd
  have c7 := hd.c7
  obtain ⟨i0, hi, hz0, hz1, hz2⟩ := info_parts info5
  have hen' : ∀ w, (callFunc f cs).run Try.prog w = .ok (.enter f cs) w := hen
  have HF := Lib.hid hf
  clear hf
  cases ho : s.off with
  | true =>
    rw [ho] at c7
    clear ho
    go_enter Try.func68, Try.ntmps68
    go_wp2
    go_ret2
    exact ⟨Kp.refl _ _, rfl⟩
  | false =>
    rw [ho] at c7
    clear ho
    go_enter Try.func68, Try.ntmps68
    go_wp2_with fail
    refine HF.out.mono ?_
    rintro e w' ⟨rfl, rfl⟩
    go_wp2_with ((at_builtin; refine wpList_append_bytes rfl _ _ 22 rfl w'.heap.size 5 i0 Try.underlying22 hi hz0 hz1 hz2 none 0 0 [] rfl (OwnB.nil _ _ _) a n c l rfl hl (by omega) (Nat.le_refl _) ?_; intro a' c' w1 hB hg _))
    go_ret2
    rw [Nat.zero_add, List.nil_append] at hB
    have hln := hl.len
    refine ⟨(Kp.refl _ _).grown hg (by intro k hk; cases hk), a', c', ?_, ?_⟩
    · rw [← hln]; simp
    · rw [← hln]; exact hB

set_option maxHeartbeats 400000 in
theorem log_calls (d : Nat) (s : St) (w : World) (hd : Dev F w d s) (hok : s.ok) : Calls Try.prog 24 #[.pointer (some ⟨d, 0, none⟩)] w (ReadPost s.off s.log w) := by
  have hmf := mfunc
  obtain ⟨ia, ic, sa, sc, la, lc, hd⟩ := hd
  go_enter Try.func24, Try.ntmps24
  go_wp2_with fail
  have hx := Box.new w (.pointer (some ⟨d, 0, none⟩)) 25
  have hk0 : Kp Non w (w.alloc (.cells #[.pointer (some ⟨d, 0, none⟩)] 25)) := (Kp.refl _ _).alloc _
  have hd1 := hd.non hk0
  refine (read_calls d s 69 _ la s.log.length lc s.log _ hd1.dev (by intro w; simp [go_sem]) ?_ hd1.log hok.log).mono ?_
  · have hxc := hx.c
    have c4 := hd1.c4
    generalize w.alloc (.cells #[.pointer (some ⟨d, 0, none⟩)] 25) = W at *
    go_enter Try.func69, Try.ntmps69
    go_wp2
    go_ret
    exact ⟨rfl, rfl⟩
  · rintro e w' ⟨hk, he⟩
    cases ho : s.off with
    | true =>
      rw [ho, if_pos rfl] at he
      subst he
      go_wp2
      go_ret2
      refine ⟨hk0.trans hk, ?_⟩
      rw [ho, if_pos rfl]
      rfl
    | false =>
      rw [ho, if_neg (by simp)] at he
      obtain ⟨a, c, rfl, hB⟩ := he
      go_wp2
      go_ret2
      refine ⟨hk0.trans hk, ?_⟩
      rw [ho, if_neg (by simp)]
      exact ⟨a, c, rfl, hB.base (by simp)⟩

set_option maxHeartbeats 400000 in
theorem image_calls (d : Nat) (s : St) (w : World) (hd : Dev F w d s) (hok : s.ok) : Calls Try.prog 25 #[.pointer (some ⟨d, 0, none⟩)] w (ReadPost s.off s.image w) := by
  have hmf := mfunc
  obtain ⟨ia, ic, sa, sc, la, lc, hd⟩ := hd
  go_enter Try.func25, Try.ntmps25
  go_wp2_with fail
  have hx := Box.new w (.pointer (some ⟨d, 0, none⟩)) 25
  have hk0 : Kp Non w (w.alloc (.cells #[.pointer (some ⟨d, 0, none⟩)] 25)) := (Kp.refl _ _).alloc _
  have hd1 := hd.non hk0
  refine (read_calls d s 70 _ ia s.image.length ic s.image _ hd1.dev (by intro w; simp [go_sem]) ?_ hd1.image hok.image).mono ?_
  · have hxc := hx.c
    have c1 := hd1.c1
    generalize w.alloc (.cells #[.pointer (some ⟨d, 0, none⟩)] 25) = W at *
    go_enter Try.func70, Try.ntmps70
    go_wp2
    go_ret
    exact ⟨rfl, rfl⟩
  · rintro e w' ⟨hk, he⟩
    cases ho : s.off with
    | true =>
      rw [ho, if_pos rfl] at he
      subst he
      go_wp2
      go_ret2
      refine ⟨hk0.trans hk, ?_⟩
      rw [ho, if_pos rfl]
      rfl
    | false =>
      rw [ho, if_neg (by simp)] at he
      obtain ⟨a, c, rfl, hB⟩ := he
      go_wp2
      go_ret2
      refine ⟨hk0.trans hk, ?_⟩
      rw [ho, if_neg (by simp)]
      exact ⟨a, c, rfl, hB.base (by simp)⟩

theorem room_calls (d : Nat) (s : St) (w : World) (hd : Dev F w d s) : Calls Try.prog 26 #[.pointer (some ⟨d, 0, none⟩)] w fun e w' => e = .returned (.int .i64 s.room) ∧ w' = w := by
  obtain ⟨ia, ic, sa, sc, la, lc, hd⟩ := hd
  have c0 := hd.c0
  go_enter Try.func26, Try.ntmps26
  go_wp2
  go_ret
  exact ⟨rfl, rfl⟩

theorem off_calls (d : Nat) (s : St) (w : World) (hd : Dev F w d s) : Calls Try.prog 28 #[.pointer (some ⟨d, 0, none⟩)] w fun e w' => e = .returned (.bool s.off) ∧ w' = w := by
  obtain ⟨ia, ic, sa, sc, la, lc, hd⟩ := hd
  have c7 := hd.c7
  go_enter Try.func28, Try.ntmps28
  go_wp2
  go_ret
  exact ⟨rfl, rfl⟩

def St.used (s : St) : Int := secs s.image.length + secs s.stage.length + secs s.log.length

set_option maxHeartbeats 400000 in
theorem used_calls (d : Nat) (s : St) (w : World) (hd : Dev F w d s) (hok : s.ok) : Calls Try.prog 27 #[.pointer (some ⟨d, 0, none⟩)] w fun e w' => e = .returned (.int .i64 s.used) ∧ ∃ n, w' = w.drewN n := by
  obtain ⟨ia, ic, sa, sc, la, lc, hd⟩ := hd
  have c1 := hd.c1
  have c2 := hd.c2
  have c4 := hd.c4
  have b1 := hok.image
  have b2 := hok.stage
  have b3 := hok.log
  have b6 := secs_bd s.image.length (by omega) (by omega)
  have b7 := secs_bd s.stage.length (by omega) (by omega)
  have b8 := secs_bd s.log.length (by omega) (by omega)
  go_enter Try.func27, Try.ntmps27
  go_wp2_with fail
  go_quiet ((go_at_call 64; exact Calls.quiet_of_same (sectors_any _ _ (by omega) (by omega))))
  go_wp2
  go_ret
  exact ⟨rfl, _, rfl⟩

def VoidPost (F : Nat → Prop) (d : Nat) (s1 : St) (w : World) (e : Ending) (w' : World) : Prop := e = .returned (.tuple #[]) ∧ Dev F w' d s1 ∧ Kp (One d) w w'

theorem stop_calls (d : Nat) (s : St) (n : Int) (w : World) (hd : Dev F w d s) : Calls Try.prog 32 #[.pointer (some ⟨d, 0, none⟩), .int .i64 n] w (VoidPost F d { s with stop := max n (-1) } w) := by
  obtain ⟨ia, ic, sa, sc, la, lc, hd⟩ := hd
  have c6 := hd.c6
  have f6 := hd.f 6
  by_cases hn : n < -1
  · rw [show max n (-1) = -1 from by omega]
    go_enter Try.func32, Try.ntmps32
    go_wp2
    go_end0
    exact ⟨rfl, (hd.setStop _).dev, (Kp.refl _ _).set1 _ _⟩
  · rw [show max n (-1) = n from by omega]
    go_enter Try.func32, Try.ntmps32
    go_wp2
    go_end0
    exact ⟨rfl, (hd.setStop _).dev, (Kp.refl _ _).set1 _ _⟩
end Go.Proofs.Ytclbapmjhchokaa
