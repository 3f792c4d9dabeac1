/-
  The device's closures.
-/
import Derived.Test.YtclbapmjhchokaaE2
import Derived.StillTailTactics
import Derived.Deep.RegionLaw
namespace Go.Proofs.Ytclbapmjhchokaa
open Go.RowKit
variable {F : Nat → Prop}

/-- How many sectors so many bytes need. -/
def secs (n : Int) : Int := (n + 511) / 512

/-- The bounds of a device. -/
structure St.ok (s : St) : Prop where
  room0 : 0 ≤ s.room
  room1 : s.room ≤ 65536
  image : s.image.length ≤ 1000000000000
  stage : s.stage.length ≤ 1000000000000
  log : s.log.length ≤ 1000000000000
  sure0 : 0 ≤ s.sure
  sure1 : s.sure ≤ s.log.length
  stop : StopOk s

theorem sectors_any (n : Int) (w : World) (h0 : 0 ≤ n) (h1 : n ≤ 9000000000000) : Calls Try.prog 64 #[.int .i64 n] w fun e w' => e = .returned (.int .i64 (secs n)) ∧ w' = w := by
  go_enter Try.func64, Try.ntmps64
  go_wp2
  go_ret
  refine ⟨?_, rfl⟩
  show Ending.returned (.int .i64 _) = _
  unfold secs
  congr 2
  omega

theorem secs_bd (n : Int) (h0 : 0 ≤ n) (h1 : n ≤ 9000000000000) : 0 ≤ secs n ∧ secs n ≤ 20000000000 := by unfold secs; omega

def TelPost (r : Int) (W : World) (e : Ending) (w' : World) : Prop := e = .returned (.int .i64 r) ∧ Kp Non W w'

def full3 (r : Bool) : Int := if r then 3 else 0
def arg1 (r : Bool) : Int := if r then 1 else 0
def none8 (r : Bool) : Int := if r then 0 else 8

set_option maxHeartbeats 400000 in
theorem append_asks (bx bb d : Nat) (s : St) (ba : Option Addr) (bn bc : Nat) (w : World) (hx : Box w bx (.pointer (some ⟨d, 0, none⟩)) 25) (hb : Box w bb (.slice ba bn bc) 22) (hd : Dev F w d s) (hok : s.ok) (hbn : bn ≤ 1000000000000)
    (r : Bool) (hr : decide (s.room - secs s.image.length - secs s.stage.length < secs (s.log.length + bn)) = r) :
    Calls Try.prog 63 #[.pointer (some ⟨bx, 0, none⟩), .pointer (some ⟨bb, 0, none⟩)] w (TelPost (full3 r) w) := by
  obtain ⟨ia, ic, sa, sc, la, lc, hd⟩ := hd
  have hxc := hx.c
  have hbc := hb.c
  have c0 := hd.c0
  have c1 := hd.c1
  have c2 := hd.c2
  have c4 := hd.c4
  have b1 := hok.image
  have b2 := hok.stage
  have b3 := hok.log
  have b4 := hok.room0
  have b5 := hok.room1
  have b6 := secs_bd s.image.length (by omega) (by omega)
  have b7 := secs_bd s.stage.length (by omega) (by omega)
  have b8 := secs_bd (s.log.length + bn) (by omega) (by omega)
  cases r
  all_goals
    go_enter Try.func63, Try.ntmps63
    go_wp2_with fail
    go_quiet ((go_at_call 64; exact Calls.quiet_of_same (sectors_any _ _ (by omega) (by omega))))
    go_wp2
    go_ret
    exact ⟨rfl, (Kp.refl _ _).drewN _⟩

set_option maxHeartbeats 400000 in
theorem stage_asks (bx bb d : Nat) (s : St) (ba : Option Addr) (bn bc : Nat) (w : World) (hx : Box w bx (.pointer (some ⟨d, 0, none⟩)) 25) (hb : Box w bb (.slice ba bn bc) 22) (hd : Dev F w d s) (hok : s.ok) (hbn : bn ≤ 1000000000000)
    (r : Bool) (hr : decide (s.room - secs s.image.length - secs s.log.length < secs bn) = r) :
    Calls Try.prog 71 #[.pointer (some ⟨bb, 0, none⟩), .pointer (some ⟨bx, 0, none⟩)] w (TelPost (full3 r) w) := by
  obtain ⟨ia, ic, sa, sc, la, lc, hd⟩ := hd
  have hxc := hx.c
  have hbc := hb.c
  have c0 := hd.c0
  have c1 := hd.c1
  have c2 := hd.c2
  have c4 := hd.c4
  have b1 := hok.image
  have b2 := hok.stage
  have b3 := hok.log
  have b4 := hok.room0
  have b5 := hok.room1
  have b6 := secs_bd s.image.length (by omega) (by omega)
  have b7 := secs_bd s.log.length (by omega) (by omega)
  have b8 := secs_bd bn (by omega) (by omega)
  cases r
  all_goals
    go_enter Try.func71, Try.ntmps71
    go_wp2_with fail
    go_quiet ((go_at_call 64; exact Calls.quiet_of_same (sectors_any _ _ (by omega) (by omega))))
    go_wp2
    go_ret
    exact ⟨rfl, (Kp.refl _ _).drewN _⟩

theorem fine_asks (w : World) : Calls Try.prog 66 #[] w (TelPost 0 w) := by
  go_enter Try.func66, Try.ntmps66
  go_wp2
  go_ret
  exact ⟨rfl, Kp.refl _ _⟩

theorem commit_asks (bx d : Nat) (s : St) (w : World) (hx : Box w bx (.pointer (some ⟨d, 0, none⟩)) 25) (hd : Dev F w d s) (r : Bool) (hr : s.staged = r) :
    Calls Try.prog 73 #[.pointer (some ⟨bx, 0, none⟩)] w (TelPost (none8 r) w) := by
  obtain ⟨ia, ic, sa, sc, la, lc, hd⟩ := hd
  have hxc := hx.c
  have c3 := hd.c3
  rw [hr] at c3
  clear hr
  have hnot : ∀ (x : Bool) (w : World), (Op.unary .not (.bool x)).run Try.prog w = .ok (.bool (!x)) w := fun _ _ => rfl
  cases r
  all_goals
    go_enter Try.func73, Try.ntmps73
    go_wp2
    go_ret
    exact ⟨rfl, Kp.refl _ _⟩

theorem cut_asks (bx bn d : Nat) (s : St) (n : Int) (w : World) (hx : Box w bx (.pointer (some ⟨d, 0, none⟩)) 25) (hn : Box w bn (.int .i64 n) 3) (hd : Dev F w d s) (hok : s.ok) (r : Bool) (hr : decide (n < 0 ∨ s.log.length < n) = r) :
    Calls Try.prog 98 #[.pointer (some ⟨bn, 0, none⟩), .pointer (some ⟨bx, 0, none⟩)] w (TelPost (arg1 r) w) := by
  obtain ⟨ia, ic, sa, sc, la, lc, hd⟩ := hd
  have hxc := hx.c
  have hnc := hn.c
  have c4 := hd.c4
  have b3 := hok.log
  by_cases h0 : n < 0
  · have h1 : r = true := by rw [← hr]; simp [h0]
    subst h1
    have hd0 : decide (n < 0) = true := by simp [h0]
    clear hr
    go_enter Try.func98, Try.ntmps98
    go_wp2_with fail
    go_quiet (fail)
    go_wp2
    go_ret
    exact ⟨rfl, (Kp.refl _ _).drewN _⟩
  · have hd0 : decide (n < 0) = false := by simp [h0]
    have hr' : decide ((s.log.length : Int) < n) = r := by rw [← hr]; simp [h0]
    clear hr h0
    cases r
    all_goals
      go_enter Try.func98, Try.ntmps98
      go_wp2_with fail
      go_quiet (fail)
      go_wp2
      go_ret
      exact ⟨rfl, (Kp.refl _ _).drewN _⟩
end Go.Proofs.Ytclbapmjhchokaa
