/-
  A journal's calls where all fits; plain laws.
-/
import Derived.Test.YtclbapmjhchokaaJ13
namespace Go.Proofs.Ytclbapmjhchokaa
open Go.RowKit

theorem jswap_fits {s : St} {b : List UInt8} (ho : s.off = false) (hs : s.stop = -1) (hl : b.length ≤ 1048576) (hf : secs (b.length + 8) ≤ s.room - secs s.image.length - secs s.log.length) :
    jswap s b = (0, { s with image := frame b, stage := [], staged := false, log := [], sure := 0 }) := by
  have h1 := stage_fits (s := s) (b := frame b) ho hs (by rw [frame_len, Int.natCast_add]; exact hf)
  unfold jswap
  rw [if_neg (by omega), h1, if_neg (by simp)]
  exact commit_on (s := { s with stage := frame b, staged := true }) ho hs rfl
theorem jadd_fits {s : St} {J : JSt} {r : List UInt8} (hJ : J.down = false) (ho : s.off = false) (hs : s.stop = -1) (hl : r.length ≤ 1048576) (hf : secs (s.log.length + (r.length + 8)) ≤ s.room - secs s.image.length - secs s.stage.length) :
    jadd s J r = (0, { s with log := s.log ++ frame r }, { J with recs := J.recs ++ [r] }) := by
  have h1 := append_fits (s := s) (b := frame r) ho hs (by rw [frame_len, Int.natCast_add]; exact hf)
  unfold jadd japp
  rw [if_neg (by simp [hJ]), if_neg (by omega), h1]
  rfl
theorem jsync_on {s : St} {J : JSt} (hJ : J.down = false) (ho : s.off = false) (hs : s.stop = -1) : jsync s J = (0, { s with sure := s.log.length }, J) := by
  unfold jsync
  rw [if_neg (by simp [hJ]), sync_on ho hs]
  rfl
theorem cut_on {s : St} {n : Int} (ho : s.off = false) (hs : s.stop = -1) (h0 : 0 ≤ n) (h1 : n ≤ s.log.length) : s.cut n = (0, { s with log := s.log.take n.toNat, sure := min s.sure n }) := by
  unfold St.cut
  rw [show cutBad s n = false by unfold cutBad; simp; omega]
  exact count_on (s := s) (s1 := { s with log := s.log.take n.toNat, sure := min s.sure n }) ho hs hs false
/-- What an opening finds where frames lie, and at most a piece of one behind them. -/
theorem jopen_frames {s : St} {img p : List UInt8} {rs : List (List UInt8)} (ho : s.off = false) (hs : s.stop = -1) (hi : s.image = frame img) (hil : img.length ≤ 1048576) (hl : s.log = frames rs ++ p) (hr : ∀ r ∈ rs, r.length ≤ 1048576)
    (hp : unfWhy p = if p.length = 0 then 1 else 2) : jopen s = (0, if p.length = 0 then s else { s with log := frames rs, sure := min s.sure (sizes rs : Nat) }, ⟨img, rs, false⟩) := by
  have hsc : scanL s.log = (rs, sizes rs, unfWhy p) := by rw [hl]; exact scanL_frames hr (by rw [hp]; split <;> omega)
  have hu := unf_frame hil []
  rw [List.append_nil] at hu
  have hie : imgErr s.image = 0 := by
    unfold imgErr
    rw [hi, if_neg (by rw [hu.1]; simp), if_neg (by rw [hu.2.2, frame_len]; simp)]
  unfold jopen
  simp only
  rw [ho, hsc, if_neg (by simp), if_neg (by rw [hie]; simp), hi, hu.2.1]
  by_cases hz : p.length = 0
  · rw [if_pos hz] at hp
    rw [if_pos hp, if_pos hz]
  · rw [if_neg hz] at hp
    rw [if_neg (by simp only; omega), if_pos hp, if_neg hz]
    have hlen : s.log.length = sizes rs + p.length := by rw [hl, List.length_append, frames_len]
    have htk : s.log.take (sizes rs) = frames rs := by rw [hl]; exact List.take_left' (frames_len rs)
    rw [cut_on ho hs (by omega) (by simp only; omega)]
    simp only [Int.toNat_natCast, htk, hi, ho]

/-- Nobody's journal. -/
theorem jnil_down (w : World) : Calls Try.prog 49 #[.pointer none] w fun e w' => e = .returned (.bool true) ∧ w' = w := by
  go_enter Try.func49, Try.ntmps49
  go_wp2
  go_ret
  exact ⟨rfl, rfl⟩
theorem jnil_count (w : World) : Calls Try.prog 52 #[.pointer none] w fun e w' => e = .returned (.int .i64 0) ∧ w' = w := by
  go_enter Try.func52, Try.ntmps52
  go_wp2
  go_ret
  exact ⟨rfl, rfl⟩
theorem jnil_size (w : World) : Calls Try.prog 53 #[.pointer none] w fun e w' => e = .returned (.int .i64 0) ∧ w' = w := by
  go_enter Try.func53, Try.ntmps53
  go_wp2
  go_ret
  exact ⟨rfl, rfl⟩
theorem jnil_image (w : World) : Calls Try.prog 42 #[.pointer none] w fun e w' => e = .returned (.slice none 0 0) ∧ w' = w := by
  go_enter Try.func42, Try.ntmps42
  go_wp2
  go_ret
  exact ⟨rfl, rfl⟩
theorem jnil_records (w : World) : Calls Try.prog 44 #[.pointer none] w fun e w' => e = .returned (.slice none 0 0) ∧ w' = w := by
  go_enter Try.func44, Try.ntmps44
  go_wp2
  go_ret
  exact ⟨rfl, rfl⟩
theorem jnil_sync (w : World) : Calls Try.prog 50 #[.pointer none] w fun e w' => e = .returned (.int .i64 8) ∧ w' = w := by
  go_enter Try.func50, Try.ntmps50
  go_wp2
  go_ret
  exact ⟨rfl, rfl⟩
theorem jnil_save (a : Option Addr) (n c : Nat) (w : World) : Calls Try.prog 51 #[.pointer none, .slice a n c] w fun e w' => e = .returned (.int .i64 8) ∧ Kp Non w w' := by
  have hmf := mfunc
  go_enter Try.func51, Try.ntmps51
  go_wp2_with fail
  refine (try_nil _ _ _).mono ?_
  rintro e w1 ⟨rfl, rfl⟩
  go_wp2_with fail
  go_ret
  exact ⟨rfl, ((Kp.refl _ _).alloc _).alloc _⟩
theorem jnil_add (a : Option Addr) (n c : Nat) (w : World) : Calls Try.prog 47 #[.pointer none, .slice a n c] w fun e w' => e = .returned (.int .i64 8) ∧ Kp Non w w' := by
  have hmf := mfunc
  go_enter Try.func47, Try.ntmps47
  go_wp2_with fail
  refine (try_nil _ _ _).mono ?_
  rintro e w1 ⟨rfl, rfl⟩
  go_wp2_with fail
  go_ret
  exact ⟨rfl, (((Kp.refl _ _).alloc _).alloc _).alloc _⟩
end Go.Proofs.Ytclbapmjhchokaa
