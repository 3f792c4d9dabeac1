/-
  A journal's calls: Sync, Save, Add.
-/
import Derived.Test.YtclbapmjhchokaaJ8
namespace Go.Proofs.Ytclbapmjhchokaa
open Go.RowKit
variable {F : Nat → Prop}
section
variable {b0 : Nat} {w : World} {j d : Nat} {s : St} {J : JSt} {ra : Option Addr}

theorem nop91 (w : World) : Calls Try.prog 91 #[] w fun e w' => e = .returned (.tuple #[]) ∧ w' = w := by
  go_enter Try.func91, Try.ntmps91
  go_wp2
  go_end0
  exact ⟨rfl, rfl⟩
theorem Jou.cells4 (h : Jou F b0 w j d s J ra) : w.cell? ⟨j, 4, none⟩ = some (.bool J.down) ∧ w.frozen? ⟨j, 4, none⟩ = false := by
  obtain ⟨_, _, _, _, h⟩ := h
  exact ⟨h.c4, h.f 4⟩

set_option maxHeartbeats 400000 in
theorem jsync_calls (h : Jou F b0 w j d s J ra) (hok : s.ok) : Calls Try.prog 50 #[.pointer (some ⟨j, 0, none⟩)] w (JPost F b0 j d ra (jsync s J) w) := by
  have H := h
  obtain ⟨rc, ia, ic, vs, h⟩ := h
  have c0 := h.c0
  have c4 := h.c4
  have hmf := mfunc
  have HO := Lib.hid hok
  by_cases hJ : J.down = true
  · have HQ := Lib.hid (show jsync s J = (7, s, J) by unfold jsync; rw [if_pos hJ])
    rw [hJ] at c4
    generalize jsync s J = Q at *
    clear hJ
    go_enter Try.func50, Try.ntmps50
    go_wp2_with fail
    refine (try_down j _ _ w c4).mono ?_
    rintro e w1 ⟨rfl, rfl⟩
    go_wp2_with fail
    go_ret
    rw [HQ.out]
    exact JPost.same H rfl (Kp.refl _ _)
  · have hJ' : J.down = false := by simpa using hJ
    have HQ := Lib.hid (show jsync s J = (s.sync.1, s.sync.2, if s.sync.1 = 0 then J else tell J s.sync.1) by
      unfold jsync tell
      rw [if_neg hJ]
      by_cases h0 : s.sync.1 = 0
      · rw [if_pos h0, if_neg (by omega)]
      · rw [if_neg h0])
    rw [hJ'] at c4
    generalize jsync s J = Q at *
    have HJ := Lib.hid hJ'
    clear hJ hJ'
    go_enter Try.func50, Try.ntmps50
    go_wp2_with fail
    refine (try_calls j 22 91 #[.pointer (some ⟨d, 0, none⟩)] #[] #[] s.sync.1 (fun w1 => Dev F w1 d s.sync.2 ∧ Kp (One d) w w1) (fun w1 => Dev F w1 d s.sync.2 ∧ Kp (One d) w w1) w c4 (by intro w; simp [go_sem]) (by intro w; simp [go_sem]) ?_ ?_ ?_).mono ?_
    · exact (sync_calls d s w h.dev HO.out).mono fun e w1 hp => ⟨hp.1, hp.2⟩
    · intro _ w1 hp
      refine (nop91 w1).mono ?_
      rintro e w2 ⟨rfl, rfl⟩
      exact ⟨rfl, hp⟩
    · rintro w1 ⟨hd1, hk1⟩
      have h4 := (H.step hk1 hd1).cells4
      rw [HJ.out] at h4
      exact h4
    rintro e w1 hp
    have he := hp.1
    have hp' : JPost F b0 j d ra (s.sync.1, s.sync.2, if s.sync.1 = 0 then J else tell J s.sync.1) w e w1 :=
      JPost.of_try hp (fun w2 h2 => ⟨H.step h2.2 h2.1, h2.2.js⟩) (fun _ h2 => ⟨ra, fun _ hk => .inl hk, H.step h2.2 h2.1, h2.2.js⟩)
    subst he
    have HP := Lib.hid hp'
    clear hp hp'
    go_wp2_with fail
    go_ret
    rw [HQ.out]
    exact HP.out
end
end Go.Proofs.Ytclbapmjhchokaa
