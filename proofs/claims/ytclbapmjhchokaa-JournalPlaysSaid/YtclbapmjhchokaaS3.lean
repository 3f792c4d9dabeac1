/-
  The document's device: its writing calls.
-/
import Derived.Test.YtclbapmjhchokaaS2
import Derived.Test.YtclbapmjhchokaaM2
namespace Go.Proofs.Ytclbapmjhchokaa
open Go.RowKit

section
variable (s : St)
theorem fin_log (l : List UInt8) : ({ s with log := l } : St).fin = { s.fin with log := l } := by
  unfold St.fin
  by_cases h : s.stop = 0
  · simp [h]
  · by_cases hp : 0 < s.stop <;> simp [h, hp]
theorem fin_sure (v : Int) : ({ s with sure := v } : St).fin = { s.fin with sure := v } := by
  unfold St.fin
  by_cases h : s.stop = 0
  · simp [h]
  · by_cases hp : 0 < s.stop <;> simp [h, hp]
theorem fin_stage (l : List UInt8) (g : Bool) : ({ s with stage := l, staged := g } : St).fin = { s.fin with stage := l, staged := g } := by
  unfold St.fin
  by_cases h : s.stop = 0
  · simp [h]
  · by_cases hp : 0 < s.stop <;> simp [h, hp]
theorem fin_image (l : List UInt8) : ({ s with image := l } : St).fin = { s.fin with image := l } := by
  unfold St.fin
  by_cases h : s.stop = 0
  · simp [h]
  · by_cases hp : 0 < s.stop <;> simp [h, hp]
end

/-- Does it fit? -/
def St.fits (s : St) (b : List UInt8) : Bool := decide (secs ((s.log ++ b).length) + secs s.image.length + secs s.stage.length ≤ s.room)
theorem told_append (s : St) (b : List UInt8) : s.append b = (if s.how = 2 then 6 else if s.how = 1 then 6 else if s.fits b then 0 else 3, if s.how = 2 then s.told else if s.fits b then { s.told with log := s.log ++ b } else s.told) := by
  have hf : full3 (decide (s.room - secs s.image.length - secs s.stage.length < secs (s.log.length + b.length))) = if s.fits b then 0 else 3 := by
    unfold St.fits full3
    by_cases h : s.room - secs s.image.length - secs s.stage.length < secs (s.log.length + b.length)
    · rw [if_pos (by simpa using h), if_neg (by simp; omega)]
    · rw [if_neg (by simpa using h), if_pos (by simp; omega)]
  unfold St.append
  rw [hf]
  unfold St.count St.how St.told
  cases ho : s.off with
  | true => simp
  | false =>
    by_cases hz : s.stop = 0 <;> by_cases hp : 0 < s.stop <;> cases hb : s.fits b <;> simp [hz, hp, ho, St.fin]

set_option maxRecDepth 100000 in
set_option maxHeartbeats 1000000 in
theorem refappend_calls (x : Nat) (s : St) (ba : Option Addr) (bn bc : Nat) (bl : List UInt8) (w : World) (hx : Ref w x s) (hok : s.ok) (hbl : Bytes w ba bn bc bl) (hbn : bn ≤ 1000000000000) :
    Calls Try.prog 76 #[.pointer (some ⟨x, 0, none⟩), .slice ba bn bc] w (RPost x (s.append bl) w) := by
  have HT := Lib.hid (told_append s bl)
  obtain ⟨e1, e2, e3, e4, e5, e6⟩ := told_eq s
  have hok1 := told_ok hok
  have hfit : ∀ b, decide (secs ((s.log ++ bl).length) + secs s.image.length + secs s.stage.length ≤ s.room) = b → s.fits bl = b := fun b h => h
  have HF := Lib.hid hfit
  clear hfit
  rcases how_some s with hh | hh | hh
  case inr.inr =>
    go_enter Try.func76, Try.ntmps76
    go_wp2_with fail
    refine (counts_calls x s _ hx hok.stop).mono ?_
    rintro e w1 ⟨rfl, hx1, hk1⟩
    have HH := Lib.hid hh
    dsimp only at hx1 ⊢
    rw [hh]
    clear hh
    go_wp2
    go_ret
    rw [HT.out, if_pos HH.out, if_pos HH.out]
    exact ⟨rfl, hx1, hk1⟩
  all_goals
    go_enter Try.func76, Try.ntmps76
    go_wp2_with fail
    refine (counts_calls x s _ hx hok.stop).mono ?_
    rintro e w1 ⟨rfl, hx1, hk1⟩
    have HH := Lib.hid hh
    dsimp only at hx1 ⊢
    rw [hh]
    clear hh
    have hb1 := hbl.ref hx hk1
    obtain ⟨ia, ic, sa, sc, la, lc, h⟩ := hx1
    have b1 := hok1.image
    have b2 := hok1.stage
    have b3 := hok1.log
    rw [e2] at b1
    rw [e3] at b2
    rw [e5] at b3
    have c4 := h.c4
    rw [e5] at c4
    have hlog := h.log
    rw [e5] at hlog
    go_wp2_with fail
    refine (join_calls _ _ _ s.log _ _ _ bl _ hlog hb1 b3 hbn).mono ?_
    rintro e w2 ⟨ja, jn, jc, rfl, hJ, hk2⟩
    have h2 := h.non hk2
    have d0 := h2.c0
    have d1 := h2.c1
    have d2 := h2.c2
    have d4 := h2.c4
    have f4 := h2.f 4
    rw [e1] at d0
    rw [e2] at d1
    rw [e3] at d2
    rw [e5] at d4
    have hjn := hJ.len
    have hjl : (s.log ++ bl).length = s.log.length + bl.length := List.length_append
    have hbll := hbl.len
    have hjb : jn ≤ 2000000000000 := by omega
    have hfit := HF.out
    rw [← hjn] at hfit
    have t1 := secs_bd s.image.length (by omega) (by omega)
    have t2 := secs_bd s.stage.length (by omega) (by omega)
    have t3 := secs_bd jn (by omega) (by omega)
    clear c4 hlog h hjl hbll HF
    have HJN := Lib.hid hjn
    clear hjn
    have hkk : Kp (One x) w w2 := hk1.comp hk2 (fun _ _ h => h) (fun _ _ f => f.elim)
    cases hfb : decide (secs jn + secs s.image.length + secs s.stage.length ≤ s.room)
    all_goals
      have HB := Lib.hid (hfit _ hfb)
      clear hfit
      go_wp2_with fail
      go_quiet ((go_at_call 101; exact Calls.quiet_of_same (refsectors_calls _ _ _ _ (by omega))))
      go_wp2
      go_ret
      rw [HT.out, HH.out, HB.out]
      first
        | exact ⟨rfl, h2.ref, hkk⟩
        | exact ⟨rfl, (h2.drewN _).ref, hkk.drewN _⟩
        | exact ⟨rfl, ((h2.drewN _).setLog (hJ.drewN _)).ref, (hkk.drewN _).set1 _ _⟩
        | skip
end Go.Proofs.Ytclbapmjhchokaa
