/-
  The device's states stay within their bounds.
-/
import Derived.Test.YtclbapmjhchokaaE7
namespace Go.Proofs.Ytclbapmjhchokaa
open Go.RowKit
variable {F : Nat → Prop}

theorem StopOk.fin {s : St} (h : StopOk s) : StopOk s.fin := by
  unfold StopOk St.fin at *
  split
  · simp
  · split
    · simp; omega
    · exact h

theorem St.ok.fin {s : St} (h : s.ok) : s.fin.ok := by
  have h8 := h.stop.fin
  obtain ⟨h1, h2, h3, h4, h5, h6, h7, _⟩ := h
  unfold St.fin at *
  split
  · rename_i hs; rw [if_pos hs] at h8; exact ⟨h1, h2, h3, h4, h5, h6, h7, h8⟩
  · rename_i hs
    rw [if_neg hs] at h8
    split
    · rename_i hp; rw [if_pos hp] at h8; exact ⟨h1, h2, h3, h4, h5, h6, h7, h8⟩
    · rename_i hp; exact ⟨h1, h2, h3, h4, h5, h6, h7, by rw [if_neg hp] at h8; exact h8⟩

theorem St.ok.count {s s1 : St} (h : s.ok) (ec : Int) (laid : Bool) (h1 : ec = 0 → s1.ok) : (s.count ec s1 laid).2.ok := by
  unfold St.count
  split
  · exact h
  · split
    · exact h.fin
    · rename_i he
      show (St.fin _).ok
      split
      · exact (h1 (by simpa using he)).fin
      · exact h.fin

theorem full3_zero {r : Bool} (h : full3 r = 0) : r = false := by cases r <;> simp [full3] at h ⊢
theorem arg1_zero {r : Bool} (h : arg1 r = 0) : r = false := by cases r <;> simp [arg1] at h ⊢

theorem St.ok.append {s : St} (h : s.ok) (b : List UInt8) : (s.append b).2.ok := by
  refine h.count _ _ fun he => ?_
  have hr := full3_zero he
  simp only [decide_eq_false_iff_not, Int.not_lt] at hr
  have h1 := secs_bd s.image.length (by omega) (by have := h.image; omega)
  have h2 := secs_bd s.stage.length (by omega) (by have := h.stage; omega)
  have h3 := h.room1
  have h4 : (s.log.length : Int) + b.length ≤ 33554432 := by unfold secs at *; omega
  exact ⟨h.room0, h.room1, h.image, h.stage, by simp; omega, h.sure0, by simp; have := h.sure1; omega, h.stop⟩

theorem St.ok.putStage {s : St} (h : s.ok) (b : List UInt8) : (s.putStage b).2.ok := by
  refine h.count _ _ fun he => ?_
  have hr := full3_zero he
  simp only [decide_eq_false_iff_not, Int.not_lt] at hr
  have h1 := secs_bd s.image.length (by omega) (by have := h.image; omega)
  have h2 := secs_bd s.log.length (by omega) (by have := h.log; omega)
  have h3 := h.room1
  have h4 : (b.length : Int) ≤ 33554432 := by unfold secs at *; omega
  exact ⟨h.room0, h.room1, h.image, by show b.length ≤ _; omega, h.log, h.sure0, h.sure1, h.stop⟩

theorem St.ok.sync {s : St} (h : s.ok) : s.sync.2.ok := by
  refine h.count _ _ fun _ => ?_
  exact ⟨h.room0, h.room1, h.image, h.stage, h.log, by show (0 : Int) ≤ s.log.length; omega, Int.le_refl _, h.stop⟩

theorem St.ok.cut {s : St} (h : s.ok) (n : Int) : (s.cut n).2.ok := by
  refine h.count _ _ fun he => ?_
  have hr := arg1_zero he
  simp only [cutBad, decide_eq_false_iff_not, not_or, Int.not_lt] at hr
  have h4 := h.log
  have h5 := h.sure0
  have h6 := h.sure1
  refine ⟨h.room0, h.room1, h.image, h.stage, by simp; omega, by show 0 ≤ min s.sure n; omega, by simp; omega, h.stop⟩

theorem St.ok.commit {s : St} (h : s.ok) : s.commit.2.ok := by
  refine h.count _ _ fun _ => ?_
  exact ⟨h.room0, h.room1, h.stage, by simp, by simp, by simp, by simp, h.stop⟩

theorem St.ok.crash {s : St} (h : s.ok) (keep : Int) : (s.crash keep).ok := by
  have h4 := h.log
  have h5 := h.sure0
  have h6 := h.sure1
  have hs : 0 ≤ s.stays keep ∧ s.sure + s.stays keep ≤ s.log.length := by unfold St.stays; omega
  exact ⟨h.room0, h.room1, h.image, by simp [St.crash], by simp [St.crash]; omega, by simp [St.crash]; omega, by simp [St.crash]; omega, by simp [StopOk, St.crash]⟩

theorem St.ok.setStop {s : St} (h : s.ok) (n : Int) (hn : n ≤ 9223372036854775807) : ({ s with stop := max n (-1) } : St).ok :=
  ⟨h.room0, h.room1, h.image, h.stage, h.log, h.sure0, h.sure1, by simp only [StopOk]; omega⟩

theorem St.new_ok (n : Int) (h1 : 0 ≤ n) (h2 : n ≤ 65536) : (St.new n).ok :=
  ⟨h1, h2, by simp [St.new], by simp [St.new], by simp [St.new], by simp [St.new], by simp [St.new], by simp [StopOk, St.new]⟩

/-- A device of the call's own. -/
theorem Kp.dev {w w1 w2 : World} {d : Nat} (h : Kp Non w w1) (hd : w.heap.size ≤ d) (k : Kp (One d) w1 w2) : Kp Non w w2 :=
  h.comp k (fun _ _ f => f) (fun i hi e => by have : i = d := e; omega)
end Go.Proofs.Ytclbapmjhchokaa
