/-
  The document's Meddle.
-/
import Derived.Test.YtpehfnobgdjgcaaG1
namespace Go.Proofs.Ytpehfnobgdjgcaa
open Go.RowKit

set_option maxRecDepth 100000 in
set_option maxHeartbeats 1000000 in
theorem rMeddle_calls (x y : CmdV) (w : World) : Calls Try.prog 37 #[valCmd x, valCmd y] w (BoolOut (meddle x y) w) := by
  show Calls Try.prog 37 #[.agg #[.int .i64 x.op, .int .i64 x.cl, .int .i64 x.sq, .int .i64 x.fr, .int .i64 x.to, .slice x.da.a x.da.n x.da.c], .agg #[.int .i64 y.op, .int .i64 y.cl, .int .i64 y.sq, .int .i64 y.fr, .int .i64 y.to, .slice y.da.a y.da.n y.da.c]] w (BoolOut (meddle x y) w)
  obtain ⟨hx, hy, hk⟩ := boxC2 w x y
  simp only [Tx.v] at hx hy hk
  go_enter Try.func37, Try.ntmps37
  go_upto_region 1 with (fail)
  generalize (w.alloc (.cells #[.int .i64 x.op, .int .i64 x.cl, .int .i64 x.sq, .int .i64 x.fr, .int .i64 x.to, .slice x.da.a x.da.n x.da.c] 57)).alloc (.cells #[.int .i64 y.op, .int .i64 y.cl, .int .i64 y.sq, .int .i64 y.fr, .int .i64 y.to, .slice y.da.a y.da.n y.da.c] 57) = W at *
  have x0 := BoxC.c0 hx
  have x1 := BoxC.c1 hx
  have x3 := BoxC.c3 hx
  have x4 := BoxC.c4 hx
  have y0 := BoxC.c0 hy
  have y1 := BoxC.c1 hy
  have y3 := BoxC.c3 hy
  have y4 := BoxC.c4 hy
  generalize w.heap.size = bs at *
  by_cases h1 : x.op = 0
  · have e1 : (x.op == 0) = true := by simp [h1]
    have HM : Hid (meddle x y = false) := Lib.hid (by unfold meddle; rw [if_pos (.inl h1)])
    clear h1
    go_wp2_with fail
    go_ret
    exact ⟨ret_bool HM.out.symm, hk⟩
  have e1 : (x.op == 0) = false := by simp [h1]
  by_cases h2 : y.op = 0
  · have e2 : (y.op == 0) = true := by simp [h2]
    have HM : Hid (meddle x y = false) := Lib.hid (by unfold meddle; rw [if_pos (.inr h2)])
    clear h1 h2
    go_wp2_with fail
    go_ret
    exact ⟨ret_bool HM.out.symm, hk⟩
  have e2 : (y.op == 0) = false := by simp [h2]
  have hm0 : ¬ (x.op = 0 ∨ y.op = 0) := fun q => q.elim h1 h2
  clear h1 h2
  by_cases h3 : x.op = 5
  · have e3 : (x.op == 5) = true := by simp [h3]
    have HM : Hid (meddle x y = true) := Lib.hid (by unfold meddle; rw [if_neg hm0, if_pos (.inl h3)])
    clear h3 hm0
    go_wp2_with fail
    go_ret
    exact ⟨ret_bool HM.out.symm, hk⟩
  have e3 : (x.op == 5) = false := by simp [h3]
  by_cases h4 : y.op = 5
  · have e4 : (y.op == 5) = true := by simp [h4]
    have HM : Hid (meddle x y = true) := Lib.hid (by unfold meddle; rw [if_neg hm0, if_pos (.inr (.inl h4))])
    clear h3 h4 hm0
    go_wp2_with fail
    go_ret
    exact ⟨ret_bool HM.out.symm, hk⟩
  have e4 : (y.op == 5) = false := by simp [h4]
  by_cases h5 : x.cl = y.cl
  · have e5 : (x.cl == y.cl) = true := by simp [h5]
    have HM : Hid (meddle x y = true) := Lib.hid (by unfold meddle; rw [if_neg hm0, if_pos (.inr (.inr h5))])
    clear h3 h4 h5 hm0
    go_wp2_with fail
    go_ret
    exact ⟨ret_bool HM.out.symm, hk⟩
  have e5 : (x.cl == y.cl) = false := by simp [h5]
  have HM : Hid (meddle x y = (touchB (x.fr, x.to) (y.fr, y.to) && !(looksB x.op && looksB y.op))) := Lib.hid (by unfold meddle; rw [if_neg hm0, if_neg (fun q => q.elim h3 fun q => q.elim h4 h5)])
  have HT : Hid (touchB (x.fr, x.to) (y.fr, y.to) = (decide (x.fr < x.to) && decide (y.fr < y.to) && decide ((bothS (x.fr, x.to) (y.fr, y.to)).1 < (bothS (x.fr, x.to) (y.fr, y.to)).2))) := Lib.hid rfl
  have HB1 : Hid ((bothS (x.fr, x.to) (y.fr, y.to)).1 = if x.fr < y.fr then y.fr else x.fr) := Lib.hid rfl
  have HB2 : Hid ((bothS (x.fr, x.to) (y.fr, y.to)).2 = if y.to < x.to then y.to else x.to) := Lib.hid rfl
  have HL1 : Hid (looksB x.op = (decide (x.op = 1) || decide (x.op = 4))) := Lib.hid rfl
  have HL2 : Hid (looksB y.op = (decide (y.op = 1) || decide (y.op = 4))) := Lib.hid rfl
  clear h3 h4 h5 hm0
  generalize (bothS (x.fr, x.to) (y.fr, y.to)).1 = f at *
  generalize (bothS (x.fr, x.to) (y.fr, y.to)).2 = t at *
  generalize touchB (x.fr, x.to) (y.fr, y.to) = tb at *
  generalize looksB x.op = lx at *
  generalize looksB y.op = ly at *
  go_wp2_with fail
  go_quiet (fail)
  go_upto_if 38 with (fail)
  go_cut [5] from 8 (fun v5 wc => v5 = .int .i64 f ∧ wc = W.drewN nq)
  case first =>
    by_cases hq : x.fr < y.fr
    · have hf := HB1.out
      rw [if_pos hq] at hf
      subst hf
      go_wp2_with fail
      go_meet
      case rel => exact ⟨rfl, rfl⟩
    · have hf := HB1.out
      rw [if_neg hq] at hf
      subst hf
      go_wp2_with fail
      go_meet
      case rel => exact ⟨rfl, rfl⟩
  case rest =>
    obtain ⟨rfl, rfl⟩ := hcut
    have hkq : Kp Non W (W.drewN nq) := (Kp.refl _ _).drewN _
    have x0 := hkq.cell x0 (fun f => f)
    have x3 := hkq.cell x3 (fun f => f)
    have x4 := hkq.cell x4 (fun f => f)
    have y0 := hkq.cell y0 (fun f => f)
    have y3 := hkq.cell y3 (fun f => f)
    have y4 := hkq.cell y4 (fun f => f)
    have hk := hk.trans hkq
    generalize W.drewN nq = V at *
    go_upto_if 44 with (fail)
    go_cut [6] from 8 (fun v6 wc => v6 = .int .i64 t ∧ wc = V)
    case first =>
      by_cases hq : y.to < x.to
      · have hf := HB2.out
        rw [if_pos hq] at hf
        subst hf
        go_wp2_with fail
        go_meet
        case rel => exact ⟨rfl, rfl⟩
      · have hf := HB2.out
        rw [if_neg hq] at hf
        subst hf
        go_wp2_with fail
        go_meet
        case rel => exact ⟨rfl, rfl⟩
    case rest =>
      obtain ⟨rfl, rfl⟩ := hcut
      obtain ⟨V, rfl⟩ : ∃ V, V = wc := ⟨_, rfl⟩
      go_upto_region 10 with (fail)
      go_cut [7] from 8 (fun v7 wc => v7 = .bool (lx && ly) ∧ wc = V)
      case first =>
        have e1 : lx = ((x.op == 1) || (x.op == 4)) := by rw [HL1.out]; simp [Bool.beq_eq_decide_eq]
        have e2 : ly = ((y.op == 1) || (y.op == 4)) := by rw [HL2.out]; simp [Bool.beq_eq_decide_eq]
        clear HL1 HL2 HT HB1 HB2
        generalize q1 : (x.op == 1) = b1 at *
        generalize q2 : (x.op == 4) = b2 at *
        generalize q3 : (y.op == 1) = b3 at *
        generalize q4 : (y.op == 4) = b4 at *
        subst e1
        subst e2
        cases b1 <;> cases b2 <;> cases b3 <;> cases b4
        all_goals
          go_wp2_with fail
          go_meet
          case rel => exact ⟨rfl, rfl⟩
      case rest =>
        obtain ⟨rfl, rfl⟩ := hcut
        obtain ⟨V, rfl⟩ : ∃ V, V = wc := ⟨_, rfl⟩
        have hr : Hid (meddle x y = (decide (x.fr < x.to) && decide (y.fr < y.to) && decide (f < t) && !(lx && ly))) := Lib.hid (by rw [HM.out, HT.out])
        clear HM HT HB1 HB2 HL1 HL2
        generalize (lx && ly) = lb at *
        generalize p1 : decide (x.fr < x.to) = b1 at *
        generalize p2 : decide (y.fr < y.to) = b2 at *
        generalize p3 : decide (f < t) = b3 at *
        cases b1 <;> cases b2 <;> cases b3 <;> cases lb
        all_goals
          go_wp2_with fail
          go_ret
          exact ⟨ret_bool hr.out.symm, hk⟩
end Go.Proofs.Ytpehfnobgdjgcaa
