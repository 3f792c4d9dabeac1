/-
  Touch, looks, Meddle.
-/
import Derived.Test.YtpehfnobgdjgcaaG0
import Derived.Deep.Cut
import Derived.Deep.CutBlock
import Derived.Deep.DeepCutAuto
namespace Go.Proofs.Ytpehfnobgdjgcaa
open Go.RowKit

theorem ret_bool {a b : Bool} (h : a = b) : Ending.returned (.bool a) = .returned (.bool b) := by rw [h]
theorem empty_calls (s : Rf) (w : World) : Calls Try.prog 69 #[.agg #[.int .i64 s.1, .int .i64 s.2]] w (BoolOut (decide (s.2 ≤ s.1)) w) := by
  go_enter Try.func69, Try.ntmps69
  go_wp2
  go_ret
  exact ⟨rfl, (Kp.refl _ _).alloc _⟩
def bothS (s t : Rf) : Rf := (if s.1 < t.1 then t.1 else s.1, if t.2 < s.2 then t.2 else s.2)
theorem both_calls (s t : Rf) (w : World) : Calls Try.prog 70 #[.agg #[.int .i64 s.1, .int .i64 s.2], .agg #[.int .i64 t.1, .int .i64 t.2]] w (ValOut (.agg #[.int .i64 (bothS s t).1, .int .i64 (bothS s t).2]) w) := by
  unfold bothS
  go_enter Try.func70, Try.ntmps70
  go_wp2
  all_goals
    exact bodyPost_ret (v := _) (by simp [results, Try.f70, go_sem]) rfl ⟨rfl, (((Kp.refl _ _).alloc _).alloc _).alloc _⟩
/-- Have two spans a block of both? -/
def touchB (s t : Rf) : Bool := decide (s.1 < s.2) && decide (t.1 < t.2) && decide ((bothS s t).1 < (bothS s t).2)
def looksB (op : Int) : Bool := decide (op = 1) || decide (op = 4)
theorem looks_calls (op : Int) (w : World) : Calls Try.prog 50 #[.int .i64 op] w (BoolOut (looksB op) w) := by
  unfold looksB
  go_enter Try.func50, Try.ntmps50
  go_wp2
  all_goals
    go_ret
    exact ⟨ret_bool (by first | (simp_all; done) | simp [Bool.beq_eq_decide_eq]), Kp.refl _ _⟩
theorem touch_calls (s t : Rf) (w : World) : Calls Try.prog 49 #[.agg #[.int .i64 s.1, .int .i64 s.2], .agg #[.int .i64 t.1, .int .i64 t.2]] w (BoolOut (touchB s t) w) := by
  have hk : Kp Non w ((w.alloc (.cells #[.int .i64 s.1, .int .i64 s.2] 110)).alloc (.cells #[.int .i64 t.1, .int .i64 t.2] 110)) := ((Kp.refl _ w).alloc _).alloc _
  have x0 := (cell_new (w := w) (cur := #[.int .i64 s.1, .int .i64 s.2]) (e := 110) (fr := (0, 0)) rfl 0)
  have x1 := (cell_new (w := w) (cur := #[.int .i64 s.1, .int .i64 s.2]) (e := 110) (fr := (0, 0)) rfl 1)
  have y0 := (cell_new (w := w.alloc (.cells #[.int .i64 s.1, .int .i64 s.2] 110)) (b := w.heap.size + 1) (cur := #[.int .i64 t.1, .int .i64 t.2]) (e := 110) (fr := (0, 0)) (by simp) 0)
  have y1 := (cell_new (w := w.alloc (.cells #[.int .i64 s.1, .int .i64 s.2] 110)) (b := w.heap.size + 1) (cur := #[.int .i64 t.1, .int .i64 t.2]) (e := 110) (fr := (0, 0)) (by simp) 1)
  have x0 := ((Kp.refl Non (w.alloc (.cells #[.int .i64 s.1, .int .i64 s.2] 110))).alloc (.cells #[.int .i64 t.1, .int .i64 t.2] 110)).cell (show _ = some (.int .i64 s.1) from x0) (fun f => f)
  have x1 := ((Kp.refl Non (w.alloc (.cells #[.int .i64 s.1, .int .i64 s.2] 110))).alloc (.cells #[.int .i64 t.1, .int .i64 t.2] 110)).cell (show _ = some (.int .i64 s.2) from x1) (fun f => f)
  have y0 : _ = some (Value.int .i64 t.1) := y0
  have y1 : _ = some (Value.int .i64 t.2) := y1
  go_enter Try.func49, Try.ntmps49
  go_wp2_with fail
  generalize (w.alloc (.cells #[.int .i64 s.1, .int .i64 s.2] 110)).alloc (.cells #[.int .i64 t.1, .int .i64 t.2] 110) = W at *
  generalize w.heap.size = bs at *
  refine (empty_calls s W).mono ?_
  rintro e w1 ⟨rfl, hk1⟩
  by_cases h1 : s.2 ≤ s.1
  · have hd : decide (s.2 ≤ s.1) = true := decide_eq_true h1
    have HT : Hid (touchB s t = false) := Lib.hid (by have : decide (s.1 < s.2) = false := (by simp; omega); simp [touchB, this])
    go_wp2_with fail
    go_ret
    exact ⟨ret_bool HT.out.symm, hk.trans hk1⟩
  · have hd : decide (s.2 ≤ s.1) = false := decide_eq_false h1
    have z0 := hk1.cell y0 (fun f => f)
    have z1 := hk1.cell y1 (fun f => f)
    go_wp2_with fail
    refine (empty_calls t w1).mono ?_
    rintro e w2 ⟨rfl, hk2⟩
    have hk2 := hk1.trans hk2
    by_cases h2 : t.2 ≤ t.1
    · have hd2 : decide (t.2 ≤ t.1) = true := decide_eq_true h2
      have HT : Hid (touchB s t = false) := Lib.hid (by have : decide (t.1 < t.2) = false := (by simp; omega); simp [touchB, this])
      go_wp2_with fail
      go_ret
      exact ⟨ret_bool HT.out.symm, hk.trans hk2⟩
    · have hd2 : decide (t.2 ≤ t.1) = false := decide_eq_false h2
      have u0 := hk2.cell x0 (fun f => f)
      have u1 := hk2.cell x1 (fun f => f)
      have v0 := hk2.cell y0 (fun f => f)
      have v1 := hk2.cell y1 (fun f => f)
      have HT : Hid (touchB s t = decide ((bothS s t).1 < (bothS s t).2)) := Lib.hid (by have e1 : decide (s.1 < s.2) = true := (by simp; omega); have e2 : decide (t.1 < t.2) = true := (by simp; omega); simp [touchB, e1, e2])
      have HB := Lib.hid (both_calls s t)
      generalize bothS s t = q at *
      go_wp2_with fail
      refine (HB.out w2).mono ?_
      rintro e w3 ⟨rfl, hk3⟩
      go_wp2_with fail
      refine (empty_calls q w3).mono ?_
      rintro e w4 ⟨rfl, hk4⟩
      go_wp2_with fail
      go_ret
      exact ⟨ret_bool (by rw [HT.out]; by_cases h : q.1 < q.2 <;> simp [h] <;> omega), hk.trans (hk2.trans (hk3.trans hk4))⟩
/-- Do two commands meddle? -/
def meddle (a b : CmdV) : Bool :=
  if a.op = 0 ∨ b.op = 0 then false else if a.op = 5 ∨ b.op = 5 ∨ a.cl = b.cl then true else touchB (a.fr, a.to) (b.fr, b.to) && !(looksB a.op && looksB b.op)
/-- A command in a box of its own. -/
def BoxC (W : World) (b : Nat) (x : CmdV) : Prop := W.heap[b]? = some (.cells #[.int .i64 x.op, .int .i64 x.cl, .int .i64 x.sq, .int .i64 x.fr, .int .i64 x.to, x.da.v] 57 (0, 0))
theorem BoxC.non {W W' : World} {b : Nat} {x : CmdV} (h : BoxC W b x) (k : Kp Non W W') : BoxC W' b x := k.heap h (fun f => f)
section
variable {W : World} {b : Nat} {x : CmdV} (h : BoxC W b x)
include h
theorem BoxC.c0 : W.cell? ⟨b, 0, none⟩ = some (.int .i64 x.op) := (cell_of_row W b 0 _ _ _ h).trans rfl
theorem BoxC.c1 : W.cell? ⟨b, 1, none⟩ = some (.int .i64 x.cl) := (cell_of_row W b 1 _ _ _ h).trans rfl
theorem BoxC.c2 : W.cell? ⟨b, 2, none⟩ = some (.int .i64 x.sq) := (cell_of_row W b 2 _ _ _ h).trans rfl
theorem BoxC.c3 : W.cell? ⟨b, 3, none⟩ = some (.int .i64 x.fr) := (cell_of_row W b 3 _ _ _ h).trans rfl
theorem BoxC.c4 : W.cell? ⟨b, 4, none⟩ = some (.int .i64 x.to) := (cell_of_row W b 4 _ _ _ h).trans rfl
theorem BoxC.c5 : W.cell? ⟨b, 5, none⟩ = some x.da.v := (cell_of_row W b 5 _ _ _ h).trans rfl
end
theorem boxC2 (w : World) (x y : CmdV) : BoxC ((w.alloc (.cells #[.int .i64 x.op, .int .i64 x.cl, .int .i64 x.sq, .int .i64 x.fr, .int .i64 x.to, x.da.v] 57)).alloc (.cells #[.int .i64 y.op, .int .i64 y.cl, .int .i64 y.sq, .int .i64 y.fr, .int .i64 y.to, y.da.v] 57)) w.heap.size x ∧
    BoxC ((w.alloc (.cells #[.int .i64 x.op, .int .i64 x.cl, .int .i64 x.sq, .int .i64 x.fr, .int .i64 x.to, x.da.v] 57)).alloc (.cells #[.int .i64 y.op, .int .i64 y.cl, .int .i64 y.sq, .int .i64 y.fr, .int .i64 y.to, y.da.v] 57)) (w.heap.size + 1) y ∧
    Kp Non w ((w.alloc (.cells #[.int .i64 x.op, .int .i64 x.cl, .int .i64 x.sq, .int .i64 x.fr, .int .i64 x.to, x.da.v] 57)).alloc (.cells #[.int .i64 y.op, .int .i64 y.cl, .int .i64 y.sq, .int .i64 y.fr, .int .i64 y.to, y.da.v] 57)) := by
  have h1 := heap_alloc_new w (.cells #[.int .i64 x.op, .int .i64 x.cl, .int .i64 x.sq, .int .i64 x.fr, .int .i64 x.to, x.da.v] 57)
  have h2 := heap_alloc_new (w.alloc (.cells #[.int .i64 x.op, .int .i64 x.cl, .int .i64 x.sq, .int .i64 x.fr, .int .i64 x.to, x.da.v] 57)) (.cells #[.int .i64 y.op, .int .i64 y.cl, .int .i64 y.sq, .int .i64 y.fr, .int .i64 y.to, y.da.v] 57)
  rw [World.size_alloc] at h2
  exact ⟨((Kp.refl Non _).alloc _).heap h1 (fun f => f), h2, ((Kp.refl _ w).alloc _).alloc _⟩

set_option maxRecDepth 100000 in
set_option maxHeartbeats 1000000 in
theorem meddle_calls (x y : CmdV) (w : World) : Calls Try.prog 33 #[valCmd x, valCmd y] w (BoolOut (meddle x y) w) := by
  show Calls Try.prog 33 #[.agg #[.int .i64 x.op, .int .i64 x.cl, .int .i64 x.sq, .int .i64 x.fr, .int .i64 x.to, .slice x.da.a x.da.n x.da.c], .agg #[.int .i64 y.op, .int .i64 y.cl, .int .i64 y.sq, .int .i64 y.fr, .int .i64 y.to, .slice y.da.a y.da.n y.da.c]] w (BoolOut (meddle x y) w)
  obtain ⟨hx, hy, hk⟩ := boxC2 w x y
  simp only [Tx.v] at hx hy hk
  go_enter Try.func33, Try.ntmps33
  go_upto_region 1 with (fail)
  generalize (w.alloc (.cells #[.int .i64 x.op, .int .i64 x.cl, .int .i64 x.sq, .int .i64 x.fr, .int .i64 x.to, .slice x.da.a x.da.n x.da.c] 57)).alloc (.cells #[.int .i64 y.op, .int .i64 y.cl, .int .i64 y.sq, .int .i64 y.fr, .int .i64 y.to, .slice y.da.a y.da.n y.da.c] 57) = W at *
  have x0 := BoxC.c0 hx
  have x1 := BoxC.c1 hx
  have x3 := BoxC.c3 hx
  have x4 := BoxC.c4 hx
  have y0 := BoxC.c0 hy
  have y1 := BoxC.c1 hy
  have y3 := BoxC.c3 hy
  have y4 := BoxC.c4 hy
  generalize w.heap.size = bs at *
  by_cases h1 : x.op = 0
  · have e1 : (x.op == 0) = true := by simp [h1]
    have HM : Hid (meddle x y = false) := Lib.hid (by unfold meddle; rw [if_pos (.inl h1)])
    clear h1
    go_wp2_with fail
    go_ret
    exact ⟨ret_bool HM.out.symm, hk⟩
  have e1 : (x.op == 0) = false := by simp [h1]
  by_cases h2 : y.op = 0
  · have e2 : (y.op == 0) = true := by simp [h2]
    have HM : Hid (meddle x y = false) := Lib.hid (by unfold meddle; rw [if_pos (.inr h2)])
    clear h1 h2
    go_wp2_with fail
    go_ret
    exact ⟨ret_bool HM.out.symm, hk⟩
  have e2 : (y.op == 0) = false := by simp [h2]
  have hm0 : ¬ (x.op = 0 ∨ y.op = 0) := fun q => q.elim h1 h2
  clear h1 h2
  by_cases h3 : x.op = 5
  · have e3 : (x.op == 5) = true := by simp [h3]
    have HM : Hid (meddle x y = true) := Lib.hid (by unfold meddle; rw [if_neg hm0, if_pos (.inl h3)])
    clear h3 hm0
    go_wp2_with fail
    go_ret
    exact ⟨ret_bool HM.out.symm, hk⟩
  have e3 : (x.op == 5) = false := by simp [h3]
  by_cases h4 : y.op = 5
  · have e4 : (y.op == 5) = true := by simp [h4]
    have HM : Hid (meddle x y = true) := Lib.hid (by unfold meddle; rw [if_neg hm0, if_pos (.inr (.inl h4))])
    clear h3 h4 hm0
    go_wp2_with fail
    go_ret
    exact ⟨ret_bool HM.out.symm, hk⟩
  have e4 : (y.op == 5) = false := by simp [h4]
  by_cases h5 : x.cl = y.cl
  · have e5 : (x.cl == y.cl) = true := by simp [h5]
    have HM : Hid (meddle x y = true) := Lib.hid (by unfold meddle; rw [if_neg hm0, if_pos (.inr (.inr h5))])
    clear h3 h4 h5 hm0
    go_wp2_with fail
    go_ret
    exact ⟨ret_bool HM.out.symm, hk⟩
  have e5 : (x.cl == y.cl) = false := by simp [h5]
  have HM : Hid (meddle x y = (touchB (x.fr, x.to) (y.fr, y.to) && !(looksB x.op && looksB y.op))) := Lib.hid (by unfold meddle; rw [if_neg hm0, if_neg (fun q => q.elim h3 fun q => q.elim h4 h5)])
  have HT := Lib.hid (touch_calls (x.fr, x.to) (y.fr, y.to))
  have H1 := Lib.hid (looks_calls x.op)
  have H2 := Lib.hid (looks_calls y.op)
  clear h3 h4 h5 hm0
  generalize touchB (x.fr, x.to) (y.fr, y.to) = tb at *
  generalize looksB x.op = lx at *
  generalize looksB y.op = ly at *
  go_wp2_with fail
  refine (HT.out W).mono ?_
  rintro e w1 ⟨rfl, hk1⟩
  have z0 := hk1.cell x0 (fun f => f)
  cases tb with
  | false =>
    go_wp2_with fail
    go_ret
    exact ⟨ret_bool (by rw [HM.out]; rfl), hk.trans hk1⟩
  | true =>
    go_wp2_with fail
    refine (H1.out w1).mono ?_
    rintro e w2 ⟨rfl, hk2⟩
    have hk2 := hk1.trans hk2
    have u0 := hk2.cell y0 (fun f => f)
    cases lx with
    | false =>
      go_wp2_with fail
      go_ret
      exact ⟨ret_bool (by rw [HM.out]; rfl), hk.trans hk2⟩
    | true =>
      go_wp2_with fail
      refine (H2.out w2).mono ?_
      rintro e w3 ⟨rfl, hk3⟩
      go_wp2_with fail
      go_ret
      exact ⟨ret_bool (by rw [HM.out]; simp), hk.trans (hk2.trans hk3)⟩
end Go.Proofs.Ytpehfnobgdjgcaa
