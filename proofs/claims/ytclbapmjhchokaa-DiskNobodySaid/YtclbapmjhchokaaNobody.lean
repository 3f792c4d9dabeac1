/-
  DiskNobody: a device that there is not does nothing. For every input.
-/
import Derived.Test.YtclbapmjhchokaaF1
import Derived.Lib.SmallJoins
namespace Go.Proofs.Ytclbapmjhchokaa
open Go.RowKit

/-- An answer, and nothing turned. -/
def Ans (r : Int) (w : World) (e : Ending) (w' : World) : Prop := e = .returned (.int .i64 r) ∧ Kp Non w w'
theorem Ans.of {r : Int} {w w0 : World} (hk : Kp Non w w0) {e : Ending} {w' : World} (h : Ans r w0 e w') : Ans r w e w' := ⟨h.1, hk.trans h.2⟩

theorem call_nil (f1 f2 : Value) (laid : Bool) (w : World) : Calls Try.prog 62 #[.pointer none, f1, f2, .bool laid] w (Ans 8 w) := by
  have hmf := mfunc
  go_enter_defers Try.func62, Try.ntmps62
  go_wp2
  simp only [bodyPostD, Leaves]
  refine ⟨.int .i64 8, by simp [results, Try.results62, go_sem], rfl, ((Kp.refl _ _).alloc _).alloc _⟩

theorem append_nil (a : Option Addr) (n c : Nat) (w : World) : Calls Try.prog 21 #[.pointer none, .slice a n c] w (Ans 8 w) := by
  have hmf := mfunc
  go_enter Try.func21, Try.ntmps21
  go_wp2_with fail
  refine (call_nil _ _ _ _).mono ?_
  rintro e w1 ⟨rfl, hk⟩
  go_wp2
  go_ret
  exact ⟨rfl, (((Kp.refl _ _).alloc _).alloc _).trans hk⟩

theorem stage_nil (a : Option Addr) (n c : Nat) (w : World) : Calls Try.prog 29 #[.pointer none, .slice a n c] w (Ans 8 w) := by
  have hmf := mfunc
  go_enter Try.func29, Try.ntmps29
  go_wp2_with fail
  refine (call_nil _ _ _ _).mono ?_
  rintro e w1 ⟨rfl, hk⟩
  go_wp2
  go_ret
  exact ⟨rfl, (((Kp.refl _ _).alloc _).alloc _).trans hk⟩

theorem cut_nil (n : Int) (w : World) : Calls Try.prog 75 #[.pointer none, .int .i64 n] w (Ans 8 w) := by
  have hmf := mfunc
  go_enter Try.func75, Try.ntmps75
  go_wp2_with fail
  refine (call_nil _ _ _ _).mono ?_
  rintro e w1 ⟨rfl, hk⟩
  go_wp2
  go_ret
  exact ⟨rfl, (((Kp.refl _ _).alloc _).alloc _).trans hk⟩

theorem sync_nil (w : World) : Calls Try.prog 22 #[.pointer none] w (Ans 8 w) := by
  have hmf := mfunc
  go_enter Try.func22, Try.ntmps22
  go_wp2_with fail
  refine (call_nil _ _ _ _).mono ?_
  rintro e w1 ⟨rfl, hk⟩
  go_wp2
  go_ret
  exact ⟨rfl, ((Kp.refl _ _).alloc _).trans hk⟩

theorem commit_nil (w : World) : Calls Try.prog 30 #[.pointer none] w (Ans 8 w) := by
  have hmf := mfunc
  go_enter Try.func30, Try.ntmps30
  go_wp2_with fail
  refine (call_nil _ _ _ _).mono ?_
  rintro e w1 ⟨rfl, hk⟩
  go_wp2
  go_ret
  exact ⟨rfl, ((Kp.refl _ _).alloc _).trans hk⟩

theorem read_nil (f : Value) (w : World) : Calls Try.prog 68 #[.pointer none, f] w fun e w' => e = .returned (.tuple #[.slice none 0 0, .int .i64 8]) ∧ w' = w := by
  go_enter Try.func68, Try.ntmps68
  go_wp2
  go_ret2
  exact ⟨rfl, rfl⟩
theorem log_nil (w : World) : Calls Try.prog 24 #[.pointer none] w fun e w' => e = .returned (.tuple #[.slice none 0 0, .int .i64 8]) ∧ Kp Non w w' := by
  have hmf := mfunc
  go_enter Try.func24, Try.ntmps24
  go_wp2_with fail
  refine (read_nil _ _).mono ?_
  rintro e w1 ⟨rfl, rfl⟩
  go_wp2
  go_ret2
  exact ⟨rfl, (Kp.refl _ _).alloc _⟩
theorem image_nil (w : World) : Calls Try.prog 25 #[.pointer none] w fun e w' => e = .returned (.tuple #[.slice none 0 0, .int .i64 8]) ∧ Kp Non w w' := by
  have hmf := mfunc
  go_enter Try.func25, Try.ntmps25
  go_wp2_with fail
  refine (read_nil _ _).mono ?_
  rintro e w1 ⟨rfl, rfl⟩
  go_wp2
  go_ret2
  exact ⟨rfl, (Kp.refl _ _).alloc _⟩
theorem off_nil (w : World) : Calls Try.prog 28 #[.pointer none] w fun e w' => e = .returned (.bool true) ∧ w' = w := by
  go_enter Try.func28, Try.ntmps28
  go_wp2
  go_ret
  exact ⟨rfl, rfl⟩
theorem used_nil (w : World) : Calls Try.prog 27 #[.pointer none] w fun e w' => e = .returned (.int .i64 0) ∧ w' = w := by
  go_enter Try.func27, Try.ntmps27
  go_wp2
  go_ret
  exact ⟨rfl, rfl⟩
theorem room_nil (w : World) : Calls Try.prog 26 #[.pointer none] w fun e w' => e = .returned (.int .i64 0) ∧ w' = w := by
  go_enter Try.func26, Try.ntmps26
  go_wp2
  go_ret
  exact ⟨rfl, rfl⟩
theorem clone_nil (w : World) : Calls Try.prog 31 #[.pointer none] w fun e w' => e = .returned (.pointer none) ∧ w' = w := by
  go_enter Try.func31, Try.ntmps31
  go_wp2
  go_ret
  exact ⟨rfl, rfl⟩
theorem stop_nil (v : Value) (w : World) : Calls Try.prog 32 #[.pointer none, v] w fun e w' => e = .returned (.tuple #[]) ∧ w' = w := by
  go_enter Try.func32, Try.ntmps32
  go_wp2
  go_end0
  exact ⟨rfl, rfl⟩
theorem crash_nil (v : Value) (w : World) : Calls Try.prog 23 #[.pointer none, v] w fun e w' => e = .returned (.tuple #[]) ∧ w' = w := by
  go_enter Try.func23, Try.ntmps23
  go_wp2
  refine bodyPost_ret (results_none rfl _ _ _) rfl ?_
  exact ⟨rfl, rfl⟩

def OpD.counts (o : OpD) : Bool := decide (1 ≤ o.kind) && decide (o.kind ≤ 5)
def OpD.nobody (o : OpD) : Int := if o.counts then 8 else 0

set_option maxRecDepth 100000 in
set_option maxHeartbeats 4000000 in
theorem do_nil (o : OpD) (ba : Option Addr) (bc : Nat) (w : World) (hb : Bytes w ba o.b.length bc o.b) (hok : o.ok) :
    Calls Try.prog 33 #[.pointer none, .agg (o.cells ba bc)] w (Ans o.nobody w) := by
  have HB := Lib.hid (fun W (h : Bytes W ba o.b.length bc o.b) => bytes_calls o ba bc W h hok)
  have hk0 : Kp Non w (w.alloc (.cells (o.cells ba bc) 42)) := (Kp.refl _ _).alloc _
  have hb0 := hb.non hk0
  unfold OpD.cells at *
  by_cases k1 : o.kind = 1
  · have HR := Lib.hid (show o.nobody = 8 by simp [OpD.nobody, OpD.counts, k1])
    have g1 : (o.kind == 1) = true := by simp [k1]
    clear k1
    go_enter Try.func33, Try.ntmps33
    go_wp2_with fail
    refine (HB.out _ hb0).mono ?_
    rintro e w1 ⟨a, c, rfl, hO, hk1⟩
    go_wp2_with fail
    refine (append_nil _ _ _ _).mono ?_
    rintro e w2 ⟨rfl, hk2⟩
    go_wp2
    go_ret
    rw [HR.out]
    exact ⟨rfl, (hk0.trans hk1).trans hk2⟩
  by_cases k2 : o.kind = 2
  · have HR := Lib.hid (show o.nobody = 8 by simp [OpD.nobody, OpD.counts, k2])
    have g1 : (o.kind == 1) = false := by simp [k1]
    have g2 : (o.kind == 2) = true := by simp [k2]
    clear k1 k2
    go_enter Try.func33, Try.ntmps33
    go_wp2_with fail
    refine (sync_nil _).mono ?_
    rintro e w2 ⟨rfl, hk2⟩
    go_wp2
    go_ret
    rw [HR.out]
    exact ⟨rfl, hk0.trans hk2⟩
  by_cases k3 : o.kind = 3
  · have HR := Lib.hid (show o.nobody = 8 by simp [OpD.nobody, OpD.counts, k3])
    have g1 : (o.kind == 1) = false := by simp [k1]
    have g2 : (o.kind == 2) = false := by simp [k2]
    have g3 : (o.kind == 3) = true := by simp [k3]
    clear k1 k2 k3
    go_enter Try.func33, Try.ntmps33
    go_wp2_with fail
    refine (cut_nil _ _).mono ?_
    rintro e w2 ⟨rfl, hk2⟩
    go_wp2
    go_ret
    rw [HR.out]
    exact ⟨rfl, hk0.trans hk2⟩
  by_cases k4 : o.kind = 4
  · have HR := Lib.hid (show o.nobody = 8 by simp [OpD.nobody, OpD.counts, k4])
    have g1 : (o.kind == 1) = false := by simp [k1]
    have g2 : (o.kind == 2) = false := by simp [k2]
    have g3 : (o.kind == 3) = false := by simp [k3]
    have g4 : (o.kind == 4) = true := by simp [k4]
    clear k1 k2 k3 k4
    go_enter Try.func33, Try.ntmps33
    go_wp2_with fail
    refine (HB.out _ hb0).mono ?_
    rintro e w1 ⟨a, c, rfl, hO, hk1⟩
    go_wp2_with fail
    refine (stage_nil _ _ _ _).mono ?_
    rintro e w2 ⟨rfl, hk2⟩
    go_wp2
    go_ret
    rw [HR.out]
    exact ⟨rfl, (hk0.trans hk1).trans hk2⟩
  by_cases k5 : o.kind = 5
  · have HR := Lib.hid (show o.nobody = 8 by simp [OpD.nobody, OpD.counts, k5])
    have g1 : (o.kind == 1) = false := by simp [k1]
    have g2 : (o.kind == 2) = false := by simp [k2]
    have g3 : (o.kind == 3) = false := by simp [k3]
    have g4 : (o.kind == 4) = false := by simp [k4]
    have g5 : (o.kind == 5) = true := by simp [k5]
    clear k1 k2 k3 k4 k5
    go_enter Try.func33, Try.ntmps33
    go_wp2_with fail
    refine (commit_nil _).mono ?_
    rintro e w2 ⟨rfl, hk2⟩
    go_wp2
    go_ret
    rw [HR.out]
    exact ⟨rfl, hk0.trans hk2⟩
  by_cases k6 : o.kind = 6
  · have HR := Lib.hid (show o.nobody = 0 by simp [OpD.nobody, OpD.counts, k6])
    have g1 : (o.kind == 1) = false := by simp [k1]
    have g2 : (o.kind == 2) = false := by simp [k2]
    have g3 : (o.kind == 3) = false := by simp [k3]
    have g4 : (o.kind == 4) = false := by simp [k4]
    have g5 : (o.kind == 5) = false := by simp [k5]
    have g6 : (o.kind == 6) = true := by simp [k6]
    clear k1 k2 k3 k4 k5 k6
    go_enter Try.func33, Try.ntmps33
    go_wp2_with fail
    refine (stop_nil _ _).mono ?_
    rintro e w2 ⟨rfl, rfl⟩
    go_wp2
    go_ret
    rw [HR.out]
    exact ⟨rfl, hk0⟩
  by_cases k7 : o.kind = 7
  · have HR := Lib.hid (show o.nobody = 0 by simp [OpD.nobody, OpD.counts, k7])
    have g1 : (o.kind == 1) = false := by simp [k1]
    have g2 : (o.kind == 2) = false := by simp [k2]
    have g3 : (o.kind == 3) = false := by simp [k3]
    have g4 : (o.kind == 4) = false := by simp [k4]
    have g5 : (o.kind == 5) = false := by simp [k5]
    have g6 : (o.kind == 6) = false := by simp [k6]
    have g7 : (o.kind == 7) = true := by simp [k7]
    clear k1 k2 k3 k4 k5 k6 k7
    go_enter Try.func33, Try.ntmps33
    go_wp2_with fail
    refine (crash_nil _ _).mono ?_
    rintro e w2 ⟨rfl, rfl⟩
    go_wp2
    go_ret
    rw [HR.out]
    exact ⟨rfl, hk0⟩
  · have HR := Lib.hid (show o.nobody = 0 by unfold OpD.nobody; rw [if_neg]; simp [OpD.counts]; omega)
    have g1 : (o.kind == 1) = false := by simp [k1]
    have g2 : (o.kind == 2) = false := by simp [k2]
    have g3 : (o.kind == 3) = false := by simp [k3]
    have g4 : (o.kind == 4) = false := by simp [k4]
    have g5 : (o.kind == 5) = false := by simp [k5]
    have g6 : (o.kind == 6) = false := by simp [k6]
    have g7 : (o.kind == 7) = false := by simp [k7]
    clear k1 k2 k3 k4 k5 k6 k7
    go_enter Try.func33, Try.ntmps33
    go_wp2
    go_ret
    rw [HR.out]
    exact ⟨rfl, hk0⟩

open Go.ChangeShapes Go.WideShapes Go.ChangeAt Go.Deep in
set_option maxRecDepth 100000 in
/-- An Op that came in. -/
theorem op_in {H : Type} {enc : TypeId × Value → H} {w : World} {base : Nat} {held : Bool} {b0 : Nat} {v : Value} {d : DataW H} {p : List MemPlace}
    (hv : Value.okWide Try.prog w .any b0 42 v) (h : DataW.Trod enc Try.prog w base (fun _ => true) held 42 v d p) (hz : ∀ x ∈ d.weights Try.prog 42, x ≤ reachBytes) :
    ∃ (o : OpD) (ba : Option Addr) (bc : Nat), v = .agg (o.cells ba bc) ∧ Bytes w ba o.b.length bc o.b ∧ o.ok := by
  obtain ⟨cs, rfl, hsz⟩ := okWide_struct Try.underlying42 hv
  have h4 : Try.prog.cellsOf 42 = 4 := by kernel_rfl
  have h31 : Try.prog.cellsOf 3 = 1 := by kernel_rfl
  have h221 : Try.prog.cellsOf 22 = 1 := by kernel_rfl
  have h401 : Try.prog.cellsOf 40 = 1 := by kernel_rfl
  rw [h4] at hsz
  obtain ⟨l⟩ := cs
  match l, hsz with
  | [v0, v1, v2, v3], _ =>
    obtain ⟨fuel, ht⟩ := h
    obtain ⟨ys, k', _, hy, _, hyl, hfl⟩ := DataW.trod_struct Try.underlying42 ht
    have f0 : DataW.trod enc Try.prog w base (fun _ => true) held k' 3 (([v0, v1, v2, v3].drop 0).take (Try.prog.cellsOf 3)) = ys[0]? := hfl 0 _ rfl
    have f1 : DataW.trod enc Try.prog w base (fun _ => true) held k' 3 (([v0, v1, v2, v3].drop 1).take (Try.prog.cellsOf 3)) = ys[1]? := hfl 1 _ rfl
    have f2 : DataW.trod enc Try.prog w base (fun _ => true) held k' 22 (([v0, v1, v2, v3].drop 2).take (Try.prog.cellsOf 22)) = ys[2]? := hfl 2 _ rfl
    have f3 : DataW.trod enc Try.prog w base (fun _ => true) held k' 40 (([v0, v1, v2, v3].drop 3).take (Try.prog.cellsOf 40)) = ys[3]? := hfl 3 _ rfl
    rw [h31] at f0 f1
    rw [h221] at f2
    rw [h401] at f3
    match ys, hyl with
    | [y0, y1, y2, y3], _ =>
      simp at f0 f1 f2 f3
      obtain ⟨k0, e0, _, _⟩ := DataW.trod_int Try.underlying3 f0
      obtain ⟨k1, e1, _, w1⟩ := DataW.trod_int Try.underlying3 f1
      obtain ⟨k3, e3, _, w3⟩ := DataW.trod_int Try.underlying40 f3
      simp at e0 e1 e3
      subst e0 e1 e3
      obtain ⟨ba, bn, bc, l, e2, hb, hbc⟩ := bytes_cell f2 (fun x hxm => hz x (by
        have hD : d = .agg [y0.1, y1.1, y2.1, y3.1] := by simpa using (Prod.mk.inj hy).1
        rw [hD]
        simp only [DataW.weights, Try.underlying42]
        exact DataW.weights_mem_each (j := 2) (t := 22) (d := y2.1) rfl rfl _ hxm))
      subst e2
      have hln := hb.len
      have hcp := hb.cap
      refine ⟨⟨k0, k1, l, k3⟩, ba, bc, by rw [hln]; rfl, hln ▸ hb, ?_⟩
      simp only [Lit.wf, Bool.and_eq_true, decide_eq_true_eq] at w1 w3
      exact ⟨w1.1, w1.2, w3.1, w3.2, by show l.length ≤ _; omega⟩

set_option maxRecDepth 100000 in
set_option maxHeartbeats 8000000 in
theorem nobody_walk (o : OpD) (ba : Option Addr) (bc : Nat) (w : World) (hb : Bytes w ba o.b.length bc o.b) (hok : o.ok) : Calls Try.prog 11 #[.agg (o.cells ba bc)] w (TruePost w) := by
  have HL := Lib.hid (fun W => lives_true W)
  have HD := Lib.hid (fun W (h : Bytes W ba o.b.length bc o.b) => do_nil o ba bc W h hok)
  have hk0 : Kp Non w (w.alloc (.cells (o.cells ba bc) 42)) := (Kp.refl _ _).alloc _
  have hb0 := hb.non hk0
  have c0 : (w.alloc (.cells (o.cells ba bc) 42)).cell? ⟨w.heap.size, 0, none⟩ = some (.int .i64 o.kind) := cell_of_row _ _ 0 _ _ _ (heap_alloc_new w (.cells (o.cells ba bc) 42))
  unfold OpD.cells at *
  by_cases h1 : o.kind < 1
  · have HC := Lib.hid (show o.nobody = 0 by unfold OpD.nobody; rw [if_neg]; simp [OpD.counts]; omega)
    have g1 : decide (1 ≤ o.kind) = false := by simp; omega
    clear h1
    go_enter Try.func11, Try.ntmps11
    go_wp2_with fail
    refine (HD.out _ hb0).mono ?_
    rintro e w1 ⟨rfl, hk1⟩
    rw [HC.out]
    replace c0 := hk1.cell c0 (fun f => f)
    replace hk1 := hk0.trans hk1
    go_wp2_with fail
    refine (log_nil _).mono ?_
    rintro e w2 ⟨rfl, hk2⟩
    replace c0 := hk2.cell c0 (fun f => f)
    replace hk2 := hk1.trans hk2
    go_wp2_with fail
    refine (image_nil _).mono ?_
    rintro e w3 ⟨rfl, hk3⟩
    replace c0 := hk3.cell c0 (fun f => f)
    replace hk3 := hk2.trans hk3
    go_wp2_with fail
    refine (off_nil _).mono ?_
    rintro e w4 ⟨rfl, rfl⟩
    go_wp2_with fail
    refine (used_nil _).mono ?_
    rintro e w5 ⟨rfl, rfl⟩
    go_wp2_with fail
    refine (room_nil _).mono ?_
    rintro e w6 ⟨rfl, rfl⟩
    go_wp2_with fail
    refine (clone_nil _).mono ?_
    rintro e w7 ⟨rfl, rfl⟩
    go_wp2_with fail
    refine (HL.out _).mono ?_
    rintro e w8 ⟨rfl, hk8⟩
    go_wp2_with fail
    go_ret
    exact ⟨rfl, hk3.trans hk8⟩
  by_cases h5 : o.kind ≤ 5
  · have HC := Lib.hid (show o.nobody = 8 by unfold OpD.nobody; rw [if_pos]; simp [OpD.counts]; omega)
    have g1 : decide (1 ≤ o.kind) = true := by simp; omega
    have g2 : decide (o.kind ≤ 5) = true := by simp; omega
    clear h1 h5
    go_enter Try.func11, Try.ntmps11
    go_wp2_with fail
    refine (HD.out _ hb0).mono ?_
    rintro e w1 ⟨rfl, hk1⟩
    rw [HC.out]
    replace c0 := hk1.cell c0 (fun f => f)
    replace hk1 := hk0.trans hk1
    go_wp2_with fail
    refine (log_nil _).mono ?_
    rintro e w2 ⟨rfl, hk2⟩
    replace c0 := hk2.cell c0 (fun f => f)
    replace hk2 := hk1.trans hk2
    go_wp2_with fail
    refine (image_nil _).mono ?_
    rintro e w3 ⟨rfl, hk3⟩
    replace c0 := hk3.cell c0 (fun f => f)
    replace hk3 := hk2.trans hk3
    go_wp2_with fail
    refine (off_nil _).mono ?_
    rintro e w4 ⟨rfl, rfl⟩
    go_wp2_with fail
    refine (used_nil _).mono ?_
    rintro e w5 ⟨rfl, rfl⟩
    go_wp2_with fail
    refine (room_nil _).mono ?_
    rintro e w6 ⟨rfl, rfl⟩
    go_wp2_with fail
    refine (clone_nil _).mono ?_
    rintro e w7 ⟨rfl, rfl⟩
    go_wp2_with fail
    refine (HL.out _).mono ?_
    rintro e w8 ⟨rfl, hk8⟩
    go_wp2_with fail
    go_ret
    exact ⟨rfl, hk3.trans hk8⟩
  · have HC := Lib.hid (show o.nobody = 0 by unfold OpD.nobody; rw [if_neg]; simp [OpD.counts]; omega)
    have g1 : decide (1 ≤ o.kind) = true := by simp; omega
    have g2 : decide (o.kind ≤ 5) = false := by simp; omega
    clear h1 h5
    go_enter Try.func11, Try.ntmps11
    go_wp2_with fail
    refine (HD.out _ hb0).mono ?_
    rintro e w1 ⟨rfl, hk1⟩
    rw [HC.out]
    replace c0 := hk1.cell c0 (fun f => f)
    replace hk1 := hk0.trans hk1
    go_wp2_with fail
    refine (log_nil _).mono ?_
    rintro e w2 ⟨rfl, hk2⟩
    replace c0 := hk2.cell c0 (fun f => f)
    replace hk2 := hk1.trans hk2
    go_wp2_with fail
    refine (image_nil _).mono ?_
    rintro e w3 ⟨rfl, hk3⟩
    replace c0 := hk3.cell c0 (fun f => f)
    replace hk3 := hk2.trans hk3
    go_wp2_with fail
    refine (off_nil _).mono ?_
    rintro e w4 ⟨rfl, rfl⟩
    go_wp2_with fail
    refine (used_nil _).mono ?_
    rintro e w5 ⟨rfl, rfl⟩
    go_wp2_with fail
    refine (room_nil _).mono ?_
    rintro e w6 ⟨rfl, rfl⟩
    go_wp2_with fail
    refine (clone_nil _).mono ?_
    rintro e w7 ⟨rfl, rfl⟩
    go_wp2_with fail
    refine (HL.out _).mono ?_
    rintro e w8 ⟨rfl, hk8⟩
    go_wp2_with fail
    go_ret
    exact ⟨rfl, hk3.trans hk8⟩

open Go.ChangeShapes Go.WideShapes Go.ChangeAt Go.Joins
set_option maxRecDepth 100000 in
theorem nobody_lifted (os : Os) (started : os.Started) (H : Type) (enc : TypeId × Value → H) :
    ReturnsInHanded {} Try.checked os 11 .any (Rows.diskNobodySpec.pre6 enc Try.prog Try.f11 Rows.diskNobodyRow.domain false) (Rows.diskNobodySpec.post enc Try.prog Try.f11 false true false false) := by
  refine returnsInHanded_of_change_sized (C := Try.checked) own started (by kernel_rfl) Try.func11
    (ChangeSpec.witness6 (enc := enc) (C := Try.checked) false ⟨#[], #[.agg #[.int .i64 0, .int .i64 0, .slice none 0 0, .int .u64 0]], []⟩ 8 (by kernel_rfl) (by kernel_rfl) (by kernel_rfl) (by kernel_rfl)) ?_
  intro W base args ds gs before hval0 hW hcnd hsz0 _
  have hval : ∀ (j : Nat) t v, Try.f11.params[j]? = some t → args[j]? = some v → Value.okWide Try.prog W .any base t v := hval0
  have hsz : (DataW.weightsEach Try.prog (Try.f11.params.toList ++ Rows.diskNobodySpec.plain.varTypes Try.prog) (ds ++ gs)).all (· ≤ reachBytes) = true := hsz0
  have hW' := hW
  obtain ⟨p, q, hA0, hV, rfl, hfz, hnd⟩ := hW
  have hA : DataW.TrodAll enc Try.prog W 0 (fun _ => true) true Try.f11.params.toList args.toList ds p := hA0
  rw [Try.params11] at hA hval hsz
  obtain ⟨v0, vs0, d0, ds0, p0, q0, hargs, rfl, rfl, h0, r0⟩ := trodAll_cons hA
  obtain ⟨rfl, rfl, rfl⟩ := trodAll_nil r0
  obtain rfl : args = #[v0] := by cases args; simp_all
  obtain ⟨rfl, rfl⟩ := trodVars_none hV
  have lt0 : ∀ x ∈ p0, x.block < W.heap.size := by obtain ⟨m, hm⟩ := h0; exact DataW.trod_lt m _ _ _ hm
  obtain ⟨o, ba, bc, rfl, hb, hok⟩ := op_in (hval 0 42 v0 rfl rfl) h0 (fun x hx => by
    have := List.all_eq_true.1 hsz x (DataW.weights_mem_each (j := 0) (t := 42) (d := d0) rfl rfl x hx)
    simpa using this)
  clear hA0 hval0 hsz0
  refine (nobody_walk o ba bc W hb hok).mono fun e W' ⟨he, hk⟩ => ?_
  have bel := hk.below
  subst he
  exact ⟨_, rfl, _, _, _, [], _, [], hW', trodAll_mk1 (shut_bool Try.underlying4 _), (trodAll_cons_mk (Below.trod laidOut (by kernel_rfl) (of_decide_eq_true (by kernel_rfl)) h0 bel lt0) trodAll_mk0), rfl, bel.frame _, fun h => by cases h⟩

theorem disk_nobody : Rows.DiskNobodySaid :=
  OpenClaim.holds_of_wide 11 Try.f11 rfl rfl rfl rfl rfl rfl rfl ⟨rfl, rfl, rfl, rfl, rfl⟩ rfl rfl rfl rfl rfl (by kernel_rfl) Try.func11 (by kernel_rfl)
    (of_decide_eq_true (by kernel_rfl)) (by unfold Func.isWrapper; first | (rw [if_pos (by decide +kernel)]; kernel_rfl) | (rw [if_neg (by decide +kernel)]; exact ⟨rfl, rfl⟩))
    (fun os started H enc _ => nobody_lifted os started H enc)
#print axioms disk_nobody
end Go.Proofs.Ytclbapmjhchokaa
