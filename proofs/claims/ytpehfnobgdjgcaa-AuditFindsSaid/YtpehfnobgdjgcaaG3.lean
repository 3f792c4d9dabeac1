/-
  The same command and reply? The program's.
-/
import Derived.Test.YtpehfnobgdjgcaaG1
namespace Go.Proofs.Ytpehfnobgdjgcaa
open Go.RowKit

/-- The same command? -/
def sameC (x y : CmdV) : Bool := (x.op == y.op) && (x.cl == y.cl) && (x.sq == y.sq) && (x.fr == y.fr) && (x.to == y.to) && decide (x.da.l = y.da.l)
def sameR (x y : RepV) : Bool := (x.ok == y.ok) && decide (x.da.l = y.da.l)
def sameB (x y : RanV) : Bool := sameC x.cmd y.cmd && sameR x.rep y.rep
/-- What was executed, in a box of its own. -/
def BoxN (W : World) (b : Nat) (x : RanV) : Prop := W.heap[b]? = some (.cells #[.int .i64 x.ref.1, .int .i64 x.ref.2, .int .i64 x.cmd.op, .int .i64 x.cmd.cl, .int .i64 x.cmd.sq, .int .i64 x.cmd.fr, .int .i64 x.cmd.to, x.cmd.da.v, .bool x.rep.ok, x.rep.da.v] 61 (0, 0))
theorem BoxN.non {W W' : World} {b : Nat} {x : RanV} (h : BoxN W b x) (k : Kp Non W W') : BoxN W' b x := k.heap h (fun f => f)
theorem BoxN.new (w : World) (x : RanV) : BoxN (w.alloc (.cells #[.int .i64 x.ref.1, .int .i64 x.ref.2, .int .i64 x.cmd.op, .int .i64 x.cmd.cl, .int .i64 x.cmd.sq, .int .i64 x.cmd.fr, .int .i64 x.cmd.to, x.cmd.da.v, .bool x.rep.ok, x.rep.da.v] 61)) w.heap.size x := heap_alloc_new w _
section
variable {W : World} {b : Nat} {x : RanV} (h : BoxN W b x)
include h
theorem BoxN.c0 : W.cell? ⟨b, 0, none⟩ = some (.int .i64 x.ref.1) := (cell_of_row W b 0 _ _ _ h).trans rfl
theorem BoxN.c1 : W.cell? ⟨b, 1, none⟩ = some (.int .i64 x.ref.2) := (cell_of_row W b 1 _ _ _ h).trans rfl
theorem BoxN.c2 : W.cell? ⟨b, 2, none⟩ = some (.int .i64 x.cmd.op) := (cell_of_row W b 2 _ _ _ h).trans rfl
theorem BoxN.c3 : W.cell? ⟨b, 3, none⟩ = some (.int .i64 x.cmd.cl) := (cell_of_row W b 3 _ _ _ h).trans rfl
theorem BoxN.c4 : W.cell? ⟨b, 4, none⟩ = some (.int .i64 x.cmd.sq) := (cell_of_row W b 4 _ _ _ h).trans rfl
theorem BoxN.c5 : W.cell? ⟨b, 5, none⟩ = some (.int .i64 x.cmd.fr) := (cell_of_row W b 5 _ _ _ h).trans rfl
theorem BoxN.c6 : W.cell? ⟨b, 6, none⟩ = some (.int .i64 x.cmd.to) := (cell_of_row W b 6 _ _ _ h).trans rfl
theorem BoxN.c7 : W.cell? ⟨b, 7, none⟩ = some (.slice x.cmd.da.a x.cmd.da.n x.cmd.da.c) := (cell_of_row W b 7 _ _ _ h).trans rfl
theorem BoxN.c8 : W.cell? ⟨b, 8, none⟩ = some (.bool x.rep.ok) := (cell_of_row W b 8 _ _ _ h).trans rfl
theorem BoxN.c9 : W.cell? ⟨b, 9, none⟩ = some (.slice x.rep.da.a x.rep.da.n x.rep.da.c) := (cell_of_row W b 9 _ _ _ h).trans rfl
end

/-- A command's box that nobody has filled. -/
def BoxZ (W : World) (b : Nat) : Prop := W.heap[b]? = some (.cells #[.int .i64 0, .int .i64 0, .int .i64 0, .int .i64 0, .int .i64 0, .slice none 0 0] 57 (0, 0))
theorem BoxZ.c (W : World) (b : Nat) (h : BoxZ W b) : (∃ v, W.cell? ⟨b, 0, none⟩ = some v) ∧ (∃ v, W.cell? ⟨b, 1, none⟩ = some v) ∧ (∃ v, W.cell? ⟨b, 2, none⟩ = some v) ∧ (∃ v, W.cell? ⟨b, 3, none⟩ = some v) ∧ (∃ v, W.cell? ⟨b, 4, none⟩ = some v) ∧ (∃ v, W.cell? ⟨b, 5, none⟩ = some v) :=
  ⟨⟨_, (cell_of_row W b 0 _ _ _ h).trans rfl⟩, ⟨_, (cell_of_row W b 1 _ _ _ h).trans rfl⟩, ⟨_, (cell_of_row W b 2 _ _ _ h).trans rfl⟩, ⟨_, (cell_of_row W b 3 _ _ _ h).trans rfl⟩, ⟨_, (cell_of_row W b 4 _ _ _ h).trans rfl⟩, ⟨_, (cell_of_row W b 5 _ _ _ h).trans rfl⟩⟩
theorem BoxZ.f (W : World) (b : Nat) (h : BoxZ W b) (i : Nat) : W.frozen? ⟨b, i, none⟩ = false := by
  unfold BoxZ at h
  simp [World.frozen?, h]

theorem BoxZ.non {W W' : World} {b : Nat} (h : BoxZ W b) (k : Kp Non W W') : BoxZ W' b := k.heap h (fun f => f)
/-- It is filled. -/
theorem BoxZ.fill {W : World} {b : Nat} (h : BoxZ W b) (x : CmdV) :
    ∃ V, (((((W.setCell ⟨b, 0, none⟩ (.int .i64 x.op)).setCell ⟨b, 1, none⟩ (.int .i64 x.cl)).setCell ⟨b, 2, none⟩ (.int .i64 x.sq)).setCell ⟨b, 3, none⟩ (.int .i64 x.fr)).setCell ⟨b, 4, none⟩ (.int .i64 x.to)).setCell ⟨b, 5, none⟩ (.slice x.da.a x.da.n x.da.c) = V ∧ BoxC V b x ∧ Kp (One b) W V := by
  have h1 := heap_setCell_same W b 0 _ _ (.int .i64 x.op) h
  have h2 := heap_setCell_same _ b 1 _ _ (.int .i64 x.cl) h1
  have h3 := heap_setCell_same _ b 2 _ _ (.int .i64 x.sq) h2
  have h4 := heap_setCell_same _ b 3 _ _ (.int .i64 x.fr) h3
  have h5 := heap_setCell_same _ b 4 _ _ (.int .i64 x.to) h4
  have k0 := Kp.refl (One b) W
  have k1 := k0.setCell (p := ⟨b, 0, none⟩) (.inl rfl) (.int .i64 x.op)
  have k2 := k1.setCell (p := ⟨b, 1, none⟩) (.inl rfl) (.int .i64 x.cl)
  have k3 := k2.setCell (p := ⟨b, 2, none⟩) (.inl rfl) (.int .i64 x.sq)
  have k4 := k3.setCell (p := ⟨b, 3, none⟩) (.inl rfl) (.int .i64 x.fr)
  have k5 := k4.setCell (p := ⟨b, 4, none⟩) (.inl rfl) (.int .i64 x.to)
  exact ⟨_, rfl, heap_setCell_same _ b 5 _ _ (.slice x.da.a x.da.n x.da.c) h5, k5.setCell (p := ⟨b, 5, none⟩) (.inl rfl) (.slice x.da.a x.da.n x.da.c)⟩
/-- Two such boxes, made one after the other. -/
theorem boxZ2 (W : World) : BoxZ ((W.alloc (.cells #[.int .i64 0, .int .i64 0, .int .i64 0, .int .i64 0, .int .i64 0, .slice none 0 0] 57)).alloc (.cells #[.int .i64 0, .int .i64 0, .int .i64 0, .int .i64 0, .int .i64 0, .slice none 0 0] 57)).drew W.heap.size ∧
    BoxZ ((W.alloc (.cells #[.int .i64 0, .int .i64 0, .int .i64 0, .int .i64 0, .int .i64 0, .slice none 0 0] 57)).alloc (.cells #[.int .i64 0, .int .i64 0, .int .i64 0, .int .i64 0, .int .i64 0, .slice none 0 0] 57)).drew (W.heap.size + 1) ∧
    Kp Non W ((W.alloc (.cells #[.int .i64 0, .int .i64 0, .int .i64 0, .int .i64 0, .int .i64 0, .slice none 0 0] 57)).alloc (.cells #[.int .i64 0, .int .i64 0, .int .i64 0, .int .i64 0, .int .i64 0, .slice none 0 0] 57)).drew := by
  have z1 := heap_alloc_new W (.cells #[.int .i64 0, .int .i64 0, .int .i64 0, .int .i64 0, .int .i64 0, .slice none 0 0] 57)
  have z2 := heap_alloc_new (W.alloc (.cells #[.int .i64 0, .int .i64 0, .int .i64 0, .int .i64 0, .int .i64 0, .slice none 0 0] 57)) (.cells #[.int .i64 0, .int .i64 0, .int .i64 0, .int .i64 0, .int .i64 0, .slice none 0 0] 57)
  rw [World.size_alloc] at z2
  exact ⟨BoxZ.non (((Kp.refl Non _).alloc _).heap z1 (fun f => f)) ((Kp.refl Non _).drew), BoxZ.non z2 ((Kp.refl Non _).drew), (((Kp.refl Non W).alloc _).alloc _).drew⟩

/-- What the region reads. -/
structure SameCl (bs : Nat) (x y : RanV) (W : World) : Prop where
  g1 : W.cell? ⟨bs, 2, none⟩ = some (.int .i64 x.cmd.op)
  g2 : W.cell? ⟨bs, 3, none⟩ = some (.int .i64 x.cmd.cl)
  g3 : W.cell? ⟨bs, 4, none⟩ = some (.int .i64 x.cmd.sq)
  g4 : W.cell? ⟨bs, 5, none⟩ = some (.int .i64 x.cmd.fr)
  g5 : W.cell? ⟨bs, 6, none⟩ = some (.int .i64 x.cmd.to)
  g6 : W.cell? ⟨bs, 7, none⟩ = some (.slice x.cmd.da.a x.cmd.da.n x.cmd.da.c)
  g7 : W.cell? ⟨bs + 1, 2, none⟩ = some (.int .i64 y.cmd.op)
  g8 : W.cell? ⟨bs + 1, 3, none⟩ = some (.int .i64 y.cmd.cl)
  g9 : W.cell? ⟨bs + 1, 4, none⟩ = some (.int .i64 y.cmd.sq)
  g10 : W.cell? ⟨bs + 1, 5, none⟩ = some (.int .i64 y.cmd.fr)
  g11 : W.cell? ⟨bs + 1, 6, none⟩ = some (.int .i64 y.cmd.to)
  g12 : W.cell? ⟨bs + 1, 7, none⟩ = some (.slice y.cmd.da.a y.cmd.da.n y.cmd.da.c)

set_option maxRecDepth 100000 in
set_option maxHeartbeats 1000000 in
theorem same_calls (x y : RanV) (w : World) (hx : x.there w) (hy : y.there w) : Calls Try.prog 32 #[valRan x, valRan y] w (BoolOut (sameB x y) w) := by
  show Calls Try.prog 32 #[.agg #[.int .i64 x.ref.1, .int .i64 x.ref.2, .int .i64 x.cmd.op, .int .i64 x.cmd.cl, .int .i64 x.cmd.sq, .int .i64 x.cmd.fr, .int .i64 x.cmd.to, .slice x.cmd.da.a x.cmd.da.n x.cmd.da.c, .bool x.rep.ok, .slice x.rep.da.a x.rep.da.n x.rep.da.c], .agg #[.int .i64 y.ref.1, .int .i64 y.ref.2, .int .i64 y.cmd.op, .int .i64 y.cmd.cl, .int .i64 y.cmd.sq, .int .i64 y.cmd.fr, .int .i64 y.cmd.to, .slice y.cmd.da.a y.cmd.da.n y.cmd.da.c, .bool y.rep.ok, .slice y.rep.da.a y.rep.da.n y.rep.da.c]] w _
  go_enter Try.func32, Try.ntmps32
  go_upto_region 1 with (fail)
  have hX := BoxN.new w x
  have hY := BoxN.new (w.alloc (.cells #[.int .i64 x.ref.1, .int .i64 x.ref.2, .int .i64 x.cmd.op, .int .i64 x.cmd.cl, .int .i64 x.cmd.sq, .int .i64 x.cmd.fr, .int .i64 x.cmd.to, x.cmd.da.v, .bool x.rep.ok, x.rep.da.v] 61)) y
  rw [World.size_alloc] at hY
  have hX := hX.non ((Kp.refl Non _).alloc (.cells #[.int .i64 y.ref.1, .int .i64 y.ref.2, .int .i64 y.cmd.op, .int .i64 y.cmd.cl, .int .i64 y.cmd.sq, .int .i64 y.cmd.fr, .int .i64 y.cmd.to, y.cmd.da.v, .bool y.rep.ok, y.rep.da.v] 61))
  have hk : Kp Non w ((w.alloc (.cells #[.int .i64 x.ref.1, .int .i64 x.ref.2, .int .i64 x.cmd.op, .int .i64 x.cmd.cl, .int .i64 x.cmd.sq, .int .i64 x.cmd.fr, .int .i64 x.cmd.to, x.cmd.da.v, .bool x.rep.ok, x.rep.da.v] 61)).alloc (.cells #[.int .i64 y.ref.1, .int .i64 y.ref.2, .int .i64 y.cmd.op, .int .i64 y.cmd.cl, .int .i64 y.cmd.sq, .int .i64 y.cmd.fr, .int .i64 y.cmd.to, y.cmd.da.v, .bool y.rep.ok, y.rep.da.v] 61)) := ((Kp.refl _ w).alloc _).alloc _
  simp only [Tx.v] at hX hY hk
  generalize (w.alloc (.cells #[.int .i64 x.ref.1, .int .i64 x.ref.2, .int .i64 x.cmd.op, .int .i64 x.cmd.cl, .int .i64 x.cmd.sq, .int .i64 x.cmd.fr, .int .i64 x.cmd.to, .slice x.cmd.da.a x.cmd.da.n x.cmd.da.c, .bool x.rep.ok, .slice x.rep.da.a x.rep.da.n x.rep.da.c] 61)).alloc (.cells #[.int .i64 y.ref.1, .int .i64 y.ref.2, .int .i64 y.cmd.op, .int .i64 y.cmd.cl, .int .i64 y.cmd.sq, .int .i64 y.cmd.fr, .int .i64 y.cmd.to, .slice y.cmd.da.a y.cmd.da.n y.cmd.da.c, .bool y.rep.ok, .slice y.rep.da.a y.rep.da.n y.rep.da.c] 61) = W at *
  generalize w.heap.size = bs at *
  have HXY := Lib.hid (And.intro hX hY)
  have cl : ∀ W', Kp Non W W' → SameCl bs x y W' := fun W' q => ⟨(hX.non q).c2, (hX.non q).c3, (hX.non q).c4, (hX.non q).c5, (hX.non q).c6, (hX.non q).c7, (hY.non q).c2, (hY.non q).c3, (hY.non q).c4, (hY.non q).c5, (hY.non q).c6, (hY.non q).c7⟩
  have CL := Lib.hid cl
  clear hX hY cl
  go_cut [5, 6] from 7 (fun v5 v6 wc => ∃ b1 b2, v5 = .pointer (some ⟨b1, 0, none⟩) ∧ v6 = .pointer (some ⟨b2, 0, none⟩) ∧ BoxC wc b1 x.cmd ∧ BoxC wc b2 y.cmd ∧ Kp Non W wc)
  case first =>
    refine wp_region_free [0,0,0,0,1,1,1,2] (by kernel_rfl) (by kernel_rfl) (SameCl bs x y) (CL.out _ ((Kp.refl _ _).drew)) [4,5,6,7] rfl ?_
    repeat (first | (with_reducible refine pure_skip ?_) | ((with_reducible refine pure_k rfl ?_); intro K hK; apply Exists.intro; refine ⟨fun w' hC => ?_, ?_⟩; (obtain ⟨g1, g2, g3, g4, g5, g6, g7, g8, g9, g10, g11, g12⟩ := hC; go_simp; rfl); go_simp; refine hK _ ?_; clear hK K))
    with_reducible refine pure_nil ?_
    show wpFree _ _ _ _ _ 4 _ _ _
    refine free_two 4 5 (by kernel_rfl) ?_ ?_
    refine free_at _ rfl rfl 1 rfl rfl fun K hK => ?_
    go_simp
    refine hK _ _ (fun _ => CL.out _ (((Kp.refl Non W).alloc _).drew)) ?_
    clear hK K
    refine free_one 5 (by kernel_rfl) ?_
    refine free_at _ rfl rfl 1 rfl rfl fun K hK => ?_
    go_simp
    refine hK _ _ (fun _ => CL.out _ ((((Kp.refl Non W).alloc _).alloc _).drew)) ?_
    clear hK K
    obtain ⟨z1, z2, kz⟩ := boxZ2 W
    generalize ((W.alloc (.cells #[.int .i64 0, .int .i64 0, .int .i64 0, .int .i64 0, .int .i64 0, .slice none 0 0] 57)).alloc (.cells #[.int .i64 0, .int .i64 0, .int .i64 0, .int .i64 0, .int .i64 0, .slice none 0 0] 57)).drew = V at *
    have hne : W.heap.size ≠ W.heap.size + 1 := by omega
    have nk : ∀ V', Kp (fun i => i = W.heap.size ∨ i = W.heap.size + 1) V V' → Kp Non W V' := fun V' q => kz.comp q (fun _ _ f => f) (fun i hi h => absurd h (by omega))
    generalize W.heap.size + 1 = b2 at z1 z2 hne nk ⊢
    generalize W.heap.size = b1 at z1 z2 hne nk ⊢
    rotate_left
    refine free_at _ rfl rfl 1 rfl rfl fun K hK => ?_
    go_simp
    refine hK _ _ (fun _ => CL.out _ (((Kp.refl Non W).alloc _).drew)) ?_
    clear hK K
    refine free_one 4 (by kernel_rfl) ?_
    refine free_at _ rfl rfl 1 rfl rfl fun K hK => ?_
    go_simp
    refine hK _ _ (fun _ => CL.out _ ((((Kp.refl Non W).alloc _).alloc _).drew)) ?_
    clear hK K
    obtain ⟨z2, z1, kz⟩ := boxZ2 W
    generalize ((W.alloc (.cells #[.int .i64 0, .int .i64 0, .int .i64 0, .int .i64 0, .int .i64 0, .slice none 0 0] 57)).alloc (.cells #[.int .i64 0, .int .i64 0, .int .i64 0, .int .i64 0, .int .i64 0, .slice none 0 0] 57)).drew = V at *
    have hne : W.heap.size + 1 ≠ W.heap.size := by omega
    have nk : ∀ V', Kp (fun i => i = W.heap.size ∨ i = W.heap.size + 1) V V' → Kp Non W V' := fun V' q => kz.comp q (fun _ _ f => f) (fun i hi h => absurd h (by omega))
    generalize W.heap.size + 1 = b1 at z1 z2 hne nk ⊢
    generalize W.heap.size = b2 at z1 z2 hne nk ⊢
    have nk : ∀ V', Kp (fun i => i = b1 ∨ i = b2) V V' → Kp Non W V' := fun V' q => nk V' (q.mono fun _ _ h => h.symm)
    all_goals
      obtain ⟨⟨v0, p0⟩, ⟨v1, p1⟩, ⟨v2, p2⟩, ⟨v3, p3⟩, ⟨v4, p4⟩, ⟨v5, p5⟩⟩ := BoxZ.c _ _ z1
      have e0 := BoxZ.f _ _ z1 0
      have e1 := BoxZ.f _ _ z1 1
      have e2 := BoxZ.f _ _ z1 2
      have e3 := BoxZ.f _ _ z1 3
      have e4 := BoxZ.f _ _ z1 4
      have e5 := BoxZ.f _ _ z1 5
      refine free_one 6 (by kernel_rfl) ?_
      refine free_at _ rfl rfl 1 rfl rfl fun K hK => ?_
      go_simp
      obtain ⟨V1, eV, y1, k1⟩ := z1.fill x.cmd
      rw [eV]
      have k1' : Kp (fun i => i = b1 ∨ i = b2) V V1 := k1.mono fun _ _ h => .inl h
      refine hK _ _ (fun _ => CL.out _ (nk _ k1')) ?_
      clear hK K eV p0 p1 p2 p3 p4 p5 e0 e1 e2 e3 e4 e5 z1 v0 v1 v2 v3 v4 v5
      have z2 : BoxZ V1 b2 := k1.heap z2 (fun e => hne e.symm)
      obtain ⟨⟨v0, p0⟩, ⟨v1, p1⟩, ⟨v2, p2⟩, ⟨v3, p3⟩, ⟨v4, p4⟩, ⟨v5, p5⟩⟩ := BoxZ.c _ _ z2
      have e0 := BoxZ.f _ _ z2 0
      have e1 := BoxZ.f _ _ z2 1
      have e2 := BoxZ.f _ _ z2 2
      have e3 := BoxZ.f _ _ z2 3
      have e4 := BoxZ.f _ _ z2 4
      have e5 := BoxZ.f _ _ z2 5
      refine free_one 7 (by kernel_rfl) ?_
      refine free_at _ rfl rfl 2 rfl rfl fun K hK => ?_
      go_simp
      obtain ⟨V2, eV, y2, k2⟩ := z2.fill y.cmd
      rw [eV]
      have k2' : Kp (fun i => i = b1 ∨ i = b2) V V2 := k1'.trans (k2.mono fun _ _ h => .inr h)
      refine hK _ _ (fun h => absurd h (by decide)) (free_nil ?_)
      go_step
      go_step
      go_meet
      case rel => exact ⟨b1, b2, rfl, rfl, k2.heap y1 hne, y2, nk _ k2'⟩
  case rest =>
    obtain ⟨b1, b2, rfl, rfl, Y1, Y2, hk2⟩ := hcut
    have x0 := Y1.c0
    have y0 := Y2.c0
    have x1 := Y1.c1
    have y1 := Y2.c1
    have x2 := Y1.c2
    have y2 := Y2.c2
    have x3 := Y1.c3
    have y3 := Y2.c3
    have x4 := Y1.c4
    have y4 := Y2.c4
    have x5 := Y1.c5
    have y5 := Y2.c5
    have u8 := (HXY.out.1.non hk2).c8
    have v8 := (HXY.out.2.non hk2).c8
    have u9 := (HXY.out.1.non hk2).c9
    have v9 := (HXY.out.2.non hk2).c9
    have hkW := hk.trans hk2
    have HE1 := Lib.hid (equal_calls x.cmd.da y.cmd.da)
    have HE2 := Lib.hid (equal_calls x.rep.da y.rep.da)
    have HX := Lib.hid hx
    have HY := Lib.hid hy
    have HS : Hid (sameB x y = ((x.cmd.op == y.cmd.op) && (x.cmd.cl == y.cmd.cl) && (x.cmd.sq == y.cmd.sq) && (x.cmd.fr == y.cmd.fr) && (x.cmd.to == y.cmd.to) && decide (x.cmd.da.l = y.cmd.da.l) && ((x.rep.ok == y.rep.ok) && decide (x.rep.da.l = y.rep.da.l)))) := Lib.hid rfl
    clear hx hy hk hk2 HXY CL Y1 Y2
    generalize e1 : (x.cmd.op == y.cmd.op) = p1 at HS ⊢
    generalize e2 : (x.cmd.cl == y.cmd.cl) = p2 at HS ⊢
    generalize e3 : (x.cmd.sq == y.cmd.sq) = p3 at HS ⊢
    generalize e4 : (x.cmd.fr == y.cmd.fr) = p4 at HS ⊢
    generalize e5 : (x.cmd.to == y.cmd.to) = p5 at HS ⊢
    generalize e6 : (x.rep.ok == y.rep.ok) = p6 at HS ⊢
    generalize decide (x.cmd.da.l = y.cmd.da.l) = p7 at HS HE1 ⊢
    generalize decide (x.rep.da.l = y.rep.da.l) = p8 at HS HE2 ⊢
    rcases p1 with _ | _
    · go_wp2_with fail
      go_ret
      exact ⟨ret_bool (by rw [HS.out]; simp), hkW⟩
    rcases p2 with _ | _
    · go_wp2_with fail
      go_ret
      exact ⟨ret_bool (by rw [HS.out]; simp), hkW⟩
    rcases p3 with _ | _
    · go_wp2_with fail
      go_ret
      exact ⟨ret_bool (by rw [HS.out]; simp), hkW⟩
    rcases p4 with _ | _
    · go_wp2_with fail
      go_ret
      exact ⟨ret_bool (by rw [HS.out]; simp), hkW⟩
    rcases p5 with _ | _
    · go_wp2_with fail
      go_ret
      exact ⟨ret_bool (by rw [HS.out]; simp), hkW⟩
    go_wp2_with fail
    refine (HE1.out wc (HX.out.1.non hkW) (HY.out.1.non hkW)).mono ?_
    rintro e w1 ⟨rfl, hk1⟩
    have hkV := hkW.trans hk1
    have u8 := hk1.cell u8 (fun f => f)
    have v8 := hk1.cell v8 (fun f => f)
    have u9 := hk1.cell u9 (fun f => f)
    have v9 := hk1.cell v9 (fun f => f)
    rcases p7 with _ | _
    · go_wp2_with fail
      go_ret
      exact ⟨ret_bool (by rw [HS.out]; simp), hkV⟩
    rcases p6 with _ | _
    · go_wp2_with fail
      go_ret
      exact ⟨ret_bool (by rw [HS.out]; simp), hkV⟩
    go_wp2_with fail
    refine (HE2.out w1 (HX.out.2.non hkV) (HY.out.2.non hkV)).mono ?_
    rintro e w2 ⟨rfl, hk2⟩
    go_wp2_with fail
    go_ret
    exact ⟨ret_bool (by rw [HS.out]; simp), hkV.trans hk2⟩
end Go.Proofs.Ytpehfnobgdjgcaa
