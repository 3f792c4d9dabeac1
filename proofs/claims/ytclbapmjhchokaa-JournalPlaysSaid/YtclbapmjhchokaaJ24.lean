/-
  A journal anew, on both disks.
-/
import Derived.Test.YtclbapmjhchokaaJ23
namespace Go.Proofs.Ytclbapmjhchokaa
open Go.RowKit

/-- A journal and the document's journal lie apart. -/
theorem jx_ne {F : Nat → Prop} {b0 b1 : Nat} {w : World} {j d x xd : Nat} {s s2 : St} {J J2 : JSt} {ra xa : Option Addr} {rc : Nat} {ia : Option Addr} {ic : Nat} {vs : List Value} (hJ : Jou F b0 w j d s J ra) (hX : RJAt b1 w x xd s2 J2 xa rc ia ic vs) :
    d ≠ x ∧ j ≠ x ∧ d ≠ xd ∧ j ≠ xd ∧ ∀ k, Blk ra k → k ≠ x ∧ k ≠ xd := by
  obtain ⟨_, _, _, _, hJ⟩ := hJ
  obtain ⟨c1, f1, t1⟩ := hJ.dev.tag
  obtain ⟨c2, f2, t2⟩ := hX.dev.tag
  have t3 := hJ.row
  have t4 := hX.row
  refine ⟨?_, ?_, ?_, ?_, fun k hk => ?_⟩
  · rintro rfl; rw [t1] at t4; exact absurd t4 (by simp)
  · rintro rfl; rw [t3] at t4; exact absurd t4 (by simp)
  · rintro rfl; rw [t1] at t2; cases t2
  · rintro rfl; rw [t3] at t2; cases t2
  · obtain ⟨c5, f5, t5⟩ := hJ.rows.tag k hk
    refine ⟨?_, ?_⟩
    · rintro rfl; rw [t5] at t4; cases t4
    · rintro rfl; rw [t5] at t2; cases t2

/-- What an opening on both leaves. -/
def Open2Post (b0 b1 d x xd : Nat) (s' : St) (J' : JSt) (xa : Option Addr) (w : World) (e : Ending) (w' : World) : Prop :=
  ∃ j ra xa', e = .returned (.tuple #[.pointer (some ⟨j, 0, none⟩), .bool true]) ∧ Jou Non b0 w' j d s' J' ra ∧ RJou b1 w' x xd s' J' xa' ∧ (∀ k, Blk ra k → ¬ Blk xa' k) ∧ w.heap.size ≤ j ∧ (∀ k, Blk ra k → w.heap.size ≤ k) ∧ (∀ k, Blk xa' k → w.heap.size ≤ k) ∧ Kp (fun k => k = d ∨ JS xd x xa k) w w'

set_option maxRecDepth 100000 in
set_option maxHeartbeats 2000000 in
theorem open2_calls {b0 b1 : Nat} {w : World} {d x xd : Nat} {s s' : St} {J J' : JSt} {xa : Option Addr} (hd : Dev Non w d s) (hX : RJou b1 w x xd s J xa) (hok : s.ok) (hb0 : b0 ≤ d) (hbw : b0 ≤ w.heap.size) (hbw1 : b1 ≤ w.heap.size)
    (hop : jopen s = (0, s', J')) (hsz : s.log.length ≤ 1000000000) (hf : fwhy s.image = 0) (hJ' : J' = ⟨unfData s.image, (scanL s.log).1, false⟩)
    (hc : (scanL s.log).2.2 = 1 ∧ s' = s ∨ (scanL s.log).2.2 = 2 ∧ s.cut ((scanL s.log).2.1 : Nat) = (0, s')) :
    Calls Try.prog 60 #[.pointer (some ⟨d, 0, none⟩), .pointer (some ⟨x, 0, none⟩)] w (Open2Post b0 b1 d x xd s' J' xa w) := by
  have HOP := Lib.hid (open_calls b0 d s w hd hok (fun f => f) hb0 hbw)
  rw [hop] at HOP
  have hul : (unfData s.image).length ≤ 1000000000000 := by
    have := hok.image
    unfold unfData
    rw [List.length_take, List.length_drop]
    omega
  have hss := scanL_sizes s.log
  have hsb := scanL_bound s.log
  have hsz2 : sizes (scanL s.log).1 ≤ 1000000000 := by omega
  have hil := hok.image
  have hll := hok.log
  have HC := Lib.hid hc
  have HJ := Lib.hid hJ'
  have HF := Lib.hid hf
  have HO := Lib.hid hok
  clear hc hop hJ' hf hok hss hsb
  go_enter Try.func60, Try.ntmps60
  go_wp2_with fail
  refine HOP.out.mono ?_
  rintro e w1 ⟨hd1, hk1, hfo⟩
  rw [if_pos rfl] at hfo
  obtain ⟨j, ra, rfl, hJ1, hjw, hran⟩ := hfo
  have hX1 : RJou b1 w1 x xd s J xa := by
    obtain ⟨rc, ia, ic, vs, hX⟩ := hX
    have hne : xd ≠ d := hX.dev.ne hd
    have hxd : ¬ One d x := by
      intro q
      obtain ⟨cs, fr, h1⟩ := hd.tag
      rw [← (show x = d from q), hX.row] at h1
      cases h1
    refine ⟨rc, ia, ic, vs, hX.kp hk1 hne hxd (fun i hi q => ?_) hd.noB⟩
    obtain ⟨cs, fr, h1⟩ := hX.rows.tag i hi
    obtain ⟨cs', fr', h2⟩ := hd.tag
    rw [show i = d from q, h2] at h1
    cases h1
  have HX1 := hX1
  obtain ⟨rc, ia, ic, vs, hX1⟩ := hX1
  have c0 := hX1.c0
  obtain ⟨da, dc, sa, sc, la, lc, hR⟩ := hX1.dev
  have z1 := hR.c1
  have z4 := hR.c4
  have hRi := hR.image
  have hRl := hR.log
  have hkD : Kp Non w1 w1.drew := (Kp.refl _ _).drew
  go_wp2_with fail
  refine wp_region_pieces [(16, [0,0,0,0,0,0,0,0,0,0,0,0,0,0,1,2,9,9,9,9,9,9,9,9], (fun w' => w'.cell? ⟨x, 0, none⟩ = some (.pointer (some ⟨xd, 0, none⟩)) ∧ w'.cell? ⟨xd, 1, none⟩ = some (.slice da s.image.length dc) ∧ w'.cell? ⟨xd, 4, none⟩ = some (.slice la s.log.length lc))), (24, [9,9,9,9,9,9,9,9,9,9,9,9,9,9,9,9,0,0,0,0,0,0,0,0], (fun _ => True))] (by kernel_rfl) (by kernel_rfl) ?_
  refine (And.intro ?_ ?_ : _ ∧ _)
  · exact ⟨c0, z1, z4⟩
  refine PB.out ?_
  repeat (first | (with_reducible refine pb_skip ?_) | ((with_reducible refine pb_k rfl ?_); intro K hK; apply Exists.intro; refine ⟨fun w' hC => ?_, ?_⟩; (obtain ⟨g1, g2, g3⟩ := hC; go_simp; rfl); go_simp; refine hK _ ?_; clear hK K))
  with_reducible refine pb_nil ?_
  simp only [List.take_succ_cons, List.take_zero, List.drop_zero]
  refine CB.out ?_
  repeat (with_reducible refine cb_skip ?_)
  with_reducible refine cb_step rfl fun K hK => ?_
  go_simp
  refine (find_calls da s.image.length dc s.image la s.log.length lc s.log w1.drew (hRi.non hkD) (hRl.non hkD) hil hll).mono ?_
  rintro e w2 ⟨hk2, hf2⟩
  rw [if_neg (by rw [HF.out]; simp), if_neg (by rcases HC.out with ⟨q, _⟩ | ⟨q, _⟩ <;> omega)] at hf2
  obtain ⟨fa, fac, fr, frc, fvs, rfl, hOf, hSf, hRf, hfn⟩ := hf2
  have q2 := hkD.trans hk2
  have hX2 := hX1.non q2
  have hJ2 := hJ1.non q2
  go_simp
  refine hK _ _ (fun _ => ⟨q2.cell c0 (fun f => f), q2.cell z1 (fun f => f), q2.cell z4 (fun f => f)⟩) ?_
  clear hK K
  repeat (with_reducible refine cb_skip ?_)
  with_reducible refine cb_step rfl fun K hK => ?_
  go_simp
  refine hK _ _ (fun h => by cases h) ?_
  clear hK K
  with_reducible refine cb_nil ?_
  refine (And.intro ?_ ?_ : _ ∧ _)
  · trivial
  refine PB.out ?_
  repeat (first | (with_reducible refine pb_skip ?_) | ((with_reducible refine pb_k rfl ?_); intro K hK; apply Exists.intro; refine ⟨fun w' hC => ?_, ?_⟩; (go_simp; rfl); go_simp; refine hK _ ?_; clear hK K))
  with_reducible refine pb_nil ?_
  simp only [List.take_succ_cons, List.take_zero, List.drop_succ_cons, List.drop_zero]
  refine CB.out ?_
  repeat (with_reducible refine cb_skip ?_)
  with_reducible refine cb_nil ?_
  simp only [Then, wpPieces]
  have hran2 : ∀ k, Blk ra k → ¬ Blk fr k := by
    intro k h1 h2
    have q3 := (hJ1.old k (.inr (.inr h1))).2
    have q4 := hfn k h2
    have : w1.drew.heap.size = w1.heap.size := rfl
    omega
  have hs1 := hk1.size
  -- what follows the cut, on both
  rcases HC.out with ⟨hw, hs'⟩ | ⟨hw, hs'⟩
  · have hfc : fcut s.log = -1 := by unfold fcut; rw [hw]; rfl
    rw [hfc]
    subst hs'
    have y1 := hX2.c1
    have y2 := hX2.c2
    have y3 := hX2.c3
    have f1 := hX2.f 1
    have f2 := hX2.f 2
    have f3 := hX2.f 3
    obtain ⟨n1, n2, n3, n4, n5⟩ := jx_ne hJ2 hX2
    clear c0 z1 z4
    go_wp2_with fail
    have k23 : Kp (One x) w2 (((w2.setCell ⟨x, 1, none⟩ (.slice fa (unfData s'.image).length fac)).setCell ⟨x, 2, none⟩ (.slice fr (scanL s'.log).1.length frc)).setCell ⟨x, 3, none⟩ (.bool false)) := (((Kp.refl (One x) w2).set1 1 _).set1 2 _).set1 3 _
    have row3 := heap_setCell_row (heap_setCell_row (heap_setCell_row hX2.row 1 (.slice fa (unfData s'.image).length fac)) 2 (.slice fr (scanL s'.log).1.length frc)) 3 (.bool false)
    generalize ((w2.setCell ⟨x, 1, none⟩ (.slice fa (unfData s'.image).length fac)).setCell ⟨x, 2, none⟩ (.slice fr (scanL s'.log).1.length frc)).setCell ⟨x, 3, none⟩ (.bool false) = w5 at *
    have hnbx := hX2.jnoB
    have hJ5 : Jou Non b0 w5 j d s' J' ra := hJ2.kp k23 n1 n2 (fun k hk => (n5 k hk).1) hnbx
    have hfrx : ∀ k, Blk fr k → k ≠ x := by
      rintro k hk rfl
      obtain ⟨c5, f5, t5⟩ := hSf.tag k hk
      rw [hX2.row] at t5
      cases t5
    have hX5 : RJou b1 w5 x xd s' J' fr := by
      rw [HJ.out]
      exact ⟨frc, fa, fac, fvs, hX2.set (k23.mono fun _ _ h => .inl h) row3 (hOf.bytes.nob k23 hnbx) (hSf.kp k23 hfrx) (hRf.kp k23 hnbx) (fun k hk => by have := hfn k hk; have : w1.drew.heap.size = w1.heap.size := rfl; omega)⟩
    refine (alike_calls hJ5 hX5 (by rw [HJ.out]; exact hsz2) (by rw [HJ.out]; exact hul)).mono ?_
    rintro e w6 ⟨rfl, hk6⟩
    go_wp2_with fail
    go_ret2
    refine ⟨j, ra, fr, rfl, hJ5.non hk6, hX5.non hk6, hran2, hjw, hran, fun k hk => by have := hfn k hk; have : w1.drew.heap.size = w1.heap.size := rfl; omega, ?_⟩
    have t1 : Kp (fun k => k = d ∨ JS xd x xa k) w w2 := hk1.comp q2 (fun _ _ h => .inl h) (fun _ _ f => f.elim)
    have t2 : Kp (fun k => k = d ∨ JS xd x xa k) w w2 := t1
    exact (t2.comp k23 (fun _ _ h => h) (fun _ _ h => .inr (.inr (.inl h)))).comp hk6 (fun _ _ h => h) (fun _ _ f => f.elim)
  · have hfc : fcut s.log = ((scanL s.log).2.1 : Nat) := by unfold fcut; rw [hw]; rfl
    rw [hfc]
    have x0 := hX2.c0
    have HS := Lib.hid hs'
    obtain ⟨m1, m2, m3, m4, m5⟩ := jx_ne hJ2 hX2
    have hrdx := hX2.rd
    generalize hat : (scanL s.log).2.1 = at_ at *
    have g0 : (0 : Int) ≤ (at_ : Int) := by omega
    clear c0 z1 z4 hat hs'
    go_wp2_with fail
    refine (refcut_calls xd s (at_ : Nat) w2 hX2.dev HO.out).mono ?_
    rw [HS.out]
    rintro e w3 ⟨rfl, hd3, hk3⟩
    have hX3 := hX2.step hk3 hd3
    have hnb2 := hX2.dev.noB
    have hJ3 := hJ2.kp hk3 m3 m4 (fun k hk => (m5 k hk).2) hnb2
    have hfrd : ∀ k, Blk fr k → k ≠ xd := by
      rintro k hk rfl
      obtain ⟨c5, f5, t5⟩ := hSf.tag k hk
      obtain ⟨c6, f6, t6⟩ := hX2.dev.tag
      rw [t6] at t5
      cases t5
    have hSf3 := hSf.kp hk3 hfrd
    have hOf3 := hOf.bytes.nob hk3 hnb2
    have hRf3 := hRf.kp hk3 hnb2
    have y1 := hX3.c1
    have y2 := hX3.c2
    have y3 := hX3.c3
    have f1 := hX3.f 1
    have f2 := hX3.f 2
    have f3 := hX3.f 3
    obtain ⟨n1, n2, n3, n4, n5⟩ := jx_ne hJ3 hX3
    clear x0
    have x0 := hX3.c0
    go_wp2_with fail
    have k23 : Kp (One x) w3 (((w3.setCell ⟨x, 1, none⟩ (.slice fa (unfData s.image).length fac)).setCell ⟨x, 2, none⟩ (.slice fr (scanL s.log).1.length frc)).setCell ⟨x, 3, none⟩ (.bool false)) := (((Kp.refl (One x) w3).set1 1 _).set1 2 _).set1 3 _
    have row3 := heap_setCell_row (heap_setCell_row (heap_setCell_row hX3.row 1 (.slice fa (unfData s.image).length fac)) 2 (.slice fr (scanL s.log).1.length frc)) 3 (.bool false)
    generalize ((w3.setCell ⟨x, 1, none⟩ (.slice fa (unfData s.image).length fac)).setCell ⟨x, 2, none⟩ (.slice fr (scanL s.log).1.length frc)).setCell ⟨x, 3, none⟩ (.bool false) = w5 at *
    have hnbx := hX3.jnoB
    have hJ5 : Jou Non b0 w5 j d s' J' ra := hJ3.kp k23 n1 n2 (fun k hk => (n5 k hk).1) hnbx
    have hfrx : ∀ k, Blk fr k → k ≠ x := by
      rintro k hk rfl
      obtain ⟨c5, f5, t5⟩ := hSf3.tag k hk
      rw [hX3.row] at t5
      cases t5
    have hX5 : RJou b1 w5 x xd s' J' fr := by
      rw [HJ.out]
      exact ⟨frc, fa, fac, fvs, hX3.set (k23.mono fun _ _ h => .inl h) row3 (hOf3.nob k23 hnbx) (hSf3.kp k23 hfrx) (hRf3.kp k23 hnbx) (fun k hk => by have := hfn k hk; have : w1.drew.heap.size = w1.heap.size := rfl; omega)⟩
    refine (alike_calls hJ5 hX5 (by rw [HJ.out]; exact hsz2) (by rw [HJ.out]; exact hul)).mono ?_
    rintro e w6 ⟨rfl, hk6⟩
    go_wp2_with fail
    go_ret2
    refine ⟨j, ra, fr, rfl, hJ5.non hk6, hX5.non hk6, hran2, hjw, hran, fun k hk => by have := hfn k hk; have : w1.drew.heap.size = w1.heap.size := rfl; omega, ?_⟩
    have t1 : Kp (fun k => k = d ∨ JS xd x xa k) w w2 := hk1.comp q2 (fun _ _ h => .inl h) (fun _ _ f => f.elim)
    have t2 : Kp (fun k => k = d ∨ JS xd x xa k) w w3 := t1.comp hk3 (fun _ _ h => h) (fun _ _ h => .inr (.inl h))
    exact (t2.comp k23 (fun _ _ h => h) (fun _ _ h => .inr (.inr (.inl h)))).comp hk6 (fun _ _ h => h) (fun _ _ f => f.elim)
end Go.Proofs.Ytclbapmjhchokaa
