/-
  Did a deed ask for a put? Was it done ahead? Which deed was it?
-/
import Derived.Test.YtpehfnobgdjgcaaG19
namespace Go.Proofs.Ytpehfnobgdjgcaa
open Go.RowKit

def askedB (d : DeedV) (p : PutV) (block : Int) : Bool :=
  !decide (block < d.fr) && !decide (d.to ≤ block) && (if d.op = 3 then decide (p.tx = ByteArray.empty) else decide (d.op = 2) && (decide (offN block d.fr < d.da.l.length) && decide (p.tx = textAt d.da.l (offN block d.fr))))
def aheadB (a b : DeedV) : Bool := decide (0 < a.en) && decide (a.en < b.be)
theorem tx_beq (a b : ByteArray) : (a.toList == b.toList) = decide (a = b) := by
  by_cases h : a = b
  · rw [h, decide_eq_true rfl]; exact beq_self_eq_true _
  · rw [decide_eq_false h]; exact (Lib.bytes_beq_false_iff _ _).2 h
theorem tx_empty (a : ByteArray) : a.toList.isEmpty = decide (a = ByteArray.empty) := by
  have := tx_beq a ByteArray.empty
  rw [← this]
  have e : ByteArray.empty.toList = [] := by unfold ByteArray.toList ByteArray.toList.loop; rfl
  rw [e]
  cases a.toList <;> rfl
theorem two_new (w : World) (t1 : TypeId) (l1 : List Value) (t2 : TypeId) (l2 : List Value) : ∃ V, (w.alloc (.cells l1.toArray t1)).alloc (.cells l2.toArray t2) = V ∧ Bx V w.heap.size t1 l1 ∧ Bx V (w.heap.size + 1) t2 l2 ∧ Kp Non w V := by
  refine ⟨_, rfl, Bx.non (Bx.new w t1 l1) ((Kp.refl Non _).alloc _), ?_, ((Kp.refl Non w).alloc _).alloc _⟩
  have := Bx.new (w.alloc (.cells l1.toArray t1)) t2 l2
  rwa [World.size_alloc] at this
theorem dp_new (w : World) (d : DeedV) (p : PutV) (t2 : TypeId) : ∃ V, (w.alloc (.cells #[.int .i64 d.cl, .int .i64 d.sq, .int .i64 d.op, .int .i64 d.fr, .int .i64 d.to, .slice d.da.a d.da.n d.da.c, .int .i64 d.be, .int .i64 d.en, .slice d.re.a d.re.n d.re.c] 28)).alloc (.cells #[.int .i64 p.sh, .int .i64 p.cl, .int .i64 p.sq, .int .i64 p.ref.1, .int .i64 p.ref.2, .string p.tx] t2) = V ∧ BxD V w.heap.size d ∧ Bx V (w.heap.size + 1) t2 (encPut p) ∧ Kp Non w V := two_new w _ (encDeed d) _ (encPut p)
theorem dd_new (w : World) (d p : DeedV) : ∃ V, (w.alloc (.cells #[.int .i64 d.cl, .int .i64 d.sq, .int .i64 d.op, .int .i64 d.fr, .int .i64 d.to, .slice d.da.a d.da.n d.da.c, .int .i64 d.be, .int .i64 d.en, .slice d.re.a d.re.n d.re.c] 28)).alloc (.cells #[.int .i64 p.cl, .int .i64 p.sq, .int .i64 p.op, .int .i64 p.fr, .int .i64 p.to, .slice p.da.a p.da.n p.da.c, .int .i64 p.be, .int .i64 p.en, .slice p.re.a p.re.n p.re.c] 28) = V ∧ BxD V w.heap.size d ∧ BxD V (w.heap.size + 1) p ∧ Kp Non w V := two_new w _ (encDeed d) _ (encDeed p)
theorem BxPt.cells {W : World} {b : Nat} {t : TypeId} {x : PutV} (h : Bx W b t (encPut x)) : W.cell? ⟨b, 0, none⟩ = some (.int .i64 x.sh) ∧ W.cell? ⟨b, 1, none⟩ = some (.int .i64 x.cl) ∧ W.cell? ⟨b, 2, none⟩ = some (.int .i64 x.sq) ∧ W.cell? ⟨b, 3, none⟩ = some (.int .i64 x.ref.1) ∧ W.cell? ⟨b, 4, none⟩ = some (.int .i64 x.ref.2) ∧ W.cell? ⟨b, 5, none⟩ = some (.string x.tx) := ⟨h.c rfl, h.c rfl, h.c rfl, h.c rfl, h.c rfl, h.c rfl⟩

set_option maxRecDepth 100000 in
set_option maxHeartbeats 1000000 in
theorem ahead_calls (x y : DeedV) (w : World) : Calls Try.prog 54 #[valDeed x, valDeed y] w (BoolOut (aheadB x y) w) := by
  show Calls Try.prog 54 #[.agg #[.int .i64 x.cl, .int .i64 x.sq, .int .i64 x.op, .int .i64 x.fr, .int .i64 x.to, .slice x.da.a x.da.n x.da.c, .int .i64 x.be, .int .i64 x.en, .slice x.re.a x.re.n x.re.c], .agg #[.int .i64 y.cl, .int .i64 y.sq, .int .i64 y.op, .int .i64 y.fr, .int .i64 y.to, .slice y.da.a y.da.n y.da.c, .int .i64 y.be, .int .i64 y.en, .slice y.re.a y.re.n y.re.c]] w (BoolOut (aheadB x y) w)
  obtain ⟨V, eV, h1, h2, kV⟩ := dd_new w x y
  obtain ⟨n0, n1, n2, n3, n4, n5, n6, n7, n8⟩ := h1.cells
  obtain ⟨m0, m1, m2, m3, m4, m5, m6, m7, m8⟩ := h2.cells
  have HV := Lib.hid eV
  clear eV h1 h2
  go_enter Try.func54, Try.ntmps54
  go_upto_region 1 with (fail)
  rw [HV.out]
  generalize w.heap.size = bs at *
  by_cases h1 : 0 < x.en
  · have d1 : decide (0 < x.en) = true := decide_eq_true h1
    have HD : Hid (decide (x.en < y.be) = aheadB x y) := Lib.hid (by simp [aheadB, h1])
    clear h1
    go_wp2_with fail
    go_ret
    exact ⟨ret_bool HD.out, kV⟩
  · have d1 : decide (0 < x.en) = false := decide_eq_false h1
    have HD : Hid (false = aheadB x y) := Lib.hid (by simp [aheadB, h1])
    clear h1
    go_wp2_with fail
    go_ret
    exact ⟨ret_bool HD.out, kV⟩

set_option maxRecDepth 100000 in
set_option maxHeartbeats 1000000 in
theorem asked_calls (d : DeedV) (p : PutV) (block : Int) (w : World) (hd : d.there w) : Calls Try.prog 53 #[valDeed d, valPut p, .int .i64 block] w (BoolOut (askedB d p block) w) := by
  show Calls Try.prog 53 #[.agg #[.int .i64 d.cl, .int .i64 d.sq, .int .i64 d.op, .int .i64 d.fr, .int .i64 d.to, .slice d.da.a d.da.n d.da.c, .int .i64 d.be, .int .i64 d.en, .slice d.re.a d.re.n d.re.c], .agg #[.int .i64 p.sh, .int .i64 p.cl, .int .i64 p.sq, .int .i64 p.ref.1, .int .i64 p.ref.2, .string p.tx], .int .i64 block] w (BoolOut (askedB d p block) w)
  obtain ⟨V, eV, h1, h2, kV⟩ := dp_new w d p 41
  obtain ⟨n0, n1, n2, n3, n4, n5, n6, n7, n8⟩ := h1.cells
  obtain ⟨m0, m1, m2, m3, m4, m5⟩ := BxPt.cells h2
  have HV := Lib.hid eV
  have hT : Texts V d.da.a d.da.n d.da.c d.da.l := hd.1.non kV
  have HC := Lib.hid fun W (r : Kp Non V W) => (And.intro (BxD.cells (Bx.non h1 r)) (BxPt.cells (Bx.non h2 r)))
  clear eV h1 h2
  go_enter Try.func53, Try.ntmps53
  go_upto_region 1 with (fail)
  rw [HV.out]
  generalize w.heap.size = bs at *
  go_upto_region 2 with (fail)
  rw [wrap_off]
  rcases Bool.eq_false_or_eq_true (decide (block < d.fr)) with d1 | d1
  · have HD : Hid (false = askedB d p block) := Lib.hid (by simp [askedB, d1])
    go_wp2_with fail
    go_ret
    exact ⟨ret_bool HD.out, kV⟩
  rcases Bool.eq_false_or_eq_true (decide (d.to ≤ block)) with d2 | d2
  · have HD : Hid (false = askedB d p block) := Lib.hid (by simp [askedB, d2])
    go_wp2_with fail
    go_ret
    exact ⟨ret_bool HD.out, kV⟩
  by_cases h3 : d.op = 3
  · have e3 : (d.op == 3) = true := by simp [h3]
    have HD : Hid (decide (p.tx = ByteArray.empty) = askedB d p block) := Lib.hid (by simp [askedB, d1, d2, h3])
    clear h3
    go_wp2_with fail
    go_ret
    refine ⟨?_, kV⟩
    refine ret_bool ?_
    rw [← HD.out, tx_empty]
  · have e3 : (d.op == 3) = false := by simp [h3]
    by_cases h4 : d.op = 2
    · have e4 : (d.op == 2) = true := by simp [h4]
      have hdn := hT.len
      have hdm := Nat.le_trans hT.cap hT.max
      have HD : Hid ((decide (offN block d.fr < d.da.l.length) && decide (p.tx = textAt d.da.l (offN block d.fr))) = askedB d p block) := Lib.hid (by simp [askedB, d1, d2, h4])
      clear h3 h4
      generalize offN block d.fr = m at *
      have hw : IntKind.u64.wrap (d.da.n : Int) = d.da.n := IntWalk.u64_in _ (by omega)
      by_cases hm : m < d.da.l.length
      · obtain ⟨bt, ot, ha⟩ := hT.there (by omega)
        have gm : (m : Int) < (d.da.n : Nat) := by omega
        have HT := Lib.hid fun W (r : Kp Non V W) => (hT.non r)
        rw [ha] at n5 HT
        have HTm := Lib.hid fun W (r : Kp Non V W) => Texts.c (HT.out W r) hm
        have HD : Hid (decide (p.tx = d.da.l[m]) = askedB d p block) := Lib.hid (by rw [← HD.out, textAt_lt hm]; simp [hm])
        generalize d.da.l[m] = tx at *
        have t0 := HTm.out V (Kp.refl _ _)
        clear HT hT hdn hdm hm ha
        go_wp2_with fail
        go_quiet (fail)
        go_wp2_with fail
        go_ret
        exact ⟨ret_bool (by rw [← HD.out, tx_beq]), kV.drewN _⟩
      · have gm : ¬ (m : Int) < (d.da.n : Nat) := by omega
        have HD : Hid (false = askedB d p block) := Lib.hid (by rw [← HD.out]; simp [hm])
        have gmn : ¬ m < d.da.n := by omega
        have gd : decide (m < d.da.n) = false := decide_eq_false gmn
        clear hT hdn hdm hm
        go_wp2_with fail
        go_quiet (fail)
        go_wp2_with fail
        go_ret
        exact ⟨ret_bool HD.out, kV.drewN _⟩
    · have e4 : (d.op == 2) = false := by simp [h4]
      have HD : Hid (false = askedB d p block) := Lib.hid (by simp [askedB, h3, h4])
      clear h3 h4 hT
      go_wp2_with fail
      go_quiet (fail)
      go_wp2_with fail
      go_ret
      exact ⟨ret_bool HD.out, kV.drewN _⟩
end Go.Proofs.Ytpehfnobgdjgcaa
