/-
  The device's counting call, for whatever is asked ahead and done.
-/
import Derived.Test.YtclbapmjhchokaaE1
namespace Go.Proofs.Ytclbapmjhchokaa
open Go.RowKit
variable {F : Nat → Prop}

theorem mfunc : ∀ (fn : Fn) (first cap : Array Value) (w : World), (Instr.makeFunc fn first cap).run Try.prog w = .ok (.func fn first cap) w := fun _ _ _ _ => rfl

/-- The bounds of Stop. -/
def StopOk (s : St) : Prop := -1000 ≤ s.stop ∧ s.stop ≤ 9223372036854775807

/-- What a counting call leaves: its answer, the device. -/
def CallPost (F : Nat → Prop) (d : Nat) (ec : Int) (s0 s1 : St) (w : World) (e : Ending) (w' : World) : Prop :=
  e = .returned (.int .i64 (if s0.stop = 0 then 6 else ec)) ∧ Dev F w' d s1.fin ∧ Kp (One d) w w'

set_option maxHeartbeats 400000 in
theorem call_off (d : Nat) (s : St) (f1 f2 : Value) (laid : Bool) (w : World) (hd : Dev F w d s) (ho : s.off = true) :
    Calls Try.prog 62 #[.pointer (some ⟨d, 0, none⟩), f1, f2, .bool laid] w fun e w' => e = .returned (.int .i64 6) ∧ Kp Non w w' := by
  obtain ⟨ia, ic, sa, sc, la, lc, hd⟩ := hd
  have hmf := mfunc
  have c7 := hd.c7
  rw [ho] at c7
  have hlt := hd.lt
  clear ho
  go_enter_defers Try.func62, Try.ntmps62
  go_wp2
  simp only [bodyPostD, Leaves]
  refine ⟨.int .i64 6, by simp [results, Try.results62, go_sem], rfl, ((Kp.refl _ _).alloc _).alloc _⟩
/-- A function that has a text is entered. -/
def Enters (f : FuncId) (args : Array Value) : Prop := ∀ w, (callFunc f args).run Try.prog w = .ok (.enter f args) w

/-- At the end of a counting call: the deferred closure, and the answer. -/
theorem door (d : Nat) (s s1 : St) (ec : Int) (w W : World) (tmps : Array Value) (hK : Kp (One d) w W) (hx : Box W w.heap.size (.pointer (some ⟨d, 0, none⟩)) 25) (he : Box W (w.heap.size + 1) (.int .i64 ec) 26)
    (hd : Dev F W d s1) (hs : s1.stop = s.stop) (hst : StopOk s) (ht : tmps[8]? = some (.pointer (some ⟨w.heap.size + 1, 0, none⟩))) :
    bodyPostD Try.prog Try.f62 (CallPost F d ec s s1 w) Exit.ret { tmps := tmps, defers := [{ target := Target.fn (Fn.func 97) #[.pointer (some ⟨w.heap.size, 0, none⟩), .pointer (some ⟨w.heap.size + 1, 0, none⟩)], args := #[] }] } W := by
  refine leaves_cons (f := 97) (args := #[.pointer (some ⟨w.heap.size, 0, none⟩), .pointer (some ⟨w.heap.size + 1, 0, none⟩)]) (by simp) (by simp [go_sem]) ?_
  have h1 := hst.1
  have h2 := hst.2
  refine (fin_deferred w.heap.size (w.heap.size + 1) d s1 ec W hx he hd (by omega) (by omega)).mono ?_
  rintro e u w2 ⟨rfl, rfl, hd2, he2, hk2⟩
  have hc := he2.c
  simp only [settle, Leaves]
  refine ⟨.int .i64 (if s1.stop = 0 then 6 else ec), ?_, ?_⟩
  · simp only [results, Try.results62]
    simp [go_sem, ht, hc, Array.getD_eq_getD_getElem?]
  · unfold CallPost
    rw [hs]
    refine ⟨rfl, hd2, hK.comp hk2 (fun _ _ h => h) ?_⟩
    rintro i hi (h | h)
    · exact h
    · omega

set_option maxRecDepth 100000 in
set_option maxHeartbeats 400000 in
theorem call_refuses (d : Nat) (s : St) (f1 f2 : FuncId) (c1 c2 : Array Value) (ec : Int) (laid : Bool) (w : World) (hd : Dev F w d s) (ho : s.off = false) (hst : StopOk s)
    (hen : Enters f1 c1) (hchk : ∀ W, Kp Non w W → Calls Try.prog f1 c1 W fun e w' => e = .returned (.int .i64 ec) ∧ Kp Non W w') (hec : (ec != 0) = true) :
    Calls Try.prog 62 #[.pointer (some ⟨d, 0, none⟩), .func (.func f1) #[] c1, .func (.func f2) #[] c2, .bool laid] w (CallPost F d ec s s w) := by
  have hD := hd
  obtain ⟨ia, ic, sa, sc, la, lc, hd⟩ := hd
  have hmf := mfunc
  have c7 := hd.c7
  rw [ho] at c7
  have hlt := hd.lt
  have HO := Lib.hid ho
  have HC := Lib.hid hchk
  clear ho hchk
  have hen' : ∀ w, (callFunc f1 c1).run Try.prog w = .ok (.enter f1 c1) w := hen
  go_enter_defers Try.func62, Try.ntmps62
  go_wp2_with fail
  refine (HC.out _ (((Kp.refl _ _).alloc _).alloc _)).mono ?_
  rintro e w1 ⟨rfl, hk⟩
  have hx : Box w1 w.heap.size (.pointer (some ⟨d, 0, none⟩)) 25 := ((Box.new w _ 25).kp ((Kp.refl Non _).alloc _) (fun f => f)).kp hk (fun f => f)
  have he : Box w1 (w.heap.size + 1) (.int .i64 0) 26 := (by have h := Box.new (w.alloc (.cells #[.pointer (some ⟨d, 0, none⟩)] 25)) (.int .i64 0) 26; simpa using h : Box _ (w.heap.size + 1) (.int .i64 0) 26).kp hk (fun f => f)
  have hd1 : Dev F w1 d s := hD.non ((((Kp.refl _ _).alloc _).alloc _).trans hk)
  have hec0 := he.c
  have hef0 := he.f
  go_wp2_with fail
  refine door d s s ec w _ _ ((((Kp.refl _ _).alloc _).alloc _).comp (hk.comp ((Kp.refl (One (w.heap.size + 1)) _).setCell (p := ⟨w.heap.size + 1, 0, none⟩) (.inl rfl) _) (T := One (w.heap.size + 1)) (U := fun k => k = w.heap.size + 1) (fun _ _ f => f.elim) (fun _ _ h => h)) (S := Non) (fun _ _ f => f.elim) (fun i hi h => by have : i = w.heap.size + 1 := h; omega))
    (hx.setOther _ (by omega)) (he.set _) ?_ rfl hst rfl
  obtain ⟨_, _, _, _, _, _, hd1⟩ := hd1
  exact ⟨_, _, _, _, _, _, hd1.far _ he (by omega) (by simp [byteV])⟩

set_option maxRecDepth 100000 in
set_option maxHeartbeats 400000 in
theorem call_skips (d : Nat) (s : St) (f1 f2 : FuncId) (c1 c2 : Array Value) (w : World) (hd : Dev F w d s) (ho : s.off = false) (hst : StopOk s)
    (hen : Enters f1 c1) (hchk : ∀ W, Kp Non w W → Calls Try.prog f1 c1 W fun e w' => e = .returned (.int .i64 0) ∧ Kp Non W w') (hs0 : s.stop = 0) :
    Calls Try.prog 62 #[.pointer (some ⟨d, 0, none⟩), .func (.func f1) #[] c1, .func (.func f2) #[] c2, .bool false] w (CallPost F d 0 s s w) := by
  have hD := hd
  obtain ⟨ia, ic, sa, sc, la, lc, hd⟩ := hd
  have hmf := mfunc
  have c7 := hd.c7
  rw [ho] at c7
  have hlt := hd.lt
  have HO := Lib.hid ho
  have HC := Lib.hid hchk
  have HS := Lib.hid hs0
  clear ho hchk hs0
  have hen' : ∀ w, (callFunc f1 c1).run Try.prog w = .ok (.enter f1 c1) w := hen
  go_enter_defers Try.func62, Try.ntmps62
  go_wp2_with fail
  refine (HC.out _ (((Kp.refl _ _).alloc _).alloc _)).mono ?_
  rintro e w1 ⟨rfl, hk⟩
  have hx : Box w1 w.heap.size (.pointer (some ⟨d, 0, none⟩)) 25 := ((Box.new w _ 25).kp ((Kp.refl Non _).alloc _) (fun f => f)).kp hk (fun f => f)
  have he : Box w1 (w.heap.size + 1) (.int .i64 0) 26 := (by have h := Box.new (w.alloc (.cells #[.pointer (some ⟨d, 0, none⟩)] 25)) (.int .i64 0) 26; simpa using h : Box _ (w.heap.size + 1) (.int .i64 0) 26).kp hk (fun f => f)
  have hd1 : Dev F w1 d s := hD.non ((((Kp.refl _ _).alloc _).alloc _).trans hk)
  have hec0 := he.c
  have hef0 := he.f
  have hxc0 := hx.c
  have hd1' := hd1
  obtain ⟨_, _, _, _, _, _, hd1'⟩ := hd1'
  have c6 := hd1'.c6
  have hst0 : (s.stop != 0) = false := by rw [HS.out]; rfl
  go_wp2_with fail
  refine door d s s 0 w _ _ ((((Kp.refl _ _).alloc _).alloc _).comp (hk.comp ((Kp.refl (One (w.heap.size + 1)) _).setCell (p := ⟨w.heap.size + 1, 0, none⟩) (.inl rfl) _) (T := One (w.heap.size + 1)) (U := fun k => k = w.heap.size + 1) (fun _ _ f => f.elim) (fun _ _ h => h)) (S := Non) (fun _ _ f => f.elim) (fun i hi h => by have : i = w.heap.size + 1 := h; omega))
    (hx.setOther _ (by omega)) (he.set _) ?_ rfl hst rfl
  obtain ⟨_, _, _, _, _, _, hd1⟩ := hd1
  exact ⟨_, _, _, _, _, _, hd1.far _ he (by omega) (by simp [byteV])⟩

set_option maxRecDepth 100000 in
set_option maxHeartbeats 800000 in
theorem call_does (d : Nat) (s s1 : St) (f1 f2 : FuncId) (c1 c2 : Array Value) (laid : Bool) (w : World) (hd : Dev F w d s) (ho : s.off = false) (hst : StopOk s)
    (hen : Enters f1 c1) (hchk : ∀ W, Kp Non w W → Calls Try.prog f1 c1 W fun e w' => e = .returned (.int .i64 0) ∧ Kp Non W w')
    (hen2 : Enters f2 c2) (hdoes : ∀ W, Kp Non w W → Calls Try.prog f2 c2 W fun e w' => e = .returned (.tuple #[]) ∧ Kp (One d) W w' ∧ Dev F w' d s1) (hs1 : s1.stop = s.stop) (hs0 : s.stop ≠ 0 ∨ laid = true) :
    Calls Try.prog 62 #[.pointer (some ⟨d, 0, none⟩), .func (.func f1) #[] c1, .func (.func f2) #[] c2, .bool laid] w (CallPost F d 0 s s1 w) := by
  have hD := hd
  obtain ⟨ia, ic, sa, sc, la, lc, hd⟩ := hd
  have hmf := mfunc
  have c7 := hd.c7
  rw [ho] at c7
  have hlt := hd.lt
  have HO := Lib.hid ho
  have HC := Lib.hid hchk
  have HE := Lib.hid hdoes
  have HS := Lib.hid hs0
  have HS1 := Lib.hid hs1
  clear ho hchk hs0 hdoes hs1
  have hen' : ∀ w, (callFunc f1 c1).run Try.prog w = .ok (.enter f1 c1) w := hen
  have hen2' : ∀ w, (callFunc f2 c2).run Try.prog w = .ok (.enter f2 c2) w := hen2
  go_enter_defers Try.func62, Try.ntmps62
  go_wp2_with fail
  refine (HC.out _ (((Kp.refl _ _).alloc _).alloc _)).mono ?_
  rintro e w1 ⟨rfl, hk⟩
  have hx : Box w1 w.heap.size (.pointer (some ⟨d, 0, none⟩)) 25 := ((Box.new w _ 25).kp ((Kp.refl Non _).alloc _) (fun f => f)).kp hk (fun f => f)
  have he : Box w1 (w.heap.size + 1) (.int .i64 0) 26 := (by have h := Box.new (w.alloc (.cells #[.pointer (some ⟨d, 0, none⟩)] 25)) (.int .i64 0) 26; simpa using h : Box _ (w.heap.size + 1) (.int .i64 0) 26).kp hk (fun f => f)
  have hK0 : Kp Non w w1 := (((Kp.refl _ _).alloc _).alloc _).trans hk
  have hd1 : Dev F w1 d s := hD.non hK0
  have hxc0 := hx.c
  obtain ⟨_, _, _, _, _, _, hd1'⟩ := hd1
  have c6 := hd1'.c6
  have fin : ∀ w2, Kp (One d) w1 w2 → Dev F w2 d s1 → ∀ tmps : Array Value, tmps[8]? = some (.pointer (some ⟨w.heap.size + 1, 0, none⟩)) →
      bodyPostD Try.prog Try.f62 (CallPost F d 0 s s1 w) Exit.ret { tmps := tmps, defers := [{ target := Target.fn (Fn.func 97) #[.pointer (some ⟨w.heap.size, 0, none⟩), .pointer (some ⟨w.heap.size + 1, 0, none⟩)], args := #[] }] } (w2.setCell ⟨w.heap.size + 1, 0, none⟩ (.int .i64 0)) := by
    intro w2 hk2 hd2 tmps ht
    have hx2 := hx.kp hk2 (fun h => by have : w.heap.size = d := h; omega)
    have he2 := he.kp hk2 (fun h => by have : w.heap.size + 1 = d := h; omega)
    refine door d s s1 0 w _ _ ?_ (hx2.setOther _ (by omega)) (he2.set _) ?_ HS1.out hst ht
    · have k3 : Kp (One (w.heap.size + 1)) w2 (w2.setCell ⟨w.heap.size + 1, 0, none⟩ (.int .i64 0)) := (Kp.refl (One (w.heap.size + 1)) _).setCell (p := ⟨w.heap.size + 1, 0, none⟩) (.inl rfl) _
      have k4 : Kp (One d) w w2 := hK0.comp hk2 (fun _ _ f => f.elim) (fun _ _ h => h)
      exact k4.comp k3 (fun _ _ h => h) (fun i hi h => by have : i = w.heap.size + 1 := h; omega)
    · obtain ⟨_, _, _, _, _, _, hd2⟩ := hd2
      exact ⟨_, _, _, _, _, _, hd2.far _ he2 (by omega) (by simp [byteV])⟩
  have FIN := Lib.hid fin
  clear fin
  by_cases hz : s.stop = 0
  · have hl : laid = true := by
      rcases HS.out with h | h
      · exact absurd hz h
      · exact h
    subst hl
    have hst0 : (s.stop != 0) = false := by rw [hz]; rfl
    clear hz
    go_wp2_with fail
    refine (HE.out _ hK0).mono ?_
    rintro e w2 ⟨rfl, hk2, hd2⟩
    have he2 := he.kp hk2 (fun h => by have : w.heap.size + 1 = d := h; omega)
    have hec0 := he2.c
    have hef0 := he2.f
    go_wp2_with fail
    exact FIN.out _ hk2 hd2 _ rfl
  · have hst0 : (s.stop != 0) = true := by simp [hz]
    clear hz
    go_wp2_with fail
    refine (HE.out _ hK0).mono ?_
    rintro e w2 ⟨rfl, hk2, hd2⟩
    have he2 := he.kp hk2 (fun h => by have : w.heap.size + 1 = d := h; omega)
    have hec0 := he2.c
    have hef0 := he2.f
    go_wp2_with fail
    exact FIN.out _ hk2 hd2 _ rfl
end Go.Proofs.Ytclbapmjhchokaa
