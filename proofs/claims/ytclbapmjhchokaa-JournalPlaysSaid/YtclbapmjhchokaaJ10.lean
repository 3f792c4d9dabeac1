/-
  A journal's calls: Save.
-/
import Derived.Test.YtclbapmjhchokaaJ9
namespace Go.Proofs.Ytclbapmjhchokaa
open Go.RowKit
variable {F : Nat → Prop}
section
variable {b0 : Nat} {w : World} {j d : Nat} {s : St} {J : JSt} {ra : Option Addr}

set_option maxRecDepth 100000 in
set_option maxHeartbeats 400000 in
theorem save_asks (bj bi : Nat) (a : Option Addr) (n c : Nat) (b : List UInt8) (hx : Box w bj (.pointer (some ⟨j, 0, none⟩)) 56) (hi : Box w bi (.slice a n c) 22) (h : Jou F b0 w j d s J ra) (hok : s.ok) (hb : Bytes w a n c b) :
    Calls Try.prog 92 #[.pointer (some ⟨bj, 0, none⟩), .pointer (some ⟨bi, 0, none⟩)] w (MPost F d (jswap s b) w) := by
  have H := h
  obtain ⟨rc, ia, ic, vs, h⟩ := h
  have c0 := h.c0
  have hxc := hx.c
  have hic := hi.c
  have HO := Lib.hid hok
  clear hok
  generalize hq : jswap s b = Q at *
  have HQ := Lib.hid hq
  clear hq
  go_enter Try.func92, Try.ntmps92
  go_wp2_with fail
  refine wp_region_chain [0,0,0,0,0,1,2] (by kernel_rfl) (by kernel_rfl) (fun w' => w'.cell? ⟨bj, 0, none⟩ = some (.pointer (some ⟨j, 0, none⟩)) ∧ w'.cell? ⟨bi, 0, none⟩ = some (.slice a n c) ∧ w'.cell? ⟨j, 0, none⟩ = some (.pointer (some ⟨d, 0, none⟩))) ⟨hxc, hic, c0⟩ ?_
  repeat (first | (with_reducible refine pure_skip ?_) | ((with_reducible refine pure_k rfl ?_); intro K hK; apply Exists.intro; refine ⟨fun w' hC => ?_, ?_⟩; (obtain ⟨g1, g2, g3⟩ := hC; go_simp; rfl); go_simp; refine hK _ ?_; clear hK K))
  with_reducible refine pure_nil ?_
  repeat (with_reducible refine chain_skip0 ?_)
  with_reducible refine chain_step rfl fun K hK => ?_
  go_simp
  have hkD : Kp Non w w.drew := (Kp.refl _ w).drew
  refine (swap_calls d s a n c b w.drew ((H.non hkD).dev) HO.out (hb.non hkD)).mono ?_
  rintro e w1 ⟨rfl, hd1, hk1⟩
  have hnb := h.dev.noB
  have hbj : bj ≠ d := by
    rintro rfl
    obtain ⟨cs, fr, h1⟩ := h.dev.tag
    rw [show w.heap[bj]? = _ from hx] at h1
    cases h1
  have hbi : bi ≠ d := by
    rintro rfl
    obtain ⟨cs, fr, h1⟩ := h.dev.tag
    rw [show w.heap[bi]? = _ from hi] at h1
    cases h1
  have hkk : Kp (One d) w w1 := hkD.comp hk1 (fun _ _ f => f.elim) (fun _ _ h => h)
  have z1 : w1.cell? ⟨bj, 0, none⟩ = _ := hkk.cell (a := ⟨bj, 0, none⟩) hxc hbj
  have z2 : w1.cell? ⟨bi, 0, none⟩ = _ := hkk.cell (a := ⟨bi, 0, none⟩) hic hbi
  have z3 : w1.cell? ⟨j, 0, none⟩ = _ := hkk.cell (a := ⟨j, 0, none⟩) c0 h.jd
  go_simp
  refine hK _ _ (fun _ => ⟨z1, z2, z3⟩) ?_
  clear hK K
  repeat (with_reducible refine chain_skip0 ?_)
  with_reducible refine chain_step rfl fun K hK => ?_
  go_simp
  refine hK _ _ (fun h => by cases h) ?_
  clear hK K
  with_reducible refine chain_nil ?_
  go_wp2_with fail
  go_ret
  rw [← HQ.out]
  exact ⟨rfl, hd1, hkk⟩

set_option maxRecDepth 100000 in
set_option maxHeartbeats 400000 in
theorem save_does (bj bi : Nat) (a : Option Addr) (n c : Nat) (b : List UInt8) (hx : Box w bj (.pointer (some ⟨j, 0, none⟩)) 56) (hi : Box w bi (.slice a n c) 22) (h : Jou F b0 w j d s J ra) (hb : Bytes w a n c b) (hn : n ≤ 1000000000000) :
    Calls Try.prog 93 #[.pointer (some ⟨bi, 0, none⟩), .pointer (some ⟨bj, 0, none⟩)] w (ThenPost fun w' => Jou F b0 w' j d s ⟨b, [], J.down⟩ none ∧ Kp (One j) w w') := by
  have H := h
  obtain ⟨rc, ia, ic, vs, h⟩ := h
  have c0 := h.c0
  have hxc := hx.c
  have hic := hi.c
  have hlt := h.lt
  have hfence := h.dev.fence
  go_enter Try.func93, Try.ntmps93
  go_wp2_with fail
  refine wp_region_chain [0,0,0,0,1,0,0,1,0,0,1,0,0,1] (by kernel_rfl) (by kernel_rfl) (fun w' => w'.cell? ⟨bj, 0, none⟩ = some (.pointer (some ⟨j, 0, none⟩)) ∧ w'.cell? ⟨bi, 0, none⟩ = some (.slice a n c)) ⟨hxc, hic⟩ ?_
  repeat (first | (with_reducible refine pure_skip ?_) | ((with_reducible refine pure_k rfl ?_); intro K hK; apply Exists.intro; refine ⟨fun w' hC => ?_, ?_⟩; (obtain ⟨g1, g2⟩ := hC; go_simp; rfl); go_simp; refine hK _ ?_; clear hK K))
  with_reducible refine pure_nil ?_
  repeat (with_reducible refine chain_skip0 ?_)
  with_reducible refine chain_step rfl fun K hK => ?_
  go_simp
  have hkD : Kp Non w w.drew := (Kp.refl _ w).drew
  refine (copied_calls a n c b w.drew (hb.non hkD) hn).mono ?_
  rintro e w1 ⟨ca, cc, rfl, hO, hk1⟩
  have hlo := hO.lt
  have hkk : Kp Non w w1 := hkD.trans hk1
  have h1 := h.non hkk
  have hbj : ¬ bj = j := by
    rintro rfl
    have h2 := h.row
    rw [show w.heap[bj]? = _ from hx] at h2
    cases h2
  have hbi : ¬ bi = j := by
    rintro rfl
    have h2 := h.row
    rw [show w.heap[bi]? = _ from hi] at h2
    cases h2
  have hbj' : ¬ j = bj := fun e => hbj e.symm
  have hbi' : ¬ j = bi := fun e => hbi e.symm
  have z1 : w1.cell? ⟨bj, 0, none⟩ = _ := hkk.cell (a := ⟨bj, 0, none⟩) hxc (fun f => f)
  have z2 : w1.cell? ⟨bi, 0, none⟩ = _ := hkk.cell (a := ⟨bi, 0, none⟩) hic (fun f => f)
  have y1 := h1.c1
  have y2 := h1.c2
  have y3 := h1.c3
  have f1 := h1.f 1
  have f2 := h1.f 2
  have f3 := h1.f 3
  go_simp
  refine hK _ _ (fun _ => ⟨z1, z2⟩) ?_
  clear hK K
  repeat (with_reducible refine chain_skip0 ?_)
  with_reducible refine chain_step rfl fun K hK => ?_
  go_simp
  refine hK _ _ (fun _ => ⟨by go_simp, by go_simp⟩) ?_
  clear hK K
  repeat (with_reducible refine chain_skip0 ?_)
  with_reducible refine chain_step rfl fun K hK => ?_
  go_simp
  refine hK _ _ (fun _ => ⟨by go_simp, by go_simp⟩) ?_
  clear hK K
  repeat (with_reducible refine chain_skip0 ?_)
  with_reducible refine chain_step rfl fun K hK => ?_
  go_simp
  refine hK _ _ (fun _ => ⟨by go_simp, by go_simp⟩) ?_
  clear hK K
  with_reducible refine chain_nil ?_
  go_wp2_with fail
  go_end0
  have k3 : Kp (One j) w1 (((w1.setCell ⟨j, 1, none⟩ (.slice ca b.length cc)).setCell ⟨j, 2, none⟩ (.slice none 0 0)).setCell ⟨j, 3, none⟩ (.int .i64 0)) := (((Kp.refl (One j) w1).set1 1 _).set1 2 _).set1 3 _
  have hr := heap_setCell_row (heap_setCell_row (heap_setCell_row h1.row 1 (.slice ca b.length cc)) 2 (.slice none 0 0)) 3 (.int .i64 0)
  refine ⟨rfl, ⟨0, ca, cc, [], h1.set (k3.mono fun _ _ h => .inl h) hr (hO.bytes.nob k3 h1.jnoB) ?_ (SRow.nil _ _) (Recs.nil _) ?_ ?_⟩, hkk.comp k3 (fun _ _ f => f.elim) (fun _ _ h => h)⟩
  · intro _ ad had hf
    have q1 := (hlo ad.block ⟨ad, had, rfl⟩).1
    have q2 := hfence _ hf
    have : w.drew.heap.size = w.heap.size := rfl
    omega
  · rintro k ⟨_, q, _⟩; cases q
  · rintro k ⟨_, q, _⟩; cases q

set_option maxHeartbeats 400000 in
theorem jsave_calls (h : Jou F b0 w j d s J ra) (hok : s.ok) (a : Option Addr) (n c : Nat) (b : List UInt8) (hb : Bytes w a n c b) (hn : n ≤ 1000000000000) : Calls Try.prog 51 #[.pointer (some ⟨j, 0, none⟩), .slice a n c] w (JPost F b0 j d ra (jsave s J b) w) := by
  have hmf := mfunc
  have HO := Lib.hid hok
  have h4 := h.cells4.1
  clear hok
  by_cases hJ : J.down = true
  · have HQ := Lib.hid (show jsave s J b = (7, s, J) by unfold jsave; rw [if_pos hJ])
    rw [hJ] at h4
    generalize jsave s J b = Q at *
    clear hJ
    go_enter Try.func51, Try.ntmps51
    go_wp2_with fail
    have hk0 : Kp Non w ((w.alloc (.cells #[.pointer (some ⟨j, 0, none⟩)] 56)).alloc (.cells #[.slice a n c] 22)) := ((Kp.refl _ _).alloc _).alloc _
    refine (try_down j _ _ _ (hk0.cell h4 (fun f => f))).mono ?_
    rintro e w1 ⟨rfl, rfl⟩
    go_wp2_with fail
    go_ret
    rw [HQ.out]
    exact JPost.same h rfl hk0
  · have hJ' : J.down = false := by simpa using hJ
    have HQ := Lib.hid (show jsave s J b = ((jswap s b).1, (jswap s b).2, if (jswap s b).1 = 0 then ⟨b, [], J.down⟩ else tell J (jswap s b).1) by
      unfold jsave
      rw [if_neg hJ, hJ'])
    rw [hJ'] at h4
    generalize jsave s J b = Q at *
    clear hJ hJ'
    go_enter Try.func51, Try.ntmps51
    go_wp2_with fail
    have hk0 : Kp Non w ((w.alloc (.cells #[.pointer (some ⟨j, 0, none⟩)] 56)).alloc (.cells #[.slice a n c] 22)) := ((Kp.refl _ _).alloc _).alloc _
    obtain ⟨hx, hi⟩ := box2 w (.pointer (some ⟨j, 0, none⟩)) (.slice a n c) 56 22
    have hb' := hb.non hk0
    have H := h.non hk0
    have hd0 := h.dev.lt
    have hz := hk0.size
    have h4' : Jou F b0 _ j d s J ra := H
    have hq0 := hk0.cell h4 (fun f => f)
    have hx2 : ∀ w1, Kp (One d) ((w.alloc (.cells #[.pointer (some ⟨j, 0, none⟩)] 56)).alloc (.cells #[.slice a n c] 22)) w1 → Box w1 w.heap.size (.pointer (some ⟨j, 0, none⟩)) 56 ∧ Box w1 (w.heap.size + 1) (.slice a n c) 22 := fun w1 hk =>
      ⟨hx.kp hk (fun e => by have : w.heap.size = d := e; omega), hi.kp hk (fun e => by have : w.heap.size + 1 = d := e; omega)⟩
    generalize ((w.alloc (.cells #[.pointer (some ⟨j, 0, none⟩)] 56)).alloc (.cells #[.slice a n c] 22)) = W at *
    refine (try_calls j 92 93 #[] _ _ (jswap s b).1 (fun w1 => Dev F w1 d (jswap s b).2 ∧ Kp (One d) W w1) (fun w1 => Jou F b0 w1 j d (jswap s b).2 ⟨b, [], J.down⟩ none ∧ Kp (JS d j ra) W w1) W hq0 (by intro w; simp [go_sem]) (by intro w; simp [go_sem]) ?_ ?_ ?_).mono ?_
    · exact (save_asks _ _ a n c b hx hi H HO.out hb').mono fun e w1 hp => ⟨hp.1, hp.2⟩
    · rintro _ w1 ⟨hd1, hk1⟩
      obtain ⟨hx1, hi1⟩ := hx2 w1 hk1
      refine (save_does _ _ a n c b hx1 hi1 (H.step hk1 hd1) (hb'.nob hk1 H.dev.noB) hn).mono ?_
      rintro e w2 ⟨rfl, h3, hk2⟩
      exact ⟨rfl, h3, hk1.comp hk2 (fun _ _ h => .inl h) (fun _ _ h => .inr (.inl h))⟩
    · rintro w1 ⟨hd1, hk1⟩
      have h5 := (H.step hk1 hd1).cells4
      have h6 := H.cells4.1
      rw [hq0] at h6
      rw [← Option.some.inj h6] at h5
      exact h5
    rintro e w1 hp
    have he := hp.1
    have hp' : JPost F b0 j d ra ((jswap s b).1, (jswap s b).2, if (jswap s b).1 = 0 then ⟨b, [], J.down⟩ else tell J (jswap s b).1) W e w1 :=
      JPost.of_try hp (fun w2 h2 => ⟨H.step h2.2 h2.1, h2.2.js⟩) (fun _ h2 => ⟨none, (fun _ hk => by obtain ⟨_, q, _⟩ := hk; cases q), h2.1, h2.2⟩)
    subst he
    have HP := Lib.hid hp'
    clear hp hp'
    go_wp2_with fail
    go_ret
    rw [HQ.out]
    obtain ⟨q1, ra', q2, q3, q4⟩ := HP.out
    exact ⟨q1, ra', fun k hk => (q2 k hk).imp_right fun h => Nat.le_trans hz h, q3, hk0.comp q4 (fun _ _ f => f.elim) (fun _ _ h => h)⟩
end
end Go.Proofs.Ytclbapmjhchokaa
