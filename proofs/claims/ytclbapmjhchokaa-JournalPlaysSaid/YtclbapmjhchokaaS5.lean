/-
  The document's device: DoStage, Crash, and Tell.
-/
import Derived.Test.YtclbapmjhchokaaS4
namespace Go.Proofs.Ytclbapmjhchokaa
open Go.RowKit

set_option maxRecDepth 100000 in
set_option maxHeartbeats 1000000 in
theorem refstage_calls (x : Nat) (s : St) (ba : Option Addr) (bn bc : Nat) (bl : List UInt8) (w : World) (hx : Ref w x s) (hok : s.ok) (hbl : Bytes w ba bn bc bl) (hbn : bn ≤ 1000000000000) :
    Calls Try.prog 79 #[.pointer (some ⟨x, 0, none⟩), .slice ba bn bc] w (RPost x (s.putStage bl) w) := by
  have HT := Lib.hid (told_stage s bl)
  obtain ⟨e1, e2, e3, e4, e5, e6⟩ := told_eq s
  go_enter Try.func79, Try.ntmps79
  go_wp2_with fail
  refine (counts_calls x s _ hx hok.stop).mono ?_
  rintro e w1 ⟨rfl, hx1, hk1⟩
  dsimp only at hx1 ⊢
  by_cases hh : s.how = 0
  · have HH := Lib.hid hh
    rw [hh]
    clear hh
    have hb1 := hbl.ref hx hk1
    obtain ⟨ia, ic, sa, sc, la, lc, h⟩ := hx1
    have b1 := hok.image
    have b3 := hok.log
    have c0 := h.c0
    have c1 := h.c1
    have c4 := h.c4
    rw [e1] at c0
    rw [e2] at c1
    rw [e5] at c4
    have hbn' := hbl.len
    have hfit : ∀ b, decide (s.room < secs bn + secs s.image.length + secs s.log.length) = b → (s.room < secs bl.length + secs s.image.length + secs s.log.length ↔ b = true) := by
      rintro b rfl
      rw [hbn']
      simp
    have t1 := secs_bd s.image.length (by omega) (by omega)
    have t2 := secs_bd s.log.length (by omega) (by omega)
    have t3 := secs_bd bn (by omega) (by omega)
    clear hbn'
    cases hfb : decide (s.room < secs bn + secs s.image.length + secs s.log.length) with
    | true =>
      have HB := Lib.hid (hfit _ hfb)
      clear hfit
      go_wp2_with fail
      go_quiet ((go_at_call 101; exact Calls.quiet_of_same (refsectors_calls _ _ _ _ (by omega))))
      go_wp2
      go_ret
      rw [HT.out, if_pos HH.out, if_pos (HB.out.2 (by simp))]
      exact ⟨rfl, (h.drewN _).ref, hk1.drewN _⟩
    | false =>
      have HB := Lib.hid (hfit _ hfb)
      clear hfit
      go_wp2_with fail
      go_quiet ((go_at_call 101; exact Calls.quiet_of_same (refsectors_calls _ _ _ _ (by omega))))
      go_wp2_with fail
      refine (join_calls _ _ _ bl _ _ _ [] _ (hb1.drewN _) (Bytes.empty _) hbn (by omega)).mono ?_
      rintro e w2 ⟨ja, jn, jc, rfl, hJ, hk2⟩
      rw [List.append_nil] at hJ
      have h2 := (h.drewN _).non hk2
      have d2 := h2.c2
      have d3 := h2.c3
      have f := h2.f
      have hkk : Kp (One x) w w2 := (hk1.drewN _).comp hk2 (fun _ _ h => h) (fun _ _ f => f.elim)
      clear c0 c1 c4 h
      go_wp2
      go_ret
      rw [HT.out, if_pos HH.out, if_neg (fun e => by have := HB.out.1 e; simp at this)]
      exact ⟨rfl, ((h2.setStage hJ).setStaged true).ref, (hkk.set1 _ _).set1 _ _⟩
  · have HH := Lib.hid hh
    have hb : (s.how != 0) = true := by simp [hh]
    clear hh
    go_wp2
    go_ret
    rw [HT.out, if_neg HH.out]
    exact ⟨rfl, hx1, hk1⟩

set_option maxRecDepth 100000 in
set_option maxHeartbeats 2000000 in
theorem refcrash_calls (x : Nat) (s : St) (keep : Int) (w : World) (hx : Ref w x s) (hok : s.ok) : Calls Try.prog 59 #[.pointer (some ⟨x, 0, none⟩), .int .i64 keep] w (RVoid x (s.crash keep) w) := by
  obtain ⟨ia, ic, sa, sc, la, lc, h⟩ := hx
  have c4 := h.c4
  have c5 := h.c5
  have b3 := hok.log
  have b4 := hok.sure0
  have b5 := hok.sure1
  have hcap := h.log.cap
  have hw1 : IntKind.i64.wrap ((s.log.length : Int) - s.sure) = (s.log.length : Int) - s.sure := IntWalk.i64_in _ (by omega)
  obtain ⟨k0, hk0⟩ : ∃ k0, k0 = if keep < 0 then 0 else keep := ⟨_, rfl⟩
  obtain ⟨k1, hk1⟩ : ∃ k1, k1 = if (s.log.length : Int) - s.sure < k0 then (s.log.length : Int) - s.sure else k0 := ⟨_, rfl⟩
  have hsk : s.stays keep = k1 := by
    unfold St.stays
    split at hk0 <;> split at hk1 <;> omega
  have hb0 : 0 ≤ k1 := by split at hk0 <;> split at hk1 <;> omega
  have hb1 : s.sure + k1 ≤ s.log.length := by split at hk0 <;> split at hk1 <;> omega
  obtain ⟨m, hm⟩ : ∃ m, m = s.sure + k1 := ⟨_, rfl⟩
  have hm0 : 0 ≤ m := by omega
  have hm1 : m ≤ (lc : Int) := by omega
  have hn2 : m.toNat ≤ s.log.length := by omega
  have hmw : IntKind.i64.wrap m = m := IntWalk.i64_in _ (by omega)
  have hsm : s.sure + s.stays keep = m := by omega
  have HK := Lib.hid hsm
  clear hsk hsm hcap
  rcases (show (keep < 0 ∧ ¬ (s.log.length : Int) - s.sure < 0) ∨ (¬ keep < 0 ∧ ¬ (s.log.length : Int) - s.sure < keep) ∨ (¬ keep < 0 ∧ (s.log.length : Int) - s.sure < keep) by omega) with ⟨hneg, hbig⟩ | ⟨hneg, hbig⟩ | ⟨hneg, hbig⟩
  case' inl =>
    rw [if_pos hneg] at hk0
    subst hk0
    rw [if_neg hbig] at hk1
    subst hk1
    have hadd : IntKind.i64.wrap s.sure = m := by rw [← hmw, hm, Int.add_zero]
  case' inr.inl =>
    rw [if_neg hneg] at hk0
    subst hk0
    rw [if_neg hbig] at hk1
    subst hk1
    have hadd : IntKind.i64.wrap (s.sure + k1) = m := by rw [← hmw, hm]
  case' inr.inr =>
    rw [if_neg hneg] at hk0
    subst hk0
    rw [if_pos hbig] at hk1
    subst hk1
    have hadd : IntKind.i64.wrap (s.sure + ((s.log.length : Int) - s.sure)) = m := by rw [← hmw, hm]
  all_goals
    clear hb0 hb1 hm hmw
    go_enter Try.func59, Try.ntmps59
    go_wp2_with fail
    go_quiet (fail)
    go_wp2_with fail
    try go_quiet (fail)
    go_wp2_with fail
    refine wp_region_chain [0,0,0,0,0,0,0,0,0,0,0,0,1,0,0,2] (by kernel_rfl) (by kernel_rfl) (fun w' => w'.cell? ⟨x, 4, none⟩ = some (.slice la s.log.length lc) ∧ w'.cell? ⟨x, 5, none⟩ = some (.int .i64 s.sure)) ⟨c4, c5⟩ ?_
    repeat (first | (with_reducible refine pure_skip ?_) | ((with_reducible refine pure_k rfl ?_); intro K hK; apply Exists.intro; refine ⟨fun w' hC => ?_, ?_⟩; (obtain ⟨g1, g2⟩ := hC; go_simp; rfl); go_simp; refine hK _ ?_; clear hK K))
    with_reducible refine pure_nil ?_
    repeat (with_reducible refine chain_skip0 ?_)
    with_reducible refine chain_step rfl fun K hK => ?_
    go_simp
    refine (join_calls la m.toNat lc (s.log.take m.toNat) none 0 0 [] (w.drewN _) ((h.log.drewN _).take m.toNat hn2) (Bytes.empty _) (by omega) (by omega)).mono ?_
    rintro e w2 ⟨ja, jn, jc, rfl, hJ, hk2⟩
    rw [List.append_nil] at hJ
    replace hk2 : Kp Non w w2 := ⟨hk2.os, hk2.tape, hk2.output, hk2.size, hk2.block⟩
    have h2 := h.non hk2
    have d2 := h2.c2
    have d3 := h2.c3
    have d4 := h2.c4
    have d5 := h2.c5
    have d6 := h2.c6
    have d7 := h2.c7
    have f := h2.f
    go_simp
    refine hK _ _ (fun _ => ⟨d4, d5⟩) ?_
    clear hK K
    repeat (with_reducible refine chain_skip0 ?_)
    with_reducible refine chain_step rfl fun K hK => ?_
    go_simp
    refine hK _ _ (fun h => by cases h) ?_
    clear hK K
    with_reducible refine chain_nil ?_
    have hjn : (jn : Int) = m := by have := hJ.len; simp at this; omega
    have HJ := Lib.hid hjn
    clear hadd c4 c5 hjn
    go_wp2
    go_end0
    rw [HJ.out]
    refine ⟨rfl, ?_, (((((((hk2.non).set1 _ _).set1 _ _).set1 _ _).set1 _ _).set1 _ _).set1 _ _)⟩
    unfold St.crash
    rw [HK.out]
    exact ((((((h2.setLog hJ).setSure m).setStage (Bytes.empty _)).setStaged false).setOff false).setStop (-1)).ref

set_option maxRecDepth 100000 in
set_option maxHeartbeats 4000000 in
theorem tell_calls (x : Nat) (s : St) (o : OpD) (ba : Option Addr) (bc : Nat) (w : World) (hx : Ref w x s) (hs : s.ok) (hb : Bytes w ba o.b.length bc o.b) (hok : o.ok) :
    Calls Try.prog 36 #[.pointer (some ⟨x, 0, none⟩), .agg (o.cells ba bc)] w (RPost x (o.run s) w) := by
  have HB := Lib.hid (fun W (h : Bytes W ba o.b.length bc o.b) => bytes_calls o ba bc W h hok)
  have hbl := o.bytes_len
  have hk0 : Kp Non w (w.alloc (.cells (o.cells ba bc) 42)) := (Kp.refl _ _).alloc _
  have hd0 := hx.non hk0
  have hb0 := hb.non hk0
  unfold OpD.cells at *
  have HD := Lib.hid hd0
  clear hd0
  by_cases k1 : o.kind = 1
  · have HR := Lib.hid (show o.run s = s.append o.bytes by unfold OpD.run; rw [if_pos k1])
    have g1 : (o.kind == 1) = true := by simp [k1]
    clear k1
    go_enter Try.func36, Try.ntmps36
    go_wp2_with fail
    refine (HB.out _ hb0).mono ?_
    rintro e w1 ⟨a, c, rfl, hO, hk1⟩
    go_wp2_with fail
    refine (refappend_calls x s a _ c o.bytes w1 (HD.out.non hk1) hs hO.bytes (by omega)).mono ?_
    rintro e w2 ⟨rfl, hd2, hk2⟩
    rw [← HR.out] at hd2 ⊢
    go_wp2
    go_ret
    exact ⟨rfl, hd2, (hk0.trans hk1).comp hk2 (fun _ _ f => f.elim) (fun _ _ h => h)⟩
  by_cases k2 : o.kind = 2
  · have HR := Lib.hid (show o.run s = s.sync by unfold OpD.run; rw [if_neg k1, if_pos k2])
    have g1 : (o.kind == 1) = false := by simp [k1]
    have g2 : (o.kind == 2) = true := by simp [k2]
    clear k1 k2
    go_enter Try.func36, Try.ntmps36
    go_wp2_with fail
    refine (refsync_calls x s _ HD.out hs).mono ?_
    rintro e w2 ⟨rfl, hd2, hk2⟩
    rw [← HR.out] at hd2 ⊢
    go_wp2
    go_ret
    exact ⟨rfl, hd2, hk0.comp hk2 (fun _ _ f => f.elim) (fun _ _ h => h)⟩
  by_cases k3 : o.kind = 3
  · have HR := Lib.hid (show o.run s = s.cut o.n by unfold OpD.run; rw [if_neg k1, if_neg k2, if_pos k3])
    have g1 : (o.kind == 1) = false := by simp [k1]
    have g2 : (o.kind == 2) = false := by simp [k2]
    have g3 : (o.kind == 3) = true := by simp [k3]
    clear k1 k2 k3
    go_enter Try.func36, Try.ntmps36
    go_wp2_with fail
    refine (refcut_calls x s o.n _ HD.out hs).mono ?_
    rintro e w2 ⟨rfl, hd2, hk2⟩
    rw [← HR.out] at hd2 ⊢
    go_wp2
    go_ret
    exact ⟨rfl, hd2, hk0.comp hk2 (fun _ _ f => f.elim) (fun _ _ h => h)⟩
  by_cases k4 : o.kind = 4
  · have HR := Lib.hid (show o.run s = s.putStage o.bytes by unfold OpD.run; rw [if_neg k1, if_neg k2, if_neg k3, if_pos k4])
    have g1 : (o.kind == 1) = false := by simp [k1]
    have g2 : (o.kind == 2) = false := by simp [k2]
    have g3 : (o.kind == 3) = false := by simp [k3]
    have g4 : (o.kind == 4) = true := by simp [k4]
    clear k1 k2 k3 k4
    go_enter Try.func36, Try.ntmps36
    go_wp2_with fail
    refine (HB.out _ hb0).mono ?_
    rintro e w1 ⟨a, c, rfl, hO, hk1⟩
    go_wp2_with fail
    refine (refstage_calls x s a _ c o.bytes w1 (HD.out.non hk1) hs hO.bytes (by omega)).mono ?_
    rintro e w2 ⟨rfl, hd2, hk2⟩
    rw [← HR.out] at hd2 ⊢
    go_wp2
    go_ret
    exact ⟨rfl, hd2, (hk0.trans hk1).comp hk2 (fun _ _ f => f.elim) (fun _ _ h => h)⟩
  by_cases k5 : o.kind = 5
  · have HR := Lib.hid (show o.run s = s.commit by unfold OpD.run; rw [if_neg k1, if_neg k2, if_neg k3, if_neg k4, if_pos k5])
    have g1 : (o.kind == 1) = false := by simp [k1]
    have g2 : (o.kind == 2) = false := by simp [k2]
    have g3 : (o.kind == 3) = false := by simp [k3]
    have g4 : (o.kind == 4) = false := by simp [k4]
    have g5 : (o.kind == 5) = true := by simp [k5]
    clear k1 k2 k3 k4 k5
    go_enter Try.func36, Try.ntmps36
    go_wp2_with fail
    refine (refcommit_calls x s _ HD.out hs).mono ?_
    rintro e w2 ⟨rfl, hd2, hk2⟩
    rw [← HR.out] at hd2 ⊢
    go_wp2
    go_ret
    exact ⟨rfl, hd2, hk0.comp hk2 (fun _ _ f => f.elim) (fun _ _ h => h)⟩
  by_cases k6 : o.kind = 6
  · have HR := Lib.hid (show o.run s = (0, { s with stop := max o.n (-1) }) by unfold OpD.run; rw [if_neg k1, if_neg k2, if_neg k3, if_neg k4, if_neg k5, if_pos k6])
    have g1 : (o.kind == 1) = false := by simp [k1]
    have g2 : (o.kind == 2) = false := by simp [k2]
    have g3 : (o.kind == 3) = false := by simp [k3]
    have g4 : (o.kind == 4) = false := by simp [k4]
    have g5 : (o.kind == 5) = false := by simp [k5]
    have g6 : (o.kind == 6) = true := by simp [k6]
    clear k1 k2 k3 k4 k5 k6
    go_enter Try.func36, Try.ntmps36
    go_wp2_with fail
    refine (refstop_calls x s o.n _ HD.out).mono ?_
    rintro e w2 ⟨rfl, hd2, hk2⟩
    go_wp2
    go_ret
    rw [HR.out]
    exact ⟨rfl, hd2, hk0.comp hk2 (fun _ _ f => f.elim) (fun _ _ h => h)⟩
  by_cases k7 : o.kind = 7
  · have HR := Lib.hid (show o.run s = (0, s.crash o.n) by unfold OpD.run; rw [if_neg k1, if_neg k2, if_neg k3, if_neg k4, if_neg k5, if_neg k6, if_pos k7])
    have g1 : (o.kind == 1) = false := by simp [k1]
    have g2 : (o.kind == 2) = false := by simp [k2]
    have g3 : (o.kind == 3) = false := by simp [k3]
    have g4 : (o.kind == 4) = false := by simp [k4]
    have g5 : (o.kind == 5) = false := by simp [k5]
    have g6 : (o.kind == 6) = false := by simp [k6]
    have g7 : (o.kind == 7) = true := by simp [k7]
    clear k1 k2 k3 k4 k5 k6 k7
    go_enter Try.func36, Try.ntmps36
    go_wp2_with fail
    refine (refcrash_calls x s o.n _ HD.out hs).mono ?_
    rintro e w2 ⟨rfl, hd2, hk2⟩
    go_wp2
    go_ret
    rw [HR.out]
    exact ⟨rfl, hd2, hk0.comp hk2 (fun _ _ f => f.elim) (fun _ _ h => h)⟩
  · have HR := Lib.hid (show o.run s = (0, s) by unfold OpD.run; rw [if_neg k1, if_neg k2, if_neg k3, if_neg k4, if_neg k5, if_neg k6, if_neg k7])
    have g1 : (o.kind == 1) = false := by simp [k1]
    have g2 : (o.kind == 2) = false := by simp [k2]
    have g3 : (o.kind == 3) = false := by simp [k3]
    have g4 : (o.kind == 4) = false := by simp [k4]
    have g5 : (o.kind == 5) = false := by simp [k5]
    have g6 : (o.kind == 6) = false := by simp [k6]
    have g7 : (o.kind == 7) = false := by simp [k7]
    clear k1 k2 k3 k4 k5 k6 k7
    go_enter Try.func36, Try.ntmps36
    go_wp2
    go_ret
    rw [HR.out]
    exact ⟨rfl, HD.out, hk0.non⟩
end Go.Proofs.Ytclbapmjhchokaa
