/-
  The document's device: Sync, Cut, Commit.
-/
import Derived.Test.YtclbapmjhchokaaS3
namespace Go.Proofs.Ytclbapmjhchokaa
open Go.RowKit

theorem RPost.of {x : Nat} {r : Int × St} {w w1 w2 : World} (k : Kp (One x) w w1) (h : Ref w2 x r.2) (k2 : Kp (One x) w1 w2) : RPost x r w (.returned (.int .i64 r.1)) w2 := ⟨rfl, h, k.trans k2⟩

/-- The start of a writing call that lays nothing when the power goes. -/
theorem told_sync (s : St) : s.sync = if s.how = 0 then (0, { s.told with sure := s.log.length }) else (6, s.told) := by
  unfold St.sync
  rw [told_count]
  by_cases h : s.how = 0
  · simp only [h, if_true]
    rw [fin_sure]
    congr 1
    have : s.off = false := by unfold St.how at h; cases ho : s.off <;> simp [ho] at h ⊢
    simp [St.told, this]
  · simp only [h, if_false]
theorem how_on {s : St} (h : s.how = 0) : s.told = s.fin := by
  have : s.off = false := by unfold St.how at h; cases ho : s.off <;> simp [ho] at h ⊢
  simp [St.told, this]
theorem told_cut (s : St) (n : Int) : s.cut n = if s.how = 0 then (if n < 0 ∨ s.log.length < n then (1, s.told) else (0, { s.told with log := s.log.take n.toNat, sure := min s.sure n })) else (6, s.told) := by
  unfold St.cut
  rw [told_count]
  by_cases h : s.how = 0
  · simp only [h, if_true]
    by_cases hb : n < 0 ∨ s.log.length < n
    · have : cutBad s n = true := by simp [cutBad, hb]
      rw [this, if_pos hb]
      simp [arg1]
    · have : cutBad s n = false := by simp [cutBad, hb]
      rw [this, if_neg hb]
      simp only [arg1, how_on h]
      rw [if_neg (by simp), if_pos rfl]
      have e := fin_sure { s with log := s.log.take n.toNat } (min s.sure n)
      rw [fin_log] at e
      exact congrArg (Prod.mk 0) e
  · simp only [h, if_false]
theorem told_stage (s : St) (b : List UInt8) : s.putStage b = if s.how = 0 then (if s.room < secs b.length + secs s.image.length + secs s.log.length then (3, s.told) else (0, { s.told with stage := b, staged := true })) else (6, s.told) := by
  unfold St.putStage
  rw [told_count]
  by_cases h : s.how = 0
  · simp only [h, if_true]
    by_cases hb : s.room < secs b.length + secs s.image.length + secs s.log.length
    · have : decide (s.room - secs s.image.length - secs s.log.length < secs b.length) = true := by simp; omega
      rw [this, if_pos hb]
      simp [full3]
    · have : decide (s.room - secs s.image.length - secs s.log.length < secs b.length) = false := by simp; omega
      rw [this, if_neg hb]
      simp only [full3, how_on h]
      rw [if_neg (by simp), if_pos rfl, fin_stage]
  · simp only [h, if_false]
theorem told_commit (s : St) : s.commit = if s.how = 0 then (if s.staged = true then (0, { s.told with image := s.stage, stage := [], staged := false, log := [], sure := 0 }) else (8, s.told)) else (6, s.told) := by
  unfold St.commit
  rw [told_count]
  by_cases h : s.how = 0
  · simp only [h, if_true]
    cases hg : s.staged with
    | false => simp [none8]
    | true =>
      simp only [none8, if_true, how_on h]
      have e := fin_image { s with stage := [], staged := false, log := [], sure := 0 } s.stage
      have e2 := fin_sure { s with stage := [], staged := false, log := [] } 0
      have e3 := fin_log { s with stage := [], staged := false } []
      have e4 := fin_stage s [] false
      rw [e4] at e3
      rw [e3] at e2
      rw [e2] at e
      exact congrArg (Prod.mk 0) e
  · simp only [h, if_false]

set_option maxRecDepth 100000 in
set_option maxHeartbeats 1000000 in
theorem refsync_calls (x : Nat) (s : St) (w : World) (hx : Ref w x s) (hok : s.ok) : Calls Try.prog 77 #[.pointer (some ⟨x, 0, none⟩)] w (RPost x s.sync w) := by
  have HT := Lib.hid (told_sync s)
  obtain ⟨e1, e2, e3, e4, e5, e6⟩ := told_eq s
  go_enter Try.func77, Try.ntmps77
  go_wp2_with fail
  refine (counts_calls x s _ hx hok.stop).mono ?_
  rintro e w1 ⟨rfl, hx1, hk1⟩
  dsimp only at hx1 ⊢
  by_cases hh : s.how = 0
  · have HH := Lib.hid hh
    rw [hh]
    clear hh
    obtain ⟨ia, ic, sa, sc, la, lc, h⟩ := hx1
    have c4 := h.c4
    have f5 := h.f 5
    have c5 := h.c5
    rw [e5] at c4
    go_wp2
    go_ret
    rw [HT.out, if_pos HH.out]
    exact ⟨rfl, (h.setSure s.log.length).ref, hk1.set1 _ _⟩
  · have HH := Lib.hid hh
    have hb : (s.how != 0) = true := by simp [hh]
    clear hh
    go_wp2
    go_ret
    rw [HT.out, if_neg HH.out]
    exact ⟨rfl, hx1, hk1⟩

set_option maxRecDepth 100000 in
set_option maxHeartbeats 1000000 in
theorem refcut_calls (x : Nat) (s : St) (n : Int) (w : World) (hx : Ref w x s) (hok : s.ok) : Calls Try.prog 78 #[.pointer (some ⟨x, 0, none⟩), .int .i64 n] w (RPost x (s.cut n) w) := by
  have HT := Lib.hid (told_cut s n)
  obtain ⟨e1, e2, e3, e4, e5, e6⟩ := told_eq s
  have b3 := hok.log
  go_enter Try.func78, Try.ntmps78
  go_wp2_with fail
  refine (counts_calls x s _ hx hok.stop).mono ?_
  rintro e w1 ⟨rfl, hx1, hk1⟩
  dsimp only at hx1 ⊢
  by_cases hh : s.how = 0
  · have HH := Lib.hid hh
    rw [hh]
    clear hh
    have hx1' := hx1
    obtain ⟨ia, ic, sa, sc, la, lc, h⟩ := hx1
    have c4 := h.c4
    rw [e5] at c4
    have hlog := h.log
    rw [e5] at hlog
    by_cases h0 : n < 0
    · have HB := Lib.hid (show n < 0 ∨ (s.log.length : Int) < n from .inl h0)
      go_wp2
      go_ret
      rw [HT.out, if_pos HH.out, if_pos HB.out]
      exact ⟨rfl, hx1', hk1⟩
    · have g0 : decide (n < 0) = false := by simpa using h0
      by_cases h1 : (s.log.length : Int) < n
      · have HB := Lib.hid (show n < 0 ∨ (s.log.length : Int) < n from .inr h1)
        clear h0
        go_wp2
        go_ret
        rw [HT.out, if_pos HH.out, if_pos HB.out]
        exact ⟨rfl, hx1', hk1⟩
      · have HB := Lib.hid (show ¬ (n < 0 ∨ (s.log.length : Int) < n) by omega)
        have g1 : decide ((s.log.length : Int) < n) = false := by simpa using h1
        have hn0 : 0 ≤ n := by omega
        have hcap := hlog.cap
        have hn1 : n ≤ (lc : Int) := by omega
        have hn2 : n.toNat ≤ s.log.length := by omega
        clear h0 h1
        go_wp2_with fail
        refine (join_calls _ _ _ (s.log.take n.toNat) _ _ _ [] _ (hlog.take n.toNat hn2) (Bytes.empty _) (by omega) (by omega)).mono ?_
        rintro e w2 ⟨ja, jn, jc, rfl, hJ, hk2⟩
        rw [List.append_nil] at hJ
        have h2 := h.non hk2
        have d4 := h2.c4
        have d5 := h2.c5
        have f4 := h2.f 4
        have f5 := h2.f 5
        rw [e5] at d4
        rw [e6] at d5
        have hkk : Kp (One x) w w2 := hk1.comp hk2 (fun _ _ h => h) (fun _ _ f => f.elim)
        clear c4 h
        by_cases hs : n < s.sure
        · have HM := Lib.hid (show min s.sure n = n by omega)
          go_wp2
          go_ret
          rw [HT.out, if_pos HH.out, if_neg HB.out, HM.out]
          exact ⟨rfl, ((h2.setLog hJ).setSure n).ref, (hkk.set1 _ _).set1 _ _⟩
        · have HM := Lib.hid (show min s.sure n = s.sure by omega)
          have g2 : decide (n < s.sure) = false := by simpa using hs
          clear hs
          go_wp2
          go_ret
          rw [HT.out, if_pos HH.out, if_neg HB.out, HM.out]
          have h3 := h2.setLog hJ
          refine ⟨rfl, ?_, hkk.set1 _ _⟩
          have e7 : ({ s.told with log := s.log.take n.toNat, sure := s.sure } : St) = { s.told with log := s.log.take n.toNat } := by rw [← e6]
          rw [e7]
          exact h3.ref
  · have HH := Lib.hid hh
    have hb : (s.how != 0) = true := by simp [hh]
    clear hh
    go_wp2
    go_ret
    rw [HT.out, if_neg HH.out]
    exact ⟨rfl, hx1, hk1⟩

set_option maxRecDepth 100000 in
set_option maxHeartbeats 1000000 in
theorem refcommit_calls (x : Nat) (s : St) (w : World) (hx : Ref w x s) (hok : s.ok) : Calls Try.prog 80 #[.pointer (some ⟨x, 0, none⟩)] w (RPost x s.commit w) := by
  have HT := Lib.hid (told_commit s)
  obtain ⟨e1, e2, e3, e4, e5, e6⟩ := told_eq s
  have hnot : ∀ (x : Bool) (w : World), (Op.unary .not (.bool x)).run Try.prog w = .ok (.bool (!x)) w := fun _ _ => rfl
  go_enter Try.func80, Try.ntmps80
  go_wp2_with fail
  refine (counts_calls x s _ hx hok.stop).mono ?_
  rintro e w1 ⟨rfl, hx1, hk1⟩
  dsimp only at hx1 ⊢
  by_cases hh : s.how = 0
  · have HH := Lib.hid hh
    rw [hh]
    clear hh
    have hx1' := hx1
    obtain ⟨ia, ic, sa, sc, la, lc, h⟩ := hx1
    have c1 := h.c1
    have c2 := h.c2
    have c3 := h.c3
    have c4 := h.c4
    have c5 := h.c5
    have f := h.f
    rw [e4] at c3
    cases hg : s.staged with
    | false =>
      have HG := Lib.hid hg
      rw [hg] at c3
      clear hg
      go_wp2
      go_ret
      rw [HT.out, if_pos HH.out, HG.out, if_neg (by simp)]
      exact ⟨rfl, hx1', hk1⟩
    | true =>
      have HG := Lib.hid hg
      rw [hg] at c3
      clear hg
      have b2 := h.stage
      rw [e3] at b2 c2
      go_wp2
      go_ret
      rw [HT.out, if_pos HH.out, HG.out, if_pos rfl]
      exact ⟨rfl, (((((h.setImage b2).setStage (Bytes.empty _)).setStaged false).setLog (Bytes.empty _)).setSure 0).ref, ((((hk1.set1 _ _).set1 _ _).set1 _ _).set1 _ _).set1 _ _⟩
  · have HH := Lib.hid hh
    have hb : (s.how != 0) = true := by simp [hh]
    clear hh
    go_wp2
    go_ret
    rw [HT.out, if_neg HH.out]
    exact ⟨rfl, hx1, hk1⟩
end Go.Proofs.Ytclbapmjhchokaa
