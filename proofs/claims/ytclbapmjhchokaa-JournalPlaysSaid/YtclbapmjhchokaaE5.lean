/-
  The device's counting calls: Append, Sync, Cut, Stage, Commit.
-/
import Derived.Test.YtclbapmjhchokaaE4
namespace Go.Proofs.Ytclbapmjhchokaa
open Go.RowKit
variable {F : Nat → Prop}

/-- A counting call: it is refused with ec, or s1 is what it leaves; laid: even if the power goes. -/
def St.count (s : St) (ec : Int) (s1 : St) (laid : Bool) : Int × St :=
  if s.off then (6, s) else
  if ec ≠ 0 then (if s.stop = 0 then 6 else ec, s.fin) else
  (if s.stop = 0 then 6 else 0, (if s.stop ≠ 0 ∨ laid = true then s1 else s).fin)

def St.append (s : St) (b : List UInt8) : Int × St := s.count (full3 (decide (s.room - secs s.image.length - secs s.stage.length < secs (s.log.length + b.length)))) { s with log := s.log ++ b } true
def St.sync (s : St) : Int × St := s.count 0 { s with sure := s.log.length } false
/-- May the log not be cut there? -/
def cutBad (s : St) (n : Int) : Bool := decide (n < 0 ∨ s.log.length < n)
def St.cut (s : St) (n : Int) : Int × St := s.count (arg1 (cutBad s n)) { s with log := s.log.take n.toNat, sure := min s.sure n } false
def St.putStage (s : St) (b : List UInt8) : Int × St := s.count (full3 (decide (s.room - secs s.image.length - secs s.log.length < secs b.length))) { s with stage := b, staged := true } false
def St.commit (s : St) : Int × St := s.count (none8 s.staged) { s with image := s.stage, stage := [], staged := false, log := [], sure := 0 } false

/-- What a method leaves: its answer, the device. -/
def MPost (F : Nat → Prop) (d : Nat) (r : Int × St) (w : World) (e : Ending) (w' : World) : Prop := e = .returned (.int .i64 r.1) ∧ Dev F w' d r.2 ∧ Kp (One d) w w'

/-- The five by one. -/
theorem call_counts (d : Nat) (s s1 : St) (f1 f2 : FuncId) (c1 c2 : Array Value) (laid : Bool) (ec : Int) (w : World) (hd : Dev F w d s) (hst : StopOk s)
    (hen : Enters f1 c1) (hchk : ∀ W, Kp Non w W → Calls Try.prog f1 c1 W (TelPost ec W))
    (hen2 : Enters f2 c2) (hdoes : ec = 0 → ∀ W, Kp Non w W → Calls Try.prog f2 c2 W (DoesPost F d s1 W)) (hs1 : s1.stop = s.stop) :
    Calls Try.prog 62 #[.pointer (some ⟨d, 0, none⟩), .func (.func f1) #[] c1, .func (.func f2) #[] c2, .bool laid] w (MPost F d (s.count ec s1 laid) w) := by
  have hto : ∀ (r : Int × St) (ec : Int) (s2 : St), r = (if s.stop = 0 then 6 else ec, s2.fin) → ∀ e w', CallPost F d ec s s2 w e w' → MPost F d r w e w' := by
    rintro r ec s2 rfl e w' ⟨h1, h2, h3⟩
    exact ⟨h1, h2, h3⟩
  by_cases ho : s.off = true
  · refine (call_off d s _ _ laid w hd ho).mono ?_
    rintro e w' ⟨rfl, hk⟩
    unfold St.count
    rw [if_pos ho]
    exact ⟨rfl, hd.non hk, hk.non⟩
  · have ho' : s.off = false := by simpa using ho
    by_cases hec : ec = 0
    · subst hec
      by_cases hs : s.stop ≠ 0 ∨ laid = true
      · refine (call_does d s s1 f1 f2 c1 c2 laid w hd ho' hst hen hchk hen2 (hdoes rfl) hs1 hs).mono (hto _ _ _ ?_)
        unfold St.count
        rw [if_neg ho, if_neg (by simp), if_pos hs]
      · have hl : laid = false := by
          cases laid with
          | true => exact absurd (.inr rfl) hs
          | false => rfl
        subst hl
        have hz : s.stop = 0 := Classical.byContradiction fun h => hs (.inl h)
        refine (call_skips d s f1 f2 c1 c2 w hd ho' hst hen hchk hz).mono (hto _ _ _ ?_)
        unfold St.count
        rw [if_neg ho, if_neg (by simp), if_neg hs]
    · refine (call_refuses d s f1 f2 c1 c2 ec laid w hd ho' hst hen hchk (by simp [hec])).mono (hto _ _ _ ?_)
      unfold St.count
      rw [if_neg ho, if_pos hec]

theorem enters (f : FuncId) (a : Array Value) (h : ∀ w, (callFunc f a).run Try.prog w = .ok (.enter f a) w) : Enters f a := h

theorem MPost.of {d : Nat} {r : Int × St} {w w0 : World} (hk : Kp Non w w0) {e : Ending} {w' : World} (h : MPost F d r w0 e w') : MPost F d r w e w' :=
  ⟨h.1, h.2.1, hk.comp h.2.2 (fun _ _ f => f.elim) (fun _ _ h => h)⟩

theorem box2 (w : World) (v1 v2 : Value) (t1 t2 : TypeId) : Box ((w.alloc (.cells #[v1] t1)).alloc (.cells #[v2] t2)) w.heap.size v1 t1 ∧ Box ((w.alloc (.cells #[v1] t1)).alloc (.cells #[v2] t2)) (w.heap.size + 1) v2 t2 := by
  refine ⟨(Box.new w v1 t1).kp ((Kp.refl Non _).alloc _) (fun f => f), ?_⟩
  have := Box.new (w.alloc (.cells #[v1] t1)) v2 t2
  simpa using this

set_option maxHeartbeats 400000 in
theorem append_calls (d : Nat) (s : St) (ba : Option Addr) (bn bc : Nat) (bl : List UInt8) (w : World) (hd : Dev F w d s) (hok : s.ok) (hbl : Bytes w ba bn bc bl) (hbn : bn ≤ 1000000000000) :
    Calls Try.prog 21 #[.pointer (some ⟨d, 0, none⟩), .slice ba bn bc] w (MPost F d (s.append bl) w) := by
  have hmf := mfunc
  go_enter Try.func21, Try.ntmps21
  go_wp2_with fail
  obtain ⟨hx, hb⟩ := box2 w (.pointer (some ⟨d, 0, none⟩)) (.slice ba bn bc) 25 22
  have hk0 : Kp Non w ((w.alloc (.cells #[.pointer (some ⟨d, 0, none⟩)] 25)).alloc (.cells #[.slice ba bn bc] 22)) := ((Kp.refl _ _).alloc _).alloc _
  refine (call_counts d s { s with log := s.log ++ bl } 63 65 _ _ true (full3 (decide (s.room - secs s.image.length - secs s.stage.length < secs (s.log.length + bl.length)))) _ (hd.non hk0) hok.stop (by intro w; simp [go_sem]) ?_ (by intro w; simp [go_sem]) ?_ rfl).mono ?_
  · intro W hW
    exact append_asks _ _ d s ba bn bc W (hx.kp hW (fun f => f)) (hb.kp hW (fun f => f)) (hd.non (hk0.trans hW)) hok hbn _ (by rw [hbl.len])
  · intro _ W hW
    exact append_does _ _ d s ba bn bc bl W (hx.kp hW (fun f => f)) (hb.kp hW (fun f => f)) (hd.non (hk0.trans hW)) hok (hbl.non (hk0.trans hW)) hbn
  rintro e w' ⟨rfl, h2, h3⟩
  go_wp2
  go_ret
  exact MPost.of hk0 ⟨rfl, h2, h3⟩

set_option maxHeartbeats 400000 in
theorem stage_calls (d : Nat) (s : St) (ba : Option Addr) (bn bc : Nat) (bl : List UInt8) (w : World) (hd : Dev F w d s) (hok : s.ok) (hbl : Bytes w ba bn bc bl) (hbn : bn ≤ 1000000000000) :
    Calls Try.prog 29 #[.pointer (some ⟨d, 0, none⟩), .slice ba bn bc] w (MPost F d (s.putStage bl) w) := by
  have hmf := mfunc
  go_enter Try.func29, Try.ntmps29
  go_wp2_with fail
  obtain ⟨hx, hb⟩ := box2 w (.pointer (some ⟨d, 0, none⟩)) (.slice ba bn bc) 25 22
  have hk0 : Kp Non w ((w.alloc (.cells #[.pointer (some ⟨d, 0, none⟩)] 25)).alloc (.cells #[.slice ba bn bc] 22)) := ((Kp.refl _ _).alloc _).alloc _
  refine (call_counts d s { s with stage := bl, staged := true } 71 72 _ _ false (full3 (decide (s.room - secs s.image.length - secs s.log.length < secs bl.length))) _ (hd.non hk0) hok.stop (by intro w; simp [go_sem]) ?_ (by intro w; simp [go_sem]) ?_ rfl).mono ?_
  · intro W hW
    exact stage_asks _ _ d s ba bn bc W (hx.kp hW (fun f => f)) (hb.kp hW (fun f => f)) (hd.non (hk0.trans hW)) hok hbn _ (by rw [hbl.len])
  · intro _ W hW
    exact stage_does _ _ d s ba bn bc bl W (hx.kp hW (fun f => f)) (hb.kp hW (fun f => f)) (hd.non (hk0.trans hW)) (hbl.non (hk0.trans hW)) hbn
  rintro e w' ⟨rfl, h2, h3⟩
  go_wp2
  go_ret
  exact MPost.of hk0 ⟨rfl, h2, h3⟩

set_option maxHeartbeats 400000 in
theorem cut_calls (d : Nat) (s : St) (n : Int) (w : World) (hd : Dev F w d s) (hok : s.ok) :
    Calls Try.prog 75 #[.pointer (some ⟨d, 0, none⟩), .int .i64 n] w (MPost F d (s.cut n) w) := by
  have hmf := mfunc
  go_enter Try.func75, Try.ntmps75
  go_wp2_with fail
  obtain ⟨hx, hb⟩ := box2 w (.pointer (some ⟨d, 0, none⟩)) (.int .i64 n) 25 3
  have hk0 : Kp Non w ((w.alloc (.cells #[.pointer (some ⟨d, 0, none⟩)] 25)).alloc (.cells #[.int .i64 n] 3)) := ((Kp.refl _ _).alloc _).alloc _
  refine (call_counts d s { s with log := s.log.take n.toNat, sure := min s.sure n } 98 99 _ _ false (arg1 (cutBad s n)) _ (hd.non hk0) hok.stop (by intro w; simp [go_sem]) ?_ (by intro w; simp [go_sem]) ?_ rfl).mono ?_
  · intro W hW
    exact cut_asks _ _ d s n W (hx.kp hW (fun f => f)) (hb.kp hW (fun f => f)) (hd.non (hk0.trans hW)) hok _ rfl
  · intro hz W hW
    have h0 : 0 ≤ n ∧ n ≤ s.log.length := by
      by_cases h : n < 0 ∨ (s.log.length : Int) < n
      · simp [h, arg1, cutBad] at hz
      · omega
    exact cut_does _ _ d s n W (hx.kp hW (fun f => f)) (hb.kp hW (fun f => f)) (hd.non (hk0.trans hW)) hok h0.1 h0.2
  rintro e w' ⟨rfl, h2, h3⟩
  go_wp2
  go_ret
  exact MPost.of hk0 ⟨rfl, h2, h3⟩

set_option maxHeartbeats 400000 in
theorem sync_calls (d : Nat) (s : St) (w : World) (hd : Dev F w d s) (hok : s.ok) : Calls Try.prog 22 #[.pointer (some ⟨d, 0, none⟩)] w (MPost F d s.sync w) := by
  have hmf := mfunc
  go_enter Try.func22, Try.ntmps22
  go_wp2_with fail
  have hx := Box.new w (.pointer (some ⟨d, 0, none⟩)) 25
  have hk0 : Kp Non w (w.alloc (.cells #[.pointer (some ⟨d, 0, none⟩)] 25)) := (Kp.refl _ _).alloc _
  refine (call_counts d s { s with sure := s.log.length } 66 67 #[] _ false 0 _ (hd.non hk0) hok.stop (by intro w; simp [go_sem]) ?_ (by intro w; simp [go_sem]) ?_ rfl).mono ?_
  · intro W hW
    exact fine_asks W
  · intro _ W hW
    exact sync_does _ d s W (hx.kp hW (fun f => f)) (hd.non (hk0.trans hW))
  rintro e w' ⟨rfl, h2, h3⟩
  go_wp2
  go_ret
  exact MPost.of hk0 ⟨rfl, h2, h3⟩

set_option maxHeartbeats 400000 in
theorem commit_calls (d : Nat) (s : St) (w : World) (hd : Dev F w d s) (hok : s.ok) : Calls Try.prog 30 #[.pointer (some ⟨d, 0, none⟩)] w (MPost F d s.commit w) := by
  have hmf := mfunc
  go_enter Try.func30, Try.ntmps30
  go_wp2_with fail
  have hx := Box.new w (.pointer (some ⟨d, 0, none⟩)) 25
  have hk0 : Kp Non w (w.alloc (.cells #[.pointer (some ⟨d, 0, none⟩)] 25)) := (Kp.refl _ _).alloc _
  refine (call_counts d s { s with image := s.stage, stage := [], staged := false, log := [], sure := 0 } 73 74 _ _ false (none8 s.staged) _ (hd.non hk0) hok.stop (by intro w; simp [go_sem]) ?_ (by intro w; simp [go_sem]) ?_ rfl).mono ?_
  · intro W hW
    exact commit_asks _ d s W (hx.kp hW (fun f => f)) (hd.non (hk0.trans hW)) _ rfl
  · intro _ W hW
    exact commit_does _ d s W (hx.kp hW (fun f => f)) (hd.non (hk0.trans hW))
  rintro e w' ⟨rfl, h2, h3⟩
  go_wp2
  go_ret
  exact MPost.of hk0 ⟨rfl, h2, h3⟩
end Go.Proofs.Ytclbapmjhchokaa
