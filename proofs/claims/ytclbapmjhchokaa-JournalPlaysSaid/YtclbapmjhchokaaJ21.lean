/-
  The document's journal: a block, what keeps it, its Sync and Add.
-/
import Derived.Test.YtclbapmjhchokaaJ20
namespace Go.Proofs.Ytclbapmjhchokaa
open Go.RowKit

def RRow (d : Nat) (J : JSt) (ia : Option Addr) (ic : Nat) (ra : Option Addr) (rc : Nat) : Array Value :=
  #[.pointer (some ⟨d, 0, none⟩), .slice ia J.image.length ic, .slice ra J.recs.length rc, .bool J.down]
structure RJAt (b0 : Nat) (w : World) (x d : Nat) (s : St) (J : JSt) (ra : Option Addr) (rc : Nat) (ia : Option Addr) (ic : Nat) (vs : List Value) : Prop where
  row : w.heap[x]? = some (.cells (RRow d J ia ic ra rc) 78 (0, 0))
  dev : Ref w d s
  image : Bytes w ia J.image.length ic J.image
  rows : SRow w 22 ra J.recs.length rc vs
  recs : Recs Non w vs J.recs
  bd : b0 ≤ d
  bj : b0 ≤ x
  br : ∀ k, Blk ra k → b0 ≤ k
/-- The block x is the document's journal that holds J, on its device d that holds s. -/
def RJou (b0 : Nat) (w : World) (x d : Nat) (s : St) (J : JSt) (ra : Option Addr) : Prop := ∃ rc ia ic vs, RJAt b0 w x d s J ra rc ia ic vs

theorem Ref.kp {S : Nat → Prop} {w w' : World} {d : Nat} {s : St} (h : Ref w d s) (k : Kp S w w') (hd : ¬ S d) (hs : NoB S w) : Ref w' d s := by
  obtain ⟨ia, ic, sa, sc, la, lc, h⟩ := h
  exact ⟨ia, ic, sa, sc, la, lc, k.heap h.row hd, h.image.nob k hs, h.stage.nob k hs, h.log.nob k hs⟩
theorem Ref.noB {w : World} {d : Nat} {s : St} (h : Ref w d s) : NoB (One d) w := by
  obtain ⟨ia, ic, sa, sc, la, lc, h⟩ := h
  exact fun ad b hc => h.apart (some ad) ad b rfl hc
theorem Ref.tag {w : World} {d : Nat} {s : St} (h : Ref w d s) : ∃ cs fr, w.heap[d]? = some (.cells cs 92 fr) := by
  obtain ⟨ia, ic, sa, sc, la, lc, h⟩ := h
  exact ⟨_, _, h.row⟩
section
variable {b0 : Nat} {w w' : World} {x d : Nat} {s s' : St} {J : JSt} {ra : Option Addr} {rc : Nat} {ia : Option Addr} {ic : Nat} {vs : List Value}
theorem RJAt.lt (h : RJAt b0 w x d s J ra rc ia ic vs) : x < w.heap.size := heap_lt h.row
theorem RJAt.c (h : RJAt b0 w x d s J ra rc ia ic vs) (i : Nat) : w.cell? ⟨x, i, none⟩ = (RRow d J ia ic ra rc)[i]? := cell_of_row w x i _ _ _ h.row
theorem RJAt.c0 (h : RJAt b0 w x d s J ra rc ia ic vs) : w.cell? ⟨x, 0, none⟩ = some (.pointer (some ⟨d, 0, none⟩)) := h.c 0
theorem RJAt.c1 (h : RJAt b0 w x d s J ra rc ia ic vs) : w.cell? ⟨x, 1, none⟩ = some (.slice ia J.image.length ic) := h.c 1
theorem RJAt.c2 (h : RJAt b0 w x d s J ra rc ia ic vs) : w.cell? ⟨x, 2, none⟩ = some (.slice ra J.recs.length rc) := h.c 2
theorem RJAt.c3 (h : RJAt b0 w x d s J ra rc ia ic vs) : w.cell? ⟨x, 3, none⟩ = some (.bool J.down) := h.c 3
theorem RJAt.f (h : RJAt b0 w x d s J ra rc ia ic vs) (i : Nat) : w.frozen? ⟨x, i, none⟩ = false := by
  simp only [World.frozen?, h.row]
  simp
theorem RJAt.jnoB (h : RJAt b0 w x d s J ra rc ia ic vs) : NoB (One x) w := by
  rintro ⟨k, o, sp⟩ b hc rfl
  obtain rfl : sp = none := World.cell?_spot hc
  have hc : w.cell? ⟨k, o, none⟩ = some (byteV b) := hc
  rw [h.c] at hc
  unfold RRow at hc
  match o with
  | 0 => cases hc
  | 1 => cases hc
  | 2 => cases hc
  | 3 => cases hc
  | o + 4 => simp at hc
theorem RJAt.noB (h : RJAt b0 w x d s J ra rc ia ic vs) : NoB (JS d x ra) w := by
  rintro ad b hc (h1 | h1 | h1)
  · exact h.dev.noB ad b hc h1
  · exact h.jnoB ad b hc h1
  · exact h.rows.noB ad b hc h1
theorem RJAt.jd (h : RJAt b0 w x d s J ra rc ia ic vs) : x ≠ d := by
  rintro rfl
  obtain ⟨cs, fr, h1⟩ := h.dev.tag
  rw [h.row] at h1
  cases h1
theorem RJAt.rj (h : RJAt b0 w x d s J ra rc ia ic vs) : ¬ Blk ra x := by
  intro hb
  obtain ⟨cs, fr, h1⟩ := h.rows.tag x hb
  rw [h.row] at h1
  cases h1
theorem RJAt.rd (h : RJAt b0 w x d s J ra rc ia ic vs) : ¬ Blk ra d := by
  intro hb
  obtain ⟨cs, fr, h1⟩ := h.rows.tag d hb
  obtain ⟨cs', fr', h2⟩ := h.dev.tag
  rw [h2] at h1
  cases h1
theorem RJAt.kp {S : Nat → Prop} (h : RJAt b0 w x d s J ra rc ia ic vs) (k : Kp S w w') (hd : ¬ S d) (hj : ¬ S x) (hr : ∀ i, Blk ra i → ¬ S i) (hs : NoB S w) : RJAt b0 w' x d s J ra rc ia ic vs :=
  ⟨k.heap h.row hj, h.dev.kp k hd hs, h.image.nob k hs, h.rows.kp k hr, h.recs.kp k hs, h.bd, h.bj, h.br⟩
theorem RJAt.non (h : RJAt b0 w x d s J ra rc ia ic vs) (k : Kp Non w w') : RJAt b0 w' x d s J ra rc ia ic vs :=
  h.kp k (fun f => f) (fun f => f) (fun _ _ f => f) (fun _ _ _ f => f)
theorem RJAt.step (h : RJAt b0 w x d s J ra rc ia ic vs) (k : Kp (One d) w w') (hd : Ref w' d s') : RJAt b0 w' x d s' J ra rc ia ic vs :=
  ⟨k.heap h.row h.jd, hd, h.image.nob k h.dev.noB, h.rows.kp k (fun i hb e => h.rd ((show i = d from e) ▸ hb)), h.recs.kp k h.dev.noB, h.bd, h.bj, h.br⟩
theorem RJAt.set {J' : JSt} {ra' : Option Addr} {rc' : Nat} {ia' : Option Addr} {ic' : Nat} {vs' : List Value} (h : RJAt b0 w x d s J ra rc ia ic vs) (k : Kp (JS x x ra) w w')
    (hrow : w'.heap[x]? = some (.cells (RRow d J' ia' ic' ra' rc') 78 (0, 0))) (hi : Bytes w' ia' J'.image.length ic' J'.image) (hr : SRow w' 22 ra' J'.recs.length rc' vs') (hrs : Recs Non w' vs' J'.recs) (hb : ∀ k, Blk ra' k → b0 ≤ k) : RJAt b0 w' x d s J' ra' rc' ia' ic' vs' := by
  refine ⟨hrow, h.dev.kp k ?_ ?_, hi, hr, hrs, h.bd, h.bj, hb⟩
  · rintro (h1 | h1 | h1)
    · exact h.jd h1.symm
    · exact h.jd h1.symm
    · exact h.rd h1
  · rintro ad b hc (h1 | h1 | h1)
    · exact h.jnoB ad b hc h1
    · exact h.jnoB ad b hc h1
    · exact h.rows.noB ad b hc h1
theorem RJAt.xnoB (h : RJAt b0 w x d s J ra rc ia ic vs) : NoB (JS x x ra) w := by
  rintro ad b hc (h1 | h1 | h1)
  · exact h.jnoB ad b hc h1
  · exact h.jnoB ad b hc h1
  · exact h.rows.noB ad b hc h1
theorem RJou.non (h : RJou b0 w x d s J ra) (k : Kp Non w w') : RJou b0 w' x d s J ra := by
  obtain ⟨_, _, _, _, h⟩ := h
  exact ⟨_, _, _, _, h.non k⟩
theorem RJou.kp {S : Nat → Prop} (h : RJou b0 w x d s J ra) (k : Kp S w w') (hd : ¬ S d) (hj : ¬ S x) (hr : ∀ i, Blk ra i → ¬ S i) (hs : NoB S w) : RJou b0 w' x d s J ra := by
  obtain ⟨_, _, _, _, h⟩ := h
  exact ⟨_, _, _, _, h.kp k hd hj hr hs⟩
theorem RJou.step (h : RJou b0 w x d s J ra) (k : Kp (One d) w w') (hd : Ref w' d s') : RJou b0 w' x d s' J ra := by
  obtain ⟨_, _, _, _, h⟩ := h
  exact ⟨_, _, _, _, h.step k hd⟩
theorem RJou.dev (h : RJou b0 w x d s J ra) : Ref w d s := by
  obtain ⟨_, _, _, _, h⟩ := h
  exact h.dev
theorem RJou.noB (h : RJou b0 w x d s J ra) : NoB (JS d x ra) w := by
  obtain ⟨_, _, _, _, h⟩ := h
  exact h.noB
theorem RJou.old (h : RJou b0 w x d s J ra) : ∀ k, JS d x ra k → b0 ≤ k ∧ k < w.heap.size := by
  obtain ⟨_, _, _, _, h⟩ := h
  rintro k (rfl | rfl | hk)
  · exact ⟨h.bd, h.dev.lt⟩
  · exact ⟨h.bj, h.lt⟩
  · exact ⟨h.br k hk, h.rows.lt k hk⟩
/-- It is down from now on. -/
theorem RJou.falls (h : RJou b0 w x d s J ra) : RJou b0 (w.setCell ⟨x, 3, none⟩ (.bool true)) x d s { J with down := true } ra := by
  obtain ⟨rc, ia, ic, vs, h⟩ := h
  have k : Kp (One x) w (w.setCell ⟨x, 3, none⟩ (.bool true)) := (Kp.refl (One x) w).setCell (p := ⟨x, 3, none⟩) (.inl rfl) _
  refine ⟨rc, ia, ic, vs, h.set (k.mono fun _ _ h => .inl h) ?_ (h.image.nob k h.jnoB) (h.rows.kp k (fun i hb e => h.rj ((show i = x from e) ▸ hb))) (h.recs.kp k h.jnoB) h.br⟩
  rw [heap_setCell_row h.row]
  rfl

/-- What a call of it leaves. -/
def RJPost (b0 x d : Nat) (ra : Option Addr) (r : Int × St × JSt) (w : World) (e : Ending) (w' : World) : Prop :=
  e = .returned (.int .i64 r.1) ∧ ∃ ra', (∀ k, Blk ra' k → Blk ra k ∨ w.heap.size ≤ k) ∧ RJou b0 w' x d r.2.1 r.2.2 ra' ∧ Kp (JS d x ra) w w'
theorem RJPost.of {e : Ending} {w1 : World} {ec : Int} {qs : St} (he : e = .returned (.int .i64 ec)) (h : RJou b0 w1 x d qs J ra) (k : Kp (JS d x ra) w w1) (h6 : ec ≠ 6) : RJPost b0 x d ra (ec, qs, tell J ec) w e w1 := by
  refine ⟨he, ra, fun _ h => .inl h, ?_, k⟩
  unfold tell
  rw [if_neg h6]
  exact h
theorem RJPost.of6 {e : Ending} {w1 : World} {qs : St} (he : e = .returned (.int .i64 6)) (h : RJou b0 w1 x d qs J ra) (k : Kp (JS d x ra) w w1) : RJPost b0 x d ra (6, qs, tell J 6) w e (w1.setCell ⟨x, 3, none⟩ (.bool true)) :=
  ⟨he, ra, fun _ h => .inl h, h.falls, k.jset 3 _⟩

set_option maxHeartbeats 1000000 in
theorem rsync_calls (h : RJou b0 w x d s J ra) (hok : s.ok) : Calls Try.prog 57 #[.pointer (some ⟨x, 0, none⟩)] w (RJPost b0 x d ra (jsync s J) w) := by
  have H := h
  obtain ⟨rc, ia, ic, vs, h⟩ := h
  have c0 := h.c0
  have c3 := h.c3
  have HO := Lib.hid hok
  by_cases hJ : J.down = true
  · have HQ := Lib.hid (show jsync s J = (7, s, J) by unfold jsync; rw [if_pos hJ])
    rw [hJ] at c3
    generalize jsync s J = Q at *
    clear hJ
    go_enter Try.func57, Try.ntmps57
    go_wp2_with fail
    go_ret
    rw [HQ.out]
    exact ⟨rfl, ra, fun _ h => .inl h, H, Kp.refl _ _⟩
  · have hJ' : J.down = false := by simpa using hJ
    have HQ := Lib.hid (show jsync s J = (s.sync.1, s.sync.2, tell J s.sync.1) by unfold jsync; rw [if_neg hJ])
    rw [hJ'] at c3
    generalize jsync s J = Q at *
    clear hJ hJ'
    go_enter Try.func57, Try.ntmps57
    go_wp2_with fail
    refine (refsync_calls d s w h.dev HO.out).mono ?_
    rintro e w1 ⟨rfl, hd1, hk1⟩
    have H1 := H.step hk1 hd1
    have c31 := hk1.cell c3 h.jd
    have f31 := hk1.fr (a := ⟨x, 3, none⟩) h.lt (h.f 3) h.jd
    generalize s.sync = q at *
    obtain ⟨qe, qs⟩ := q
    by_cases h6 : qe = 6
    · subst h6
      go_wp2_with fail
      go_ret
      rw [HQ.out]
      exact RJPost.of6 rfl H1 hk1.js
    · have e6 : (qe == 6) = false := by simp [h6]
      go_wp2_with fail
      go_ret
      rw [HQ.out]
      exact RJPost.of rfl H1 hk1.js h6
end
end Go.Proofs.Ytclbapmjhchokaa
