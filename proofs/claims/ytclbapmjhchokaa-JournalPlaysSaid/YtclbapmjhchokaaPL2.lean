/-
  A journal and the document's journal in one world: what a call of one leaves of the other.
-/
import Derived.Test.YtclbapmjhchokaaPL1
import Derived.Test.YtclbapmjhchokaaJ24
namespace Go.Proofs.Ytclbapmjhchokaa
open Go.RowKit
section
variable {F : Nat → Prop} {b0 b1 : Nat} {w w' : World} {j d x xd : Nat} {s s2 : St} {J J2 : JSt} {ra xa : Option Addr}

theorem Jou.rcall (hJ : Jou F b0 w j d s J ra) (hX : RJou b1 w x xd s2 J2 xa) (hap : ∀ k, Blk ra k → ¬ Blk xa k) (k : Kp (JS xd x xa) w w') : Jou F b0 w' j d s J ra := by
  have hnb := hX.noB
  obtain ⟨rc, ia, ic, vs, hX⟩ := hX
  obtain ⟨n1, n2, n3, n4, n5⟩ := jx_ne hJ hX
  obtain ⟨c1, f1, t1⟩ := hJ.dev.tag
  refine hJ.kp k ?_ ?_ ?_ hnb
  · rintro (q | q | q)
    · exact n3 q
    · exact n1 q
    · obtain ⟨c2, f2, t2⟩ := hX.rows.tag d q
      rw [t1] at t2; cases t2
  · obtain ⟨_, _, _, _, hj⟩ := hJ
    rintro (q | q | q)
    · exact n4 q
    · exact n2 q
    · obtain ⟨c2, f2, t2⟩ := hX.rows.tag j q
      rw [hj.row] at t2; cases t2
  · rintro i hi (q | q | q)
    · exact (n5 i hi).2 q
    · exact (n5 i hi).1 q
    · exact hap i hi q
theorem RJou.jcall (hX : RJou b1 w x xd s2 J2 xa) (hJ : Jou F b0 w j d s J ra) (hap : ∀ k, Blk ra k → ¬ Blk xa k) (k : Kp (JS d j ra) w w') : RJou b1 w' x xd s2 J2 xa := by
  have hnb := hJ.noB
  obtain ⟨rc, ia, ic, vs, hX⟩ := hX
  obtain ⟨n1, n2, n3, n4, n5⟩ := jx_ne hJ hX
  obtain ⟨c1, f1, t1⟩ := hJ.dev.tag
  refine ⟨rc, ia, ic, vs, hX.kp k ?_ ?_ ?_ hnb⟩
  · rintro (q | q | q)
    · exact n3 q.symm
    · exact n4 q.symm
    · exact (n5 xd q).2 rfl
  · rintro (q | q | q)
    · exact n1 q.symm
    · exact n2 q.symm
    · exact (n5 x q).1 rfl
  · rintro i hi (q | q | q)
    · obtain ⟨c2, f2, t2⟩ := hX.rows.tag i hi
      rw [q, t1] at t2; cases t2
    · obtain ⟨c2, f2, t2⟩ := hX.rows.tag i hi
      obtain ⟨_, _, _, _, hj⟩ := hJ
      rw [q, hj.row] at t2; cases t2
    · exact hap i q hi
end

/-- Both, apart; since w nothing old has turned. -/
structure PRel (w wr : World) (d j x xd : Nat) (s : St) (J : JSt) (s2 : St) (J2 : JSt) (ra xa : Option Addr) : Prop where
  jou : Jou Non w.heap.size wr j d s J ra
  rjou : RJou w.heap.size wr x xd s2 J2 xa
  ap : ∀ k, Blk ra k → ¬ Blk xa k
  kp : Kp Non w wr
section
variable {w wr w' : World} {j d x xd : Nat} {s s2 : St} {J J2 : JSt} {ra xa : Option Addr}
theorem PRel.non (h : PRel w wr d j x xd s J s2 J2 ra xa) (k : Kp Non wr w') : PRel w w' d j x xd s J s2 J2 ra xa :=
  ⟨h.jou.non k, h.rjou.non k, h.ap, h.kp.trans k⟩
/-- A call of the journal. -/
theorem PRel.call {e : Ending} {r : Int × St × JSt} (h : PRel w wr d j x xd s J s2 J2 ra xa) (hp : JPost Non w.heap.size j d ra r wr e w') :
    e = .returned (.int .i64 r.1) ∧ ∃ ra', PRel w w' d j x xd r.2.1 r.2.2 s2 J2 ra' xa ∧ ∀ a n c l, Bytes wr a n c l → Bytes w' a n c l := by
  obtain ⟨he, ra', h1, h2, h3⟩ := hp
  have hold := h.jou.old
  have hxo := h.rjou.old
  refine ⟨he, ra', ⟨h2, h.rjou.jcall h.jou h.ap h3, fun k hk q => ?_, h.kp.comp h3 (fun _ _ f => f) (fun y hy q => by have := (hold y q).1; omega)⟩, fun a n c l hb => hb.nob h3 h.jou.noB⟩
  rcases h1 k hk with q1 | q1
  · exact h.ap k q1 q
  · have := (hxo k (.inr (.inr q))).2
    omega
/-- A call of the document's. -/
theorem PRel.rcall {e : Ending} {r : Int × St × JSt} (h : PRel w wr d j x xd s J s2 J2 ra xa) (hp : RJPost w.heap.size x xd xa r wr e w') :
    e = .returned (.int .i64 r.1) ∧ ∃ xa', PRel w w' d j x xd s J r.2.1 r.2.2 ra xa' ∧ ∀ a n c l, Bytes wr a n c l → Bytes w' a n c l := by
  obtain ⟨he, xa', h1, h2, h3⟩ := hp
  have hold := h.rjou.old
  have hjo := h.jou.old
  refine ⟨he, xa', ⟨h.jou.rcall h.rjou h.ap h3, h2, fun k hk q => ?_, h.kp.comp h3 (fun _ _ f => f) (fun y hy q => by have := (hold y q).1; omega)⟩, fun a n c l hb => hb.nob h3 h.rjou.noB⟩
  rcases h1 k q with q1 | q1
  · exact h.ap k hk q1
  · have := (hjo k (.inr (.inr hk))).2
    omega
/-- The journal's device went on by itself. -/
theorem PRel.dev (h : PRel w wr d j x xd s J s2 J2 ra xa) {s' : St} (k : Kp (One d) wr w') (hd : Dev Non w' d s') : ∃ ra', PRel w w' d j x xd s' J s2 J2 ra' xa ∧ ∀ a n c l, Bytes wr a n c l → Bytes w' a n c l :=
  (h.call (r := (0, s', J)) (e := .returned (.int .i64 0)) ⟨rfl, ra, fun _ h => .inl h, h.jou.step k hd, k.js⟩).2
theorem PRel.ref (h : PRel w wr d j x xd s J s2 J2 ra xa) {s' : St} (k : Kp (One xd) wr w') (hd : Ref w' xd s') : ∃ xa', PRel w w' d j x xd s J s' J2 ra xa' ∧ ∀ a n c l, Bytes wr a n c l → Bytes w' a n c l :=
  (h.rcall (r := (0, s', J2)) (e := .returned (.int .i64 0)) ⟨rfl, xa, fun _ h => .inl h, h.rjou.step k hd, k.js⟩).2
/-- Both anew. -/
theorem PRel.open2 (h : PRel w wr d j x xd s J s2 J2 ra xa) {s' : St} {J' : JSt} {e : Ending} (hp : Open2Post w.heap.size w.heap.size d x xd s' J' xa wr e w') :
    ∃ j' ra' xa', e = .returned (.tuple #[.pointer (some ⟨j', 0, none⟩), .bool true]) ∧ PRel w w' d j' x xd s' J' s' J' ra' xa' := by
  obtain ⟨j', ra', xa', he, h1, h2, h3, _, _, _, h7⟩ := hp
  have hold := h.rjou.old
  have hjo := h.jou.old
  exact ⟨j', ra', xa', he, ⟨h1, h2, h3, h.kp.comp h7 (fun _ _ f => f) (fun y hy q => by
    rcases q with q | q
    · have := (hjo y (.inl q)).1; omega
    · have := (hold y q).1; omega)⟩⟩
end
end Go.Proofs.Ytclbapmjhchokaa
