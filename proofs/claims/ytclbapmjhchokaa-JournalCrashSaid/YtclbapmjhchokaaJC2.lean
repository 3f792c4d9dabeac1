/-
  JournalCrash: behind a crash at any time the last saved image is found, and a beginning of the records that has all that were sure. For every input.
-/
import Derived.Test.YtclbapmjhchokaaJC1
import Derived.Test.YtclbapmjhchokaaJ20
namespace Go.Proofs.Ytclbapmjhchokaa
open Go.RowKit

def lfirst : List UInt8 := [102, 105, 114, 115, 116]
theorem cr_new : jswap (St.new 300) lfirst = (0, { St.new 300 with image := frame lfirst }) := by
  rw [jswap_fits (s := St.new 300) (b := lfirst) rfl rfl (by simp [lfirst]) (by decide)]
  rfl
theorem cr_up : Up { St.new 300 with image := frame lfirst } lfirst [] 0 :=
  ⟨rfl, rfl, rfl, rfl, rfl, rfl, Nat.le_refl _, by simp [lfirst], by simp, by have := jswap_ok (St.new_ok 300 (by omega) (by omega)) lfirst; rw [cr_new] at this; exact this⟩
theorem info9 : (Try.prog.info? 9).map (fun i => (i.zero, i.size, i.bytes)) = some (some (.string ByteArray.empty), 1, 16) := by kernel_rfl
theorem RowsB.take {w : World} {a : Option Addr} {n c : Nat} {l : List (List UInt8)} (h : RowsB w a n c l) {k : Nat} (hk : k ≤ n) : RowsB w a k c (l.take k) := by
  have h1 := h.len
  refine ⟨by simp; omega, Nat.le_trans hk h.cap, h.max, fun i r hr => ?_⟩
  rw [List.getElem?_take] at hr
  split at hr
  · exact h.at_ i r hr
  · cases hr
theorem Stands.end_ {s : St} {J : JSt} {img : List UInt8} {all : List (List UInt8)} {n : Nat} (h : Stands s J img all n) : End s img all n := by
  rcases h with ⟨h, _⟩ | ⟨h, _⟩
  · exact h.end_
  · exact h
theorem Stands.up {s : St} {J : JSt} {img : List UInt8} {all : List (List UInt8)} {n : Nat} (h : Stands s J img all n) (hd : J.down = false) : Up s img all n ∧ J = ⟨img, all, false⟩ := by
  rcases h with h | ⟨_, h⟩
  · exact h
  · rw [h] at hd; cases hd
theorem bytes_sizes {img : List UInt8} {all : List (List UInt8)} {s : St} {n : Nat} (h : Up s img all n) : sizes all ≤ 1000000000000 := by
  have h1 := h.ok.log
  rw [h.log, frames_len] at h1
  exact h1

/-- What the loop keeps. -/
structure CRel (X : Prop) (w wr : World) (d j : Nat) (i : Nat) (s : St) (J : JSt) (img : List UInt8) (all : List (List UInt8)) (n : Nat) (ra ia : Option Addr) (m ic : Nat) (svs : List Value) (la : Option Addr) (lc : Nat) (avs : List Value) : Prop where
  jou : Jou Non d wr j d s J ra
  st : X
  al : all.length ≤ i
  im : SRow wr 9 ia (m + 1) ic svs
  last : svs[m]? = some (.string ⟨img.toArray⟩)
  ml : m ≤ i
  ar : SRow wr 22 la all.length lc avs
  rcs : Recs Non wr avs all
  ap : ∀ k, Blk la k → ¬ Blk ra k ∧ w.heap.size ≤ k
  ib : ∀ k, Blk ia k → w.heap.size ≤ k
  kp : Kp Non w wr
  dw : w.heap.size ≤ d
  nl : n ≤ all.length
section
variable {X Y : Prop} {w wr w' : World} {d j i : Nat} {s : St} {J : JSt} {img : List UInt8} {all : List (List UInt8)} {n : Nat} {ra ia : Option Addr} {m ic : Nat} {svs : List Value} {la : Option Addr} {lc : Nat} {avs : List Value}
theorem CRel.non (h : CRel X w wr d j i s J img all n ra ia m ic svs la lc avs) (k : Kp Non wr w') : CRel X w w' d j i s J img all n ra ia m ic svs la lc avs :=
  ⟨h.jou.non k, h.st, h.al, h.im.non k, h.last, h.ml, h.ar.non k, h.rcs.non k, h.ap, h.ib, h.kp.trans k, h.dw, h.nl⟩
theorem CRel.next (h : CRel X w wr d j i s J img all n ra ia m ic svs la lc avs) : CRel X w wr d j (i + 1) s J img all n ra ia m ic svs la lc avs :=
  ⟨h.jou, h.st, by have := h.al; omega, h.im, h.last, by have := h.ml; omega, h.ar, h.rcs, h.ap, h.ib, h.kp, h.dw, h.nl⟩
/-- A journal's call. -/
theorem CRel.call {e : Ending} {r : Int × St × JSt} (h : CRel X w wr d j i s J img all n ra ia m ic svs la lc avs) (hp : JPost Non d j d ra r wr e w') (hs : Y) :
    e = .returned (.int .i64 r.1) ∧ ∃ ra', CRel Y w w' d j i r.2.1 r.2.2 img all n ra' ia m ic svs la lc avs ∧ ∀ a n c l, Bytes wr a n c l → Bytes w' a n c l := by
  obtain ⟨he, ra', h1, h2, h3⟩ := hp
  have hlt := h.ar.lt
  have hna : ∀ k, Blk la k → ¬ JS d j ra k := by
    rintro k hk (q | q | q)
    · obtain ⟨cs, fr, q1⟩ := h.ar.tag k hk
      obtain ⟨cs', fr', q2⟩ := h.jou.dev.tag
      rw [q, q2] at q1; cases q1
    · obtain ⟨cs, fr, q1⟩ := h.ar.tag k hk
      obtain ⟨_, _, _, _, hj⟩ := h.jou
      rw [q, hj.row] at q1; cases q1
    · exact (h.ap k hk).1 q
  have hni : ∀ k, Blk ia k → ¬ JS d j ra k := by
    rintro k hk (q | q | q)
    · obtain ⟨cs, fr, q1⟩ := h.im.tag k hk
      obtain ⟨cs', fr', q2⟩ := h.jou.dev.tag
      rw [q, q2] at q1; cases q1
    · obtain ⟨cs, fr, q1⟩ := h.im.tag k hk
      obtain ⟨_, _, _, _, hj⟩ := h.jou
      rw [q, hj.row] at q1; cases q1
    · obtain ⟨cs, fr, q1⟩ := h.im.tag k hk
      obtain ⟨_, _, _, _, hj⟩ := h.jou
      obtain ⟨cs', fr', q2⟩ := hj.rows.tag k q
      rw [q2] at q1; cases q1
  have hold := h.jou.old
  refine ⟨he, ra', ⟨h2, hs, h.al, h.im.kp h3 hni, h.last, h.ml, h.ar.kp h3 hna, h.rcs.kp h3 h.jou.noB, fun k hk => ⟨fun q => ?_, (h.ap k hk).2⟩, h.ib, h.kp.comp h3 (fun _ _ f => f) (fun x hx q => by have := (hold x q).1; have := h.dw; omega), h.dw, h.nl⟩, fun a n c l hb => hb.nob h3 h.jou.noB⟩
  rcases h1 k q with q1 | q1
  · exact (h.ap k hk).1 q1
  · have := hlt k hk; omega
theorem CRel.sure (h : CRel X w wr d j i s J img all n ra ia m ic svs la lc avs) {n' : Nat} (hn : n' ≤ all.length) : CRel X w wr d j i s J img all n' ra ia m ic svs la lc avs :=
  ⟨h.jou, h.st, h.al, h.im, h.last, h.ml, h.ar, h.rcs, h.ap, h.ib, h.kp, h.dw, hn⟩
/-- A record more in the law's own row. -/
theorem CRel.more (h : CRel X w wr d j i s J img all n ra ia m ic svs la lc avs) {b : List UInt8} {ea : Option Addr} {ec : Nat} (hb : Bytes wr ea b.length ec b) {a' : Option Addr} {c' : Nat} {v : Value} (hv : v = .slice ea b.length ec)
    (hS : SRow w' 22 a' (all.length + 1) c' (avs ++ [v])) (k : Kp (Blk la) wr w') (ha : a' = la ∨ a' = some ⟨wr.heap.size, 0, none⟩) {n' : Nat} (hs : Y) (hn : n' ≤ all.length + 1) : CRel Y w w' d j (i + 1) s J img (all ++ [b]) n' ra ia m ic svs a' c' (avs ++ [v]) := by
  subst hv
  have hold := h.jou.old
  have hnb := h.ar.noB
  have hlen : (all ++ [b]).length = all.length + 1 := by simp
  refine ⟨h.jou.kp k ?_ ?_ ?_ hnb, hs, by rw [hlen]; have := h.al; omega, h.im.kp k ?_, h.last, by have := h.ml; omega, by rw [hlen]; exact hS, (h.rcs.kp k hnb).add (hb.nob k hnb) (fun _ _ _ f => f), ?_, h.ib, h.kp.comp k (fun _ _ f => f) (fun x hx q => by have := (h.ap x q).2; omega), h.dw, by rw [hlen]; exact hn⟩
  · intro q
    obtain ⟨cs, fr, q1⟩ := h.ar.tag d q
    obtain ⟨cs', fr', q2⟩ := h.jou.dev.tag
    rw [q2] at q1; cases q1
  · intro q
    obtain ⟨cs, fr, q1⟩ := h.ar.tag j q
    obtain ⟨_, _, _, _, hj⟩ := h.jou
    rw [hj.row] at q1; cases q1
  · intro x hx q
    exact (h.ap x q).1 hx
  · intro x hx q
    obtain ⟨cs, fr, q1⟩ := h.ar.tag x q
    obtain ⟨cs', fr', q2⟩ := h.im.tag x hx
    rw [q2] at q1; cases q1
  · intro x hx
    rcases ha with rfl | rfl
    · exact h.ap x hx
    · obtain ⟨_, q1, q2⟩ := hx
      cases q1
      have q2 : wr.heap.size = x := q2
      refine ⟨fun q => by have := (hold x (.inr (.inr q))).2; omega, by rw [← q2]; exact h.kp.size⟩
/-- An image more; no records. -/
theorem CRel.saved (h : CRel X w wr d j i s J img all n ra ia m ic svs la lc avs) {b : List UInt8} {a' : Option Addr} {c' : Nat} (hS : SRow w' 9 a' (m + 1 + 1) c' (svs ++ [.string ⟨b.toArray⟩])) (k : Kp (Blk ia) wr w') (ha : a' = ia ∨ a' = some ⟨wr.heap.size, 0, none⟩)
    (hs : Y) : CRel Y w w' d j (i + 1) s J b [] 0 ra a' (m + 1) c' (svs ++ [.string ⟨b.toArray⟩]) none 0 [] := by
  have hold := h.jou.old
  have hnb := h.im.noB
  refine ⟨h.jou.kp k ?_ ?_ ?_ hnb, hs, by simp, hS, ?_, by have := h.ml; omega, SRow.nil _ _, Recs.nil _, ?_, ?_, h.kp.comp k (fun _ _ f => f) (fun x hx q => by have := h.ib x q; omega), h.dw, Nat.le_refl _⟩
  · intro q
    obtain ⟨cs, fr, q1⟩ := h.im.tag d q
    obtain ⟨cs', fr', q2⟩ := h.jou.dev.tag
    rw [q2] at q1; cases q1
  · intro q
    obtain ⟨cs, fr, q1⟩ := h.im.tag j q
    obtain ⟨_, _, _, _, hj⟩ := h.jou
    rw [hj.row] at q1; cases q1
  · intro x hx q
    obtain ⟨cs, fr, q1⟩ := h.im.tag x q
    obtain ⟨_, _, _, _, hj⟩ := h.jou
    obtain ⟨cs', fr', q2⟩ := hj.rows.tag x hx
    rw [q2] at q1; cases q1
  · rw [List.getElem?_append_right (by rw [h.im.len]; exact Nat.le_refl _), h.im.len]
    simp
  · rintro x ⟨_, q, _⟩; cases q
  · intro x hx
    rcases ha with rfl | rfl
    · exact h.ib x hx
    · obtain ⟨_, q1, q2⟩ := hx
      cases q1
      have q2 : wr.heap.size = x := q2
      rw [← q2]; exact h.kp.size
end
end Go.Proofs.Ytclbapmjhchokaa
