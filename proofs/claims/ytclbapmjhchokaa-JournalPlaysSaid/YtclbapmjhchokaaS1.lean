/-
  The document's device: what a block holds.
-/
import Derived.Test.YtclbapmjhchokaaE8
namespace Go.Proofs.Ytclbapmjhchokaa
open Go.RowKit

structure RefAt (w : World) (d : Nat) (s : St) (ia : Option Addr) (ic : Nat) (sa : Option Addr) (sc : Nat) (la : Option Addr) (lc : Nat) : Prop where
  row : w.heap[d]? = some (.cells (s.row ia ic sa sc la lc) 92 (0, 0))
  image : Bytes w ia s.image.length ic s.image
  stage : Bytes w sa s.stage.length sc s.stage
  log : Bytes w la s.log.length lc s.log

/-- The block d is a device that holds s. -/
def Ref (w : World) (d : Nat) (s : St) : Prop := ∃ ia ic sa sc la lc, RefAt w d s ia ic sa sc la lc

section
variable {w : World} {d : Nat} {s : St} {ia : Option Addr} {ic : Nat} {sa : Option Addr} {sc : Nat} {la : Option Addr} {lc : Nat}
theorem RefAt.lt (h : RefAt w d s ia ic sa sc la lc) : d < w.heap.size := heap_lt h.row
theorem RefAt.c (h : RefAt w d s ia ic sa sc la lc) (i : Nat) : w.cell? ⟨d, i, none⟩ = (s.row ia ic sa sc la lc)[i]? := cell_of_row w d i _ _ _ h.row
theorem RefAt.c0 (h : RefAt w d s ia ic sa sc la lc) : w.cell? ⟨d, 0, none⟩ = some (.int .i64 s.room) := h.c 0
theorem RefAt.c1 (h : RefAt w d s ia ic sa sc la lc) : w.cell? ⟨d, 1, none⟩ = some (.slice ia s.image.length ic) := h.c 1
theorem RefAt.c2 (h : RefAt w d s ia ic sa sc la lc) : w.cell? ⟨d, 2, none⟩ = some (.slice sa s.stage.length sc) := h.c 2
theorem RefAt.c3 (h : RefAt w d s ia ic sa sc la lc) : w.cell? ⟨d, 3, none⟩ = some (.bool s.staged) := h.c 3
theorem RefAt.c4 (h : RefAt w d s ia ic sa sc la lc) : w.cell? ⟨d, 4, none⟩ = some (.slice la s.log.length lc) := h.c 4
theorem RefAt.c5 (h : RefAt w d s ia ic sa sc la lc) : w.cell? ⟨d, 5, none⟩ = some (.int .i64 s.sure) := h.c 5
theorem RefAt.c6 (h : RefAt w d s ia ic sa sc la lc) : w.cell? ⟨d, 6, none⟩ = some (.int .i64 s.stop) := h.c 6
theorem RefAt.c7 (h : RefAt w d s ia ic sa sc la lc) : w.cell? ⟨d, 7, none⟩ = some (.bool s.off) := h.c 7
theorem RefAt.f (h : RefAt w d s ia ic sa sc la lc) (i : Nat) : w.frozen? ⟨d, i, none⟩ = false := by
  simp only [World.frozen?, h.row]
  simp

/-- No byte lies in a device's block. -/
theorem RefAt.apart (h : RefAt w d s ia ic sa sc la lc) : ∀ (a : Option Addr) (ad : Addr) (b : UInt8), a = some ad → w.cell? ad = some (byteV b) → ¬ One d ad.block := by
  rintro a ⟨k, o, sp⟩ b rfl hc rfl
  have hs : sp = none := World.cell?_spot hc
  subst hs
  rw [h.c] at hc
  exact row_byte _ _ hc

/-- The device is there still where its block may not change. -/
theorem RefAt.kp {S : Nat → Prop} {w' : World} (h : RefAt w d s ia ic sa sc la lc) (k : Kp S w w') (hd : ¬ S d)
    (hb : ∀ (ad : Addr) (b : UInt8), w.cell? ad = some (byteV b) → ¬ S ad.block) : RefAt w' d s ia ic sa sc la lc :=
  ⟨k.heap h.row hd, h.image.kp k fun ad b _ hc => hb ad b hc, h.stage.kp k fun ad b _ hc => hb ad b hc, h.log.kp k fun ad b _ hc => hb ad b hc⟩
theorem RefAt.non {w' : World} (h : RefAt w d s ia ic sa sc la lc) (k : Kp Non w w') : RefAt w' d s ia ic sa sc la lc := h.kp k (fun f => f) fun _ _ _ f => f
theorem RefAt.one {w' : World} {d' : Nat} {s' : St} {ia' ic' sa' sc' la' lc'} (h : RefAt w d s ia ic sa sc la lc) (h' : RefAt w d' s' ia' ic' sa' sc' la' lc') (hne : d ≠ d') (k : Kp (One d') w w') : RefAt w' d s ia ic sa sc la lc :=
  h.kp k hne fun ad _ hc => h'.apart (some ad) ad _ rfl hc
end

theorem Ref.non {w w' : World} {d : Nat} {s : St} (h : Ref w d s) (k : Kp Non w w') : Ref w' d s := by
  obtain ⟨ia, ic, sa, sc, la, lc, h⟩ := h
  exact ⟨ia, ic, sa, sc, la, lc, h.non k⟩
theorem Ref.lt {w : World} {d : Nat} {s : St} (h : Ref w d s) : d < w.heap.size := by
  obtain ⟨ia, ic, sa, sc, la, lc, h⟩ := h
  exact h.lt

section
variable {w : World} {d : Nat} {s : St} {ia : Option Addr} {ic : Nat} {sa : Option Addr} {sc : Nat} {la : Option Addr} {lc : Nat}
/-- One field of a device is written. -/
theorem RefAt.set (h : RefAt w d s ia ic sa sc la lc) (i : Nat) (v : Value) {s' : St} {ia' : Option Addr} {ic' : Nat} {sa' : Option Addr} {sc' : Nat} {la' : Option Addr} {lc' : Nat}
    (hr : (s.row ia ic sa sc la lc).setIfInBounds i v = s'.row ia' ic' sa' sc' la' lc')
    (h1 : Bytes w ia' s'.image.length ic' s'.image) (h2 : Bytes w sa' s'.stage.length sc' s'.stage) (h3 : Bytes w la' s'.log.length lc' s'.log) : RefAt (w.setCell ⟨d, i, none⟩ v) d s' ia' ic' sa' sc' la' lc' := by
  have hk : Kp (One d) w (w.setCell ⟨d, i, none⟩ v) := (Kp.refl (One d) w).setCell (p := ⟨d, i, none⟩) (.inl rfl) v
  exact ⟨by rw [heap_setCell_row h.row, hr], h1.kp hk fun ad b ha hc => h.apart _ ad b ha hc, h2.kp hk fun ad b ha hc => h.apart _ ad b ha hc, h3.kp hk fun ad b ha hc => h.apart _ ad b ha hc⟩
theorem RefAt.setStop (h : RefAt w d s ia ic sa sc la lc) (x : Int) : RefAt (w.setCell ⟨d, 6, none⟩ (.int .i64 x)) d { s with stop := x } ia ic sa sc la lc := h.set 6 _ rfl h.image h.stage h.log
theorem RefAt.setOff (h : RefAt w d s ia ic sa sc la lc) (x : Bool) : RefAt (w.setCell ⟨d, 7, none⟩ (.bool x)) d { s with off := x } ia ic sa sc la lc := h.set 7 _ rfl h.image h.stage h.log
theorem RefAt.setSure (h : RefAt w d s ia ic sa sc la lc) (x : Int) : RefAt (w.setCell ⟨d, 5, none⟩ (.int .i64 x)) d { s with sure := x } ia ic sa sc la lc := h.set 5 _ rfl h.image h.stage h.log
theorem RefAt.setStaged (h : RefAt w d s ia ic sa sc la lc) (x : Bool) : RefAt (w.setCell ⟨d, 3, none⟩ (.bool x)) d { s with staged := x } ia ic sa sc la lc := h.set 3 _ rfl h.image h.stage h.log
theorem RefAt.setLog (h : RefAt w d s ia ic sa sc la lc) {a : Option Addr} {n c : Nat} {l : List UInt8} (hb : Bytes w a n c l) : RefAt (w.setCell ⟨d, 4, none⟩ (.slice a n c)) d { s with log := l } ia ic sa sc a c :=
  h.set 4 _ (by rw [hb.len]; rfl) h.image h.stage (hb.len ▸ hb)
theorem RefAt.setStage (h : RefAt w d s ia ic sa sc la lc) {a : Option Addr} {n c : Nat} {l : List UInt8} (hb : Bytes w a n c l) : RefAt (w.setCell ⟨d, 2, none⟩ (.slice a n c)) d { s with stage := l } ia ic a c la lc :=
  h.set 2 _ (by rw [hb.len]; rfl) h.image (hb.len ▸ hb) h.log
theorem RefAt.setImage (h : RefAt w d s ia ic sa sc la lc) {a : Option Addr} {n c : Nat} {l : List UInt8} (hb : Bytes w a n c l) : RefAt (w.setCell ⟨d, 1, none⟩ (.slice a n c)) d { s with image := l } a c sa sc la lc :=
  h.set 1 _ (by rw [hb.len]; rfl) (hb.len ▸ hb) h.stage h.log
end

theorem RefAt.ref {w : World} {d : Nat} {s : St} {ia ic sa sc la lc} (h : RefAt w d s ia ic sa sc la lc) : Ref w d s := ⟨_, _, _, _, _, _, h⟩
theorem RefAt.drew {w : World} {d : Nat} {s : St} {ia ic sa sc la lc} (h : RefAt w d s ia ic sa sc la lc) : RefAt w.drew d s ia ic sa sc la lc := ⟨h.row, h.image.drew, h.stage.drew, h.log.drew⟩
theorem RefAt.drewN {w : World} {d : Nat} {s : St} {ia ic sa sc la lc} (h : RefAt w d s ia ic sa sc la lc) (k : Nat) : RefAt (w.drewN k) d s ia ic sa sc la lc := ⟨h.row, h.image.drewN k, h.stage.drewN k, h.log.drewN k⟩
theorem Ref.ne {F : Nat → Prop} {w : World} {x d : Nat} {s s' : St} (h : Ref w x s) (hd : Dev F w d s') : x ≠ d := by
  rintro rfl
  obtain ⟨_, _, _, _, _, _, h⟩ := h
  obtain ⟨_, _, _, _, _, _, hd⟩ := hd
  have h1 := h.row
  rw [hd.row] at h1
  simp only [Option.some.injEq, Obj.cells.injEq] at h1
  exact absurd h1.2.1 (by decide)
/-- A call on the device leaves the document's as it is. -/
theorem Ref.one {F : Nat → Prop} {w w' : World} {x d : Nat} {s s' : St} (h : Ref w x s) (hd : Dev F w d s') (k : Kp (One d) w w') : Ref w' x s := by
  have hne := h.ne hd
  obtain ⟨_, _, _, _, _, _, h⟩ := h
  obtain ⟨_, _, _, _, _, _, hd⟩ := hd
  exact ⟨_, _, _, _, _, _, h.kp k hne fun ad b hc => hd.apart (some ad) ad b rfl hc⟩
theorem Dev.ref {F : Nat → Prop} {w w' : World} {x d : Nat} {s s' : St} (hd : Dev F w d s') (h : Ref w x s) (k : Kp (One x) w w') : Dev F w' d s' := by
  have hne := h.ne hd
  obtain ⟨_, _, _, _, _, _, h⟩ := h
  obtain ⟨_, _, _, _, _, _, hd⟩ := hd
  exact ⟨_, _, _, _, _, _, hd.kp k (fun e => hne e.symm) fun ad b hc => h.apart (some ad) ad b rfl hc⟩
theorem Bytes.ref {w w' : World} {a : Option Addr} {n c : Nat} {l : List UInt8} {x : Nat} {s : St} (h : Bytes w a n c l) (hd : Ref w x s) (k : Kp (One x) w w') : Bytes w' a n c l := by
  obtain ⟨ia, ic, sa, sc, la, lc, hd⟩ := hd
  exact h.kp k fun ad b ha hc => hd.apart a ad b ha hc
end Go.Proofs.Ytclbapmjhchokaa
