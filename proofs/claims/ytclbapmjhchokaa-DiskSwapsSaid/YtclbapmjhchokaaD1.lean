/-
  The device: what a block holds, and the calls that count (call, its deferred closure).
-/
import Derived.Test.YtclbapmjhchokaaProg
import Derived.Test.YtclbapmjhchokaaK0
import Derived.Handy
import Derived.BigQuiet
import Derived.BigRegion
import Derived.Deep.QuietTactic
namespace Go.Proofs.Ytclbapmjhchokaa
open Go.RowKit

/-- A device, as data. -/
structure St where
  room : Int
  image : List UInt8
  stage : List UInt8
  staged : Bool
  log : List UInt8
  sure : Int
  stop : Int
  off : Bool

/-- What lies in the block of a device. -/
def St.row (s : St) (ia : Option Addr) (ic : Nat) (sa : Option Addr) (sc : Nat) (la : Option Addr) (lc : Nat) : Array Value :=
  #[.int .i64 s.room, .slice ia s.image.length ic, .slice sa s.stage.length sc, .bool s.staged, .slice la s.log.length lc, .int .i64 s.sure, .int .i64 s.stop, .bool s.off]

structure DevAt (w : World) (d : Nat) (s : St) (ia : Option Addr) (ic : Nat) (sa : Option Addr) (sc : Nat) (la : Option Addr) (lc : Nat) : Prop where
  row : w.heap[d]? = some (.cells (s.row ia ic sa sc la lc) 86 (0, 0))
  image : Bytes w ia s.image.length ic s.image
  stage : Bytes w sa s.stage.length sc s.stage
  log : Bytes w la s.log.length lc s.log

/-- The block d is a device that holds s. -/
def Dev (w : World) (d : Nat) (s : St) : Prop := ∃ ia ic sa sc la lc, DevAt w d s ia ic sa sc la lc

section
variable {w : World} {d : Nat} {s : St} {ia : Option Addr} {ic : Nat} {sa : Option Addr} {sc : Nat} {la : Option Addr} {lc : Nat}
theorem DevAt.lt (h : DevAt w d s ia ic sa sc la lc) : d < w.heap.size := heap_lt h.row
theorem DevAt.c (h : DevAt w d s ia ic sa sc la lc) (i : Nat) : w.cell? ⟨d, i, none⟩ = (s.row ia ic sa sc la lc)[i]? := cell_of_row w d i _ _ _ h.row
theorem DevAt.c0 (h : DevAt w d s ia ic sa sc la lc) : w.cell? ⟨d, 0, none⟩ = some (.int .i64 s.room) := h.c 0
theorem DevAt.c1 (h : DevAt w d s ia ic sa sc la lc) : w.cell? ⟨d, 1, none⟩ = some (.slice ia s.image.length ic) := h.c 1
theorem DevAt.c2 (h : DevAt w d s ia ic sa sc la lc) : w.cell? ⟨d, 2, none⟩ = some (.slice sa s.stage.length sc) := h.c 2
theorem DevAt.c3 (h : DevAt w d s ia ic sa sc la lc) : w.cell? ⟨d, 3, none⟩ = some (.bool s.staged) := h.c 3
theorem DevAt.c4 (h : DevAt w d s ia ic sa sc la lc) : w.cell? ⟨d, 4, none⟩ = some (.slice la s.log.length lc) := h.c 4
theorem DevAt.c5 (h : DevAt w d s ia ic sa sc la lc) : w.cell? ⟨d, 5, none⟩ = some (.int .i64 s.sure) := h.c 5
theorem DevAt.c6 (h : DevAt w d s ia ic sa sc la lc) : w.cell? ⟨d, 6, none⟩ = some (.int .i64 s.stop) := h.c 6
theorem DevAt.c7 (h : DevAt w d s ia ic sa sc la lc) : w.cell? ⟨d, 7, none⟩ = some (.bool s.off) := h.c 7
theorem DevAt.f (h : DevAt w d s ia ic sa sc la lc) (i : Nat) : w.frozen? ⟨d, i, none⟩ = false := by
  simp only [World.frozen?, h.row]
  simp

theorem row_cell (i : Nat) (v : Value) (h : (s.row ia ic sa sc la lc)[i]? = some v) (hn : ∀ b, v ≠ byteV b) (b : UInt8) : (s.row ia ic sa sc la lc)[i]? ≠ some (byteV b) := by
  rw [h]; intro e; exact hn b (by simpa using e)

theorem row_byte (i : Nat) (b : UInt8) : (s.row ia ic sa sc la lc)[i]? ≠ some (byteV b) := by
  match i with
  | 0 | 1 | 2 | 3 | 4 | 5 | 6 | 7 => simp [St.row, byteV]
  | n + 8 => simp [St.row]

/-- No byte lies in a device's block. -/
theorem DevAt.apart (h : DevAt w d s ia ic sa sc la lc) : ∀ (a : Option Addr) (ad : Addr) (b : UInt8), a = some ad → w.cell? ad = some (byteV b) → ¬ One d ad.block := by
  rintro a ⟨k, o, sp⟩ b rfl hc rfl
  have hs : sp = none := World.cell?_spot hc
  subst hs
  rw [h.c] at hc
  exact row_byte _ _ hc

/-- The device is there still where its block may not change. -/
theorem DevAt.kp {S : Nat → Prop} {w' : World} (h : DevAt w d s ia ic sa sc la lc) (k : Kp S w w') (hd : ¬ S d)
    (hb : ∀ (ad : Addr) (b : UInt8), w.cell? ad = some (byteV b) → ¬ S ad.block) : DevAt w' d s ia ic sa sc la lc :=
  ⟨k.heap h.row hd, h.image.kp k fun ad b _ hc => hb ad b hc, h.stage.kp k fun ad b _ hc => hb ad b hc, h.log.kp k fun ad b _ hc => hb ad b hc⟩
theorem DevAt.non {w' : World} (h : DevAt w d s ia ic sa sc la lc) (k : Kp Non w w') : DevAt w' d s ia ic sa sc la lc := h.kp k (fun f => f) fun _ _ _ f => f
theorem DevAt.one {w' : World} {d' : Nat} {s' : St} {ia' ic' sa' sc' la' lc'} (h : DevAt w d s ia ic sa sc la lc) (h' : DevAt w d' s' ia' ic' sa' sc' la' lc') (hne : d ≠ d') (k : Kp (One d') w w') : DevAt w' d s ia ic sa sc la lc :=
  h.kp k hne fun ad _ hc => h'.apart (some ad) ad _ rfl hc
end

theorem Dev.non {w w' : World} {d : Nat} {s : St} (h : Dev w d s) (k : Kp Non w w') : Dev w' d s := by
  obtain ⟨ia, ic, sa, sc, la, lc, h⟩ := h
  exact ⟨ia, ic, sa, sc, la, lc, h.non k⟩
theorem Dev.lt {w : World} {d : Nat} {s : St} (h : Dev w d s) : d < w.heap.size := by
  obtain ⟨ia, ic, sa, sc, la, lc, h⟩ := h
  exact h.lt

/-- Bytes that stand are there still behind a call that may change a device's block. -/
theorem Bytes.one {w w' : World} {a : Option Addr} {n c : Nat} {l : List UInt8} {d : Nat} {s : St} (h : Bytes w a n c l) (hd : Dev w d s) (k : Kp (One d) w w') : Bytes w' a n c l := by
  obtain ⟨ia, ic, sa, sc, la, lc, hd⟩ := hd
  exact h.kp k fun ad b ha hc => hd.apart a ad b ha hc

theorem heap_setCell_row {w : World} {d : Nat} {cs : Array Value} {t : TypeId} {fr : Nat × Nat} (h : w.heap[d]? = some (.cells cs t fr)) (i : Nat) (v : Value) :
    (w.setCell ⟨d, i, none⟩ v).heap[d]? = some (.cells (cs.setIfInBounds i v) t fr) := by
  simp [World.setCell, Array.getElem?_modify, h]

section
variable {w : World} {d : Nat} {s : St} {ia : Option Addr} {ic : Nat} {sa : Option Addr} {sc : Nat} {la : Option Addr} {lc : Nat}
/-- One field of a device is written. -/
theorem DevAt.set (h : DevAt w d s ia ic sa sc la lc) (i : Nat) (v : Value) {s' : St} {ia' : Option Addr} {ic' : Nat} {sa' : Option Addr} {sc' : Nat} {la' : Option Addr} {lc' : Nat}
    (hr : (s.row ia ic sa sc la lc).setIfInBounds i v = s'.row ia' ic' sa' sc' la' lc')
    (h1 : Bytes w ia' s'.image.length ic' s'.image) (h2 : Bytes w sa' s'.stage.length sc' s'.stage) (h3 : Bytes w la' s'.log.length lc' s'.log) : DevAt (w.setCell ⟨d, i, none⟩ v) d s' ia' ic' sa' sc' la' lc' := by
  have hk : Kp (One d) w (w.setCell ⟨d, i, none⟩ v) := (Kp.refl (One d) w).setCell (p := ⟨d, i, none⟩) (.inl rfl) v
  exact ⟨by rw [heap_setCell_row h.row, hr], h1.kp hk fun ad b ha hc => h.apart _ ad b ha hc, h2.kp hk fun ad b ha hc => h.apart _ ad b ha hc, h3.kp hk fun ad b ha hc => h.apart _ ad b ha hc⟩
theorem DevAt.setStop (h : DevAt w d s ia ic sa sc la lc) (x : Int) : DevAt (w.setCell ⟨d, 6, none⟩ (.int .i64 x)) d { s with stop := x } ia ic sa sc la lc := h.set 6 _ rfl h.image h.stage h.log
theorem DevAt.setOff (h : DevAt w d s ia ic sa sc la lc) (x : Bool) : DevAt (w.setCell ⟨d, 7, none⟩ (.bool x)) d { s with off := x } ia ic sa sc la lc := h.set 7 _ rfl h.image h.stage h.log
theorem DevAt.setSure (h : DevAt w d s ia ic sa sc la lc) (x : Int) : DevAt (w.setCell ⟨d, 5, none⟩ (.int .i64 x)) d { s with sure := x } ia ic sa sc la lc := h.set 5 _ rfl h.image h.stage h.log
theorem DevAt.setStaged (h : DevAt w d s ia ic sa sc la lc) (x : Bool) : DevAt (w.setCell ⟨d, 3, none⟩ (.bool x)) d { s with staged := x } ia ic sa sc la lc := h.set 3 _ rfl h.image h.stage h.log
theorem DevAt.setLog (h : DevAt w d s ia ic sa sc la lc) {a : Option Addr} {n c : Nat} {l : List UInt8} (hb : Bytes w a n c l) : DevAt (w.setCell ⟨d, 4, none⟩ (.slice a n c)) d { s with log := l } ia ic sa sc a c :=
  h.set 4 _ (by rw [hb.len]; rfl) h.image h.stage (hb.len ▸ hb)
theorem DevAt.setStage (h : DevAt w d s ia ic sa sc la lc) {a : Option Addr} {n c : Nat} {l : List UInt8} (hb : Bytes w a n c l) : DevAt (w.setCell ⟨d, 2, none⟩ (.slice a n c)) d { s with stage := l } ia ic a c la lc :=
  h.set 2 _ (by rw [hb.len]; rfl) h.image (hb.len ▸ hb) h.log
theorem DevAt.setImage (h : DevAt w d s ia ic sa sc la lc) {a : Option Addr} {n c : Nat} {l : List UInt8} (hb : Bytes w a n c l) : DevAt (w.setCell ⟨d, 1, none⟩ (.slice a n c)) d { s with image := l } a c sa sc la lc :=
  h.set 1 _ (by rw [hb.len]; rfl) (hb.len ▸ hb) h.stage h.log
end
/-- A block of one cell. -/
def Box (w : World) (b : Nat) (v : Value) (t : TypeId) : Prop := w.heap[b]? = some (.cells #[v] t (0, 0))
theorem Box.c {w : World} {b : Nat} {v : Value} {t : TypeId} (h : Box w b v t) : w.cell? ⟨b, 0, none⟩ = some v := cell_of_row w b 0 _ _ _ h
theorem Box.f {w : World} {b : Nat} {v : Value} {t : TypeId} (h : Box w b v t) : w.frozen? ⟨b, 0, none⟩ = false := by
  unfold Box at h
  simp only [World.frozen?, h]
  simp
theorem Box.o {w : World} {b : Nat} {v : Value} {t : TypeId} (h : Box w b v t) (j : Nat) (hj : j ≠ 0) : w.cell? ⟨b, j, none⟩ = none := by
  rw [cell_of_row w b j _ _ _ h]; match j with | 0 => exact absurd rfl hj | k + 1 => simp
theorem Box.lt {w : World} {b : Nat} {v : Value} {t : TypeId} (h : Box w b v t) : b < w.heap.size := heap_lt h
theorem Box.kp {S : Nat → Prop} {w w' : World} {b : Nat} {v : Value} {t : TypeId} (h : Box w b v t) (k : Kp S w w') (hn : ¬ S b) : Box w' b v t := k.heap h hn
section
variable {w : World} {d : Nat} {s : St} {ia : Option Addr} {ic : Nat} {sa : Option Addr} {sc : Nat} {la : Option Addr} {lc : Nat}
/-- A write into a block of one cell. -/
theorem DevAt.far (h : DevAt w d s ia ic sa sc la lc) {b : Nat} {v0 : Value} {t : TypeId} (v : Value) (hbox : Box w b v0 t) (hne : b ≠ d) (hv : ∀ x, v0 ≠ byteV x) : DevAt (w.setCell ⟨b, 0, none⟩ v) d s ia ic sa sc la lc :=
  h.kp ((Kp.refl (One b) w).setCell (p := ⟨b, 0, none⟩) (.inl rfl) v) (fun e => hne e.symm) (by
    rintro ⟨k, o, sp⟩ x hc rfl
    obtain rfl : sp = none := World.cell?_spot hc
    by_cases ho : o = 0
    · subst ho; rw [hbox.c] at hc; exact hv x (by simpa using hc)
    · rw [hbox.o o ho] at hc; cases hc)
theorem Box.set {w : World} {b : Nat} {v0 : Value} {t : TypeId} (h : Box w b v0 t) (v : Value) : Box (w.setCell ⟨b, 0, none⟩ v) b v t := heap_setCell_row h 0 v
theorem Box.setOther {w : World} {b : Nat} {v0 : Value} {t : TypeId} (h : Box w b v0 t) {d i : Nat} (v : Value) (hn : b ≠ d) : Box (w.setCell ⟨d, i, none⟩ v) b v0 t :=
  h.kp ((Kp.refl (One d) w).setCell (p := ⟨d, i, none⟩) (.inl rfl) v) hn
end
theorem Box.new (w : World) (v : Value) (t : TypeId) : Box (w.alloc (.cells #[v] t)) w.heap.size v t := heap_alloc_new w _
theorem Box.ne {w : World} {b : Nat} {v : Value} {t : TypeId} (h : Box w b v t) {d : Nat} {s : St} (hd : Dev w d s) : b ≠ d := by
  rintro rfl
  obtain ⟨ia, ic, sa, sc, la, lc, hd⟩ := hd
  have h1 := hd.row
  unfold Box at h
  rw [h] at h1
  simp only [Option.some.injEq, Obj.cells.injEq, St.row] at h1
  have := congrArg Array.size h1.1
  simp at this

/-- What a counting call leaves of Stop and Off. -/
def St.fin (s : St) : St := if s.stop = 0 then { s with off := true, stop := -1 } else if 0 < s.stop then { s with stop := s.stop - 1 } else s

/-- What the deferred closure leaves. -/
def FinPost (be d : Nat) (s : St) (e0 : Int) (w w' : World) : Prop :=
  Dev w' d s.fin ∧ Box w' be (.int .i64 (if s.stop = 0 then 6 else e0)) 26 ∧ Kp (fun k => k = d ∨ k = be) w w'

set_option maxHeartbeats 400000 in
/-- The deferred closure of the counting calls. -/
theorem fin_deferred (bx be d : Nat) (s : St) (e0 : Int) (w : World) (hx : Box w bx (.pointer (some ⟨d, 0, none⟩)) 25) (he : Box w be (.int .i64 e0) 26) (hd : Dev w d s) (hlo : -1000 ≤ s.stop) (hhi : s.stop ≤ 9223372036854775807) :
    CallsD Try.prog 97 #[.pointer (some ⟨bx, 0, none⟩), .pointer (some ⟨be, 0, none⟩)] .returning w fun e u' w' => u' = .returning ∧ (e = .returned (.tuple #[]) ∧ FinPost be d s e0 w w') := by
  have n1 := he.ne hd
  have n2 := hx.ne hd
  obtain ⟨ia, ic, sa, sc, la, lc, hd⟩ := hd
  have hxc := hx.c
  have hec := he.c
  have hef := he.f
  have c6 := hd.c6
  have c7 := hd.c7
  have f6 := hd.f 6
  have f7 := hd.f 7
  have n1' : ¬ d = be := fun h => n1 h.symm
  have n2' : ¬ d = bx := fun h => n2 h.symm
  have n3 : ¬ be = bx := by
    rintro rfl
    rw [hxc] at hec
    cases hec
  by_cases hs : s.stop = 0
  · have hs' : (s.stop == 0) = true := by simp [hs]
    have hs2 : 0 ≤ s.stop := by omega
    have hS := Lib.hid hs
    clear hs
    go_enter_d Try.func97, Try.ntmps97
    go_wp2
    go_end0
    have hs := hS.out
    have hfin : s.fin = { { s with off := true } with stop := s.stop - 1 } := by simp [St.fin, hs]
    refine ⟨rfl, ?_⟩
    unfold FinPost
    rw [hfin]
    refine ⟨⟨_, _, _, _, _, _, ((hd.setOff true).far _ (he.setOther _ n1) n1 (by simp [byteV])).setStop _⟩, ?_, ?_⟩
    · rw [if_pos hs]
      exact ((he.setOther _ n1).set _).setOther _ n1
    · exact (((Kp.refl _ _).setCell (.inl (.inl rfl)) _).setCell (.inl (.inr rfl)) _).setCell (.inl (.inl rfl)) _
  · have hs' : (s.stop == 0) = false := by simp [hs]
    by_cases hp : 0 < s.stop
    · have hs2 : 0 ≤ s.stop := by omega
      go_enter_d Try.func97, Try.ntmps97
      go_wp2
      go_end0
      have hfin : s.fin = { s with stop := s.stop - 1 } := by simp [St.fin, hs, hp]
      refine ⟨rfl, ?_⟩
      unfold FinPost
      rw [hfin]
      refine ⟨⟨_, _, _, _, _, _, hd.setStop _⟩, ?_, ?_⟩
      · rw [if_neg hs]
        exact he.setOther _ n1
      · exact (Kp.refl _ _).setCell (.inl (.inl rfl)) _
    · have hs2 : ¬ 0 ≤ s.stop := by omega
      go_enter_d Try.func97, Try.ntmps97
      go_wp2
      go_end0
      have hfin : s.fin = s := by unfold St.fin; rw [if_neg hs, if_neg (by omega)]
      refine ⟨rfl, ?_⟩
      unfold FinPost
      rw [hfin, if_neg hs]
      exact ⟨⟨_, _, _, _, _, _, hd⟩, he, Kp.refl _ _⟩
end Go.Proofs.Ytclbapmjhchokaa
