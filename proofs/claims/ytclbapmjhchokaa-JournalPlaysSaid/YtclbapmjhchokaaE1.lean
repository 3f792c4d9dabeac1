/-
  The device: what a block holds, and the calls that count (call, its deferred closure).
-/
import Derived.Test.YtclbapmjhchokaaProg
import Derived.Test.YtclbapmjhchokaaK0
import Derived.Handy
import Derived.BigQuiet
import Derived.BigRegion
import Derived.Deep.QuietTactic
namespace Go.Proofs.Ytclbapmjhchokaa
open Go.RowKit
variable {F : Nat → Prop}

/-- append onto a slice without spare room, not of the call's own: nothing that was there changes. -/
theorem run_append_full2 {P : Program} (w : World) (t ty e : TypeId) (i : TypeInfo) (ht : P.underlying t = some (.slice e)) (hi : P.info? e = some i) (hz : i.zero = some (.int .u8 0)) (hsize : i.size = 1) (hby : i.bytes = 1)
    (a : Option Addr) (n : Nat) (l : List UInt8) (ho : Bytes w a n n l) (a2 : Option Addr) (m c2 : Nat) (l2 : List UInt8) (hx : Bytes w a2 m c2 l2) (hb : n + m ≤ 140737488355328) :
    ∃ a' c' w', (Builtin.append_ #[t, t] ty #[.slice a n n, .slice a2 m c2]).run P w = .ok (.slice a' (n + m) c') w' ∧ Bytes w' a' (n + m) c' (l ++ l2) ∧ Kp Non w w' ∧ (l2 = [] ∧ a' = a ∨ ∀ ad, a' = some ad → w.heap.size ≤ ad.block) := by
  have hlen := hx.len
  have hlen0 := ho.len
  by_cases hm : m = 0
  · subst hm
    obtain rfl : l2 = [] := List.eq_nil_of_length_eq_zero hlen.symm
    refine ⟨a, n, w, ?_, by simpa using ho, Kp.refl _ _, .inl ⟨rfl, rfl⟩⟩
    have hsrc : Src P i.size t (.slice a2 0 c2) 0 [] w := by
      cases a2 with
      | none => exact Src.ofNil w ht c2
      | some ad => exact Src.ofSlice w ht ad 0 c2 [] (by simp) (by simp) (by simp)
    exact run_append_nothing w t t ty e i ht hi a n n (Nat.le_refl _) _ hsrc
  · have hsrc : Src P i.size t (.slice a2 m c2) m (l2.map byteV) w := by
      cases a2 with
      | none => have := hx.nil rfl; have := hx.cap; omega
      | some ad =>
        exact Src.ofSlice w ht ad m c2 _ (by simp [hlen, hsize]) (fun j u hu => by
          simp only [List.getElem?_map, Option.map_eq_some_iff] at hu
          obtain ⟨b, hb, rfl⟩ := hu
          exact hx.cells ad j b rfl hb) (byteV_one l2)
    have hold : (Builtin.firstCells i.size n (.slice a n n)).run P w.drew = .ok (l.map byteV).toArray w.drew := by
      cases a with
      | none =>
        have hn0 : n = 0 := ho.nil rfl
        subst hn0
        obtain rfl : l = [] := List.eq_nil_of_length_eq_zero hlen0.symm
        exact run_firstCells_none w.drew i.size 0 0 0
      | some ad =>
        exact run_firstCells_some w.drew i.size n ad n n (l.map byteV) (by simp [hlen0, hsize]) (fun j u hu => by
          simp only [List.getElem?_map, Option.map_eq_some_iff] at hu
          obtain ⟨b, hb, rfl⟩ := hu
          exact ho.cells ad j b rfl hb)
    have hr := run_append_grow_src (P := P) w t t ty e i (.int .u8 0) ht hi hz a n n (l.map byteV) hold (.slice a2 m c2) m (l2.map byteV) hsrc (by omega) (by omega) (growslice_fits (by omega) (by rw [hby]; omega))
    have hge := grownCap_ge w (n + m) n e
    have hcm : grownCap w (n + m) n e ≤ maxLen := grownCap_le_maxLen w (n + m) n e (by unfold maxLen; omega)
    refine ⟨_, _, _, hr, ⟨by simp [hlen, hlen0], hge, by unfold maxLen at hcm; omega, (fun h => by cases h), fun ad j b ha hb => ?_⟩, ((Kp.refl _ w).drew).alloc _, .inr fun ad h => by cases h; exact Nat.le_refl _⟩
    simp only [Option.some.injEq] at ha
    subst ha
    have e1 : (⟨w.heap.size, 0, none⟩ : Addr).add j = ⟨w.heap.size, j, none⟩ := by unfold Addr.add; split <;> simp_all
    rw [e1]
    have e2 := World.cell?_alloc_new w.drew (((l.map byteV ++ l2.map byteV).toArray ++ Builtin.zeroCells (Value.int .u8 0).cells (grownCap w (n + m) n e - (n + m)))) e j
    refine e2.trans ?_
    have hj := (List.getElem?_eq_some_iff.1 hb).1
    rw [Array.getElem?_append_left (by simpa using hj), List.getElem?_toArray, ← List.map_append, List.getElem?_map, hb]
    rfl

def FullOut2 (w : World) (ax : Option Addr) (n m : Nat) (l2 l : List UInt8) (v' : Value) (w' : World) : Prop :=
  ∃ a' c', v' = .slice a' (n + m) c' ∧ Bytes w' a' (n + m) c' l ∧ Kp Non w w' ∧ (l2 = [] ∧ a' = ax ∨ ∀ ad, a' = some ad → w.heap.size ≤ ad.block)
theorem wp_append_full2 {P : Program} {w : World} {o : Oper} {a : Act} {K : Act → World → Prop} {Q : Exit → Act → World → Prop} (s x : Operand) (t : TypeId) (ho : o.op = .call { callee := .builtin .append, args := #[s, x], argTypes := #[t, t] })
    (e : TypeId) (i : TypeInfo) (ht : P.underlying t = some (.slice e)) (hi : P.info? e = some i) (hz : i.zero = some (.int .u8 0)) (hsize : i.size = 1) (hby : i.bytes = 1)
    (ax : Option Addr) (n : Nat) (l : List UInt8) (hs : a.eval s = .slice ax n n) (hown : Bytes w ax n n l) (a2 : Option Addr) (m c2 : Nat) (l2 : List UInt8) (hx : a.eval x = .slice a2 m c2) (hb : Bytes w a2 m c2 l2)
    (hbd : n + m ≤ 140737488355328)
    (h : ∀ a' c' w', Bytes w' a' (n + m) c' (l ++ l2) → Kp Non w w' → (l2 = [] ∧ a' = ax ∨ ∀ ad, a' = some ad → w.heap.size ≤ ad.block) → K (a.put o.dst (.slice a' (n + m) c')) w') : o.wp P a w K Q := by
  refine wp_append_of s x t ho _ _ hs hx (R := FullOut2 w ax n m l2 (l ++ l2)) ?_ ?_
  · obtain ⟨a', c', w', hr, h1, h2, h3⟩ := run_append_full2 (P := P) w t o.type e i ht hi hz hsize hby ax n l hown a2 m c2 l2 hb hbd
    exact ⟨_, w', hr, a', c', rfl, h1, h2, h3⟩
  · rintro v' w' ⟨a', c', rfl, h1, h2, h3⟩
    exact h a' c' w' h1 h2 h3

/-- A device, as data. -/
structure St where
  room : Int
  image : List UInt8
  stage : List UInt8
  staged : Bool
  log : List UInt8
  sure : Int
  stop : Int
  off : Bool

/-- What lies in the block of a device. -/
def St.row (s : St) (ia : Option Addr) (ic : Nat) (sa : Option Addr) (sc : Nat) (la : Option Addr) (lc : Nat) : Array Value :=
  #[.int .i64 s.room, .slice ia s.image.length ic, .slice sa s.stage.length sc, .bool s.staged, .slice la s.log.length lc, .int .i64 s.sure, .int .i64 s.stop, .bool s.off]

/-- A row that holds something lies in no block of F. -/
def Away (F : Nat → Prop) (a : Option Addr) (l : List UInt8) : Prop := l ≠ [] → ∀ ad, a = some ad → ¬ F ad.block
theorem Away.nil {a : Option Addr} : Away F a [] := fun h => absurd rfl h
theorem Away.take {a : Option Addr} {l : List UInt8} (h : Away F a l) (n : Nat) : Away F a (l.take n) := fun hn => h fun e => hn (by rw [e, List.take_nil])
theorem Away.app {a a' : Option Addr} {l b : List UInt8} {w : World} (h : Away F a l) (hf : ∀ k, F k → k < w.heap.size) (ho : b = [] ∧ a' = a ∨ ∀ ad, a' = some ad → w.heap.size ≤ ad.block) : Away F a' (l ++ b) := by
  rcases ho with ⟨rfl, rfl⟩ | ho
  · rw [List.append_nil]; exact h
  · intro _ ad ha hF
    have := hf _ hF
    have := ho ad ha
    omega
theorem Away.new {a' : Option Addr} {b : List UInt8} {w : World} (hf : ∀ k, F k → k < w.heap.size) (ho : b = [] ∧ a' = none ∨ ∀ ad, a' = some ad → w.heap.size ≤ ad.block) : Away F a' b := by
  have h : Away F none [] := Away.nil
  have := h.app hf ho
  rwa [List.nil_append] at this

structure DevAt (F : Nat → Prop) (w : World) (d : Nat) (s : St) (ia : Option Addr) (ic : Nat) (sa : Option Addr) (sc : Nat) (la : Option Addr) (lc : Nat) : Prop where
  row : w.heap[d]? = some (.cells (s.row ia ic sa sc la lc) 86 (0, 0))
  image : Bytes w ia s.image.length ic s.image
  stage : Bytes w sa s.stage.length sc s.stage
  log : Bytes w la s.log.length lc s.log
  fence : ∀ k, F k → k < w.heap.size
  ai : Away F ia s.image
  as_ : Away F sa s.stage
  al : Away F la s.log

/-- The block d is a device that holds s. -/
def Dev (F : Nat → Prop) (w : World) (d : Nat) (s : St) : Prop := ∃ ia ic sa sc la lc, DevAt F w d s ia ic sa sc la lc

section
variable {w : World} {d : Nat} {s : St} {ia : Option Addr} {ic : Nat} {sa : Option Addr} {sc : Nat} {la : Option Addr} {lc : Nat}
theorem DevAt.lt (h : DevAt F w d s ia ic sa sc la lc) : d < w.heap.size := heap_lt h.row
theorem DevAt.c (h : DevAt F w d s ia ic sa sc la lc) (i : Nat) : w.cell? ⟨d, i, none⟩ = (s.row ia ic sa sc la lc)[i]? := cell_of_row w d i _ _ _ h.row
theorem DevAt.c0 (h : DevAt F w d s ia ic sa sc la lc) : w.cell? ⟨d, 0, none⟩ = some (.int .i64 s.room) := h.c 0
theorem DevAt.c1 (h : DevAt F w d s ia ic sa sc la lc) : w.cell? ⟨d, 1, none⟩ = some (.slice ia s.image.length ic) := h.c 1
theorem DevAt.c2 (h : DevAt F w d s ia ic sa sc la lc) : w.cell? ⟨d, 2, none⟩ = some (.slice sa s.stage.length sc) := h.c 2
theorem DevAt.c3 (h : DevAt F w d s ia ic sa sc la lc) : w.cell? ⟨d, 3, none⟩ = some (.bool s.staged) := h.c 3
theorem DevAt.c4 (h : DevAt F w d s ia ic sa sc la lc) : w.cell? ⟨d, 4, none⟩ = some (.slice la s.log.length lc) := h.c 4
theorem DevAt.c5 (h : DevAt F w d s ia ic sa sc la lc) : w.cell? ⟨d, 5, none⟩ = some (.int .i64 s.sure) := h.c 5
theorem DevAt.c6 (h : DevAt F w d s ia ic sa sc la lc) : w.cell? ⟨d, 6, none⟩ = some (.int .i64 s.stop) := h.c 6
theorem DevAt.c7 (h : DevAt F w d s ia ic sa sc la lc) : w.cell? ⟨d, 7, none⟩ = some (.bool s.off) := h.c 7
theorem DevAt.f (h : DevAt F w d s ia ic sa sc la lc) (i : Nat) : w.frozen? ⟨d, i, none⟩ = false := by
  simp only [World.frozen?, h.row]
  simp

theorem row_cell (i : Nat) (v : Value) (h : (s.row ia ic sa sc la lc)[i]? = some v) (hn : ∀ b, v ≠ byteV b) (b : UInt8) : (s.row ia ic sa sc la lc)[i]? ≠ some (byteV b) := by
  rw [h]; intro e; exact hn b (by simpa using e)

theorem row_byte (i : Nat) (b : UInt8) : (s.row ia ic sa sc la lc)[i]? ≠ some (byteV b) := by
  match i with
  | 0 | 1 | 2 | 3 | 4 | 5 | 6 | 7 => simp [St.row, byteV]
  | n + 8 => simp [St.row]

/-- No byte lies in a device's block. -/
theorem DevAt.apart (h : DevAt F w d s ia ic sa sc la lc) : ∀ (a : Option Addr) (ad : Addr) (b : UInt8), a = some ad → w.cell? ad = some (byteV b) → ¬ One d ad.block := by
  rintro a ⟨k, o, sp⟩ b rfl hc rfl
  have hs : sp = none := World.cell?_spot hc
  subst hs
  rw [h.c] at hc
  exact row_byte _ _ hc

/-- The device is there still where its block may not change. -/
theorem DevAt.kp {S : Nat → Prop} {w' : World} (h : DevAt F w d s ia ic sa sc la lc) (k : Kp S w w') (hd : ¬ S d)
    (hb : ∀ (ad : Addr) (b : UInt8), w.cell? ad = some (byteV b) → ¬ S ad.block) : DevAt F w' d s ia ic sa sc la lc :=
  ⟨k.heap h.row hd, h.image.kp k fun ad b _ hc => hb ad b hc, h.stage.kp k fun ad b _ hc => hb ad b hc, h.log.kp k fun ad b _ hc => hb ad b hc, fun j hj => Nat.lt_of_lt_of_le (h.fence j hj) k.size, h.ai, h.as_, h.al⟩
theorem DevAt.non {w' : World} (h : DevAt F w d s ia ic sa sc la lc) (k : Kp Non w w') : DevAt F w' d s ia ic sa sc la lc := h.kp k (fun f => f) fun _ _ _ f => f
theorem DevAt.one {w' : World} {d' : Nat} {s' : St} {ia' ic' sa' sc' la' lc'} (h : DevAt F w d s ia ic sa sc la lc) (h' : DevAt F w d' s' ia' ic' sa' sc' la' lc') (hne : d ≠ d') (k : Kp (One d') w w') : DevAt F w' d s ia ic sa sc la lc :=
  h.kp k hne fun ad _ hc => h'.apart (some ad) ad _ rfl hc
end

theorem Dev.non {w w' : World} {d : Nat} {s : St} (h : Dev F w d s) (k : Kp Non w w') : Dev F w' d s := by
  obtain ⟨ia, ic, sa, sc, la, lc, h⟩ := h
  exact ⟨ia, ic, sa, sc, la, lc, h.non k⟩
/-- Blocks that came since are of the fence too. -/
theorem Dev.more {G : Nat → Prop} {w w' : World} {d : Nat} {s : St} (h : Dev F w d s) (k : Kp Non w w') (hG : ∀ j, G j → F j ∨ (w.heap.size ≤ j ∧ j < w'.heap.size)) : Dev G w' d s := by
  obtain ⟨ia, ic, sa, sc, la, lc, h⟩ := h
  have lt : ∀ {a n c l}, Bytes w a n c l → l ≠ [] → ∀ ad : Addr, a = some ad → ad.block < w.heap.size := by
    intro a n c l hb hl ad ha
    obtain ⟨x, r, rfl⟩ := List.exists_cons_of_ne_nil hl
    have := World.block_lt_of_cell? w _ (hb.cells ad 0 x ha rfl)
    rwa [Addr.add_block] at this
  have aw : ∀ {a n c l}, Bytes w a n c l → Away F a l → Away G a l := by
    intro a n c l hb ha hl ad had hj
    rcases hG _ hj with h1 | h1
    · exact ha hl ad had h1
    · have := lt hb hl ad had; omega
  have h' := h.non k
  refine ⟨ia, ic, sa, sc, la, lc, h'.row, h'.image, h'.stage, h'.log, fun j hj => ?_, aw h.image h.ai, aw h.stage h.as_, aw h.log h.al⟩
  rcases hG j hj with h1 | h1
  · exact h'.fence j h1
  · exact h1.2
/-- A write into blocks of the fence. -/
theorem Dev.fenced {w w' : World} {d : Nat} {s : St} (h : Dev F w d s) (k : Kp F w w') (hd : ¬ F d) : Dev F w' d s := by
  obtain ⟨ia, ic, sa, sc, la, lc, h⟩ := h
  have st : ∀ {a n c l}, Bytes w a n c l → Away F a l → Bytes w' a n c l := fun hb ha =>
    ⟨hb.len, hb.cap, hb.max, hb.nil, fun ad j b had hj => k.cell (hb.cells ad j b had hj) (by
      rw [Addr.add_block]
      exact ha (fun e => by rw [e] at hj; cases hj) ad had)⟩
  exact ⟨ia, ic, sa, sc, la, lc, k.heap h.row hd, st h.image h.ai, st h.stage h.as_, st h.log h.al, fun j hj => Nat.lt_of_lt_of_le (h.fence j hj) k.size, h.ai, h.as_, h.al⟩
theorem Dev.fence {w : World} {d : Nat} {s : St} (h : Dev F w d s) : ∀ k, F k → k < w.heap.size := by
  obtain ⟨ia, ic, sa, sc, la, lc, h⟩ := h
  exact h.fence
theorem Dev.lt {w : World} {d : Nat} {s : St} (h : Dev F w d s) : d < w.heap.size := by
  obtain ⟨ia, ic, sa, sc, la, lc, h⟩ := h
  exact h.lt

/-- Bytes that stand are there still behind a call that may change a device's block. -/
theorem Bytes.one {w w' : World} {a : Option Addr} {n c : Nat} {l : List UInt8} {d : Nat} {s : St} (h : Bytes w a n c l) (hd : Dev F w d s) (k : Kp (One d) w w') : Bytes w' a n c l := by
  obtain ⟨ia, ic, sa, sc, la, lc, hd⟩ := hd
  exact h.kp k fun ad b ha hc => hd.apart a ad b ha hc

theorem heap_setCell_row {w : World} {d : Nat} {cs : Array Value} {t : TypeId} {fr : Nat × Nat} (h : w.heap[d]? = some (.cells cs t fr)) (i : Nat) (v : Value) :
    (w.setCell ⟨d, i, none⟩ v).heap[d]? = some (.cells (cs.setIfInBounds i v) t fr) := by
  simp [World.setCell, Array.getElem?_modify, h]

section
variable {w : World} {d : Nat} {s : St} {ia : Option Addr} {ic : Nat} {sa : Option Addr} {sc : Nat} {la : Option Addr} {lc : Nat}
/-- One field of a device is written. -/
theorem DevAt.set (h : DevAt F w d s ia ic sa sc la lc) (i : Nat) (v : Value) {s' : St} {ia' : Option Addr} {ic' : Nat} {sa' : Option Addr} {sc' : Nat} {la' : Option Addr} {lc' : Nat}
    (hr : (s.row ia ic sa sc la lc).setIfInBounds i v = s'.row ia' ic' sa' sc' la' lc')
    (h1 : Bytes w ia' s'.image.length ic' s'.image) (h2 : Bytes w sa' s'.stage.length sc' s'.stage) (h3 : Bytes w la' s'.log.length lc' s'.log) (h4 : Away F ia' s'.image) (h5 : Away F sa' s'.stage) (h6 : Away F la' s'.log) : DevAt F (w.setCell ⟨d, i, none⟩ v) d s' ia' ic' sa' sc' la' lc' := by
  have hk : Kp (One d) w (w.setCell ⟨d, i, none⟩ v) := (Kp.refl (One d) w).setCell (p := ⟨d, i, none⟩) (.inl rfl) v
  exact ⟨by rw [heap_setCell_row h.row, hr], h1.kp hk fun ad b ha hc => h.apart _ ad b ha hc, h2.kp hk fun ad b ha hc => h.apart _ ad b ha hc, h3.kp hk fun ad b ha hc => h.apart _ ad b ha hc, fun j hj => Nat.lt_of_lt_of_le (h.fence j hj) hk.size, h4, h5, h6⟩
theorem DevAt.setStop (h : DevAt F w d s ia ic sa sc la lc) (x : Int) : DevAt F (w.setCell ⟨d, 6, none⟩ (.int .i64 x)) d { s with stop := x } ia ic sa sc la lc := h.set 6 _ rfl h.image h.stage h.log h.ai h.as_ h.al
theorem DevAt.setOff (h : DevAt F w d s ia ic sa sc la lc) (x : Bool) : DevAt F (w.setCell ⟨d, 7, none⟩ (.bool x)) d { s with off := x } ia ic sa sc la lc := h.set 7 _ rfl h.image h.stage h.log h.ai h.as_ h.al
theorem DevAt.setSure (h : DevAt F w d s ia ic sa sc la lc) (x : Int) : DevAt F (w.setCell ⟨d, 5, none⟩ (.int .i64 x)) d { s with sure := x } ia ic sa sc la lc := h.set 5 _ rfl h.image h.stage h.log h.ai h.as_ h.al
theorem DevAt.setStaged (h : DevAt F w d s ia ic sa sc la lc) (x : Bool) : DevAt F (w.setCell ⟨d, 3, none⟩ (.bool x)) d { s with staged := x } ia ic sa sc la lc := h.set 3 _ rfl h.image h.stage h.log h.ai h.as_ h.al
theorem DevAt.setLog (h : DevAt F w d s ia ic sa sc la lc) {a : Option Addr} {n c : Nat} {l : List UInt8} (hb : Bytes w a n c l) (hw : Away F a l) : DevAt F (w.setCell ⟨d, 4, none⟩ (.slice a n c)) d { s with log := l } ia ic sa sc a c :=
  h.set 4 _ (by rw [hb.len]; rfl) h.image h.stage (hb.len ▸ hb) h.ai h.as_ hw
theorem DevAt.setStage (h : DevAt F w d s ia ic sa sc la lc) {a : Option Addr} {n c : Nat} {l : List UInt8} (hb : Bytes w a n c l) (hw : Away F a l) : DevAt F (w.setCell ⟨d, 2, none⟩ (.slice a n c)) d { s with stage := l } ia ic a c la lc :=
  h.set 2 _ (by rw [hb.len]; rfl) h.image (hb.len ▸ hb) h.log h.ai hw h.al
theorem DevAt.setImage (h : DevAt F w d s ia ic sa sc la lc) {a : Option Addr} {n c : Nat} {l : List UInt8} (hb : Bytes w a n c l) (hw : Away F a l) : DevAt F (w.setCell ⟨d, 1, none⟩ (.slice a n c)) d { s with image := l } a c sa sc la lc :=
  h.set 1 _ (by rw [hb.len]; rfl) (hb.len ▸ hb) h.stage h.log hw h.as_ h.al
end
/-- A block of one cell. -/
def Box (w : World) (b : Nat) (v : Value) (t : TypeId) : Prop := w.heap[b]? = some (.cells #[v] t (0, 0))
theorem Box.c {w : World} {b : Nat} {v : Value} {t : TypeId} (h : Box w b v t) : w.cell? ⟨b, 0, none⟩ = some v := cell_of_row w b 0 _ _ _ h
theorem Box.f {w : World} {b : Nat} {v : Value} {t : TypeId} (h : Box w b v t) : w.frozen? ⟨b, 0, none⟩ = false := by
  unfold Box at h
  simp only [World.frozen?, h]
  simp
theorem Box.o {w : World} {b : Nat} {v : Value} {t : TypeId} (h : Box w b v t) (j : Nat) (hj : j ≠ 0) : w.cell? ⟨b, j, none⟩ = none := by
  rw [cell_of_row w b j _ _ _ h]; match j with | 0 => exact absurd rfl hj | k + 1 => simp
theorem Box.lt {w : World} {b : Nat} {v : Value} {t : TypeId} (h : Box w b v t) : b < w.heap.size := heap_lt h
theorem Box.kp {S : Nat → Prop} {w w' : World} {b : Nat} {v : Value} {t : TypeId} (h : Box w b v t) (k : Kp S w w') (hn : ¬ S b) : Box w' b v t := k.heap h hn
section
variable {w : World} {d : Nat} {s : St} {ia : Option Addr} {ic : Nat} {sa : Option Addr} {sc : Nat} {la : Option Addr} {lc : Nat}
/-- A write into a block of one cell. -/
theorem DevAt.far (h : DevAt F w d s ia ic sa sc la lc) {b : Nat} {v0 : Value} {t : TypeId} (v : Value) (hbox : Box w b v0 t) (hne : b ≠ d) (hv : ∀ x, v0 ≠ byteV x) : DevAt F (w.setCell ⟨b, 0, none⟩ v) d s ia ic sa sc la lc :=
  h.kp ((Kp.refl (One b) w).setCell (p := ⟨b, 0, none⟩) (.inl rfl) v) (fun e => hne e.symm) (by
    rintro ⟨k, o, sp⟩ x hc rfl
    obtain rfl : sp = none := World.cell?_spot hc
    by_cases ho : o = 0
    · subst ho; rw [hbox.c] at hc; exact hv x (by simpa using hc)
    · rw [hbox.o o ho] at hc; cases hc)
theorem Box.set {w : World} {b : Nat} {v0 : Value} {t : TypeId} (h : Box w b v0 t) (v : Value) : Box (w.setCell ⟨b, 0, none⟩ v) b v t := heap_setCell_row h 0 v
theorem Box.setOther {w : World} {b : Nat} {v0 : Value} {t : TypeId} (h : Box w b v0 t) {d i : Nat} (v : Value) (hn : b ≠ d) : Box (w.setCell ⟨d, i, none⟩ v) b v0 t :=
  h.kp ((Kp.refl (One d) w).setCell (p := ⟨d, i, none⟩) (.inl rfl) v) hn
end
theorem Box.new (w : World) (v : Value) (t : TypeId) : Box (w.alloc (.cells #[v] t)) w.heap.size v t := heap_alloc_new w _
theorem Box.ne {w : World} {b : Nat} {v : Value} {t : TypeId} (h : Box w b v t) {d : Nat} {s : St} (hd : Dev F w d s) : b ≠ d := by
  rintro rfl
  obtain ⟨ia, ic, sa, sc, la, lc, hd⟩ := hd
  have h1 := hd.row
  unfold Box at h
  rw [h] at h1
  simp only [Option.some.injEq, Obj.cells.injEq, St.row] at h1
  have := congrArg Array.size h1.1
  simp at this

/-- What a counting call leaves of Stop and Off. -/
def St.fin (s : St) : St := if s.stop = 0 then { s with off := true, stop := -1 } else if 0 < s.stop then { s with stop := s.stop - 1 } else s

/-- What the deferred closure leaves. -/
def FinPost (F : Nat → Prop) (be d : Nat) (s : St) (e0 : Int) (w w' : World) : Prop :=
  Dev F w' d s.fin ∧ Box w' be (.int .i64 (if s.stop = 0 then 6 else e0)) 26 ∧ Kp (fun k => k = d ∨ k = be) w w'

set_option maxHeartbeats 400000 in
/-- The deferred closure of the counting calls. -/
theorem fin_deferred (bx be d : Nat) (s : St) (e0 : Int) (w : World) (hx : Box w bx (.pointer (some ⟨d, 0, none⟩)) 25) (he : Box w be (.int .i64 e0) 26) (hd : Dev F w d s) (hlo : -1000 ≤ s.stop) (hhi : s.stop ≤ 9223372036854775807) :
    CallsD Try.prog 97 #[.pointer (some ⟨bx, 0, none⟩), .pointer (some ⟨be, 0, none⟩)] .returning w fun e u' w' => u' = .returning ∧ (e = .returned (.tuple #[]) ∧ FinPost F be d s e0 w w') := by
  have n1 := he.ne hd
  have n2 := hx.ne hd
  obtain ⟨ia, ic, sa, sc, la, lc, hd⟩ := hd
  have hxc := hx.c
  have hec := he.c
  have hef := he.f
  have c6 := hd.c6
  have c7 := hd.c7
  have f6 := hd.f 6
  have f7 := hd.f 7
  have n1' : ¬ d = be := fun h => n1 h.symm
  have n2' : ¬ d = bx := fun h => n2 h.symm
  have n3 : ¬ be = bx := by
    rintro rfl
    rw [hxc] at hec
    cases hec
  by_cases hs : s.stop = 0
  · have hs' : (s.stop == 0) = true := by simp [hs]
    have hs2 : 0 ≤ s.stop := by omega
    have hS := Lib.hid hs
    clear hs
    go_enter_d Try.func97, Try.ntmps97
    go_wp2
    go_end0
    have hs := hS.out
    have hfin : s.fin = { { s with off := true } with stop := s.stop - 1 } := by simp [St.fin, hs]
    refine ⟨rfl, ?_⟩
    unfold FinPost
    rw [hfin]
    refine ⟨⟨_, _, _, _, _, _, ((hd.setOff true).far _ (he.setOther _ n1) n1 (by simp [byteV])).setStop _⟩, ?_, ?_⟩
    · rw [if_pos hs]
      exact ((he.setOther _ n1).set _).setOther _ n1
    · exact (((Kp.refl _ _).setCell (.inl (.inl rfl)) _).setCell (.inl (.inr rfl)) _).setCell (.inl (.inl rfl)) _
  · have hs' : (s.stop == 0) = false := by simp [hs]
    by_cases hp : 0 < s.stop
    · have hs2 : 0 ≤ s.stop := by omega
      go_enter_d Try.func97, Try.ntmps97
      go_wp2
      go_end0
      have hfin : s.fin = { s with stop := s.stop - 1 } := by simp [St.fin, hs, hp]
      refine ⟨rfl, ?_⟩
      unfold FinPost
      rw [hfin]
      refine ⟨⟨_, _, _, _, _, _, hd.setStop _⟩, ?_, ?_⟩
      · rw [if_neg hs]
        exact he.setOther _ n1
      · exact (Kp.refl _ _).setCell (.inl (.inl rfl)) _
    · have hs2 : ¬ 0 ≤ s.stop := by omega
      go_enter_d Try.func97, Try.ntmps97
      go_wp2
      go_end0
      have hfin : s.fin = s := by unfold St.fin; rw [if_neg hs, if_neg (by omega)]
      refine ⟨rfl, ?_⟩
      unfold FinPost
      rw [hfin, if_neg hs]
      exact ⟨⟨_, _, _, _, _, _, hd⟩, he, Kp.refl _ _⟩
end Go.Proofs.Ytclbapmjhchokaa
