/-
  General words of this seat: which blocks a step may change, and slices of bytes as lists.
-/
import Derived.WalkKit
import Derived.Deep.Upon
import Derived.Deep.Draws
import Derived.Maps.AppendAt
import Derived.Deep.AppendLies
import Derived.Lib.Hide
namespace Go.Proofs.Ytdijaillcajpaaa
open Go.RowKit

/-- Only blocks in S, and new ones, differ. -/
structure Kp (S : Nat → Prop) (w w' : World) : Prop where
  os : w'.os = w.os
  tape : w'.tape = w.tape
  output : w'.output = w.output
  size : w.heap.size ≤ w'.heap.size
  block : ∀ k, k < w.heap.size → ¬ S k → w'.heap[k]? = w.heap[k]?

/-- No old block differs. -/
def Non (_ : Nat) : Prop := False
/-- Block d alone. -/
def One (d : Nat) (k : Nat) : Prop := k = d
/-- The block that an address lies in. -/
def Blk (a : Option Addr) (k : Nat) : Prop := ∃ ad, a = some ad ∧ ad.block = k

theorem Kp.refl (S : Nat → Prop) (w : World) : Kp S w w := ⟨rfl, rfl, rfl, Nat.le_refl _, fun _ _ _ => rfl⟩
theorem Kp.comp {S T U : Nat → Prop} {a b c : World} (h : Kp S a b) (k : Kp T b c) (hS : ∀ i, i < a.heap.size → S i → U i) (hT : ∀ i, i < a.heap.size → T i → U i) : Kp U a c :=
  ⟨k.os.trans h.os, k.tape.trans h.tape, k.output.trans h.output, Nat.le_trans h.size k.size, fun i hi hn =>
    (k.block i (Nat.lt_of_lt_of_le hi h.size) (fun t => hn (hT i hi t))).trans (h.block i hi (fun t => hn (hS i hi t)))⟩
theorem Kp.trans {S : Nat → Prop} {a b c : World} (h : Kp S a b) (k : Kp S b c) : Kp S a c := h.comp k (fun _ _ h => h) (fun _ _ h => h)
theorem Kp.mono {S T : Nat → Prop} {a b : World} (h : Kp S a b) (hs : ∀ i, i < a.heap.size → S i → T i) : Kp T a b :=
  ⟨h.os, h.tape, h.output, h.size, fun i hi hn => h.block i hi fun s => hn (hs i hi s)⟩
theorem Kp.non {S : Nat → Prop} {a b : World} (h : Kp Non a b) : Kp S a b := h.mono fun _ _ f => f.elim
theorem Kp.below {a b : World} (h : Kp Non a b) : Below a.heap.size a b := ⟨h.os, h.tape, h.output, h.size, fun k hk => h.block k hk (fun f => f)⟩
theorem Kp.of_below {a b : World} (h : Below a.heap.size a b) : Kp Non a b := ⟨h.os, h.tape, h.output, h.size, fun k hk _ => h.block k hk⟩
theorem Kp.alloc {S : Nat → Prop} {a w : World} (h : Kp S a w) (o : Obj) : Kp S a (w.alloc o) :=
  h.comp (T := Non) ⟨rfl, rfl, rfl, by simp, fun k hk _ => Below.heap_alloc _ _ _ hk⟩ (fun _ _ h => h) (fun _ _ f => f.elim)
theorem Kp.drew {S : Nat → Prop} {a w : World} (h : Kp S a w) : Kp S a w.drew := ⟨h.os, h.tape, h.output, h.size, h.block⟩
theorem Kp.drewN {S : Nat → Prop} {a w : World} (h : Kp S a w) (n : Nat) : Kp S a (w.drewN n) := ⟨h.os, h.tape, h.output, h.size, h.block⟩
theorem Kp.setCell {S : Nat → Prop} {a w : World} (h : Kp S a w) {p : Addr} (hp : S p.block ∨ a.heap.size ≤ p.block) (v : Value) : Kp S a (w.setCell p v) :=
  h.comp (T := One p.block) ⟨rfl, rfl, rfl, by simp [World.setCell], fun k _ hk => Below.heap_setCell _ _ _ _ hk⟩ (fun _ _ h => h) (fun i hi e => by
    rcases hp with hp | hp
    · rw [show i = p.block from e]; exact hp
    · have : i = p.block := e
      omega)
theorem Kp.grown {S : Nat → Prop} {a w w' : World} {row : Option Nat} (h : Kp S a w) (g : w.grownBy w' row) (hr : ∀ k, row = some k → S k ∨ a.heap.size ≤ k) : Kp S a w' :=
  h.comp (T := fun k => row = some k) ⟨g.os, g.tape, g.output, g.size, fun k hk hn => g.block k hk (fun e => hn e.symm)⟩ (fun _ _ h => h) (fun i hi e => by
    rcases hr i e with hp | hp
    · exact hp
    · omega)
theorem Kp.cell {S : Nat → Prop} {w w' : World} (h : Kp S w w') {a : Addr} {v : Value} (hc : w.cell? a = some v) (hn : ¬ S a.block) : w'.cell? a = some v :=
  (World.cell?_of_block (h.block a.block (World.block_lt_of_cell? w a hc) hn)).trans hc
theorem Kp.heap {S : Nat → Prop} {w w' : World} (h : Kp S w w') {k : Nat} {o : Obj} (hc : w.heap[k]? = some o) (hn : ¬ S k) : w'.heap[k]? = some o :=
  (h.block k (Array.getElem?_eq_some_iff.1 hc).1 hn).trans hc
theorem heap_lt {w : World} {k : Nat} {o : Obj} (h : w.heap[k]? = some o) : k < w.heap.size := (Array.getElem?_eq_some_iff.1 h).1

/-- A byte as a value. -/
def byteV (b : UInt8) : Value := .int .u8 b.toNat

/-- The slice (a, n, c) reads as the bytes l. -/
structure Bytes (w : World) (a : Option Addr) (n c : Nat) (l : List UInt8) : Prop where
  len : n = l.length
  cap : n ≤ c
  max : c ≤ 9223372036854775807
  nil : a = none → c = 0
  cells : ∀ ad j b, a = some ad → l[j]? = some b → w.cell? (ad.add j) = some (byteV b)

theorem Addr.add_block (a : Addr) (j : Nat) : (a.add j).block = a.block := by unfold Addr.add; split <;> rfl

theorem Bytes.empty (w : World) : Bytes w none 0 0 [] := ⟨rfl, Nat.le_refl _, by omega, fun _ => rfl, fun _ _ _ h => by cases h⟩

/-- Bytes stay where no cell of theirs lies in a block that may change. -/
theorem Bytes.kp {S : Nat → Prop} {w w' : World} {a : Option Addr} {n c : Nat} {l : List UInt8} (h : Bytes w a n c l) (k : Kp S w w')
    (hn : ∀ ad v, a = some ad → w.cell? ad = some (byteV v) → ¬ S ad.block) : Bytes w' a n c l := by
  refine ⟨h.len, h.cap, h.max, h.nil, fun ad j b ha hb => ?_⟩
  have hc := h.cells ad j b ha hb
  refine k.cell hc ?_
  rw [Addr.add_block]
  have h0 : 0 < l.length := by
    have := (List.getElem?_eq_some_iff.1 hb).1
    omega
  have hb0 : l[0]? = some l[0] := List.getElem?_eq_getElem h0
  have hc0 := h.cells ad 0 _ ha hb0
  have e0 : ad.add 0 = ad := by simp [Addr.add]
  rw [e0] at hc0
  exact hn ad _ ha hc0

theorem Bytes.non {w w' : World} {a : Option Addr} {n c : Nat} {l : List UInt8} (h : Bytes w a n c l) (k : Kp Non w w') : Bytes w' a n c l :=
  h.kp k fun _ _ _ _ f => f

theorem Bytes.lt {w : World} {a : Option Addr} {n c : Nat} {l : List UInt8} (h : Bytes w a n c l) : c ≤ maxLen := by unfold maxLen; have := h.max; omega

theorem byteV_one (l : List UInt8) : ∀ u ∈ l.map byteV, u.oneCell' = true := by
  intro u hu
  obtain ⟨b, _, rfl⟩ := List.mem_map.1 hu
  rfl

/-- A block of the call's own holds the bytes. -/
def OwnB (w : World) (base : Nat) (e : TypeId) (a : Option Addr) (n c : Nat) (l : List UInt8) : Prop := w.ownsRow base e 1 (.slice a n c) n (l.map byteV)

theorem OwnB.bytes {w : World} {base : Nat} {e : TypeId} {a : Option Addr} {n c : Nat} {l : List UInt8} (h : OwnB w base e a n c l) : Bytes w a n c l := by
  have hl : n = l.length := by have := h.1; simpa using this.symm
  rcases h.2 with ⟨hv, h0⟩ | ⟨g, cap, cur, hv, hb, hg, hnc, hm, hs, ht⟩
  · simp only [Value.slice.injEq] at hv
    obtain ⟨rfl, rfl, rfl⟩ := hv
    exact ⟨hl, Nat.le_refl _, by omega, fun _ => rfl, fun _ _ _ h => by cases h⟩
  · simp only [Value.slice.injEq] at hv
    obtain ⟨rfl, _, rfl⟩ := hv
    refine ⟨hl, hnc, by unfold maxLen at hm; omega, (fun h => by cases h), fun ad j b ha hb => ?_⟩
    simp only [Option.some.injEq] at ha
    subst ha
    refine World.ownsRow.cells (v := .slice (some ⟨g, 0, none⟩) n c) h rfl j (byteV b) ?_
    simp [hb]

theorem OwnB.lt {w : World} {base : Nat} {e : TypeId} {a : Option Addr} {n c : Nat} {l : List UInt8} (h : OwnB w base e a n c l) : ∀ k, Blk a k → base ≤ k ∧ k < w.heap.size := by
  rintro k ⟨ad, rfl, rfl⟩
  exact World.ownsRow.lt (v := .slice (some ad) n c) h ad.block rfl

theorem OwnB.nil (w : World) (base : Nat) (e : TypeId) : OwnB w base e none 0 0 [] := World.ownsRow_nil w base e 1

theorem OwnB.kp {S : Nat → Prop} {w w' : World} {base : Nat} {e : TypeId} {a : Option Addr} {n c : Nat} {l : List UInt8} (h : OwnB w base e a n c l) (k : Kp S w w') (hn : ∀ i, Blk a i → ¬ S i) : OwnB w' base e a n c l := by
  refine ⟨h.1, ?_⟩
  rcases h.2 with hv | ⟨g, cap, cur, hv, hb, hg, rest⟩
  · exact .inl hv
  · refine .inr ⟨g, cap, cur, hv, hb, k.heap hg (hn g ?_), rest⟩
    simp only [Value.slice.injEq] at hv
    exact ⟨_, hv.1, rfl⟩

theorem OwnB.base {w : World} {base base' : Nat} {e : TypeId} {a : Option Addr} {n c : Nat} {l : List UInt8} (h : OwnB w base e a n c l) (hb : base' ≤ base) : OwnB w base' e a n c l := by
  refine ⟨h.1, ?_⟩
  rcases h.2 with hv | ⟨g, cap, cur, hv, hb', rest⟩
  · exact .inl hv
  · exact .inr ⟨g, cap, cur, hv, by omega, rest⟩

section
variable {P : Program}
/-- append onto a row of the call's own, out of any bytes. -/
theorem run_append_bytes (w : World) (base : Nat) (t ty e : TypeId) (i : TypeInfo) (ht : P.underlying t = some (.slice e)) (hi : P.info? e = some i) (hz : i.zero = some (.int .u8 0)) (hsize : i.size = 1) (hby : i.bytes = 1)
    (a : Option Addr) (n c : Nat) (l : List UInt8) (ho : OwnB w base e a n c l) (a2 : Option Addr) (m c2 : Nat) (l2 : List UInt8) (hx : Bytes w a2 m c2 l2) (hb : n + m ≤ 140737488355328) (hbase : base ≤ w.heap.size) :
    ∃ a' c' w', (Builtin.append_ #[t, t] ty #[.slice a n c, .slice a2 m c2]).run P w = .ok (.slice a' (n + m) c') w' ∧ OwnB w' base e a' (n + m) c' (l ++ l2) ∧ w.grownBy w' (Value.ownBlock (.slice a n c)) ∧ (a' = a ∨ a' = some ⟨w.heap.size, 0, none⟩) := by
  have hlen := hx.len
  by_cases hm : m = 0
  · subst hm
    obtain rfl : l2 = [] := List.eq_nil_of_length_eq_zero hlen.symm
    refine ⟨a, c, w, ?_, by simpa using ho, ⟨rfl, rfl, rfl, Nat.le_refl _, fun _ _ _ => rfl⟩, .inl rfl⟩
    have hsrc : Src P i.size t (.slice a2 0 c2) 0 [] w := by
      cases a2 with
      | none => exact Src.ofNil w ht c2
      | some ad => exact Src.ofSlice w ht ad 0 c2 [] (by simp) (by simp) (by simp)
    exact run_append_nothing w t t ty e i ht hi a n c ho.bytes.cap _ hsrc
  · cases a2 with
    | none => have := hx.nil rfl; have := hx.cap; omega
    | some ad =>
      obtain ⟨v', w', hr, h2, h3, h4, h5⟩ := run_append_own_at (P := P) w base t ty e i (.int .u8 0) 1 1 ht hi hz hsize hby rfl (by omega) (.slice a n c) n (l.map byteV) ho ad m c2 (l2.map byteV) (by simp [hlen]) (fun j u hu => by
        simp only [List.getElem?_map, Option.map_eq_some_iff] at hu
        obtain ⟨b, hb, rfl⟩ := hu
        exact hx.cells ad j b rfl hb) (byteV_one l2) (by unfold maxLen; omega) (by omega) hbase
      obtain ⟨g, cap, rfl, _, hlt⟩ := h2.form (by omega)
      refine ⟨some ⟨g, 0, none⟩, cap, w', hr, by unfold OwnB; rw [List.map_append]; exact h2, h3, ?_⟩
      rcases h5 with h5 | h5
      · left
        cases a with
        | none => simp [Value.ownBlock] at h5
        | some ad' =>
          simp [Value.ownBlock] at h5
          rcases ho.2 with ⟨hv, _⟩ | ⟨g', cap', cur, hv, _⟩
          · simp at hv
          · simp at hv
            obtain ⟨rfl, _⟩ := hv
            simp at h5
            rw [h5]
      · right
        simp [Value.ownBlock] at h5
        rw [h5]

/-- append onto a slice without spare room, not of the call's own: nothing that was there changes. -/
theorem run_append_full (w : World) (t ty e : TypeId) (i : TypeInfo) (ht : P.underlying t = some (.slice e)) (hi : P.info? e = some i) (hz : i.zero = some (.int .u8 0)) (hsize : i.size = 1) (hby : i.bytes = 1)
    (a : Option Addr) (n : Nat) (l : List UInt8) (ho : Bytes w a n n l) (a2 : Option Addr) (m c2 : Nat) (l2 : List UInt8) (hx : Bytes w a2 m c2 l2) (hb : n + m ≤ 140737488355328) :
    ∃ a' c' w', (Builtin.append_ #[t, t] ty #[.slice a n n, .slice a2 m c2]).run P w = .ok (.slice a' (n + m) c') w' ∧ Bytes w' a' (n + m) c' (l ++ l2) ∧ Kp Non w w' := by
  have hlen := hx.len
  have hlen0 := ho.len
  by_cases hm : m = 0
  · subst hm
    obtain rfl : l2 = [] := List.eq_nil_of_length_eq_zero hlen.symm
    refine ⟨a, n, w, ?_, by simpa using ho, Kp.refl _ _⟩
    have hsrc : Src P i.size t (.slice a2 0 c2) 0 [] w := by
      cases a2 with
      | none => exact Src.ofNil w ht c2
      | some ad => exact Src.ofSlice w ht ad 0 c2 [] (by simp) (by simp) (by simp)
    exact run_append_nothing w t t ty e i ht hi a n n (Nat.le_refl _) _ hsrc
  · have hsrc : Src P i.size t (.slice a2 m c2) m (l2.map byteV) w := by
      cases a2 with
      | none => have := hx.nil rfl; have := hx.cap; omega
      | some ad =>
        exact Src.ofSlice w ht ad m c2 _ (by simp [hlen, hsize]) (fun j u hu => by
          simp only [List.getElem?_map, Option.map_eq_some_iff] at hu
          obtain ⟨b, hb, rfl⟩ := hu
          exact hx.cells ad j b rfl hb) (byteV_one l2)
    have hold : (Builtin.firstCells i.size n (.slice a n n)).run P w.drew = .ok (l.map byteV).toArray w.drew := by
      cases a with
      | none =>
        have hn0 : n = 0 := ho.nil rfl
        subst hn0
        obtain rfl : l = [] := List.eq_nil_of_length_eq_zero hlen0.symm
        exact run_firstCells_none w.drew i.size 0 0 0
      | some ad =>
        exact run_firstCells_some w.drew i.size n ad n n (l.map byteV) (by simp [hlen0, hsize]) (fun j u hu => by
          simp only [List.getElem?_map, Option.map_eq_some_iff] at hu
          obtain ⟨b, hb, rfl⟩ := hu
          exact ho.cells ad j b rfl hb)
    have hr := run_append_grow_src (P := P) w t t ty e i (.int .u8 0) ht hi hz a n n (l.map byteV) hold (.slice a2 m c2) m (l2.map byteV) hsrc (by omega) (by omega) (growslice_fits (by omega) (by rw [hby]; omega))
    have hge := grownCap_ge w (n + m) n e
    have hcm : grownCap w (n + m) n e ≤ maxLen := grownCap_le_maxLen w (n + m) n e (by unfold maxLen; omega)
    refine ⟨_, _, _, hr, ⟨by simp [hlen, hlen0], hge, by unfold maxLen at hcm; omega, (fun h => by cases h), fun ad j b ha hb => ?_⟩, ((Kp.refl _ w).drew).alloc _⟩
    simp only [Option.some.injEq] at ha
    subst ha
    have e1 : (⟨w.heap.size, 0, none⟩ : Addr).add j = ⟨w.heap.size, j, none⟩ := by unfold Addr.add; split <;> simp_all
    rw [e1]
    have e2 := World.cell?_alloc_new w.drew (((l.map byteV ++ l2.map byteV).toArray ++ Builtin.zeroCells (Value.int .u8 0).cells (grownCap w (n + m) n e - (n + m)))) e j
    refine e2.trans ?_
    have hj := (List.getElem?_eq_some_iff.1 hb).1
    rw [Array.getElem?_append_left (by simpa using hj), List.getElem?_toArray, ← List.map_append, List.getElem?_map, hb]
    rfl

/-- The string of some bytes. -/
theorem run_string_bytes (w : World) (src dst e : TypeId) (hs : P.underlying src = some (.slice e)) (he : P.underlying e = some (.int .u8)) (hd : P.underlying dst = some .string)
    (a : Option Addr) (n c : Nat) (l : List UInt8) (h : Bytes w a n c l) : (convert src dst (.slice a n c)).run P w = .ok (.string ⟨l.toArray⟩) w := by
  have hlen := h.len
  cases a with
  | none =>
    have h0 := h.nil rfl
    have := h.cap
    obtain rfl : l = [] := List.eq_nil_of_length_eq_zero (by omega)
    exact run_convert_bytes_nil w src e hs he n c dst hd
  | some ad =>
    have hl : (loadCells ad n).run P w = .ok ((l.map (fun b : UInt8 => (b.toNat : Int))).map (Value.int .u8)).toArray w := by
      have := run_loadCells_list (P := P) w ad ((l.map (fun b : UInt8 => (b.toNat : Int))).map (Value.int .u8)) (fun j v hj => by
        simp only [List.getElem?_map, Option.map_eq_some_iff] at hj
        obtain ⟨x, ⟨b, hb, rfl⟩, rfl⟩ := hj
        exact h.cells ad j b rfl hb)
      simpa [hlen] using this
    rw [run_convert_bytes_string w src dst e _ n c hs he hd, run_bytesToString w _ n c _ hl, foldl_push_bytes]
    have e1 : (l.map (fun b : UInt8 => (b.toNat : Int))).map (fun n => UInt8.ofNat n.toNat) = l := by
      rw [List.map_map]
      conv => rhs; rw [← List.map_id l]
      apply List.map_congr_left
      intro b _
      simp
    rw [e1]
    simp [ByteArray.empty, ByteArray.emptyWithCapacity]
    rfl

/-- An append whose run is known, at the operation. -/
theorem wp_append_of {w : World} {o : Oper} {a : Act} {K : Act → World → Prop} {Q : Exit → Act → World → Prop} (s x : Operand) (t : TypeId)
    (ho : o.op = .call { callee := .builtin .append, args := #[s, x], argTypes := #[t, t] }) (v y : Value) (hs : a.eval s = v) (hx : a.eval x = y) {R : Value → World → Prop}
    (hrun : ∃ v' w', (Builtin.append_ #[t, t] o.type #[v, y]).run P w = .ok v' w' ∧ R v' w') (h : ∀ v' w', R v' w' → K (a.put o.dst v') w') : o.wp P a w K Q := by
  obtain ⟨v', w', hr, h2⟩ := hrun
  unfold Oper.wp execOp
  simp only [ho, resolve, invoke, builtin, Sem.run_bind, Sem.run_pure, Result.andThen_ok, List.map_toArray, List.map_cons, List.map_nil, hs, hx, hr]
  exact h v' w' h2
/-- What comes out of an append onto a row of the call's own. -/
def OwnOut (w : World) (base : Nat) (e : TypeId) (a : Option Addr) (n c m : Nat) (l : List UInt8) (v' : Value) (w' : World) : Prop :=
  ∃ a' c', v' = .slice a' (n + m) c' ∧ OwnB w' base e a' (n + m) c' l ∧ w.grownBy w' (Value.ownBlock (.slice a n c)) ∧ (a' = a ∨ a' = some ⟨w.heap.size, 0, none⟩)
/-- What comes out of an append onto a slice without spare room. -/
def FullOut (w : World) (n m : Nat) (l : List UInt8) (v' : Value) (w' : World) : Prop :=
  ∃ a' c', v' = .slice a' (n + m) c' ∧ Bytes w' a' (n + m) c' l ∧ Kp Non w w'

section
variable {w : World} {ops : Array Oper} {rest : List Oper} {o : Oper} {a : Act} {K : Act → World → Prop} {Q : Exit → Act → World → Prop}
theorem wp_append_bytes (s x : Operand) (t : TypeId) (ho : o.op = .call { callee := .builtin .append, args := #[s, x], argTypes := #[t, t] })
    (base : Nat) (e : TypeId) (i : TypeInfo) (ht : P.underlying t = some (.slice e)) (hi : P.info? e = some i) (hz : i.zero = some (.int .u8 0)) (hsize : i.size = 1) (hby : i.bytes = 1)
    (ax : Option Addr) (n c : Nat) (l : List UInt8) (hs : a.eval s = .slice ax n c) (hown : OwnB w base e ax n c l) (a2 : Option Addr) (m c2 : Nat) (l2 : List UInt8) (hx : a.eval x = .slice a2 m c2) (hb : Bytes w a2 m c2 l2)
    (hbd : n + m ≤ 140737488355328) (hbase : base ≤ w.heap.size)
    (h : ∀ a' c' w', OwnB w' base e a' (n + m) c' (l ++ l2) → w.grownBy w' (Value.ownBlock (.slice ax n c)) → (a' = ax ∨ a' = some ⟨w.heap.size, 0, none⟩) → K (a.put o.dst (.slice a' (n + m) c')) w') : o.wp P a w K Q := by
  refine wp_append_of s x t ho _ _ hs hx (R := OwnOut w base e ax n c m (l ++ l2)) ?_ ?_
  · obtain ⟨a', c', w', hr, h1, h2, h3⟩ := run_append_bytes (P := P) w base t o.type e i ht hi hz hsize hby ax n c l hown a2 m c2 l2 hb hbd hbase
    exact ⟨_, w', hr, a', c', rfl, h1, h2, h3⟩
  · rintro v' w' ⟨a', c', rfl, h1, h2, h3⟩
    exact h a' c' w' h1 h2 h3

theorem wpList_append_bytes (hgd : o.guard = none) (s x : Operand) (t : TypeId) (ho : o.op = .call { callee := .builtin .append, args := #[s, x], argTypes := #[t, t] })
    (base : Nat) (e : TypeId) (i : TypeInfo) (ht : P.underlying t = some (.slice e)) (hi : P.info? e = some i) (hz : i.zero = some (.int .u8 0)) (hsize : i.size = 1) (hby : i.bytes = 1)
    (ax : Option Addr) (n c : Nat) (l : List UInt8) (hs : a.eval s = .slice ax n c) (hown : OwnB w base e ax n c l) (a2 : Option Addr) (m c2 : Nat) (l2 : List UInt8) (hx : a.eval x = .slice a2 m c2) (hb : Bytes w a2 m c2 l2)
    (hbd : n + m ≤ 140737488355328) (hbase : base ≤ w.heap.size)
    (h : ∀ a' c' w', OwnB w' base e a' (n + m) c' (l ++ l2) → w.grownBy w' (Value.ownBlock (.slice ax n c)) → (a' = ax ∨ a' = some ⟨w.heap.size, 0, none⟩) → wpList P ops Q rest (a.put o.dst (.slice a' (n + m) c')) w') : wpList P ops Q (o :: rest) a w :=
  wpList_plain hgd fun _ hK => wp_append_bytes s x t ho base e i ht hi hz hsize hby ax n c l hs hown a2 m c2 l2 hx hb hbd hbase fun a' c' w' h1 h2 h3 => hK _ _ (h a' c' w' h1 h2 h3)

theorem wp_append_full (s x : Operand) (t : TypeId) (ho : o.op = .call { callee := .builtin .append, args := #[s, x], argTypes := #[t, t] })
    (e : TypeId) (i : TypeInfo) (ht : P.underlying t = some (.slice e)) (hi : P.info? e = some i) (hz : i.zero = some (.int .u8 0)) (hsize : i.size = 1) (hby : i.bytes = 1)
    (ax : Option Addr) (n : Nat) (l : List UInt8) (hs : a.eval s = .slice ax n n) (hown : Bytes w ax n n l) (a2 : Option Addr) (m c2 : Nat) (l2 : List UInt8) (hx : a.eval x = .slice a2 m c2) (hb : Bytes w a2 m c2 l2)
    (hbd : n + m ≤ 140737488355328)
    (h : ∀ a' c' w', Bytes w' a' (n + m) c' (l ++ l2) → Kp Non w w' → K (a.put o.dst (.slice a' (n + m) c')) w') : o.wp P a w K Q := by
  refine wp_append_of s x t ho _ _ hs hx (R := FullOut w n m (l ++ l2)) ?_ ?_
  · obtain ⟨a', c', w', hr, h1, h2⟩ := run_append_full (P := P) w t o.type e i ht hi hz hsize hby ax n l hown a2 m c2 l2 hb hbd
    exact ⟨_, w', hr, a', c', rfl, h1, h2⟩
  · rintro v' w' ⟨a', c', rfl, h1, h2⟩
    exact h a' c' w' h1 h2

theorem wpList_append_full (hgd : o.guard = none) (s x : Operand) (t : TypeId) (ho : o.op = .call { callee := .builtin .append, args := #[s, x], argTypes := #[t, t] })
    (e : TypeId) (i : TypeInfo) (ht : P.underlying t = some (.slice e)) (hi : P.info? e = some i) (hz : i.zero = some (.int .u8 0)) (hsize : i.size = 1) (hby : i.bytes = 1)
    (ax : Option Addr) (n : Nat) (l : List UInt8) (hs : a.eval s = .slice ax n n) (hown : Bytes w ax n n l) (a2 : Option Addr) (m c2 : Nat) (l2 : List UInt8) (hx : a.eval x = .slice a2 m c2) (hb : Bytes w a2 m c2 l2)
    (hbd : n + m ≤ 140737488355328)
    (h : ∀ a' c' w', Bytes w' a' (n + m) c' (l ++ l2) → Kp Non w w' → wpList P ops Q rest (a.put o.dst (.slice a' (n + m) c')) w') : wpList P ops Q (o :: rest) a w :=
  wpList_plain hgd fun _ hK => wp_append_full s x t ho e i ht hi hz hsize hby ax n l hs hown a2 m c2 l2 hx hb hbd fun a' c' w' h1 h2 => hK _ _ (h a' c' w' h1 h2)
end
end
end Go.Proofs.Ytdijaillcajpaaa
