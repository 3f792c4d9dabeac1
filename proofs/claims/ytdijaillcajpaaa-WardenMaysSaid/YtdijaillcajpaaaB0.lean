/-
  Rows of elements of k cells each: slices that read as a list, rows of the call's own, appends to these.
-/
import Derived.Test.YtdijaillcajpaaaK0
import Derived.Laws.OwnMore
import Derived.Laws.IdiomCopy
namespace Go.Proofs.Ytdijaillcajpaaa
open Go.RowKit

section
variable {α : Type}
theorem flat_len (enc : α → List Value) (k : Nat) (hk : ∀ x, (enc x).length = k) (l : List α) : (l.flatMap enc).length = l.length * k := by
  induction l with
  | nil => simp
  | cons x l ih => rw [List.flatMap_cons, List.length_append, ih, hk, List.length_cons, Nat.add_mul, Nat.one_mul, Nat.add_comm]
theorem flat_at (enc : α → List Value) (k : Nat) (hk : ∀ x, (enc x).length = k) {l : List α} {j : Nat} {x : α} (hx : l[j]? = some x) {i : Nat} (hi : i < k) : (l.flatMap enc)[j * k + i]? = (enc x)[i]? := by
  induction l generalizing j with
  | nil => simp at hx
  | cons y l ih =>
    rw [List.flatMap_cons]
    cases j with
    | zero =>
      simp at hx; subst hx
      rw [Nat.zero_mul, Nat.zero_add, List.getElem?_append_left (by rw [hk]; exact hi)]
    | succ j =>
      simp at hx
      rw [List.getElem?_append_right (by rw [hk, Nat.add_mul]; omega), hk]
      have : (j + 1) * k + i - k = j * k + i := by rw [Nat.add_mul]; omega
      rw [this]
      exact ih hx
theorem flat_get (enc : α → List Value) (k : Nat) (hk : ∀ x, (enc x).length = k) (h0 : 0 < k) {l : List α} {p : Nat} {u : Value} (hu : (l.flatMap enc)[p]? = some u) : ∃ x, l[p / k]? = some x ∧ (enc x)[p % k]? = some u := by
  have hp := (List.getElem?_eq_some_iff.1 hu).1
  rw [flat_len enc k hk] at hp
  have hd : p / k < l.length := Nat.div_lt_of_lt_mul (by rw [Nat.mul_comm]; exact hp)
  refine ⟨l[p / k], List.getElem?_eq_getElem hd, ?_⟩
  rw [← flat_at enc k hk (List.getElem?_eq_getElem hd) (Nat.mod_lt p h0), Nat.mul_comm, Nat.div_add_mod]
  exact hu

/-- The slice (a, n, c) reads as the list l, k cells an element. -/
structure Reads (enc : α → List Value) (k : Nat) (w : World) (a : Option Addr) (n c : Nat) (l : List α) : Prop where
  len : n = l.length
  cap : n ≤ c
  max : c ≤ 9223372036854775807
  nil : a = none → c = 0
  at_ : ∀ j x, l[j]? = some x → ∃ b o, a = some ⟨b, o, none⟩ ∧ ∀ i v, (enc x)[i]? = some v → w.cell? ⟨b, o + j * k + i, none⟩ = some v

variable {enc : α → List Value} {k : Nat}
theorem Reads.empty (w : World) : Reads enc k w none 0 0 [] := ⟨rfl, Nat.le_refl _, by omega, fun _ => rfl, fun _ _ h => by simp at h⟩
theorem Reads.kp {S : Nat → Prop} {w w' : World} {a : Option Addr} {n c : Nat} {l : List α} (h : Reads enc k w a n c l) (kp : Kp S w w') (hn : ∀ i, Blk a i → ¬ S i) : Reads enc k w' a n c l :=
  ⟨h.len, h.cap, h.max, h.nil, fun j x hx => by
    obtain ⟨b, o, rfl, hc⟩ := h.at_ j x hx
    exact ⟨b, o, rfl, fun i v hv => kp.cell (hc i v hv) (hn b ⟨_, rfl, rfl⟩)⟩⟩
theorem Reads.non {w w' : World} {a : Option Addr} {n c : Nat} {l : List α} (h : Reads enc k w a n c l) (kp : Kp Non w w') : Reads enc k w' a n c l := h.kp kp fun _ _ f => f
theorem Reads.full {w : World} {a : Option Addr} {n c : Nat} {l : List α} (h : Reads enc k w a n c l) : Reads enc k w a n n l :=
  ⟨h.len, Nat.le_refl _, Nat.le_trans h.cap h.max, fun ha => by have := h.nil ha; have := h.cap; omega, h.at_⟩
theorem Reads.take {w : World} {a : Option Addr} {n c : Nat} {l : List α} (h : Reads enc k w a n c l) (i : Nat) (hi : i ≤ l.length) : Reads enc k w a i c (l.take i) := by
  have := h.len
  have := h.cap
  refine ⟨by simp; omega, by omega, h.max, h.nil, fun j x hx => h.at_ j x ?_⟩
  rw [List.getElem?_take] at hx
  split at hx
  · exact hx
  · cases hx
theorem Reads.there {w : World} {a : Option Addr} {n c : Nat} {l : List α} (h : Reads enc k w a n c l) (hn : 0 < n) : ∃ b o, a = some ⟨b, o, none⟩ := by
  have hl := h.len
  obtain ⟨b, o, e, _⟩ := h.at_ 0 _ (List.getElem?_eq_getElem (by omega))
  exact ⟨b, o, e⟩
theorem Reads.lt {w : World} {a : Option Addr} {n c : Nat} {l : List α} (h : Reads enc k w a n c l) (h0 : 0 < k) (hk : ∀ x, (enc x).length = k) (hn : 0 < n) : ∀ i, Blk a i → i < w.heap.size := by
  rintro i ⟨ad, rfl, rfl⟩
  have hl := h.len
  obtain ⟨b, o, e, hc⟩ := h.at_ 0 _ (List.getElem?_eq_getElem (by omega))
  cases e
  have h2 := hc 0 _ (List.getElem?_eq_getElem (by rw [hk]; exact h0))
  exact World.block_lt_of_cell? w ⟨b, o + 0 * k + 0, none⟩ h2
theorem Reads.get {w : World} {b o n c : Nat} {l : List α} (h : Reads enc k w (some ⟨b, o, none⟩) n c l) {j : Nat} {x : α} (hx : l[j]? = some x) {i : Nat} {v : Value} (hv : (enc x)[i]? = some v) : w.cell? ⟨b, o + j * k + i, none⟩ = some v := by
  obtain ⟨b', o', e, hc⟩ := h.at_ j x hx
  cases e
  exact hc i v hv
/-- The cells of such a slice, one by one. -/
theorem Reads.flat {w : World} {b o n c : Nat} {l : List α} (h : Reads enc k w (some ⟨b, o, none⟩) n c l) (hk : ∀ x, (enc x).length = k) (h0 : 0 < k) {p : Nat} {u : Value} (hu : (l.flatMap enc)[p]? = some u) : w.cell? ⟨b, o + p, none⟩ = some u := by
  obtain ⟨x, hx, hv⟩ := flat_get enc k hk h0 hu
  have := h.get hx hv
  have e : o + p / k * k + p % k = o + p := by rw [Nat.add_assoc, Nat.mul_comm, Nat.div_add_mod]
  rwa [e] at this

/-- A row of the call's own holds the list. -/
def OwnR (enc : α → List Value) (k : Nat) (w : World) (base : Nat) (e : TypeId) (a : Option Addr) (n c : Nat) (l : List α) : Prop := w.ownsRow base e k (.slice a n c) n (l.flatMap enc)

variable {w : World} {base : Nat} {e : TypeId} {a : Option Addr} {n c : Nat} {l : List α}
theorem OwnR.nil (w : World) (base : Nat) (e : TypeId) : OwnR enc k w base e none 0 0 [] := by
  have := World.ownsRow_nil w base e k
  exact this
theorem OwnR.lie (h : OwnR enc k w base e a n c l) : (a = none ∧ n = 0 ∧ c = 0 ∧ l.flatMap enc = []) ∨ ∃ g cur, a = some ⟨g, 0, none⟩ ∧ base ≤ g ∧ w.heap[g]? = some (.cells cur e (0, 0)) ∧ n ≤ c ∧ c ≤ maxLen ∧ cur.size = c * k ∧ cur.toList.take (n * k) = l.flatMap enc ∧ (l.flatMap enc).length = n * k := by
  have hl := h.1
  rcases h.2 with ⟨hv, h0⟩ | ⟨g, cap, cur, hv, hb, hg, hnc, hm, hs, ht⟩
  · simp only [Value.slice.injEq] at hv
    obtain ⟨rfl, rfl, rfl⟩ := hv
    exact .inl ⟨rfl, rfl, rfl, List.eq_nil_of_length_eq_zero (by simpa using hl)⟩
  · simp only [Value.slice.injEq] at hv
    obtain ⟨rfl, _, rfl⟩ := hv
    exact .inr ⟨g, cur, rfl, hb, hg, hnc, hm, hs, ht, hl⟩
theorem OwnR.mk {g : Nat} {cur : Array Value} (hb : base ≤ g) (hg : w.heap[g]? = some (.cells cur e (0, 0))) (hnc : n ≤ c) (hm : c ≤ maxLen) (hs : cur.size = c * k) (ht : cur.toList.take (n * k) = l.flatMap enc) (hl : (l.flatMap enc).length = n * k) : OwnR enc k w base e (some ⟨g, 0, none⟩) n c l :=
  ⟨hl, .inr ⟨g, c, cur, rfl, hb, hg, hnc, hm, hs, ht⟩⟩
theorem OwnR.len (h : OwnR enc k w base e a n c l) (hk : ∀ x, (enc x).length = k) (h0 : 0 < k) : n = l.length := by
  have := h.1
  rw [flat_len enc k hk] at this
  exact (Nat.eq_of_mul_eq_mul_right h0 this).symm
theorem OwnR.reads (h : OwnR enc k w base e a n c l) (hk : ∀ x, (enc x).length = k) (h0 : 0 < k) : Reads enc k w a n c l := by
  have hl := h.len hk h0
  rcases h.lie with ⟨rfl, rfl, rfl, hx⟩ | ⟨g, cur, rfl, hb, hg, hnc, hm, hs, ht, hlen⟩
  · obtain rfl : l = [] := List.eq_nil_of_length_eq_zero hl.symm
    exact Reads.empty w
  · refine ⟨hl, hnc, by unfold maxLen at hm; omega, (fun h => by cases h), fun j x hx => ⟨g, 0, rfl, fun i v hv => ?_⟩⟩
    have hi : i < k := by have := (List.getElem?_eq_some_iff.1 hv).1; rwa [hk] at this
    have h1 := flat_at enc k hk hx hi
    rw [hv] at h1
    have hj := (List.getElem?_eq_some_iff.1 h1).1
    rw [Nat.zero_add, World.ownsRow.cellAt h (j * k + i) (by rw [hlen] at hj; exact hj)]
    exact h1
theorem OwnR.blk (h : OwnR enc k w base e a n c l) : ∀ i, Blk a i → base ≤ i ∧ i < w.heap.size := by
  rintro i ⟨ad, rfl, rfl⟩
  rcases h.lie with ⟨h1, _⟩ | ⟨g, cur, h1, hb, hg, _⟩
  · cases h1
  · cases h1; exact ⟨hb, heap_lt hg⟩
theorem OwnR.tag (h : OwnR enc k w base e a n c l) : ∀ i, Blk a i → ∃ cs, w.heap[i]? = some (.cells cs e (0, 0)) := by
  rintro i ⟨ad, rfl, rfl⟩
  rcases h.lie with ⟨h1, _⟩ | ⟨g, cur, h1, hb, hg, _⟩
  · cases h1
  · cases h1; exact ⟨_, hg⟩
theorem OwnR.kp {S : Nat → Prop} {w' : World} (h : OwnR enc k w base e a n c l) (kp : Kp S w w') (hn : ∀ i, Blk a i → ¬ S i) : OwnR enc k w' base e a n c l := by
  rcases h.lie with ⟨rfl, rfl, rfl, hx⟩ | ⟨g, cur, rfl, hb, hg, hnc, hm, hs, ht, hlen⟩
  · exact ⟨by simp [hx], .inl ⟨rfl, rfl⟩⟩
  · exact OwnR.mk hb (kp.heap hg (hn g ⟨_, rfl, rfl⟩)) hnc hm hs ht hlen
theorem OwnR.non {w' : World} (h : OwnR enc k w base e a n c l) (kp : Kp Non w w') : OwnR enc k w' base e a n c l := h.kp kp fun _ _ f => f
theorem OwnR.lower {base' : Nat} (h : OwnR enc k w base e a n c l) (hb : base' ≤ base) : OwnR enc k w base' e a n c l := by
  rcases h.lie with ⟨rfl, rfl, rfl, hx⟩ | ⟨g, cur, rfl, hb', hg, hnc, hm, hs, ht, hlen⟩
  · exact ⟨by simp [hx], .inl ⟨rfl, rfl⟩⟩
  · exact OwnR.mk (by omega) hg hnc hm hs ht hlen
theorem OwnR.rebase {base' : Nat} (h : OwnR enc k w base e a n c l) (hb : ∀ i, Blk a i → base' ≤ i) : OwnR enc k w base' e a n c l := by
  rcases h.lie with ⟨rfl, rfl, rfl, hx⟩ | ⟨g, cur, rfl, hb', hg, hnc, hm, hs, ht, hlen⟩
  · exact ⟨by simp [hx], .inl ⟨rfl, rfl⟩⟩
  · exact OwnR.mk (hb g ⟨_, rfl, rfl⟩) hg hnc hm hs ht hlen
theorem OwnR.fz (h : OwnR enc k w base e a n c l) {g : Nat} (hg : a = some ⟨g, 0, none⟩) (i : Nat) : w.frozen? ⟨g, i, none⟩ = false := by
  subst hg
  exact World.ownsRow.frozenAt h i
/-- A cell of such a row is stored. -/
theorem OwnR.set {g : Nat} (h : OwnR enc k w base e (some ⟨g, 0, none⟩) n c l) (i : Nat) (v : Value) {l' : List α} (hl' : (l.flatMap enc).set i v = l'.flatMap enc) : OwnR enc k (w.setCell ⟨g, i, none⟩ v) base e (some ⟨g, 0, none⟩) n c l' := by
  have := (World.ownsRow.stored h i v).1
  rw [hl'] at this
  exact this
end

/-- What comes out of an append onto a row of the call's own. -/
def RowOut {α : Type} (enc : α → List Value) (k : Nat) (w : World) (base : Nat) (e : TypeId) (a : Option Addr) (n m : Nat) (l : List α) (v' : Value) (w' : World) : Prop :=
  ∃ a' c', v' = .slice a' (n + m) c' ∧ OwnR enc k w' base e a' (n + m) c' l ∧ Kp (Blk a) w w' ∧ (a' = a ∨ a' = some ⟨w.heap.size, 0, none⟩)
section
variable {P : Program} {α : Type} {enc : α → List Value} {k : Nat}
theorem run_append_row (w : World) (base : Nat) (t ty e : TypeId) (i : TypeInfo) (z : Value) (bts : Nat) (ht : P.underlying t = some (.slice e)) (hi : P.info? e = some i) (hz : i.zero = some z) (hsize : i.size = k) (hby : i.bytes = bts) (hzs : z.cells.size = k) (h0 : 0 < k) (hk : ∀ x, (enc x).length = k) (h1 : ∀ x, ∀ v ∈ enc x, v.oneCell' = true)
    (a : Option Addr) (n c : Nat) (l : List α) (ho : OwnR enc k w base e a n c l) (a2 : Option Addr) (m c2 : Nat) (l2 : List α) (hx : Reads enc k w a2 m c2 l2) (hb : (n + m) * bts ≤ 140737488355328) (hbig : n + m ≤ 140737488355328) (hbase : base ≤ w.heap.size) :
    ∃ v' w', (Builtin.append_ #[t, t] ty #[.slice a n c, .slice a2 m c2]).run P w = .ok v' w' ∧ RowOut enc k w base e a n m (l ++ l2) v' w' := by
  have hlen := hx.len
  by_cases hm : m = 0
  · subst hm
    obtain rfl : l2 = [] := List.eq_nil_of_length_eq_zero hlen.symm
    refine ⟨.slice a n c, w, ?_, a, c, rfl, by simpa using ho, Kp.refl _ _, .inl rfl⟩
    have hsrc : Src P i.size t (.slice a2 0 c2) 0 [] w := by
      cases a2 with
      | none => exact Src.ofNil w ht c2
      | some ad => exact Src.ofSlice w ht ad 0 c2 [] (by simp) (by simp) (by simp)
    exact run_append_nothing w t t ty e i ht hi a n c (ho.reads hk h0).cap _ hsrc
  · obtain ⟨b, o, rfl⟩ := hx.there (by omega)
    obtain ⟨v', w', hr, h2, h3, h4, h5⟩ := run_append_own_at (P := P) w base t ty e i z k bts ht hi hz hsize hby hzs h0 (.slice a n c) n (l.flatMap enc) ho ⟨b, o, none⟩ m c2 (l2.flatMap enc) (by rw [flat_len enc k hk, hlen]) (fun j u hu => by
      have := hx.flat hk h0 hu
      have e1 : (⟨b, o, none⟩ : Addr).add j = ⟨b, o + j, none⟩ := by unfold Addr.add; split <;> simp_all
      rw [e1]; exact this) (fun u hu => by
        obtain ⟨x, _, hx⟩ := List.mem_flatMap.1 hu
        exact h1 x u hx) (by unfold maxLen; omega) hb hbase
    obtain ⟨g, cap, rfl, _, hlt⟩ := h2.form (by omega)
    refine ⟨.slice (some ⟨g, 0, none⟩) (n + m) cap, w', hr, some ⟨g, 0, none⟩, cap, rfl, by unfold OwnR; rw [List.flatMap_append]; exact h2, ⟨h3.os, h3.tape, h3.output, h3.size, fun i hi hn => h3.block i hi (fun e => hn ?_)⟩, ?_⟩
    · cases a with
      | none => simp [Value.ownBlock] at e
      | some ad => simp [Value.ownBlock] at e; exact ⟨ad, rfl, e.symm⟩
    · rcases h5 with h5 | h5
      · left
        rcases ho.lie with ⟨rfl, _⟩ | ⟨g', cur, rfl, _⟩
        · simp [Value.ownBlock] at h5
        · simp [Value.ownBlock] at h5
          rw [h5]
      · right
        simp [Value.ownBlock] at h5
        rw [h5]

variable {w : World} {ops : Array Oper} {rest : List Oper} {o : Oper} {a : Act} {K : Act → World → Prop} {Q : Exit → Act → World → Prop}
theorem wp_append_row (s x : Operand) (t : TypeId) (ho : o.op = .call { callee := .builtin .append, args := #[s, x], argTypes := #[t, t] })
    (base : Nat) (e : TypeId) (i : TypeInfo) (z : Value) (bts : Nat) (ht : P.underlying t = some (.slice e)) (hi : P.info? e = some i) (hz : i.zero = some z) (hsize : i.size = k) (hby : i.bytes = bts) (hzs : z.cells.size = k) (h0 : 0 < k) (hk : ∀ x, (enc x).length = k) (h1 : ∀ x, ∀ v ∈ enc x, v.oneCell' = true)
    (ax : Option Addr) (n c : Nat) (l : List α) (hs : a.eval s = .slice ax n c) (hown : OwnR enc k w base e ax n c l) (a2 : Option Addr) (m c2 : Nat) (l2 : List α) (hx : a.eval x = .slice a2 m c2) (hb : Reads enc k w a2 m c2 l2)
    (hbd : (n + m) * bts ≤ 140737488355328) (hbig : n + m ≤ 140737488355328) (hbase : base ≤ w.heap.size)
    (h : ∀ a' c' w', OwnR enc k w' base e a' (n + m) c' (l ++ l2) → Kp (Blk ax) w w' → (a' = ax ∨ a' = some ⟨w.heap.size, 0, none⟩) → K (a.put o.dst (.slice a' (n + m) c')) w') : o.wp P a w K Q := by
  refine wp_append_of s x t ho _ _ hs hx (R := RowOut enc k w base e ax n m (l ++ l2)) ?_ ?_
  · exact run_append_row (P := P) w base t o.type e i z bts ht hi hz hsize hby hzs h0 hk h1 ax n c l hown a2 m c2 l2 hb hbd hbig hbase
  · rintro v' w' ⟨a', c', rfl, h1, h2, h3⟩
    exact h a' c' w' h1 h2 h3
theorem wpList_append_row (hgd : o.guard = none) (s x : Operand) (t : TypeId) (ho : o.op = .call { callee := .builtin .append, args := #[s, x], argTypes := #[t, t] })
    (base : Nat) (e : TypeId) (i : TypeInfo) (z : Value) (bts : Nat) (ht : P.underlying t = some (.slice e)) (hi : P.info? e = some i) (hz : i.zero = some z) (hsize : i.size = k) (hby : i.bytes = bts) (hzs : z.cells.size = k) (h0 : 0 < k) (hk : ∀ x, (enc x).length = k) (h1 : ∀ x, ∀ v ∈ enc x, v.oneCell' = true)
    (ax : Option Addr) (n c : Nat) (l : List α) (hs : a.eval s = .slice ax n c) (hown : OwnR enc k w base e ax n c l) (a2 : Option Addr) (m c2 : Nat) (l2 : List α) (hx : a.eval x = .slice a2 m c2) (hb : Reads enc k w a2 m c2 l2)
    (hbd : (n + m) * bts ≤ 140737488355328) (hbig : n + m ≤ 140737488355328) (hbase : base ≤ w.heap.size)
    (h : ∀ a' c' w', OwnR enc k w' base e a' (n + m) c' (l ++ l2) → Kp (Blk ax) w w' → (a' = ax ∨ a' = some ⟨w.heap.size, 0, none⟩) → wpList P ops Q rest (a.put o.dst (.slice a' (n + m) c')) w') : wpList P ops Q (o :: rest) a w :=
  wpList_plain hgd fun _ hK => wp_append_row s x t ho base e i z bts ht hi hz hsize hby hzs h0 hk h1 ax n c l hs hown a2 m c2 l2 hx hb hbd hbig hbase fun a' c' w' h1 h2 h3 => hK _ _ (h a' c' w' h1 h2 h3)
end

/-! ### Spans, numbers, strings, bools -/
def encS (s : Int × Int) : List Value := [.int .i64 s.1, .int .i64 s.2]
def encI (x : Int) : List Value := [.int .i64 x]
def encT (x : ByteArray) : List Value := [.string x]
def encB (x : Bool) : List Value := [.bool x]
theorem encS_len (s : Int × Int) : (encS s).length = 2 := rfl
theorem encI_len (x : Int) : (encI x).length = 1 := rfl
theorem encT_len (x : ByteArray) : (encT x).length = 1 := rfl
theorem encB_len (x : Bool) : (encB x).length = 1 := rfl
theorem encS_one (s : Int × Int) : ∀ v ∈ encS s, v.oneCell' = true := by intro v hv; simp [encS] at hv; rcases hv with rfl | rfl <;> rfl
theorem encI_one (s : Int) : ∀ v ∈ encI s, v.oneCell' = true := by intro v hv; simp [encI] at hv; subst hv; rfl
theorem encT_one (s : ByteArray) : ∀ v ∈ encT s, v.oneCell' = true := by intro v hv; simp [encT] at hv; subst hv; rfl
theorem encB_one (s : Bool) : ∀ v ∈ encB s, v.oneCell' = true := by intro v hv; simp [encB] at hv; subst hv; rfl

/-- The slice reads as the spans. -/
abbrev Spans := Reads encS 2
abbrev OwnS (w : World) (base : Nat) := OwnR encS 2 w base 36
abbrev Ints := Reads encI 1
abbrev OwnI (w : World) (base : Nat) := OwnR encI 1 w base 3
abbrev Bools := Reads encB 1
abbrev OwnB' (w : World) (base : Nat) := OwnR encB 1 w base 4
abbrev Texts := Reads encT 1
abbrev OwnT (w : World) (base : Nat) := OwnR encT 1 w base 9

theorem Spans.c0 {w : World} {b o n c : Nat} {l : List (Int × Int)} (h : Spans w (some ⟨b, o, none⟩) n c l) {j : Nat} (hj : j < l.length) : w.cell? ⟨b, o + j * 2, none⟩ = some (.int .i64 l[j].1) :=
  h.get (i := 0) (List.getElem?_eq_getElem hj) rfl
theorem Spans.c1 {w : World} {b o n c : Nat} {l : List (Int × Int)} (h : Spans w (some ⟨b, o, none⟩) n c l) {j : Nat} (hj : j < l.length) : w.cell? ⟨b, o + j * 2 + 1, none⟩ = some (.int .i64 l[j].2) :=
  h.get (i := 1) (List.getElem?_eq_getElem hj) rfl
theorem Ints.c {w : World} {b o n c : Nat} {l : List Int} (h : Ints w (some ⟨b, o, none⟩) n c l) {j : Nat} (hj : j < l.length) : w.cell? ⟨b, o + j, none⟩ = some (.int .i64 l[j]) := by
  have := h.get (i := 0) (List.getElem?_eq_getElem hj) rfl
  rw [Nat.mul_one, Nat.add_zero] at this
  exact this
theorem Bools.c {w : World} {b o n c : Nat} {l : List Bool} (h : Bools w (some ⟨b, o, none⟩) n c l) {j : Nat} (hj : j < l.length) : w.cell? ⟨b, o + j, none⟩ = some (.bool l[j]) := by
  have := h.get (i := 0) (List.getElem?_eq_getElem hj) rfl
  rw [Nat.mul_one, Nat.add_zero] at this
  exact this
theorem Texts.c {w : World} {b o n c : Nat} {l : List ByteArray} (h : Texts w (some ⟨b, o, none⟩) n c l) {j : Nat} (hj : j < l.length) : w.cell? ⟨b, o + j, none⟩ = some (.string l[j]) := by
  have := h.get (i := 0) (List.getElem?_eq_getElem hj) rfl
  rw [Nat.mul_one, Nat.add_zero] at this
  exact this
theorem cell_new {w : World} {b : Nat} {cur : Array Value} {e : TypeId} {fr : Nat × Nat} (hb : b = w.heap.size) (i : Nat) : (w.alloc (.cells cur e fr)).cell? ⟨b, i, none⟩ = cur[i]? := by
  subst hb
  unfold World.cell?
  rw [show (w.alloc (Obj.cells cur e fr)).heap[w.heap.size]? = some (Obj.cells cur e fr) from heap_alloc_new w _]
  rfl
/-- A new block of one element. -/
theorem Reads.new {α : Type} {enc : α → List Value} {k : Nat} {w : World} {b : Nat} {cur : Array Value} {e : TypeId} {fr : Nat × Nat} {x : α} (hb : b = w.heap.size) (hc : cur.toList = enc x) : Reads enc k (w.alloc (.cells cur e fr)) (some ⟨b, 0, none⟩) 1 1 [x] :=
  ⟨rfl, Nat.le_refl _, by omega, (fun h => by cases h), fun j y hy => ⟨b, 0, rfl, fun i v hv => by
    match j with
    | 0 =>
      simp at hy; subst hy
      rw [Nat.zero_add, Nat.zero_mul, Nat.zero_add, cell_new hb, ← Array.getElem?_toList, hc]
      exact hv
    | j + 1 => simp at hy⟩⟩
end Go.Proofs.Ytdijaillcajpaaa
