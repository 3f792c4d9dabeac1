/-
  Rows of slices and of strings: no cell of theirs is a byte, so an append to them in place leaves all bytes.
-/
import Derived.Test.YtclbapmjhchokaaJ4
namespace Go.Proofs.Ytclbapmjhchokaa
open Go.RowKit

/-- No byte. -/
def NB (v : Value) : Prop := ∀ x, v ≠ byteV x
theorem NB.slice (a : Option Addr) (n c : Nat) : NB (.slice a n c) := fun _ h => by cases h
theorem NB.str (s : ByteArray) : NB (.string s) := fun _ h => by cases h
/-- No byte lies in a block of S. -/
def NoB (S : Nat → Prop) (w : World) : Prop := ∀ (ad : Addr) (b : UInt8), w.cell? ad = some (byteV b) → ¬ S ad.block

/-- A row of cells that are no bytes, in a block of its own from its beginning. -/
structure SRow (w : World) (e : TypeId) (a : Option Addr) (n c : Nat) (vs : List Value) : Prop where
  len : vs.length = n
  nb : ∀ v ∈ vs, NB v
  lies : (a = none ∧ n = 0 ∧ c = 0) ∨ ∃ g cur, a = some ⟨g, 0, none⟩ ∧ w.heap[g]? = some (.cells cur e (0, 0)) ∧ n ≤ c ∧ c ≤ maxLen ∧ cur.size = c ∧ cur.toList.take n = vs ∧ ∀ x ∈ cur.toList, NB x

theorem SRow.nil (w : World) (e : TypeId) : SRow w e none 0 0 [] := ⟨rfl, (fun _ h => by cases h), .inl ⟨rfl, rfl, rfl⟩⟩
section
variable {w w' : World} {e : TypeId} {a : Option Addr} {n c : Nat} {vs : List Value}
theorem SRow.kp {S : Nat → Prop} (h : SRow w e a n c vs) (k : Kp S w w') (hn : ∀ i, Blk a i → ¬ S i) : SRow w' e a n c vs := by
  refine ⟨h.len, h.nb, ?_⟩
  rcases h.lies with h1 | ⟨g, cur, rfl, hg, rest⟩
  · exact .inl h1
  · exact .inr ⟨g, cur, rfl, k.heap hg (hn g ⟨_, rfl, rfl⟩), rest⟩
theorem SRow.non (h : SRow w e a n c vs) (k : Kp Non w w') : SRow w' e a n c vs := h.kp k fun _ _ f => f
theorem SRow.lt (h : SRow w e a n c vs) : ∀ i, Blk a i → i < w.heap.size := by
  rintro i ⟨ad, rfl, rfl⟩
  rcases h.lies with ⟨h1, _⟩ | ⟨g, cur, h1, hg, _⟩
  · cases h1
  · cases h1; exact heap_lt hg
theorem SRow.tag (h : SRow w e a n c vs) : ∀ i, Blk a i → ∃ cs fr, w.heap[i]? = some (.cells cs e fr) := by
  rintro i ⟨ad, rfl, rfl⟩
  rcases h.lies with ⟨h1, _⟩ | ⟨g, cur, h1, hg, _⟩
  · cases h1
  · cases h1; exact ⟨_, _, hg⟩
theorem SRow.noB (h : SRow w e a n c vs) : NoB (Blk a) w := by
  rintro ⟨k, o, sp⟩ b hc ⟨ad, rfl, hk⟩
  obtain rfl : sp = none := World.cell?_spot hc
  rcases h.lies with ⟨h1, _⟩ | ⟨g, cur, h1, hg, _, _, _, _, hb⟩
  · cases h1
  · cases h1
    have hk : g = k := hk
    subst hk
    rw [cell_of_row w g o _ _ _ hg] at hc
    exact hb (byteV b) (by have := List.mem_of_getElem? (l := cur.toList) (i := o) (by simpa using hc); exact this) b rfl
theorem SRow.cl (h : SRow w e a n c vs) {i : Nat} {v : Value} (hv : vs[i]? = some v) : ∃ g, a = some ⟨g, 0, none⟩ ∧ w.cell? ⟨g, i, none⟩ = some v := by
  have hi := (List.getElem?_eq_some_iff.1 hv).1
  rcases h.lies with ⟨_, h1, _⟩ | ⟨g, cur, rfl, hg, _, _, _, ht, _⟩
  · have := h.len; omega
  · refine ⟨g, rfl, ?_⟩
    rw [cell_of_row w g i _ _ _ hg]
    rw [← ht, List.getElem?_take] at hv
    split at hv
    · simpa using hv
    · cases hv
theorem SRow.cap (h : SRow w e a n c vs) : n ≤ c ∧ c ≤ 9223372036854775807 := by
  rcases h.lies with ⟨_, h1, h2⟩ | ⟨g, cur, rfl, hg, h1, h2, _⟩
  · omega
  · unfold maxLen at h2; omega
end

/-- What an append of one value leaves. -/
def SOut (w : World) (e : TypeId) (a : Option Addr) (n : Nat) (vs : List Value) (v' : Value) (w' : World) : Prop :=
  ∃ a' c', v' = .slice a' (n + 1) c' ∧ SRow w' e a' (n + 1) c' vs ∧ Kp (Blk a) w w' ∧ (a' = a ∨ a' = some ⟨w.heap.size, 0, none⟩)
section
variable {P : Program}
theorem run_append_srow (w : World) (t ty e : TypeId) (i : TypeInfo) (z : Value) (bts : Nat) (ht : P.underlying t = some (.slice e)) (hi : P.info? e = some i) (hz : i.zero = some z) (hsize : i.size = 1) (hby : i.bytes = bts) (hzc : z.cells = #[z]) (hznb : NB z)
    (a : Option Addr) (n c : Nat) (vs : List Value) (ho : SRow w e a n c vs) (ad : Addr) (c2 : Nat) (v : Value) (hv : w.cell? ad = some v) (h1 : v.oneCell' = true) (hnb : NB v) (hb : (n + 1) * bts ≤ 140737488355328) (hn : n ≤ 1000000000000) :
    ∃ v' w', (Builtin.append_ #[t, t] ty #[.slice a n c, .slice (some ad) 1 c2]).run P w = .ok v' w' ∧ SOut w e a n (vs ++ [v]) v' w' := by
  subst hby
  have hnews : ∀ j u, [v][j]? = some u → w.cell? (ad.add j) = some u := by
    intro j u hu
    match j with
    | 0 => simp only [List.getElem?_cons_zero, Option.some.injEq] at hu; subst hu; simpa [Addr.add] using hv
    | j + 1 => simp at hu
  have hnbs : ∀ x ∈ vs ++ [v], NB x := by
    intro x hx
    rcases List.mem_append.1 hx with hx | hx
    · exact ho.nb x hx
    · simp at hx; subst hx; exact hnb
  have hlen : (vs ++ [v]).length = n + 1 := by rw [List.length_append, ho.len]; rfl
  have grown : ∀ old : Nat, SRow (w.drew.alloc (.cells ((vs ++ [v]).toArray ++ Builtin.zeroCells z.cells (grownCap w (n + 1) old e - (n + 1))) e)) e (some ⟨w.heap.size, 0, none⟩) (n + 1) (grownCap w (n + 1) old e) (vs ++ [v]) := by
    intro old
    have hge := grownCap_ge w (n + 1) old e
    have hcm : grownCap w (n + 1) old e ≤ maxLen := grownCap_le_maxLen w (n + 1) old e (by unfold maxLen; omega)
    refine ⟨hlen, hnbs, .inr ⟨w.heap.size, _, rfl, heap_alloc_new w.drew _, hge, hcm, ?_, ?_, ?_⟩⟩
    · simp only [Array.size_append, List.size_toArray, size_zeroCells, hzc, hlen]
      simp
      omega
    · simp only [Array.toList_append]
      exact List.take_left' hlen
    · intro x hx
      simp only [Array.toList_append, List.mem_append] at hx
      rcases hx with hx | hx
      · exact hnbs x (List.mem_append.2 hx)
      · rw [hzc] at hx
        simp [Builtin.zeroCells] at hx
        obtain ⟨i, _, hx⟩ := hx
        rw [Nat.mod_one] at hx
        simp at hx
        subst hx
        exact hznb
  have hsrc : Src P i.size t (.slice (some ad) 1 c2) 1 [v] w := Src.ofSlice w ht ad 1 c2 _ (by simp [hsize]) hnews (by simp [h1])
  rcases ho.lies with ⟨rfl, rfl, rfl⟩ | ⟨g, cur, rfl, hg, hnc, hcm, hcs, htk, hcb⟩
  · have hvs : vs = [] := List.eq_nil_of_length_eq_zero ho.len
    subst hvs
    have hr := run_append_grow_src (P := P) w t t ty e i z ht hi hz none 0 0 [] (by rw [show i.size = 1 from hsize]; exact run_firstCells_none w.drew 1 0 0 0) (.slice (some ad) 1 c2) 1 [v] hsrc (by omega) (by omega) (growslice_fits (by omega) hb)
    exact ⟨_, _, hr, _, _, rfl, grown 0, ((Kp.refl _ w).drew).alloc _, .inr rfl⟩
  · by_cases hroom : n + 1 ≤ c
    · have hr := run_append_room (P := P) w t ty e i ht hi g n c cur hg ad 1 c2 [v] (by simp [hsize]) hnews (by simp [h1]) hroom (by simp [hsize, hcs]; omega)
      simp only [hsize, Nat.mul_one] at hr
      refine ⟨_, _, hr, _, _, rfl, ⟨hlen, hnbs, .inr ⟨g, _, rfl, setRow_heap w g cur _ e _ hg, hroom, hcm, ?_, ?_, ?_⟩⟩, ⟨rfl, rfl, rfl, by simp, fun k _ hk => setRow_other w g k _ (fun e => hk ⟨_, rfl, e.symm ▸ rfl⟩)⟩, .inl rfl⟩
      · simp
        omega
      · simp only
        rw [htk]
        exact List.take_left' hlen
      · intro x hx
        simp only [List.mem_append] at hx
        rcases hx with (hx | hx) | hx
        · exact hcb x (List.mem_of_mem_take hx)
        · simp at hx; subst hx; exact hnb
        · exact hcb x (List.mem_of_mem_drop hx)
    · have hold : (Builtin.firstCells i.size n (.slice (some ⟨g, 0, none⟩) n c)).run P w.drew = .ok vs.toArray w.drew :=
        run_firstCells_some w.drew i.size n ⟨g, 0, none⟩ n c vs (by simp [hsize, ho.len]) (fun j u hu => by
          obtain ⟨g', hg', hc⟩ := ho.cl hu
          cases hg'
          have e1 : (⟨g, 0, none⟩ : Addr).add j = ⟨g, j, none⟩ := by unfold Addr.add; split <;> simp_all
          rw [e1]
          exact hc)
      have hr := run_append_grow_src (P := P) w t t ty e i z ht hi hz (some ⟨g, 0, none⟩) n c vs hold (.slice (some ad) 1 c2) 1 [v] hsrc (by omega) (by omega) (growslice_fits (by omega) hb)
      exact ⟨_, _, hr, _, _, rfl, grown c, ((Kp.refl _ w).drew).alloc _, .inr rfl⟩

section
variable {w : World} {ops : Array Oper} {rest : List Oper} {o : Oper} {a : Act} {K : Act → World → Prop} {Q : Exit → Act → World → Prop}
theorem wp_append_srow (s x : Operand) (t : TypeId) (ho : o.op = .call { callee := .builtin .append, args := #[s, x], argTypes := #[t, t] })
    (e : TypeId) (i : TypeInfo) (z : Value) (bts : Nat) (ht : P.underlying t = some (.slice e)) (hi : P.info? e = some i) (hz : i.zero = some z) (hsize : i.size = 1) (hby : i.bytes = bts) (hzc : z.cells = #[z]) (hznb : NB z)
    (ax : Option Addr) (n c : Nat) (vs : List Value) (hs : a.eval s = .slice ax n c) (hown : SRow w e ax n c vs) (ad : Addr) (c2 : Nat) (v : Value) (hx : a.eval x = .slice (some ad) 1 c2) (hv : w.cell? ad = some v) (h1 : v.oneCell' = true) (hnb : NB v)
    (hb : (n + 1) * bts ≤ 140737488355328) (hn : n ≤ 1000000000000)
    (h : ∀ a' c' w', SRow w' e a' (n + 1) c' (vs ++ [v]) → Kp (Blk ax) w w' → (a' = ax ∨ a' = some ⟨w.heap.size, 0, none⟩) → K (a.put o.dst (.slice a' (n + 1) c')) w') : o.wp P a w K Q := by
  refine wp_append_of s x t ho _ _ hs hx (R := SOut w e ax n (vs ++ [v])) ?_ ?_
  · exact run_append_srow (P := P) w t o.type e i z bts ht hi hz hsize hby hzc hznb ax n c vs hown ad c2 v hv h1 hnb hb hn
  · rintro v' w' ⟨a', c', rfl, h1, h2, h3⟩
    exact h a' c' w' h1 h2 h3
theorem wpList_append_srow (hgd : o.guard = none) (s x : Operand) (t : TypeId) (ho : o.op = .call { callee := .builtin .append, args := #[s, x], argTypes := #[t, t] })
    (e : TypeId) (i : TypeInfo) (z : Value) (bts : Nat) (ht : P.underlying t = some (.slice e)) (hi : P.info? e = some i) (hz : i.zero = some z) (hsize : i.size = 1) (hby : i.bytes = bts) (hzc : z.cells = #[z]) (hznb : NB z)
    (ax : Option Addr) (n c : Nat) (vs : List Value) (hs : a.eval s = .slice ax n c) (hown : SRow w e ax n c vs) (ad : Addr) (c2 : Nat) (v : Value) (hx : a.eval x = .slice (some ad) 1 c2) (hv : w.cell? ad = some v) (h1 : v.oneCell' = true) (hnb : NB v)
    (hb : (n + 1) * bts ≤ 140737488355328) (hn : n ≤ 1000000000000)
    (h : ∀ a' c' w', SRow w' e a' (n + 1) c' (vs ++ [v]) → Kp (Blk ax) w w' → (a' = ax ∨ a' = some ⟨w.heap.size, 0, none⟩) → wpList P ops Q rest (a.put o.dst (.slice a' (n + 1) c')) w') : wpList P ops Q (o :: rest) a w :=
  wpList_plain hgd fun _ hK => wp_append_srow s x t ho e i z bts ht hi hz hsize hby hzc hznb ax n c vs hs hown ad c2 v hx hv h1 hnb hb hn fun a' c' w' h1 h2 h3 => hK _ _ (h a' c' w' h1 h2 h3)
end
end
theorem info22 : (Try.prog.info? 22).map (fun i => (i.zero, i.size, i.bytes)) = some (some (.slice none 0 0), 1, 24) := by kernel_rfl
theorem info_parts' {t : TypeId} {z : Value} {b : Nat} (h : (Try.prog.info? t).map (fun i => (i.zero, i.size, i.bytes)) = some (some z, 1, b)) : ∃ i, Try.prog.info? t = some i ∧ i.zero = some z ∧ i.size = 1 ∧ i.bytes = b := by
  cases hi : Try.prog.info? t with
  | none => rw [hi] at h; cases h
  | some i => rw [hi] at h; simp at h; exact ⟨i, rfl, h.1, h.2.1, h.2.2⟩
end Go.Proofs.Ytclbapmjhchokaa
