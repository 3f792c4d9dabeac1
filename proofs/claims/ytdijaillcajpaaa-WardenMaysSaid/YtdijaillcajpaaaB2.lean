/-
  Cells of a row written in place: the row's block behind it; clear.
-/
import Derived.Test.YtdijaillcajpaaaB1
namespace Go.Proofs.Ytdijaillcajpaaa
open Go.RowKit

theorem Kp.fr {S : Nat → Prop} {w w' : World} (h : Kp S w w') {a : Addr} (hl : a.block < w.heap.size) (hf : w.frozen? a = false) (hn : ¬ S a.block) : w'.frozen? a = false :=
  (World.frozen?_of_block (h.block a.block hl hn)).trans hf

def lay (cs : List Value) (o : Nat) (vs : List Value) : List Value := cs.take o ++ vs ++ cs.drop (o + vs.length)
theorem lay_len {cs : List Value} {o : Nat} {vs : List Value} (h : o + vs.length ≤ cs.length) : (lay cs o vs).length = cs.length := by
  simp [lay]; omega
theorem lay_nil (cs : List Value) (o : Nat) : lay cs o [] = cs := by simp [lay]
theorem lay_step {cs : List Value} {o : Nat} {v : Value} {r : List Value} (h : o < cs.length) : lay (cs.set o v) (o + 1) r = lay cs o (v :: r) := by
  unfold lay
  rw [List.take_set, List.take_succ_eq_append_getElem h, List.set_append_right _ _ (by simp; omega), List.drop_set_of_lt (by omega)]
  simp
  have : o - min o cs.length = 0 := by omega
  rw [this]
  simp [Nat.add_assoc, Nat.add_comm 1]
theorem heap_setCells {g : Nat} {e : TypeId} : ∀ (vs : List Value) (o : Nat) (w : World) (cur : Array Value), w.heap[g]? = some (.cells cur e (0, 0)) → o + vs.length ≤ cur.size → (w.setCells g o vs).heap[g]? = some (.cells (lay cur.toList o vs).toArray e (0, 0))
  | [], o, w, cur, hg, _ => by rw [World.setCells, hg, lay_nil]
  | v :: r, o, w, cur, hg, h => by
    simp at h
    have h1 := heap_setCell_same w g o cur e v hg
    rw [World.setCells, heap_setCells r (o + 1) _ _ h1 (by simp; omega)]
    rw [show (cur.setIfInBounds o v).toList = cur.toList.set o v from by simp, lay_step (by simp; omega)]
theorem Kp.setCells {S : Nat → Prop} {a : World} {g : Nat} (hp : S g ∨ a.heap.size ≤ g) : ∀ (vs : List Value) (o : Nat) {w : World}, Kp S a w → Kp S a (w.setCells g o vs)
  | [], _, _, h => h
  | v :: r, o, _, h => Kp.setCells hp r (o + 1) (h.setCell (p := ⟨g, o, none⟩) hp v)

section
variable {α : Type} {enc : α → List Value} {k : Nat} {w : World} {base : Nat} {e : TypeId} {n c : Nat} {l : List α} {g : Nat}
theorem OwnR.cur (h : OwnR enc k w base e (some ⟨g, 0, none⟩) n c l) : ∃ cur, base ≤ g ∧ w.heap[g]? = some (.cells cur e (0, 0)) ∧ n ≤ c ∧ c ≤ maxLen ∧ cur.size = c * k ∧ cur.toList.take (n * k) = l.flatMap enc ∧ (l.flatMap enc).length = n * k := by
  rcases h.lie with ⟨h1, _⟩ | ⟨g', cur, h1, h2⟩
  · cases h1
  · cases h1; exact ⟨cur, h2⟩
theorem OwnR.drewR {a : Option Addr} (h : OwnR enc k w base e a n c l) : OwnR enc k w.drew base e a n c l := h.non ((Kp.refl _ _).drew)
/-- Cells of such a row are written. -/
theorem OwnR.setCells (h : OwnR enc k w base e (some ⟨g, 0, none⟩) n c l) (o : Nat) (vs : List Value) (hfit : o + vs.length ≤ c * k) {n' : Nat} {l' : List α} (hn' : n' ≤ c) (hl' : (l'.flatMap enc).length = n' * k)
    (hc : ∀ cs : List Value, cs.length = c * k → cs.take (n * k) = l.flatMap enc → (lay cs o vs).take (n' * k) = l'.flatMap enc) : OwnR enc k (w.setCells g o vs) base e (some ⟨g, 0, none⟩) n' c l' := by
  obtain ⟨cur, hb, hg, hnc, hm, hs, ht, hl⟩ := h.cur
  refine OwnR.mk hb (heap_setCells vs o w cur hg (by omega)) hn' hm ?_ ?_ hl'
  · have := lay_len (cs := cur.toList) (o := o) (vs := vs) (by simp; omega)
    simp only [List.size_toArray, this]
    simpa using hs
  · exact hc cur.toList (by simpa using hs) ht
theorem OwnR.isSome (h : OwnR enc k w base e (some ⟨g, 0, none⟩) n c l) (j : Nat) (hj : j < c * k) : (w.cell? ⟨g, j, none⟩).isSome = true := by
  obtain ⟨cur, hb, hg, hnc, hm, hs, ht, hl⟩ := h.cur
  rw [cell_of_row w g j _ _ _ hg]
  simp
  omega
theorem OwnR.shape (h : OwnR enc k w base e (some ⟨g, 0, none⟩) n c l) : w.shape? g = some (e, c * k) := by
  obtain ⟨cur, hb, hg, hnc, hm, hs, ht, hl⟩ := h.cur
  simp [World.shape?, hg, hs]
theorem flat_take_len (enc : α → List Value) (k : Nat) (hk : ∀ x, (enc x).length = k) {l : List α} {i : Nat} (hi : i ≤ l.length) : ((l.take i).flatMap enc).length = i * k := by
  rw [flat_len enc k hk, List.length_take, Nat.min_eq_left hi]
theorem flat_set (enc : α → List Value) (l : List α) (i : Nat) (x : α) (k : Nat) (hk : ∀ x, (enc x).length = k) (hi : i < l.length) : (l.set i x).flatMap enc = lay (l.flatMap enc) (i * k) (enc x) := by
  have e1 : l.set i x = l.take i ++ [x] ++ l.drop (i + 1) := by
    rw [List.set_eq_take_append_cons_drop, if_pos hi]; simp
  have e2 : l = l.take i ++ [l[i]] ++ l.drop (i + 1) := by
    rw [← List.take_succ_eq_append_getElem hi, List.take_append_drop]
  rw [e1]
  conv => rhs; rw [e2]
  simp only [List.flatMap_append, List.flatMap_cons, List.flatMap_nil, List.append_nil]
  unfold lay
  have hlen : ((l.take i).flatMap enc).length = i * k := flat_take_len enc k hk (by omega)
  rw [List.drop_left' (by rw [List.length_append, hlen, hk, hk]), List.append_assoc, List.append_assoc, List.append_assoc, List.take_left' hlen]
theorem take_lay {cs : List Value} {o m : Nat} {vs : List Value} (h : o + vs.length ≤ m) (hm : m ≤ cs.length) : (lay cs o vs).take m = lay (cs.take m) o vs := by
  have hA : (cs.take o ++ vs).length = o + vs.length := by rw [List.length_append, List.length_take]; omega
  unfold lay
  rw [List.take_append, List.take_of_length_le (by omega), List.take_take, Nat.min_eq_left (by omega), hA, List.drop_take, ]
/-- An element of such a row is written. -/
theorem OwnR.setElem (h : OwnR enc k w base e (some ⟨g, 0, none⟩) n c l) (hk : ∀ x, (enc x).length = k) (h0 : 0 < k) {i : Nat} (hi : i < l.length) (x : α) : OwnR enc k (w.setCells g (i * k) (enc x)) base e (some ⟨g, 0, none⟩) n c (l.set i x) := by
  have hl := h.len hk h0
  have hR := h.reads hk h0
  have hnc := hR.cap
  have h3 : i * k + k ≤ n * k := by
    have := Nat.mul_le_mul_right k (show i + 1 ≤ n by omega); rwa [Nat.add_mul, Nat.one_mul] at this
  have h4 : n * k ≤ c * k := Nat.mul_le_mul_right k hnc
  refine h.setCells _ _ (by rw [hk]; omega) hnc (by rw [flat_len enc k hk]; simp [hl]) fun cs hcs ht => ?_
  rw [take_lay (by rw [hk]; omega) (by omega), ht, flat_set enc l i x k hk hi]
/-- Only a beginning of such a row is meant. -/
theorem OwnR.take (h : OwnR enc k w base e (some ⟨g, 0, none⟩) n c l) (hk : ∀ x, (enc x).length = k) (h0 : 0 < k) {i : Nat} (hi : i ≤ l.length) : OwnR enc k w base e (some ⟨g, 0, none⟩) i c (l.take i) := by
  obtain ⟨cur, hb, hg, hnc, hm, hs, ht, hl⟩ := h.cur
  have hl' := h.len hk h0
  have e1 : ((l.take i).flatMap enc).length = i * k := flat_take_len enc k hk hi
  refine OwnR.mk hb hg (by omega) hm hs ?_ e1
  have e2 : l.flatMap enc = (l.take i).flatMap enc ++ (l.drop i).flatMap enc := by rw [← List.flatMap_append, List.take_append_drop]
  have h5 : i * k ≤ n * k := Nat.mul_le_mul_right k (by omega)
  have := congrArg (List.take (i * k)) ht
  rw [List.take_take, Nat.min_eq_left h5, e2, List.take_left' e1] at this
  exact this
end

/-- clear of what lies from i on in a row of the call's own. -/
theorem run_clear_row {P : Program} {α : Type} {enc : α → List Value} {k : Nat} (hk : ∀ x, (enc x).length = k) (h0 : 0 < k) (w : World) (t ty e : TypeId) (z : Value) (ht : P.underlying t = some (.slice e)) (hv : ∀ w, (zeroValue e).run P w = .ok z w) (hz : z.cells.size = k) (h1 : ∀ u ∈ z.cells, u.oneCell' = true)
    {base g n c : Nat} {l : List α} (h : OwnR enc k w base e (some ⟨g, 0, none⟩) n c l) (i m cc : Nat) (hi : i + m = n) : ∃ w', (Builtin.clear_ #[t] ty #[.slice (some ⟨g, i * k, none⟩) m cc]).run P w = .ok (.tuple #[]) w' ∧ OwnR enc k w' base e (some ⟨g, 0, none⟩) i c (l.take i) ∧ Kp (One g) w w' := by
  have hl := h.len hk h0
  have hT := h.take hk h0 (i := i) (by omega)
  have hnc := (h.reads hk h0).cap
  by_cases hm : m = 0
  · subst hm
    refine ⟨w, ?_, hT, Kp.refl _ _⟩
    simp [Builtin.clear_, run_underlying ht]
  · obtain ⟨m, rfl⟩ : ∃ m', m = m' + 1 := ⟨m - 1, by omega⟩
    have hsz : (Builtin.zeroCells z.cells (m + 1)).size = (m + 1) * k := by rw [size_zeroCells, hz, Nat.mul_comm]
    have hlen : (Builtin.zeroCells z.cells (m + 1)).toList.length = (m + 1) * k := by simpa using hsz
    have h4 : i * k + (m + 1) * k = n * k := by rw [← Nat.add_mul, hi]
    have h5 : n * k ≤ c * k := Nat.mul_le_mul_right k hnc
    have hst := run_storeCells_cells (P := P) g (i * k) (Builtin.zeroCells z.cells (m + 1)).toList 0 w (fun j hj => h.isSome _ (by rw [hlen] at hj; omega)) (fun j hj => h.fz rfl _) (fun v hv => by
      simp [Builtin.zeroCells] at hv
      obtain ⟨j, hj, rfl⟩ := hv
      have hjk : j % z.cells.size < z.cells.size := Nat.mod_lt _ (by omega)
      rw [getElem!_pos z.cells (j % z.cells.size) hjk]
      exact h1 _ (Array.getElem_mem _))
    simp only [Nat.add_zero] at hst
    refine ⟨_, ?_, hT.setCells (i * k) _ (by rw [hlen]; omega) (n' := i) (by omega) (flat_take_len enc k hk (by omega)) (fun cs hcs htk => ?_), Kp.setCells (S := One g) (.inl rfl) _ _ (Kp.refl _ _)⟩
    · simp [Builtin.clear_, run_underlying ht, hv, hst]
    · unfold lay
      rw [List.append_assoc, List.take_left' (by rw [List.length_take, hcs]; omega)]
      exact htk
end Go.Proofs.Ytdijaillcajpaaa
