/-
  Laws on rows of the call's own for slices.Insert and slices.Delete: copying into them, shifting, growing by zeros.
-/
import Derived.Test.YtdijaillcajpaaaB6
import Derived.Test.YtdijaillcajpaaaRF
import Derived.Lib.AppendZerosOnto
import Derived.Lib.Overlaps
namespace Go.Proofs.Ytdijaillcajpaaa
open Go.RowKit

section
variable {P : Program} {w : World} {ops : Array Oper} {rest : List Oper} {o : Oper} {a : Act} {K : Act → World → Prop} {Q : Exit → Act → World → Prop}
/-- The operation copy, where its run is known. -/
theorem wp_copy_of (d s : Operand) (t t' : TypeId) (ho : o.op = .call { callee := .builtin .copy, args := #[d, s], argTypes := #[t, t'] }) (v u : Value) (hd : a.eval d = v) (hs : a.eval s = u) {v' : Value} {w' : World}
    (hr : (Builtin.copy_ #[t, t'] o.type #[v, u]).run P w = .ok v' w') (h : K (a.put o.dst v') w') : o.wp P a w K Q := by
  unfold Oper.wp execOp
  simp only [ho, resolve, invoke, builtin, Sem.run_bind, Sem.run_pure, Result.andThen_ok, List.map_toArray, List.map_cons, List.map_nil, hd, hs, hr]
  exact h
theorem wpList_copy_of (hgd : o.guard = none) (d s : Operand) (t t' : TypeId) (ho : o.op = .call { callee := .builtin .copy, args := #[d, s], argTypes := #[t, t'] }) (v u : Value) (hd : a.eval d = v) (hs : a.eval s = u) {v' : Value} {w' : World}
    (hr : (Builtin.copy_ #[t, t'] o.type #[v, u]).run P w = .ok v' w') (h : wpList P ops Q rest (a.put o.dst v') w') : wpList P ops Q (o :: rest) a w :=
  wpList_plain hgd fun _ hK => wp_copy_of d s t t' ho v u hd hs hr (hK _ _ h)
end

theorem add_lit (b o j : Nat) : (⟨b, o, none⟩ : Addr).add j = ⟨b, o + j, none⟩ := by unfold Addr.add; split <;> simp_all

section
variable {P : Program} {α : Type} {enc : α → List Value} {k : Nat}
/-- copy into cells that are there: all is read before anything is written. -/
theorem run_copy_row (hk : ∀ x, (enc x).length = k) (h1 : ∀ x, ∀ v ∈ enc x, v.oneCell' = true) (w : World) (dT sT ty e : TypeId) (ht : P.underlying dT = some (.slice e)) (hs : (P.info? e).map (·.size) = some k)
    (g o dLen dCap b o2 sLen sCap : Nat) (l : List α) (hm : l.length = Nat.min sLen dLen) (hsrc : ∀ j v, (l.flatMap enc)[j]? = some v → w.cell? ⟨b, o2 + j, none⟩ = some v)
    (hc : ∀ j, j < l.length * k → (w.cell? ⟨g, o + j, none⟩).isSome = true) (hf : ∀ j, w.frozen? ⟨g, j, none⟩ = false) :
    (Builtin.copy_ #[dT, sT] ty #[.slice (some ⟨g, o, none⟩) dLen dCap, .slice (some ⟨b, o2, none⟩) sLen sCap]).run P w = .ok (goInt l.length) (w.setCells g o (l.flatMap enc)) := by
  have hlen := flat_len enc k hk l
  have hl := run_loadCells_list (P := P) w ⟨b, o2, none⟩ (l.flatMap enc) (fun j v hj => by rw [add_lit]; exact hsrc j v hj)
  have hst := run_storeCells_cells (P := P) g o (l.flatMap enc) 0 w (fun j hj => by rw [Nat.add_zero]; exact hc j (by omega)) (fun j hj => hf _) (fun v hv => by
    obtain ⟨x, _, hx⟩ := List.mem_flatMap.1 hv
    exact h1 x v hx)
  rw [Nat.add_zero] at hst
  rw [hlen] at hl
  cases hq : P.info? e with
  | none => simp [hq] at hs
  | some i =>
    have hi : i.size = k := by simpa [hq] using hs
    simp [Builtin.copy_, run_underlying ht, Builtin.lenOf, Builtin.firstCells, sizeOf, typeInfo, hq, hi, ← hm, hl, hst]

variable {w : World} {base g : Nat} {e : TypeId} {n c : Nat} {l : List α}
/-- What stands from i on, laid one place further on. -/
theorem OwnR.shift (h : OwnR enc k w base e (some ⟨g, 0, none⟩) n c l) (hk : ∀ x, (enc x).length = k) (h0 : 0 < k) {i : Nat} (hi : i < n) (hroom : n + 1 ≤ c) :
    OwnR enc k (w.setCells g ((i + 1) * k) ((l.drop i).flatMap enc)) base e (some ⟨g, 0, none⟩) (n + 1) c (l.take (i + 1) ++ l.drop i) := by
  have hl := h.len hk h0
  have hln := flat_len enc k hk (l.drop i)
  rw [List.length_drop, ← hl] at hln
  have e1 : (i + 1) * k + (n - i) * k = (n + 1) * k := by rw [← Nat.add_mul]; congr 1; omega
  have e2 : (n + 1) * k ≤ c * k := Nat.mul_le_mul_right k hroom
  have e3 : (i + 1) * k ≤ n * k := Nat.mul_le_mul_right k (by omega)
  refine h.setCells _ _ (by omega) hroom (by rw [flat_len enc k hk]; simp only [List.length_append, List.length_take, List.length_drop]; congr 1; omega) fun cs hcs ht => ?_
  rw [List.flatMap_append]
  unfold lay
  have e4 : cs.take ((i + 1) * k) = (l.take (i + 1)).flatMap enc := by
    have e5 : l.flatMap enc = (l.take (i + 1)).flatMap enc ++ (l.drop (i + 1)).flatMap enc := by rw [← List.flatMap_append, List.take_append_drop]
    have := congrArg (List.take ((i + 1) * k)) ht
    rw [List.take_take, Nat.min_eq_left e3, e5, List.take_left' (flat_take_len enc k hk (by omega))] at this
    exact this
  rw [List.take_left' (by rw [List.length_append, List.length_take, hln]; omega), e4]
/-- A row of the call's own that is there to be written on. -/
theorem OwnR.isSome' (h : OwnR enc k w base e (some ⟨g, 0, none⟩) n c l) {o m : Nat} (hm : (o + m) ≤ c) : ∀ j, j < m * k → (w.cell? ⟨g, o * k + j, none⟩).isSome = true := by
  intro j hj
  refine h.isSome _ ?_
  have := Nat.mul_le_mul_right k hm
  rw [Nat.add_mul] at this
  omega
/-- What an append of zeros makes of a beginning of a row. -/
theorem OwnR.zeros (h : Reads enc k w (some ⟨g, 0, none⟩) n c l) (hk : ∀ x, (enc x).length = k) (t tn ty : TypeId) (i : TypeInfo) (z : Value) (zx : α) (hz2 : enc zx = z.cells.toList) (bts : Nat) (ht : P.underlying t = some (.slice e)) (htn : P.underlying tn = some (.int .i64)) (hi : P.info? e = some i) (hz : i.zero = some z) (hsize : i.size = k) (hby : i.bytes = bts) (h0 : 0 < k)
    (p m : Nat) (hp : p ≤ n) (hm : 0 < m) (hgrow : c < p + m) (hbd : (p + m) * bts ≤ 140737488355328) (hbig : p + m ≤ 140737488355328) :
    ∃ G w', (Builtin.append_ #[t, tn] ty #[.slice (some ⟨g, 0, none⟩) p c, .int .i64 m]).run P w = .ok (.slice (some ⟨w.heap.size, 0, none⟩) (p + m) G) w' ∧ OwnR enc k w' w.heap.size e (some ⟨w.heap.size, 0, none⟩) (p + m) G (l.take p ++ List.replicate m zx) ∧ Kp Non w w' := by
  have hl := h.len
  have hzs : z.cells.size = k := by have := congrArg List.length hz2; rw [hk] at this; simpa using this.symm
  have hold : (Builtin.firstCells i.size p (.slice (some ⟨g, 0, none⟩) p c)).run P w.drew = .ok ((l.take p).flatMap enc).toArray w.drew := by
    rw [hsize]
    exact run_firstCells_some w.drew k p ⟨g, 0, none⟩ p c _ (by rw [flat_take_len enc k hk (by omega)]) (fun j v hj => by
      rw [add_lit]
      exact ((h.take p (by omega)).flat hk h0 hj))
  have hr := Lib.run_append_grow_zeros w t tn ty e i z .i64 .i64 ht htn hi hz (some ⟨g, 0, none⟩) p c _ hold m hm (by omega) hgrow (by omega) (by
    rw [hby]
    have : m * bts ≤ (p + m) * bts := Nat.mul_le_mul_right _ (by omega)
    omega) (by rw [hby]; exact growslice_fits hgrow hbd)
  refine ⟨_, _, hr, ?_, ((Kp.refl _ w).drew).alloc _⟩
  have hge := grownCap_ge w (p + m) c e
  have hcm : grownCap w (p + m) c e ≤ maxLen := grownCap_le_maxLen w (p + m) c e (by unfold maxLen; omega)
  have hzz : ∀ q, (Builtin.zeroCells z.cells q).toList = (List.replicate q zx).flatMap enc := by
    intro q
    have hsz := size_zeroCells z.cells q
    apply List.ext_getElem?
    intro j
    by_cases hj : j < q * k
    · have hd : j / k < q := Nat.div_lt_of_lt_mul (by rw [Nat.mul_comm]; exact hj)
      have h2 := flat_at enc k hk (l := List.replicate q zx) (j := j / k) (x := zx) (by simp [hd]) (i := j % k) (Nat.mod_lt _ h0)
      have e1 : j / k * k + j % k = j := by rw [Nat.mul_comm, Nat.div_add_mod]
      rw [e1] at h2
      rw [h2, hz2]
      have hjk : j % z.cells.size < z.cells.size := Nat.mod_lt _ (by omega)
      have hj2 : j < q * z.cells.size := by rw [hzs]; exact hj
      have : (Builtin.zeroCells z.cells q)[j]? = some z.cells[j % z.cells.size] := by
        simp only [Builtin.zeroCells]
        simp [hj2]
        exact getElem!_pos z.cells (j % z.cells.size) hjk
      rw [Array.getElem?_toList, this, Array.getElem?_toList]
      simp only [← hzs]
      rw [Array.getElem?_eq_getElem hjk]
    · rw [List.getElem?_eq_none (by rw [Array.length_toList, hsz, hzs]; omega), List.getElem?_eq_none (by rw [flat_len enc k hk]; simp; omega)]
  have hl2 : ((l.take p ++ List.replicate m zx).flatMap enc).length = (p + m) * k := by
    rw [flat_len enc k hk]; simp only [List.length_append, List.length_take, List.length_replicate]; congr 1; omega
  refine OwnR.mk (Nat.le_refl _) (heap_alloc_new w.drew _) hge hcm ?_ ?_ hl2
  · simp only [Array.size_append, List.size_toArray, size_zeroCells, hzs, flat_take_len enc k hk (show p ≤ l.length by omega)]
    rw [← Nat.add_mul, ← Nat.add_mul]
    congr 1
    omega
  · simp only [Array.toList_append, hzz]
    rw [← List.flatMap_append, List.take_left' hl2]
end
end Go.Proofs.Ytdijaillcajpaaa
