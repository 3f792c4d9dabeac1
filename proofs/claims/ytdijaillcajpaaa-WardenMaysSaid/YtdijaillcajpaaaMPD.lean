/-
  Maps that a call makes: delete.
-/
import Derived.Test.YtdijaillcajpaaaMP0
namespace Go.Proofs.Ytdijaillcajpaaa
open Go.RowKit

theorem map_erase {α β : Type} (f : α → β) : ∀ (l : List α) (i : Nat), (l.eraseIdx i).map f = (l.map f).eraseIdx i
  | [], _ => rfl
  | _ :: _, 0 => rfl
  | x :: l, i + 1 => by rw [List.eraseIdx_cons_succ, List.map_cons, map_erase f l i, List.map_cons, List.eraseIdx_cons_succ]
section
variable {K : Type} [DecidableEq K]
/-- A key taken away. -/
def mdel {V : Type} (L : List (K × V)) (x : K) : List (K × V) := match mat L x with
  | some i => L.eraseIdx i
  | none => L
theorem mdel_get {V : Type} {L : List (K × V)} (h : (L.map (·.1)).Nodup) (x y : K) : mget (mdel L x) y = if x = y then none else mget L y := by
  unfold mdel
  cases hm : mat L x with
  | none =>
    by_cases hy : x = y
    · subst hy; rw [if_pos rfl]; exact mat_none.1 hm
    · rw [if_neg hy]
  | some i =>
    show mget (L.eraseIdx i) y = _
    induction L generalizing i with
    | nil => cases hm
    | cons p L ih =>
      rw [mat_cons] at hm
      simp only [List.map_cons, List.nodup_cons] at h
      by_cases hp : p.1 = x
      · rw [if_pos hp] at hm
        cases hm
        rw [List.eraseIdx_zero, List.tail_cons, mget_cons]
        by_cases hy : x = y
        · rw [if_pos hy, ← mat_none, mat]
          rw [List.findIdx?_eq_none_iff]
          intro q hq
          rw [decide_eq_false_iff_not]
          intro e
          exact h.1 (by rw [hp, hy, ← e]; exact List.mem_map.2 ⟨q, hq, rfl⟩)
        · rw [if_neg hy, if_neg (fun e => hy (hp.symm.trans e))]
      · rw [if_neg hp] at hm
        cases hn : mat L x with
        | none => rw [hn] at hm; cases hm
        | some j =>
          rw [hn] at hm
          cases hm
          rw [List.eraseIdx_cons_succ, mget_cons, mget_cons, ih h.2 j hn]
          by_cases hy : x = y
          · subst hy; simp [hp]
          · simp [hy]
theorem mdel_sub {V : Type} (L : List (K × V)) (x : K) : (mdel L x).Sublist L := by
  unfold mdel
  split
  · exact List.eraseIdx_sublist _ _
  · exact List.Sublist.refl _
theorem mdel_keys {V : Type} {L : List (K × V)} (h : (L.map (·.1)).Nodup) (x : K) : ((mdel L x).map (·.1)).Nodup := h.sublist ((mdel_sub L x).map _)
theorem mput_keys {V : Type} {L : List (K × V)} (h : (L.map (·.1)).Nodup) (x : K) (v : V) : ((mput L x v).map (·.1)).Nodup := by
  cases hm : mat L x with
  | none =>
    rw [mput_none hm, List.map_append, List.nodup_append]
    refine ⟨h, by simp, ?_⟩
    intro a ha b hb
    simp at hb
    subst hb
    intro e
    subst e
    obtain ⟨p, hp, e⟩ := List.mem_map.1 ha
    have := List.findIdx?_eq_none_iff.1 hm p hp
    rw [decide_eq_false_iff_not] at this
    exact this e
  | some i =>
    rw [mput_some hm, List.map_set]
    obtain ⟨hi, h1, h2⟩ := mat_some hm
    have : (L.map (·.1)).set i x = L.map (·.1) := by
      apply List.ext_getElem?
      intro j
      rw [List.getElem?_set]
      by_cases hij : i = j
      · subst hij; simp [hi, h1]
      · simp [hij]
    rw [this]
    exact h
theorem mput_mem {V : Type} {L : List (K × V)} {x : K} {v : V} : ∀ p ∈ mput L x v, p = (x, v) ∨ p ∈ L := by
  induction L with
  | nil => intro p hp; simp [mput] at hp; exact .inl hp
  | cons q L ih =>
    intro p hp
    unfold mput at hp
    split at hp
    · rcases List.mem_cons.1 hp with h | h
      · exact .inl h
      · exact .inr (List.mem_cons_of_mem _ h)
    · rcases List.mem_cons.1 hp with h | h
      · exact .inr (by rw [h]; exact List.mem_cons_self)
      · rcases ih p h with h | h
        · exact .inl h
        · exact .inr (List.mem_cons_of_mem _ h)
theorem mget_mem {V : Type} {L : List (K × V)} {x : K} {v : V} (h : mget L x = some v) : (x, v) ∈ L := by
  induction L with
  | nil => cases h
  | cons q L ih =>
    rw [mget_cons] at h
    split at h
    · rename_i hq
      simp at h
      rw [show (x, v) = q from Prod.ext hq.symm h.symm]
      exact List.mem_cons_self
    · exact List.mem_cons_of_mem _ (ih h)
variable {P : Program} {kt et t : TypeId} {V : Type} {enc : K → Value} {encV : V → Value} {w : World} {b : Nat} {L : List (K × V)}
/-- A key is deleted. -/
theorem run_delete_is (KK : Keys P kt enc) (h : MapIs enc encV w b L) (ht : P.underlying t = some (.map kt et)) (ty : TypeId) (x : K) :
    ∃ w', (Builtin.delete_ #[t, kt] ty #[.map (some b), enc x]).run P w = .ok (.tuple #[]) w' ∧ MapIs enc encV w' b (mdel L x) ∧ Kp (One b) w w' := by
  have hat := h.at_
  obtain ⟨es, cl, h1, h2, h3⟩ := hat
  obtain ⟨es', cl', h1', _, hv⟩ := h
  rw [h1] at h1'
  simp only [Option.some.injEq, Obj.map.injEq] at h1'
  obtain ⟨rfl, rfl⟩ := h1'
  have hb := heap_lt h1
  have hkp : ∀ o, Kp (One b) w { w with heap := w.heap.setIfInBounds b o } := fun o => ⟨rfl, rfl, rfl, by simp, fun k _ hk => by
    have hk : k ≠ b := hk
    simp [Array.getElem?_setIfInBounds_ne (Ne.symm hk)]⟩
  have hf := KK.find es.toList L x w h2
  rw [h3 x, mat_get] at hf
  have hc := KK.check es.isEmpty x w
  cases hm : mat L x with
  | none =>
    rw [hm] at hf
    simp only [Option.bind_none] at hf
    have hs := fun o => MapKept.run_setObj_map (P := P) o h1
    refine ⟨_, by simp [Builtin.delete_, run_underlying ht, MapKept.run_getObj_map h1, hc, hf, hs, Result.andThen]; rfl, ⟨es, cl, by simp [hb], ?_, ?_⟩, hkp _⟩
    · unfold mdel; rw [hm]; exact h2
    · unfold mdel; rw [hm]; exact hv
  | some i =>
    obtain ⟨hi, h4, h5⟩ := mat_some hm
    have hei : i < es.toList.length := by
      have := congrArg List.length h2
      simp only [List.length_map] at this
      omega
    rw [hm] at hf
    simp [h5] at hf
    have hs := fun o => MapKept.run_setObj_map (P := P) o h1
    have hel : (es.eraseIdxIfInBounds i).toList = es.toList.eraseIdx i := by
      unfold Array.eraseIdxIfInBounds
      rw [dif_pos (by simpa using hei), Array.toList_eraseIdx]
    refine ⟨_, by simp [Builtin.delete_, run_underlying ht, MapKept.run_getObj_map h1, hc, hf, hs, Result.andThen]; rfl, ⟨es.eraseIdxIfInBounds i, cl, by simp [hb], ?_, ?_⟩, hkp _⟩
    · unfold mdel; rw [hm, hel]
      show _ = List.map _ (L.eraseIdx i)
      rw [map_erase, map_erase, h2]
    · unfold mdel; rw [hm, hel]
      show _ = List.map _ (L.eraseIdx i)
      rw [map_erase, map_erase, hv]
end
end Go.Proofs.Ytdijaillcajpaaa
