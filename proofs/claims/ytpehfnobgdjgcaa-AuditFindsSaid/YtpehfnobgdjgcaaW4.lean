/-
  What one client does alone: deeds left out, or not done.
-/
import Derived.Test.YtpehfnobgdjgcaaW3
import Derived.Test.YtpehfnobgdjgcaaW2
namespace Go.Proofs.Ytpehfnobgdjgcaa
open Go.RowKit

theorem Few.refl {n : Nat} {ds : List DeedV} (h : Al n ds) (b : Int) : Few ds ds b :=
  ⟨fun j e he => ⟨j, e, he, (h.deed j e he).cl, rfl, rfl, rfl, rfl, rfl, rfl, .inl rfl, fun _ => ⟨rfl, fun _ _ => rfl⟩⟩, fun i d hd _ => ⟨i, d, hd, rfl⟩, fun i j x y hx hy e => by
    have e1 := get_sq h hx
    have e2 := get_sq h hy
    omega⟩
def keepT (ds : List DeedV) (z : Nat) : Nat → List DeedV
  | 0 => []
  | k + 1 => match ds[k]? with
    | some d => if d.op ≠ 1 ∨ k ≠ z then keepT ds z k ++ [d] else keepT ds z k
    | none => keepT ds z k
theorem keepT_len (ds : List DeedV) (z : Nat) : ∀ k, (keepT ds z k).length ≤ k
  | 0 => Nat.le_refl _
  | k + 1 => by
    have ih := keepT_len ds z k
    unfold keepT
    split
    · split
      · simp; omega
      · omega
    · omega
theorem keepT_mem {ds : List DeedV} {z : Nat} : ∀ k, ∀ e ∈ keepT ds z k, ∃ i, i < k ∧ ds[i]? = some e
  | 0 => by simp [keepT]
  | k + 1 => by
    intro e he
    unfold keepT at he
    split at he
    · rename_i d hd
      split at he
      · rcases List.mem_append.1 he with h | h
        · obtain ⟨i, hi, h⟩ := keepT_mem k e h
          exact ⟨i, by omega, h⟩
        · obtain rfl := List.mem_singleton.1 h
          exact ⟨k, by omega, hd⟩
      · obtain ⟨i, hi, h⟩ := keepT_mem k e he
        exact ⟨i, by omega, h⟩
    · obtain ⟨i, hi, h⟩ := keepT_mem k e he
      exact ⟨i, by omega, h⟩
theorem mem_keepT {ds : List DeedV} {z i : Nat} {d : DeedV} (hd : ds[i]? = some d) (ho : d.op ≠ 1 ∨ i ≠ z) : ∀ k, i < k → d ∈ keepT ds z k
  | 0, h => absurd h (by omega)
  | k + 1, h => by
    unfold keepT
    by_cases e : i = k
    · subst e
      rw [hd]
      simp only
      rw [if_pos ho]
      simp
    · have ih := mem_keepT hd ho k (by omega)
      split
      · split
        · exact List.mem_append.2 (.inl ih)
        · exact ih
      · exact ih
theorem keepT_rise {n : Nat} {ds : List DeedV} (h : Al n ds) (z : Nat) : ∀ k, (keepT ds z k).Pairwise (·.sq < ·.sq)
  | 0 => List.Pairwise.nil
  | k + 1 => by
    have ih := keepT_rise h z k
    unfold keepT
    split
    · rename_i d hd
      split
      · refine List.pairwise_append.2 ⟨ih, List.pairwise_singleton _ _, fun x hx y hy => ?_⟩
        obtain rfl := List.mem_singleton.1 hy
        obtain ⟨i, hi, hx⟩ := keepT_mem k x hx
        have e1 := get_sq h hx
        have e2 := get_sq h hd
        omega
      · exact ih
    · exact ih
theorem Few.keep {n : Nat} {ds : List DeedV} (h : Al n ds) (z : Nat) (b : Int) : Few ds (keepT ds z ds.length) b := by
  refine ⟨fun j e he => ?_, fun i d hd ho => ?_, fun i j x y hx hy e => ?_⟩
  · obtain ⟨i, _, hi⟩ := keepT_mem ds.length e (List.mem_of_getElem? he)
    exact ⟨i, e, hi, (h.deed i e hi).cl, rfl, rfl, rfl, rfl, rfl, rfl, .inl rfl, fun _ => ⟨rfl, fun _ _ => rfl⟩⟩
  · obtain ⟨j, hj, e⟩ := List.getElem_of_mem (mem_keepT hd (.inl ho) (z := z) ds.length (List.getElem?_eq_some_iff.1 hd).1)
    exact ⟨j, d, by rw [List.getElem?_eq_getElem hj, e], rfl⟩
  · have hp := List.pairwise_iff_getElem.1 (keepT_rise h z ds.length)
    obtain ⟨hi, ex⟩ := List.getElem?_eq_some_iff.1 hx
    obtain ⟨hj, ey⟩ := List.getElem?_eq_some_iff.1 hy
    by_cases q : i < j
    · have := hp i j hi hj q
      rw [ex, ey] at this
      omega
    · by_cases q2 : j < i
      · have := hp j i hj hi q2
        rw [ex, ey] at this
        omega
      · omega
def undone (e : DeedV) : DeedV := ⟨e.cl, e.sq, e.op, e.fr, e.to, e.da, e.be, 0, e.re⟩
theorem Few.set {ds es : List DeedV} {b : Int} {z : Nat} {e : DeedV} (hf : Few ds es b) (he : es[z]? = some e) (ho : e.op ≠ 1) : Few ds (es.set z (undone e)) b := by
  have hz := (List.getElem?_eq_some_iff.1 he).1
  have key : ∀ (j : Nat) x, (es.set z (undone e))[j]? = some x → ∃ y, es[j]? = some y ∧ (x = y ∨ j = z ∧ y = e ∧ x = undone e) := fun j x hx => by
    rw [List.getElem?_set] at hx
    by_cases q : z = j
    · subst q
      rw [if_pos rfl, if_pos hz] at hx
      exact ⟨e, he, .inr ⟨rfl, rfl, (Option.some.inj hx).symm⟩⟩
    · rw [if_neg q] at hx
      exact ⟨x, hx, .inl rfl⟩
  have hsq : ∀ (j : Nat) x, (es.set z (undone e))[j]? = some x → ∃ y, es[j]? = some y ∧ x.sq = y.sq := fun j x hx => by
    obtain ⟨y, hy, q | ⟨_, q1, q2⟩⟩ := key j x hx
    · exact ⟨y, hy, by rw [q]⟩
    · exact ⟨y, hy, by rw [q1, q2]; rfl⟩
  refine ⟨fun j x hx => ?_, fun i d hd hop => ?_, fun i j x y hx hy q => ?_⟩
  · obtain ⟨y, hy, q⟩ := key j x hx
    obtain ⟨i, d, hd, c1, c2, c3, c4, c5, c6, c7, c8, c9⟩ := hf.of j y hy
    rcases q with rfl | ⟨_, rfl, rfl⟩
    · exact ⟨i, d, hd, c1, c2, c3, c4, c5, c6, c7, c8, c9⟩
    · exact ⟨i, d, hd, c1, c2, c3, c4, c5, c6, c7, .inr ⟨rfl, by rw [← c3]; exact ho⟩, c9⟩
  · obtain ⟨j, x, hx, hs⟩ := hf.all i d hd hop
    by_cases q : z = j
    · subst q
      rw [he] at hx
      cases hx
      exact ⟨z, undone e, by rw [List.getElem?_set, if_pos rfl, if_pos hz], hs⟩
    · exact ⟨j, x, by rw [List.getElem?_set, if_neg q]; exact hx, hs⟩
  · obtain ⟨x', hx', e1⟩ := hsq i x hx
    obtain ⟨y', hy', e2⟩ := hsq j y hy
    exact hf.uniq i j x' y' hx' hy' (by rw [← e1, ← e2]; exact q)
/-- The deed at z not done, of the first k. -/
def zeroT (es : List DeedV) (z k : Nat) : List DeedV := if z < k then (match es[z]? with | some e => if e.op ≠ 1 then es.set z (undone e) else es | none => es) else es
theorem zeroT_len (es : List DeedV) (z k : Nat) : (zeroT es z k).length = es.length := by
  unfold zeroT
  split
  · split
    · split
      · rw [List.length_set]
      · rfl
    · rfl
  · rfl
theorem zeroT_stay {es : List DeedV} {z k : Nat} {e : DeedV} (he : es[k]? = some e) (h : e.op = 1 ∨ k ≠ z) : zeroT es z (k + 1) = zeroT es z k := by
  unfold zeroT
  by_cases q : z = k
  · subst q
    rw [if_pos (by omega), if_neg (by omega), he]
    simp only
    rw [if_neg (by rcases h with h | h; exact fun c => c h; exact absurd rfl h)]
  · by_cases q2 : z < k
    · rw [if_pos (by omega), if_pos q2]
    · rw [if_neg (by omega), if_neg q2]
theorem zeroT_at {es : List DeedV} {z k : Nat} {e : DeedV} (he : es[k]? = some e) (h : e.op ≠ 1) (hk : k = z) : zeroT es z k = es ∧ zeroT es z (k + 1) = es.set k (undone e) := by
  subst hk
  unfold zeroT
  rw [if_neg (by omega), if_pos (by omega), he]
  simp only
  rw [if_pos h]
  simp
theorem zeroT_get {es : List DeedV} {z k : Nat} (hk : z < k → False) : zeroT es z k = es := by unfold zeroT; rw [if_neg hk]
/-- The deed at k isn't changed yet. -/
theorem zeroT_here {es : List DeedV} {z k : Nat} {e : DeedV} (he : es[k]? = some e) : (zeroT es z k)[k]? = some e := by
  unfold zeroT
  split
  · split
    · split
      · rw [List.getElem?_set, if_neg (by omega), he]
      · exact he
    · exact he
  · exact he
theorem Few.zero {ds es : List DeedV} {b : Int} (hf : Few ds es b) (z k : Nat) : Few ds (zeroT es z k) b := by
  unfold zeroT
  split
  · split
    · rename_i e he
      split
      · rename_i ho; exact hf.set he ho
      · exact hf
    · exact hf
  · exact hf
/-- Check says that all goes together. -/
theorem few_check {n : Nat} {ds es : List DeedV} {la : Option Addr} {ln lc : Nat} (h : Al n ds) (hn : n ≤ 12) (hf : ∀ b, Few ds es b) : checkB (n : Int) es [⟨0, 1, ⟨la, ln, lc, ds.map ranD⟩⟩] = (0, true) := by
  refine checkB_yes (few_bad h (by omega) (hf 0)) fun k hk => ?_
  rw [lin_one]
  show (placesB es (effL (putsD ds (k : Int))) k).isSome = true
  rw [eff_puts h]
  exact few_lin h (hf k) (by omega)
theorem flat_set {α : Type} {enc : α → List Value} {k : Nat} (hk : ∀ x, (enc x).length = k) {x y : α} {j : Nat} {v : Value} (hj : j < k) (he : (enc x).set j v = enc y) : ∀ (l : List α) (i : Nat), l[i]? = some x → (l.flatMap enc).set (i * k + j) v = (l.set i y).flatMap enc
  | [], i, h => by simp at h
  | z :: l, 0, h => by
    simp at h
    subst h
    rw [List.flatMap_cons, List.set_cons_zero, List.flatMap_cons, List.set_append_left _ _ (by rw [hk]; omega), Nat.zero_mul, Nat.zero_add, he]
  | z :: l, i + 1, h => by
    have ih := flat_set hk hj he l i (by simpa using h)
    rw [List.flatMap_cons, List.set_cons_succ, List.flatMap_cons, List.set_append_right _ _ (by rw [hk, Nat.add_mul]; omega), hk, show (i + 1) * k + j - k = i * k + j by rw [Nat.add_mul]; omega, ih]
end Go.Proofs.Ytpehfnobgdjgcaa
