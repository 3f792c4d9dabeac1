/-
  The histories: what is said, and what the program's map of rows holds.
-/
import Derived.Test.YtpehfnobgdjgcaaG15
import Derived.Test.YtpehfnobgdjgcaaG14
import Derived.Test.YtpehfnobgdjgcaaS1
namespace Go.Proofs.Ytpehfnobgdjgcaa
open Go.RowKit

def rowsOf (p : List LifeV) (id block : Int) : List (List PutV) := (p.filter fun y => decide (y.sh = id)).map fun y => putsL y block
def bestOf (rs : List (List PutV)) : List PutV := rs.foldl (fun b r => if b.length < r.length then r else b) []
def okRow (b r : List PutV) : Bool := (List.range r.length).all fun i => decide ((r[i]?).map PutV.ref = (b[i]?).map PutV.ref)
def okRows (rs : List (List PutV)) : Bool := rs.all (okRow (bestOf rs))
/-- All puts of a block, shard by shard; none: two lives don't agree. -/
def histL (p : List LifeV) (block : Int) : Option (List PutV) :=
  if (idsL p).all fun id => okRows (rowsOf p id block) then some ((idsL p).flatMap fun id => bestOf (rowsOf p id block)) else none

theorem rowsOf_snoc (p : List LifeV) (y : LifeV) (id block : Int) : rowsOf (p ++ [y]) id block = if y.sh = id then rowsOf p id block ++ [putsL y block] else rowsOf p id block := by
  unfold rowsOf
  by_cases h : y.sh = id <;> simp [List.filter_append, h]
theorem rowsOf_nil {p : List LifeV} {id : Int} (h : ∀ y ∈ p, y.sh ≠ id) (block : Int) : rowsOf p id block = [] := by
  unfold rowsOf
  rw [List.filter_eq_nil_iff.2 (fun y hy => by simpa using h y hy)]
  rfl
theorem bestOf_snoc (rs : List (List PutV)) (r : List PutV) : bestOf (rs ++ [r]) = if (bestOf rs).length < r.length then r else bestOf rs := by unfold bestOf; rw [List.foldl_append]; rfl
theorem bestOf_ge (rs : List (List PutV)) : ∀ r ∈ rs, r.length ≤ (bestOf rs).length := by
  induction rs using snocInd with
  | h0 => intro r hr; simp at hr
  | h1 rs x ih =>
    intro r hr
    rw [bestOf_snoc]
    rcases List.mem_append.1 hr with h | h
    · have := ih r h
      split <;> omega
    · simp at h
      subst h
      split <;> omega
theorem bestOf_mem (rs : List (List PutV)) : bestOf rs = [] ∨ bestOf rs ∈ rs := by
  induction rs using snocInd with
  | h0 => exact .inl rfl
  | h1 rs x ih =>
    rw [bestOf_snoc]
    split
    · exact .inr (by simp)
    · rcases ih with h | h
      · exact .inl h
      · exact .inr (List.mem_append.2 (.inl h))
theorem putsL_len (y : LifeV) (block : Int) : (putsL y block).length ≤ y.log.l.length := by unfold putsL; exact List.length_filterMap_le _ _
theorem rowsOf_len {p : List LifeV} {N : Nat} (h : ∀ y ∈ p, y.log.l.length ≤ N) (id block : Int) : ∀ r ∈ rowsOf p id block, r.length ≤ N := by
  intro r hr
  unfold rowsOf at hr
  obtain ⟨y, hy, rfl⟩ := List.mem_map.1 hr
  have := putsL_len y block
  have := h y (List.mem_filter.1 hy).1
  omega

/-! ### Strictly rising lists -/
theorem rising_ext : ∀ (a b : List Int), a.Pairwise (· < ·) → b.Pairwise (· < ·) → (∀ x, x ∈ a ↔ x ∈ b) → a = b
  | [], [], _, _, _ => rfl
  | [], y :: b, _, _, h => by have := (h y).2 (by simp); simp at this
  | x :: a, [], _, _, h => by have := (h x).1 (by simp); simp at this
  | x :: a, y :: b, ha, hb, h => by
    have hxy : x = y := by
      have h1 := (h x).1 (by simp)
      have h2 := (h y).2 (by simp)
      rcases List.mem_cons.1 h1 with e | e
      · exact e
      · rcases List.mem_cons.1 h2 with e2 | e2
        · exact e2.symm
        · have := (List.pairwise_cons.1 hb).1 x e
          have := (List.pairwise_cons.1 ha).1 y e2
          omega
    subst hxy
    rw [rising_ext a b (List.pairwise_cons.1 ha).2 (List.pairwise_cons.1 hb).2 fun z => ?_]
    have := h z
    simp only [List.mem_cons] at this
    constructor
    · intro hz
      rcases this.1 (.inr hz) with e | e
      · subst e; exact absurd ((List.pairwise_cons.1 ha).1 _ hz) (by omega)
      · exact e
    · intro hz
      rcases this.2 (.inr hz) with e | e
      · subst e; exact absurd ((List.pairwise_cons.1 hb).1 _ hz) (by omega)
      · exact e
theorem insU_spec (x : Int) (l : List Int) (h : l.Pairwise (· < ·)) : (insU x l).Pairwise (· < ·) ∧ ∀ z, z ∈ insU x l ↔ z = x ∨ z ∈ l := by
  induction l with
  | nil => simp [insU, idxU]
  | cons y l ih =>
    obtain ⟨h1, h2⟩ := List.pairwise_cons.1 h
    obtain ⟨i1, i2⟩ := ih h2
    by_cases hy : y < x
    · have e : insU x (y :: l) = y :: insU x l := by
        unfold insU
        have : idxU x (y :: l) = idxU x l + 1 := by simp [idxU, hy]
        rw [this]
        simp only [List.getElem?_cons_succ, List.take_succ_cons, List.drop_succ_cons]
        split <;> simp
      rw [e]
      refine ⟨List.pairwise_cons.2 ⟨fun z hz => ?_, i1⟩, fun z => ?_⟩
      · rcases (i2 z).1 hz with rfl | hz
        · exact hy
        · exact h1 z hz
      · simp only [List.mem_cons, i2]
        constructor
        · rintro (h | h | h)
          · exact .inr (.inl h)
          · exact .inl h
          · exact .inr (.inr h)
        · rintro (h | h | h)
          · exact .inr (.inl h)
          · exact .inl h
          · exact .inr (.inr h)
    · have h0 : idxU x (y :: l) = 0 := by simp [idxU, hy]
      by_cases hxy : y = x
      · have e : insU x (y :: l) = y :: l := by unfold insU; rw [h0]; simp [hxy]
        rw [e]
        exact ⟨h, fun z => by simp [hxy]⟩
      · have e : insU x (y :: l) = x :: y :: l := by unfold insU; rw [h0]; simp [hxy]
        rw [e]
        refine ⟨List.pairwise_cons.2 ⟨fun z hz => ?_, h⟩, fun z => by simp⟩
        rcases List.mem_cons.1 hz with rfl | hz
        · omega
        · have := h1 z hz; omega
theorem idsL_spec (p : List LifeV) : (idsL p).Pairwise (· < ·) ∧ ∀ z, z ∈ idsL p ↔ ∃ y ∈ p, y.sh = z := by
  induction p using snocInd with
  | h0 => simp [idsL]
  | h1 p y ih =>
    rw [idsL_snoc]
    obtain ⟨h1, h2⟩ := insU_spec y.sh (idsL p) ih.1
    refine ⟨h1, fun z => ?_⟩
    rw [h2, ih.2]
    simp only [List.mem_append, List.mem_singleton]
    constructor
    · rintro (rfl | ⟨u, hu, e⟩)
      · exact ⟨y, .inr rfl, rfl⟩
      · exact ⟨u, .inl hu, e⟩
    · rintro ⟨u, hu | hu, e⟩
      · exact .inr ⟨u, hu, e⟩
      · subst hu; exact .inl e.symm
theorem insS_sorted (x : Int) (S : List Int) (h : S.Pairwise (· ≤ ·)) : (insS ltI x S).Pairwise (· ≤ ·) := by
  have hc : ∀ j, j ≤ S.length → (∀ y ∈ S.drop j, x ≤ y) → (∀ y ∈ S.take (cutT ltI S x j), y ≤ x) ∧ ∀ y ∈ S.drop (cutT ltI S x j), x ≤ y := by
    intro j
    induction j with
    | zero => intro _ hd; exact ⟨by simp [cutT], by simpa [cutT] using hd⟩
    | succ j ih =>
      intro hj hd
      have hjl : j < S.length := by omega
      by_cases hl : ltI x S[j] = true
      · rw [cutT_on ltI hjl hl]
        refine ih (by omega) fun y hy => ?_
        rw [List.drop_eq_getElem_cons hjl] at hy
        rcases List.mem_cons.1 hy with rfl | hy
        · have := of_decide_eq_true hl; omega
        · exact hd y hy
      · have hl : ltI x S[j] = false := by simpa using hl
        rw [cutT_off ltI hjl hl]
        refine ⟨fun y hy => ?_, hd⟩
        obtain ⟨i, hi, rfl⟩ := List.getElem_of_mem hy
        rw [List.length_take] at hi
        rw [List.getElem_take]
        have h1 : S[i] ≤ S[j] := by
          rcases Nat.lt_or_ge i j with h' | h'
          · exact List.pairwise_iff_getElem.1 h i j (by omega) hjl h'
          · obtain rfl : i = j := by omega
            exact Int.le_refl _
        have := of_decide_eq_false hl
        omega
  obtain ⟨c1, c2⟩ := hc S.length (Nat.le_refl _) (by simp)
  unfold insS
  generalize cutT ltI S x S.length = j at *
  have hs : (S.take j ++ S.drop j).Pairwise (· ≤ ·) := by rwa [List.take_append_drop]
  obtain ⟨s1, s2, s3⟩ := List.pairwise_append.1 hs
  refine List.pairwise_append.2 ⟨s1, List.pairwise_cons.2 ⟨c2, s2⟩, fun a ha b hb => ?_⟩
  rcases List.mem_cons.1 hb with rfl | hb
  · exact c1 a ha
  · exact s3 a ha b hb
theorem sortS_sorted (l : List Int) : (sortS ltI l).Pairwise (· ≤ ·) := by
  induction l using snocInd with
  | h0 => exact List.Pairwise.nil
  | h1 l x ih => rw [sortS_snoc]; exact insS_sorted x _ ih
theorem sort_ids {I : List Int} {p : List LifeV} (hn : I.Nodup) (hm : ∀ z, z ∈ I ↔ ∃ y ∈ p, y.sh = z) : sortS ltI I = idsL p := by
  have hp := sortS_perm ltI I
  refine rising_ext _ _ ?_ (idsL_spec p).1 fun z => ?_
  · have h1 := sortS_sorted I
    have h2 : (sortS ltI I).Nodup := (hp.nodup_iff).2 hn
    exact (List.Pairwise.and h1 h2).imp fun ⟨h1, h2⟩ => by omega
  · rw [hp.mem_iff, hm, (idsL_spec p).2]
end Go.Proofs.Ytpehfnobgdjgcaa
