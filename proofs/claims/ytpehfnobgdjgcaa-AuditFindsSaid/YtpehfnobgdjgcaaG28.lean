/-
  The places of the reads: the document's.
-/
import Derived.Test.YtpehfnobgdjgcaaG27
namespace Go.Proofs.Ytpehfnobgdjgcaa
open Go.RowKit

/-- One deed that is done, of any blocks. -/
def rStep (ds : List DeedV) (l : List PutV) (block : Int) (st : List Int) (i : Int) : Option (List Int) := if inB (ds.getD i.toNat default) block then plStep ds l block st i else some st
def rplT (ds : List DeedV) (l : List PutV) (block : Int) (idx : List Int) : Nat → Option (List Int)
  | 0 => some (List.replicate ds.length 0)
  | k + 1 => match rplT ds l block idx k, idx[k]? with
    | some st, some i => rStep ds l block st i
    | r, _ => r
theorem rplT_out {ds : List DeedV} {l : List PutV} {block : Int} {idx : List Int} {k n : Nat} (h : rplT ds l block idx k = none) (hk : k ≤ n) : rplT ds l block idx n = none := by
  have : ∀ m, rplT ds l block idx (k + m) = none := fun m => by
    induction m with
    | zero => exact h
    | succ m ih =>
      show rplT ds l block idx (k + m + 1) = none
      unfold rplT
      rw [ih]
  have := this (n - k)
  rwa [show k + (n - k) = n by omega] at this
theorem rplT_step {ds : List DeedV} {l : List PutV} {block : Int} {idx : List Int} {k : Nat} {st : List Int} {i : Int} (h : rplT ds l block idx k = some st) (hi : idx[k]? = some i) : rplT ds l block idx (k + 1) = rStep ds l block st i := by
  show (match rplT ds l block idx k, idx[k]? with
    | some st, some i => rStep ds l block st i
    | r, _ => r) = _
  rw [h, hi]
def rplacesB (ds : List DeedV) (l : List PutV) (block : Int) : Option (List Int) := if askedAllB ds l block then rplT ds l block (endedL ds) (endedL ds).length else none

/-! ### Stable insertion and a choice of the elements -/
theorem cutT_char {ds : List DeedV} {S : List Int} {x : Int} (hs : S.Pairwise fun a b => enOf ds a ≤ enOf ds b) : ∀ j, j ≤ S.length → (∀ y ∈ S.drop j, enOf ds x < enOf ds y) → (∀ y ∈ S.take (cutT (ltE ds) S x j), enOf ds y ≤ enOf ds x) ∧ ∀ y ∈ S.drop (cutT (ltE ds) S x j), enOf ds x < enOf ds y := by
  intro j
  induction j with
  | zero => intro _ hd; exact ⟨by simp [cutT], by simpa [cutT] using hd⟩
  | succ j ih =>
    intro hj hd
    have hjl : j < S.length := by omega
    by_cases hl : ltE ds x S[j] = true
    · rw [cutT_on (ltE ds) hjl hl]
      refine ih (by omega) fun y hy => ?_
      rw [List.drop_eq_getElem_cons hjl] at hy
      rcases List.mem_cons.1 hy with rfl | hy
      · exact of_decide_eq_true hl
      · exact hd y hy
    · have hl : ltE ds x S[j] = false := by simpa using hl
      rw [cutT_off (ltE ds) hjl hl]
      refine ⟨fun y hy => ?_, hd⟩
      obtain ⟨i, hi, rfl⟩ := List.getElem_of_mem hy
      rw [List.length_take] at hi
      rw [List.getElem_take]
      have h1 : enOf ds S[i] ≤ enOf ds S[j] := by
        rcases Nat.lt_or_ge i j with h' | h'
        · exact List.pairwise_iff_getElem.1 hs i j (by omega) hjl h'
        · obtain rfl : i = j := by omega
          exact Int.le_refl _
      have := of_decide_eq_false hl
      omega
/-- In terms of filters. -/
theorem insE_filter {ds : List DeedV} {S : List Int} {x : Int} (hs : S.Pairwise fun a b => enOf ds a ≤ enOf ds b) : insS (ltE ds) x S = S.filter (fun y => decide (enOf ds y ≤ enOf ds x)) ++ x :: S.filter (fun y => decide (enOf ds x < enOf ds y)) := by
  obtain ⟨c1, c2⟩ := cutT_char (x := x) hs S.length (Nat.le_refl _) (by simp)
  unfold insS
  generalize cutT (ltE ds) S x S.length = j at *
  have e1 : S.filter (fun y => decide (enOf ds y ≤ enOf ds x)) = S.take j := by
    conv => lhs; rw [← List.take_append_drop j S]
    rw [List.filter_append, List.filter_eq_self.2 (fun y hy => by simpa using c1 y hy), List.filter_eq_nil_iff.2 (fun y hy => by have := c2 y hy; simp; omega), List.append_nil]
  have e2 : S.filter (fun y => decide (enOf ds x < enOf ds y)) = S.drop j := by
    conv => lhs; rw [← List.take_append_drop j S]
    rw [List.filter_append, List.filter_eq_nil_iff.2 (fun y hy => by have := c1 y hy; simp; omega), List.filter_eq_self.2 (fun y hy => by simpa using c2 y hy), List.nil_append]
  rw [e1, e2]
theorem insE_sorted {ds : List DeedV} {S : List Int} {x : Int} (hs : S.Pairwise fun a b => enOf ds a ≤ enOf ds b) : (insS (ltE ds) x S).Pairwise fun a b => enOf ds a ≤ enOf ds b := by
  rw [insE_filter hs]
  refine List.pairwise_append.2 ⟨hs.filter _, List.pairwise_cons.2 ⟨fun y hy => ?_, hs.filter _⟩, fun a ha b hb => ?_⟩
  · have := of_decide_eq_true (List.mem_filter.1 hy).2
    omega
  · have h1 := of_decide_eq_true (List.mem_filter.1 ha).2
    rcases List.mem_cons.1 hb with rfl | hb
    · exact h1
    · have h2 := of_decide_eq_true (List.mem_filter.1 hb).2
      omega
theorem sortE_sorted (ds : List DeedV) (l : List Int) : (sortS (ltE ds) l).Pairwise fun a b => enOf ds a ≤ enOf ds b := by
  induction l using snocInd with
  | h0 => exact List.Pairwise.nil
  | h1 l x ih => rw [sortS_snoc]; exact insE_sorted ih
theorem sortE_filter (ds : List DeedV) (p : Int → Bool) (l : List Int) : (sortS (ltE ds) l).filter p = sortS (ltE ds) (l.filter p) := by
  induction l using snocInd with
  | h0 => rfl
  | h1 l x ih =>
    have hs := sortE_sorted ds l
    rw [sortS_snoc, List.filter_append, insE_filter hs, List.filter_append, List.filter_cons, List.filter_filter, List.filter_filter]
    have hs2 := sortE_sorted ds (l.filter p)
    by_cases hx : p x = true
    · simp only [hx, if_true, List.filter_cons, List.filter_nil]
      rw [sortS_snoc, insE_filter hs2, ← ih, List.filter_filter, List.filter_filter]
      congr 1
      · congr 1; funext y; exact Bool.and_comm _ _
      · congr 2; funext y; exact Bool.and_comm _ _
    · have hx : p x = false := by simpa using hx
      simp only [hx, Bool.false_eq_true, if_false, List.filter_cons, List.filter_nil, List.append_nil]
      rw [← ih]
      have e : ∀ S : List Int, (S.Pairwise fun a b => enOf ds a ≤ enOf ds b) → S.filter (fun y => decide (enOf ds y ≤ enOf ds x)) ++ S.filter (fun y => decide (enOf ds x < enOf ds y)) = S := fun S hS => by
        obtain ⟨c1, c2⟩ := cutT_char (x := x) hS S.length (Nat.le_refl _) (by simp)
        generalize cutT (ltE ds) S x S.length = j at *
        have e1 : S.filter (fun y => decide (enOf ds y ≤ enOf ds x)) = S.take j := by
          conv => lhs; rw [← List.take_append_drop j S]
          rw [List.filter_append, List.filter_eq_self.2 (fun y hy => by simpa using c1 y hy), List.filter_eq_nil_iff.2 (fun y hy => by have := c2 y hy; simp; omega), List.append_nil]
        have e2 : S.filter (fun y => decide (enOf ds x < enOf ds y)) = S.drop j := by
          conv => lhs; rw [← List.take_append_drop j S]
          rw [List.filter_append, List.filter_eq_nil_iff.2 (fun y hy => by have := c1 y hy; simp; omega), List.filter_eq_self.2 (fun y hy => by simpa using c2 y hy), List.nil_append]
        rw [e1, e2, List.take_append_drop]
      have := e ((sortS (ltE ds) l).filter p) (hs.filter p)
      conv => rhs; rw [← this]
      rw [List.filter_filter, List.filter_filter]
      congr 1
      · congr 1; funext y; exact Bool.and_comm _ _
      · congr 1; funext y; exact Bool.and_comm _ _
theorem doneP_filter (ds : List DeedV) (block : Int) : ∀ k, k ≤ ds.length → doneP ds block k = (doneT ds k).filter fun i => inB (ds.getD i.toNat default) block
  | 0, _ => rfl
  | k + 1, hk => by
    have ih := doneP_filter ds block k (by omega)
    have hlt : k < ds.length := by omega
    have hen : enOf ds k = ds[k].en := enOf_at hlt
    have hg : ds.getD (k : Int).toNat default = ds[k] := by simp [List.getD, List.getElem?_eq_getElem hlt]
    have e2 : doneT ds (k + 1) = if 0 < ds[k].en then doneT ds k ++ [(k : Int)] else doneT ds k := by rw [doneT, hen]
    rw [e2, doneP, List.getElem?_eq_getElem hlt]
    simp only
    by_cases h0 : 0 < ds[k].en
    · simp only [h0, if_true, decide_true, Bool.true_and]
      rw [List.filter_append, ih]
      by_cases hb : inB ds[k] block = true
      · simp only [hb, if_true, List.filter_cons, hg, List.filter_nil]
      · have hb : inB ds[k] block = false := by simpa using hb
        simp only [hb, Bool.false_eq_true, if_false, List.filter_cons, hg, List.filter_nil, List.append_nil]
    · simp only [h0, if_false, decide_false, Bool.false_and, Bool.false_eq_true]
      exact ih
/-- Runs over a list. -/
def plF (ds : List DeedV) (l : List PutV) (block : Int) (step : List Int → Int → Option (List Int)) : List Int → Option (List Int) → Option (List Int)
  | [], r => r
  | _ :: _, none => none
  | i :: idx, some st => plF ds l block step idx (step st i)
theorem plF_none (ds : List DeedV) (l : List PutV) (block : Int) (step : List Int → Int → Option (List Int)) (idx : List Int) : plF ds l block step idx none = none := by cases idx <;> rfl
theorem plF_snoc (ds : List DeedV) (l : List PutV) (block : Int) (step : List Int → Int → Option (List Int)) (i : Int) : ∀ (idx : List Int) r, plF ds l block step (idx ++ [i]) r = match plF ds l block step idx r with | some st => step st i | none => none
  | [], none => rfl
  | [], some st => rfl
  | j :: idx, none => by simp [plF]
  | j :: idx, some st => by simp only [List.cons_append, plF]; exact plF_snoc ds l block step i idx _
theorem plT_F (ds : List DeedV) (l : List PutV) (block : Int) (idx : List Int) : ∀ k, k ≤ idx.length → plT ds l block idx k = plF ds l block (plStep ds l block) (idx.take k) (some (List.replicate ds.length 0))
  | 0, _ => by simp [plT, plF]
  | k + 1, h => by
    have ih := plT_F ds l block idx k (by omega)
    rw [List.take_succ_eq_append_getElem (by omega), plF_snoc, ← ih]
    show (match plT ds l block idx k, idx[k]? with
      | some st, some i => plStep ds l block st i
      | r, _ => r) = _
    rw [List.getElem?_eq_getElem (show k < idx.length by omega)]
    cases plT ds l block idx k <;> rfl
theorem rplT_F (ds : List DeedV) (l : List PutV) (block : Int) (idx : List Int) : ∀ k, k ≤ idx.length → rplT ds l block idx k = plF ds l block (rStep ds l block) (idx.take k) (some (List.replicate ds.length 0))
  | 0, _ => by simp [rplT, plF]
  | k + 1, h => by
    have ih := rplT_F ds l block idx k (by omega)
    rw [List.take_succ_eq_append_getElem (by omega), plF_snoc, ← ih]
    show (match rplT ds l block idx k, idx[k]? with
      | some st, some i => rStep ds l block st i
      | r, _ => r) = _
    rw [List.getElem?_eq_getElem (show k < idx.length by omega)]
    cases rplT ds l block idx k <;> rfl
theorem plF_filter (ds : List DeedV) (l : List PutV) (block : Int) : ∀ (idx : List Int) r, plF ds l block (rStep ds l block) idx r = plF ds l block (plStep ds l block) (idx.filter fun i => inB (ds.getD i.toNat default) block) r
  | [], _ => rfl
  | i :: idx, none => by rw [plF_none, plF_none]
  | i :: idx, some st => by
    rw [List.filter_cons]
    show plF ds l block (rStep ds l block) idx (rStep ds l block st i) = _
    rw [plF_filter ds l block idx]
    unfold rStep
    by_cases hb : inB (ds.getD i.toNat default) block = true
    · simp only [hb, if_true]; rfl
    · have hb : inB (ds.getD i.toNat default) block = false := by simpa using hb
      simp only [hb, Bool.false_eq_true, if_false]
/-- Both say the same. -/
theorem rplaces_eq (ds : List DeedV) (l : List PutV) (block : Int) : rplacesB ds l block = placesB ds l block := by
  unfold rplacesB placesB
  have hlen : (doneP ds block ds.length).length = (sortS (ltE ds) (doneP ds block ds.length)).length := (sortS_len _ _).symm
  rw [rplT_F ds l block _ _ (Nat.le_refl _), hlen, plT_F ds l block _ _ (Nat.le_refl _), List.take_of_length_le (Nat.le_refl _), List.take_of_length_le (Nat.le_refl _), plF_filter]
  have : (endedL ds).filter (fun i => inB (ds.getD i.toNat default) block) = sortS (ltE ds) (doneP ds block ds.length) := by
    unfold endedL
    rw [sortE_filter, doneP_filter ds block _ (Nat.le_refl _)]
  rw [this]
end Go.Proofs.Ytpehfnobgdjgcaa
