/-
  What Check says, told by what the deeds and puts are like.
-/
import Derived.Test.YtpehfnobgdjgcaaH0
namespace Go.Proofs.Ytpehfnobgdjgcaa

theorem hist_one (y : LifeV) (k : Int) : histL [y] k = some (putsL y k) := by
  have h1 : idsL [y] = [y.sh] := by simp [idsL, insU, idxU]
  have h2 : rowsOf [y] y.sh k = [putsL y k] := by simp [rowsOf]
  have h3 : bestOf [putsL y k] = putsL y k := by
    simp only [bestOf, List.foldl_cons, List.foldl_nil, List.length_nil]
    split
    · rfl
    · rename_i h
      exact (List.length_eq_zero_iff.1 (by omega)).symm
  unfold histL
  rw [h1]
  simp only [List.all_cons, List.all_nil, Bool.and_true, h2, okRows, h3, List.flatMap_cons, List.flatMap_nil, List.append_nil]
  rw [if_pos]
  unfold okRow
  rw [List.all_eq_true]
  intro i _
  simp
theorem eff_all {l : List PutV} (h1 : ∀ p ∈ l, 1 ≤ p.sq) (h2 : ∀ (i j : Nat) q p, i < j → l[i]? = some q → l[j]? = some p → q.cl = p.cl → q.sq < p.sq) : effL l = l := by
  have key : ∀ k, k ≤ l.length → effT l k = l.take k := fun k => by
    induction k with
    | zero => intro _; simp [effT]
    | succ k ih =>
      intro hk
      have hg : l[k]? = some l[k] := List.getElem?_eq_getElem (by omega)
      rw [effT_on hg, ih (by omega), List.take_succ_eq_append_getElem (by omega)]
      unfold effK
      rw [Bool.and_eq_true]
      refine ⟨decide_eq_true (h1 _ (List.getElem_mem _)), ?_⟩
      rw [List.all_eq_true]
      intro q hq
      obtain ⟨i, hi, rfl⟩ := List.getElem_of_mem hq
      rw [List.length_take] at hi
      rw [List.getElem_take]
      by_cases hc : l[i].cl = l[k].cl
      · have := h2 i k l[i] l[k] (by omega) (List.getElem?_eq_getElem (by omega)) hg hc
        have : ¬ l[k].sq ≤ l[i].sq := by omega
        simp [this]
      · simp [hc]
  unfold effL
  rw [key _ (Nat.le_refl _), List.take_of_length_le (Nat.le_refl _)]
theorem firstT_all {ds : List DeedV} {p : List LifeV} : ∀ n : Nat, (∀ k, k < n → linB ds p (k : Nat) = true) → firstT ds p n = none
  | 0, _ => rfl
  | n + 1, h => by rw [firstT, firstT_all n fun k hk => h k (by omega), h n (by omega)]; rfl
theorem firstT_at {ds : List DeedV} {p : List LifeV} {k : Nat} (h : ∀ j, j < k → linB ds p (j : Nat) = true) (hk : linB ds p (k : Nat) = false) : ∀ n, k < n → firstT ds p n = some k
  | 0, h => absurd h (by omega)
  | n + 1, hn => by
    by_cases e : k = n
    · subst e
      rw [firstT, firstT_all k h, hk]
      rfl
    · rw [firstT, firstT_at h hk n (by omega)]
theorem lin_one (ds : List DeedV) (y : LifeV) (k : Int) : linB ds [y] k = (placesB ds (effL (putsL y k)) k).isSome := by simp [linB, hist_one]
theorem checkB_yes {n : Int} {ds : List DeedV} {y : LifeV} (hb : ∀ d ∈ ds, badB d = false) (h : ∀ k : Nat, (k : Int) < n → linB ds [y] k = true) : checkB n ds [y] = (0, true) := by
  have h1 : ds.any badB = false := by rw [List.any_eq_false]; intro d hd; rw [hb d hd]; simp
  have h2 : livesB [y] = true := by simp [livesB]
  have h3 : firstT ds [y] (checkN n) = none := firstT_all _ fun k hk => h k (by
    unfold checkN at hk
    split at hk <;> omega)
  simp [checkB, h1, h2, h3]
theorem checkB_at {n : Int} {ds : List DeedV} {y : LifeV} {k : Nat} (hb : ∀ d ∈ ds, badB d = false) (hn : n ≤ 256) (hk : (k : Int) < n) (h : ∀ j : Nat, j < k → linB ds [y] j = true) (hl : linB ds [y] k = false) : checkB n ds [y] = ((k : Int), false) := by
  have h1 : ds.any badB = false := by rw [List.any_eq_false]; intro d hd; rw [hb d hd]; simp
  have h2 : livesB [y] = true := by simp [livesB]
  have h3 : firstT ds [y] (checkN n) = some k := firstT_at h hl _ (by unfold checkN; split <;> omega)
  simp [checkB, h1, h2, h3]

/-! ### Places -/
theorem doneP_mem {ds : List DeedV} {block : Int} : ∀ k, ∀ i ∈ doneP ds block k, ∃ (m : Nat) (d : DeedV), i = (m : Int) ∧ ds[m]? = some d ∧ 0 < d.en ∧ inB d block = true
  | 0 => by simp [doneP]
  | k + 1 => by
    intro i hi
    unfold doneP at hi
    split at hi
    · rename_i d hd
      split at hi
      · rename_i hc
        rw [Bool.and_eq_true] at hc
        rcases List.mem_append.1 hi with h | h
        · exact doneP_mem k i h
        · simp at h
          exact ⟨k, d, h, hd, of_decide_eq_true hc.1, hc.2⟩
      · exact doneP_mem k i hi
    · exact doneP_mem k i hi
theorem mem_doneP {ds : List DeedV} {block : Int} {m : Nat} {d : DeedV} (hd : ds[m]? = some d) (he : 0 < d.en) (hb : inB d block = true) : ∀ k, m < k → (m : Int) ∈ doneP ds block k
  | 0, h => absurd h (by omega)
  | k + 1, h => by
    by_cases hk : m = k
    · subst hk
      unfold doneP
      rw [hd]
      simp [he, hb]
    · have := mem_doneP hd he hb k (by omega)
      unfold doneP
      split
      · split
        · exact List.mem_append.2 (.inl this)
        · exact this
      · exact this
theorem lowT_le' {ys : List DeedV} {d : DeedV} {M : Nat} (h : ∀ (j : Nat) x, ys[j]? = some x → aheadB x d = true → j + 1 ≤ M) : ∀ k, lowT ys d k ≤ M
  | 0 => Nat.zero_le _
  | k + 1 => by
    have ih := lowT_le' h k
    unfold lowT
    split
    · rename_i x hx
      split
      · rename_i ha; exact h k x hx ha
      · exact ih
    · exact ih
theorem lowU_le' {ds : List DeedV} {st : List Int} {block : Int} {d : DeedV} {n0 M : Int} (h0 : n0 ≤ M) (h : ∀ (m : Nat) x, ds[m]? = some x → holdsB x d block = true → st.getD m 0 ≤ M) : ∀ k, lowU ds st block d n0 k ≤ M
  | 0 => h0
  | k + 1 => by
    have ih := lowU_le' h0 h k
    unfold lowU
    split
    · rename_i x hx
      split
      · rename_i ha
        have := h k x hx ha
        omega
      · exact ih
    · exact ih
theorem lowU_ge {ds : List DeedV} {st : List Int} {block : Int} {d : DeedV} {n0 : Int} : ∀ k, n0 ≤ lowU ds st block d n0 k
  | 0 => Int.le_refl _
  | k + 1 => by
    have ih := lowU_ge (ds := ds) (st := st) (block := block) (d := d) (n0 := n0) k
    unfold lowU
    split
    · split
      · omega
      · exact ih
    · exact ih
theorem seek_le {l : List PutV} {s : ByteArray} {M : Nat} (hM : M ≤ l.length) (ht : textOf l M = s) : ∀ (f n : Nat), n ≤ M → M - n ≤ f → seek l s n ≤ M
  | 0, n, h, hf => by
    obtain rfl : n = M := by omega
    rw [seek_at ht]
    exact Nat.le_refl _
  | f + 1, n, h, hf => by
    by_cases e : textOf l n = s
    · rw [seek_at e]; exact h
    · have hn : n ≠ M := fun q => e (q ▸ ht)
      rw [seek_on (by omega) e]
      exact seek_le hM ht f (n + 1) (by omega) (by omega)
theorem seek_none {l : List PutV} {s : ByteArray} : ∀ (f n : Nat), l.length + 1 - n ≤ f → (∀ m, n ≤ m → m ≤ l.length → textOf l m ≠ s) → l.length < seek l s n
  | 0, n, hf, _ => by rw [seek_out (by omega)]; omega
  | f + 1, n, hf, h => by
    by_cases hn : n ≤ l.length
    · rw [seek_on hn (h n (Nat.le_refl _) hn)]
      exact seek_none f (n + 1) (by omega) fun m hm => h m (by omega)
    · rw [seek_out (by omega)]; omega
theorem getD_nat {ds : List DeedV} {m : Nat} {d : DeedV} (hd : ds[m]? = some d) : ds.getD (m : Int).toNat default = d := by simp [List.getD, hd]
theorem step_cnt {ds : List DeedV} {l : List PutV} {block : Int} {st : List Int} {m : Nat} {d : DeedV} (hd : ds[m]? = some d) (hop : d.op = 2 ∨ d.op = 3) (hc : cntOf l d ≠ 1) : plStep ds l block st (m : Int) = none := by
  unfold plStep
  rw [getD_nat hd, if_pos hop, if_neg hc]
theorem step_read {ds : List DeedV} {l : List PutV} {block : Int} {st : List Int} {m : Nat} {d : DeedV} (hd : ds[m]? = some d) (hop : d.op = 1) (h : ∀ n, lowT (byL ds l) d (byL ds l).length ≤ n → n ≤ l.length → textOf l n ≠ textAt d.re.l (offN block d.fr)) : plStep ds l block st (m : Int) = none := by
  unfold plStep
  rw [getD_nat hd, if_neg (by omega), if_pos hop]
  have hl : (lowT (byL ds l) d (byL ds l).length : Int) ≤ lowB (byL ds l) ds st block d := lowU_ge _
  have hs : l.length < seek l (textAt d.re.l (offN block d.fr)) (lowB (byL ds l) ds st block d).toNat := seek_none _ _ (Nat.le_refl _) fun n hn hln => h n (by omega) hln
  have : readB (byL ds l) ds l st block d = none := by
    unfold readB
    rw [if_pos hs]
    split <;> rfl
  rw [this]
theorem places_no {ds : List DeedV} {l : List PutV} {block : Int} {m : Nat} {d : DeedV} (hd : ds[m]? = some d) (he : 0 < d.en) (hb : inB d block = true) (h : ∀ st, plStep ds l block st (m : Int) = none) : placesB ds l block = none := by
  unfold placesB
  split
  · have hm : (m : Int) ∈ sortS (ltE ds) (doneP ds block ds.length) := (sortS_perm _ _).mem_iff.2 (mem_doneP hd he hb _ (List.getElem?_eq_some_iff.1 hd).1)
    obtain ⟨k, hk, hkm⟩ := List.getElem_of_mem hm
    have hk' : k + 1 ≤ (doneP ds block ds.length).length := by rw [← sortS_len (ltE ds) (doneP ds block ds.length)]; exact hk
    refine plT_out (k := k + 1) ?_ hk'
    cases hp : plT ds l block (sortS (ltE ds) (doneP ds block ds.length)) k with
    | none => exact plT_none hp 1
    | some st => rw [plT_step hp (i := (m : Int)) (by rw [List.getElem?_eq_getElem hk, hkm])]; exact h st
  · rfl
theorem places_yes {ds : List DeedV} {l : List PutV} {block : Int} (c : Nat → Nat) (hA : askedAllB ds l block = true)
    (hput : ∀ (i : Nat) d, ds[i]? = some d → 0 < d.en → inB d block = true → d.op = 2 ∨ d.op = 3 → cntOf l d = 1)
    (hread : ∀ (i : Nat) d, ds[i]? = some d → 0 < d.en → inB d block = true → d.op = 1 →
      offN block d.fr < d.re.l.length ∧ c i ≤ l.length ∧ textOf l (c i) = textAt d.re.l (offN block d.fr) ∧ (∀ (j : Nat) x, (byL ds l)[j]? = some x → aheadB x d = true → j + 1 ≤ c i)
      ∧ (∀ (m : Nat) x, ds[m]? = some x → holdsB x d block = true → c m ≤ c i) ∧ (∀ (j : Nat) x, j < c i → (byL ds l)[j]? = some x → x.be ≤ d.en)) : (placesB ds l block).isSome = true := by
  unfold placesB
  rw [if_pos hA]
  have key : ∀ k, k ≤ (doneP ds block ds.length).length → ∃ st, plT ds l block (sortS (ltE ds) (doneP ds block ds.length)) k = some st ∧ ∀ m : Nat, st.getD m 0 ≤ c m := fun k => by
    induction k with
    | zero => exact fun _ => ⟨_, rfl, fun m => by
        rw [List.getD]
        cases h : (List.replicate ds.length (0 : Int))[m]? with
        | none => simp
        | some z => have := List.eq_of_mem_replicate (List.mem_of_getElem? h); subst this; simp⟩
    | succ k ih =>
      intro hk
      obtain ⟨st, hst, hc⟩ := ih (by omega)
      have hkl : k < (sortS (ltE ds) (doneP ds block ds.length)).length := by rw [sortS_len]; omega
      obtain ⟨m, d, hm, hd, he, hb⟩ := doneP_mem ds.length _ ((sortS_perm _ _).mem_iff.1 (List.getElem_mem hkl))
      rw [plT_step hst (i := (m : Int)) (by rw [List.getElem?_eq_getElem hkl, hm])]
      unfold plStep
      rw [getD_nat hd]
      by_cases h23 : d.op = 2 ∨ d.op = 3
      · rw [if_pos h23, if_pos (hput m d hd he hb h23)]
        exact ⟨st, rfl, hc⟩
      · rw [if_neg h23]
        by_cases h1 : d.op = 1
        · rw [if_pos h1]
          obtain ⟨r1, r2, r3, r4, r5, r6⟩ := hread m d hd he hb h1
          have hl : lowB (byL ds l) ds st block d ≤ c m := lowU_le' (by have := lowT_le' r4 (byL ds l).length; omega) (fun i x hx hh => by have := hc i; have := r5 i x hx hh; omega) _
          have hs : seek l (textAt d.re.l (offN block d.fr)) (lowB (byL ds l) ds st block d).toNat ≤ c m := seek_le r2 r3 _ _ (by omega) (Nat.le_refl _)
          have hr : readB (byL ds l) ds l st block d = some (seek l (textAt d.re.l (offN block d.fr)) (lowB (byL ds l) ds st block d).toNat) := by
            unfold readB
            rw [if_neg (by omega), if_neg (by omega), if_neg]
            rw [Bool.not_eq_true, List.any_eq_false]
            intro x hx
            obtain ⟨j, hj, rfl⟩ := List.getElem_of_mem hx
            rw [List.length_take] at hj
            rw [List.getElem_take]
            have := r6 j _ (by omega) (List.getElem?_eq_getElem (by omega))
            simpa using this
          rw [hr]
          refine ⟨_, rfl, fun i => ?_⟩
          rw [List.getD, List.getElem?_set]
          split
          · rename_i e
            split
            · have : (m : Int).toNat = i := e
              obtain rfl : m = i := by omega
              simpa using hs
            · simp
          · exact hc i
        · rw [if_neg h1]
          exact ⟨st, rfl, hc⟩
  obtain ⟨st, hst, _⟩ := key _ (Nat.le_refl _)
  rw [hst]
  rfl
end Go.Proofs.Ytpehfnobgdjgcaa
