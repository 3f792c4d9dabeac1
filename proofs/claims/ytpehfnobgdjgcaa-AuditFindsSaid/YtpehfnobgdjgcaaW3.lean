/-
  What one client does alone goes together: the plain law.
-/
import Derived.Test.YtpehfnobgdjgcaaW1
namespace Go.Proofs.Ytpehfnobgdjgcaa

/-- The deeds that are told, of a block: of each what it was, but for the end of what isn't a read. -/
structure Few (ds es : List DeedV) (b : Int) : Prop where
  of : ∀ (j : Nat) e, es[j]? = some e → ∃ (i : Nat) (d : DeedV), ds[i]? = some d ∧ e.cl = 1 ∧ e.sq = d.sq ∧ e.op = d.op ∧ e.fr = d.fr ∧ e.to = d.to ∧ e.da = d.da ∧ e.be = d.be ∧ (e.en = d.en ∨ (e.en = 0 ∧ d.op ≠ 1))
    ∧ (d.op = 1 → e.re.l.length = d.re.l.length ∧ (d.fr ≤ b → b < d.to → textAt e.re.l (b - d.fr).toNat = textAt d.re.l (b - d.fr).toNat))
  all : ∀ (i : Nat) d, ds[i]? = some d → d.op ≠ 1 → ∃ (j : Nat) (e : DeedV), es[j]? = some e ∧ e.sq = d.sq
  uniq : ∀ (i j : Nat) x y, es[i]? = some x → es[j]? = some y → x.sq = y.sq → i = j

theorem putsD_mem {l : List DeedV} {b : Int} {p : PutV} (h : p ∈ putsD l b) : ∃ d ∈ l, putB d b = true ∧ p = putD d b := by
  unfold putsD at h
  rw [List.mem_filterMap] at h
  obtain ⟨r, hr, he⟩ := h
  obtain ⟨d, hd, rfl⟩ := List.mem_map.1 hr
  rw [putM_ran] at he
  split at he
  · rename_i hp
    exact ⟨d, hd, hp, (Option.some.inj he).symm⟩
  · cases he
theorem mem_putsD {l : List DeedV} {b : Int} {d : DeedV} (h : d ∈ l) (hp : putB d b = true) : putD d b ∈ putsD l b := by
  unfold putsD
  rw [List.mem_filterMap]
  exact ⟨ranD d, List.mem_map_of_mem h, by rw [putM_ran, hp]; rfl⟩
theorem putsD_app (a c : List DeedV) (b : Int) : putsD (a ++ c) b = putsD a b ++ putsD c b := by simp [putsD, List.filterMap_append]
theorem putsD_cut (ds : List DeedV) (b : Int) (i : Nat) : putsD ds b = putsD (ds.take i) b ++ putsD (ds.drop i) b := by rw [← putsD_app, List.take_append_drop]
theorem get_sq {n : Nat} {ds : List DeedV} (h : Al n ds) {i : Nat} {d : DeedV} (hd : ds[i]? = some d) : d.sq = i + 1 := (h.deed i d hd).sq
/-- What stands at a place of the puts: ahead of the place of a deed, or not. -/
theorem put_at {ds : List DeedV} {b : Int} {j : Nat} {p : PutV} (hp : (putsD ds b)[j]? = some p) (i : Nat) :
    ∃ (k : Nat) (d : DeedV), ds[k]? = some d ∧ putB d b = true ∧ p = putD d b ∧ (j < (putsD (ds.take i) b).length ↔ k < i) := by
  have hl : putsD ds b = putsD (ds.take i) b ++ putsD (ds.drop i) b := putsD_cut ds b i
  rw [hl] at hp
  by_cases hj : j < (putsD (ds.take i) b).length
  · rw [List.getElem?_append_left hj] at hp
    obtain ⟨d, hd, hpb, e⟩ := putsD_mem (List.mem_of_getElem? hp)
    obtain ⟨k, hk, rfl⟩ := List.getElem_of_mem hd
    have hk' := hk
    rw [List.length_take] at hk'
    exact ⟨k, _, by rw [List.getElem_take, List.getElem?_eq_getElem (by omega)], hpb, e, iff_of_true hj (by omega)⟩
  · rw [List.getElem?_append_right (by omega)] at hp
    obtain ⟨d, hd, hpb, e⟩ := putsD_mem (List.mem_of_getElem? hp)
    obtain ⟨k, hk, rfl⟩ := List.getElem_of_mem hd
    have hk' := hk
    rw [List.length_drop] at hk'
    exact ⟨i + k, _, by rw [List.getElem_drop, List.getElem?_eq_getElem (by omega)], hpb, e, iff_of_false hj (by omega)⟩
/-- The puts stand as their deeds do. -/
theorem puts_rise {n : Nat} {ds : List DeedV} (h : Al n ds) {b : Int} : ∀ (i j : Nat) q p, i < j → (putsD ds b)[i]? = some q → (putsD ds b)[j]? = some p → q.sq < p.sq := by
  intro i j q p hij hq hp
  obtain ⟨k, d, hk, hpb, rfl, _⟩ := put_at hp 0
  obtain ⟨k', d', hk', _, rfl, hiff⟩ := put_at hq k
  have e1 := get_sq h hk
  have e2 := get_sq h hk'
  show d'.sq < d.sq
  rw [e1, e2]
  have hj : ¬ j < (putsD (ds.take k) b).length := fun hj => by
    obtain ⟨k2, d2, hk2, _, he, hi2⟩ := put_at hp k
    have := hi2.1 hj
    have e3 := get_sq h hk2
    have : d.sq = d2.sq := congrArg PutV.sq he
    omega
  have hjl := (List.getElem?_eq_some_iff.1 hp).1
  have hA : (putsD (ds.take (k + 1)) b).length = (putsD (ds.take k) b).length + 1 := by
    rw [List.take_succ_eq_append_getElem (List.getElem?_eq_some_iff.1 hk).1, putsD_snoc, (List.getElem?_eq_some_iff.1 hk).2, putM_ran, hpb]
    simp
  have hj2 : j < (putsD (ds.take (k + 1)) b).length := by
    obtain ⟨k2, d2, hk2, _, he, hi2⟩ := put_at hp (k + 1)
    refine hi2.2 ?_
    have e3 := get_sq h hk2
    have : d.sq = d2.sq := congrArg PutV.sq he
    omega
  have hi : i < (putsD (ds.take k) b).length := by omega
  have := hiff.1 hi
  omega
theorem eff_puts {n : Nat} {ds : List DeedV} (h : Al n ds) (b : Int) : effL (putsD ds b) = putsD ds b := by
  refine eff_all (fun p hp => ?_) fun i j q p hij hq hp _ => puts_rise h i j q p hij hq hp
  obtain ⟨j, hj, rfl⟩ := List.getElem_of_mem hp
  obtain ⟨k, d, hk, _, e, _⟩ := put_at (List.getElem?_eq_getElem hj) 0
  rw [e]
  show 1 ≤ d.sq
  rw [get_sq h hk]
  omega
theorem cntT_one {l : List PutV} {d : DeedV} {i : Nat} {p : PutV} (hp : l[i]? = some p) (hd : deedIs p d = true) (hu : ∀ (j : Nat) q, l[j]? = some q → deedIs q d = true → j = i) : ∀ k, cntT l d k = if i < k then 1 else 0
  | 0 => by simp [cntT]
  | k + 1 => by
    have ih := cntT_one hp hd hu k
    unfold cntT
    cases hk : l[k]? with
    | none =>
      have := (List.getElem?_eq_some_iff.1 hp).1
      have hkl := List.getElem?_eq_none_iff.1 hk
      simp only
      rw [ih, if_pos (by omega), if_pos (by omega)]
    | some q =>
      simp only
      by_cases hq : deedIs q d = true
      · obtain rfl := hu k q hk hq
        rw [if_pos hq, ih, if_neg (by omega), if_pos (by omega)]
      · have hki : k ≠ i := fun e => by subst e; rw [hp] at hk; cases hk; exact hq hd
        rw [if_neg hq, ih]
        by_cases hik : i < k
        · rw [if_pos hik, if_pos (by omega)]
        · rw [if_neg hik, if_neg (by omega)]
theorem cntT_zero {l : List PutV} {d : DeedV} (hu : ∀ q ∈ l, deedIs q d = false) : ∀ k, cntT l d k = 0
  | 0 => rfl
  | k + 1 => by
    have ih := cntT_zero hu k
    unfold cntT
    cases hk : l[k]? with
    | none => exact ih
    | some q =>
      simp only
      rw [hu q (List.mem_of_getElem? hk)]
      exact ih
theorem textOf_app (a c : List PutV) : textOf (a ++ c) a.length = textOf a a.length := by
  unfold textOf
  by_cases h : a.length = 0
  · rw [if_pos h, if_pos h]
  · rw [if_neg h, if_neg h, List.getElem?_append_left (by omega)]
section
variable {n : Nat} {ds es : List DeedV} {b : Int}
/-- What asked for a put. -/
theorem few_ix (h : Al n ds) (hf : Few ds es b) {i : Nat} {d : DeedV} (hd : ds[i]? = some d) (hp : putB d b = true) : ∃ (j : Nat) (e : DeedV), ixOf es (putD d b) = some j ∧ es[j]? = some e ∧ dOf es (putD d b) = e ∧ e.cl = 1 ∧ e.sq = d.sq ∧ e.op = d.op ∧ e.fr = d.fr ∧ e.to = d.to ∧ e.da = d.da ∧ e.be = d.be ∧ (e.en = d.en ∨ e.en = 0) := by
  have hop : d.op ≠ 1 := fun e => by simp [putB, e] at hp
  obtain ⟨j, e, he, hs⟩ := hf.all i d hd hop
  have hj := (List.getElem?_eq_some_iff.1 he).1
  have hix : ixOf es (putD d b) = some j := by
    unfold ixOf
    rw [List.findIdx?_eq_some_iff_getElem]
    refine ⟨hj, ?_, fun m hm => ?_⟩
    · obtain ⟨_, _, _, hc, _⟩ := hf.of j e he
      rw [(List.getElem?_eq_some_iff.1 he).2]
      simp [deedIs, hc, hs, putD]
    · intro hd'
      have hm' : m < es.length := by omega
      simp only [deedIs, Bool.and_eq_true, decide_eq_true_eq] at hd'
      have : m = j := hf.uniq m j _ e (List.getElem?_eq_getElem hm') he (by rw [hd'.2, hs]; rfl)
      omega
  obtain ⟨i', d', hd', c1, c2, c3, c4, c5, c6, c7, c8, _⟩ := hf.of j e he
  have hii : i' = i := by have e1 := get_sq h hd; have e2 := get_sq h hd'; have : d'.sq = d.sq := (by rw [← c2, hs]); omega
  subst hii
  rw [hd] at hd'
  cases hd'
  refine ⟨j, e, hix, he, ?_, c1, c2, c3, c4, c5, c6, c7, c8.imp id And.left⟩
  rw [dOf_some hix hj, (List.getElem?_eq_some_iff.1 he).2]
theorem by_at (h : Al n ds) (hf : Few ds es b) {j : Nat} {x : DeedV} (hx : (byL es (putsD ds b))[j]? = some x) (i : Nat) : ∃ (k : Nat) (d : DeedV), ds[k]? = some d ∧ putB d b = true ∧ x.be = d.be ∧ (x.en = d.en ∨ x.en = 0) ∧ (j < (putsD (ds.take i) b).length ↔ k < i) := by
  unfold byL at hx
  rw [List.getElem?_map, Option.map_eq_some_iff] at hx
  obtain ⟨p, hp, rfl⟩ := hx
  obtain ⟨k, d, hk, hpb, rfl, hiff⟩ := put_at hp i
  obtain ⟨_, e, _, _, he, _, _, _, _, _, _, c7, c8⟩ := few_ix h hf hk hpb
  rw [he]
  exact ⟨k, d, hk, hpb, c7, c8, hiff⟩
theorem few_asked (h : Al n ds) (hf : Few ds es b) (hb : b < 1000) : askedAllB es (putsD ds b) b = true := by
  refine askedAll_yes fun i p hp => ?_
  obtain ⟨k, d, hk, hpb, rfl, _⟩ := put_at hp 0
  obtain ⟨j, e, hix, he, hdo, c1, c2, c3, c4, c5, c6, c7, c8⟩ := few_ix h hf hk hpb
  have hD := h.deed k d hk
  have hpb' := hpb
  simp only [putB, Bool.and_eq_true, Bool.or_eq_true, decide_eq_true_eq] at hpb'
  obtain ⟨hop, h1, h2⟩ := hpb'
  have ho : offN b d.fr = (b - d.fr).toNat := offN_in h1 (by have := hD.fr.1; omega)
  unfold okAt
  rw [hix, hdo]
  simp only [Option.isSome_some, Bool.true_and, Bool.and_eq_true]
  refine ⟨?_, ?_⟩
  · unfold askedB
    rw [c3, c4, c5, c6, decide_eq_false (by omega), decide_eq_false (by omega)]
    simp only [Bool.not_false, Bool.true_and]
    by_cases h3 : d.op = 3
    · rw [if_pos h3]
      simp [putD, h3]
    · have h2' : d.op = 2 := by rcases hop with q | q; exact q; exact absurd q h3
      rw [if_neg h3]
      have hl : (b - d.fr).toNat < d.da.l.length := by rw [hD.da h2']; simp; omega
      simp [putD, h2', ho, hl]
  · rw [List.all_eq_true]
    intro x hx
    obtain ⟨m, hm, rfl⟩ := List.getElem_of_mem hx
    have hm' := hm
    simp only [byL, List.length_map, List.length_take] at hm'
    have hx' : (byL es (putsD ds b))[m]? = some (byL es ((putsD ds b).take i))[m] := by
      have e1 : byL es ((putsD ds b).take i) = (byL es (putsD ds b)).take i := by simp [byL, List.map_take]
      rw [List.getElem_of_eq e1 hm, List.getElem_take, List.getElem?_eq_getElem]
    obtain ⟨k', d', hk', hpb2, c7', c8', hiff⟩ := by_at h hf hx' k
    have hlt : k' < k := by
      have hil := (List.getElem?_eq_some_iff.1 hp).1
      have hmp : (putsD ds b)[m]? = some ((putsD ds b)[m]'(by omega)) := List.getElem?_eq_getElem (by omega)
      have := puts_rise h m i _ _ (by omega) hmp hp
      have hq := put_at hmp k
      obtain ⟨k2, d2, hk2, _, e2, hi2⟩ := hq
      rw [e2] at this
      have q1 := get_sq h hk2
      have q2 := get_sq h hk
      have : d2.sq < d.sq := this
      exact hiff.1 (hi2.2 (by omega))
    have q1 := (h.deed k d hk).en
    have q2 := (h.deed k' d' hk').be
    unfold aheadB
    rw [c7', q2]
    rcases c8 with c8 | c8
    · rw [c8, q1]
      simp
      omega
    · rw [c8]
      simp
/-- Nothing is found. -/
theorem few_lin (h : Al n ds) (hf : Few ds es b) (hb : b < 1000) : (placesB es (putsD ds b) b).isSome = true := by
  have hof : ∀ (j : Nat) e, es[j]? = some e → ∃ i d, ds[i]? = some d ∧ (e.sq - 1).toNat = i := fun j e he => by
    obtain ⟨i, d, hd, _, c2, _⟩ := hf.of j e he
    have := get_sq h hd
    exact ⟨i, d, hd, by omega⟩
  refine places_yes (fun j => match es[j]? with | some e => (putsD (ds.take (e.sq - 1).toNat) b).length | none => 0) (few_asked h hf hb) (fun j e he _ hin hop => ?_) (fun j e he hen hin hop => ?_)
  · obtain ⟨i, d, hd, c1, c2, c3, c4, c5, _⟩ := hf.of j e he
    have hpb : putB d b = true := by
      simp only [inB, Bool.and_eq_true, Bool.not_eq_true', decide_eq_false_iff_not] at hin
      simp only [putB, Bool.and_eq_true, Bool.or_eq_true, decide_eq_true_eq]
      rw [← c3, ← c4, ← c5]
      exact ⟨hop, by omega, by omega⟩
    obtain ⟨m, hm, hmp⟩ := List.getElem_of_mem (mem_putsD (List.mem_of_getElem? hd) hpb)
    have hone := cntT_one (d := e) (List.getElem?_eq_getElem hm) (by rw [hmp]; simp [deedIs, putD, c1, c2]) (fun j' q hq hdq => by
      simp only [deedIs, Bool.and_eq_true, decide_eq_true_eq] at hdq
      by_cases hlt : j' < m
      · have := puts_rise h j' m q _ hlt hq (List.getElem?_eq_getElem hm)
        rw [hmp] at this
        have : q.sq < d.sq := this
        omega
      · by_cases hgt : m < j'
        · have := puts_rise h m j' _ q hgt (List.getElem?_eq_getElem hm) hq
          rw [hmp] at this
          have : d.sq < q.sq := this
          omega
        · omega) (putsD ds b).length
    unfold cntOf
    rw [hone, if_pos hm]
  · obtain ⟨i, d, hd, c1, c2, c3, c4, c5, c6, c7, c8, c9⟩ := hf.of j e he
    have hD := h.deed i d hd
    have h1 : d.op = 1 := by rw [← c3]; exact hop
    have hR := h.read i d hd h1
    have hee : e.en = d.en := c8.elim id fun q => absurd h1 q.2
    simp only [inB, Bool.and_eq_true, Bool.not_eq_true', decide_eq_false_iff_not] at hin
    obtain ⟨r1, r2⟩ := c9 h1
    have r2 := r2 (by omega) (by omega)
    have ho : offN b e.fr = (b - d.fr).toNat := by rw [c4]; exact offN_in (by omega) (by have := hD.fr.1; omega)
    have hi : (e.sq - 1).toNat = i := by have := get_sq h hd; omega
    simp only [he, hi]
    rw [ho]
    have hjl : (b - d.fr).toNat < (d.to - d.fr).toNat := by omega
    refine ⟨by rw [r1, hR.1]; exact hjl, ?_, ?_, ?_, ?_, ?_⟩
    · rw [putsD_cut ds b i, List.length_append]; omega
    · rw [r2, hR.2 _ hjl, show d.fr + ((b - d.fr).toNat : Int) = b by omega, putsD_cut ds b i, textOf_app]
      rfl
    · intro j' x hx ha
      obtain ⟨k, d', hk, _, q7, q8, hiff⟩ := by_at h hf hx i
      have e1 := (h.deed k d' hk).en
      simp only [aheadB, Bool.and_eq_true, decide_eq_true_eq] at ha
      have := hiff.2 (by
        rcases q8 with q8 | q8
        · rw [c7, hD.be, q8, e1] at ha; omega
        · rw [q8] at ha; omega)
      omega
    · intro m x hx hh
      obtain ⟨k, d', hk, _, p2, _, _, _, _, p7, p8, _⟩ := hf.of m x hx
      have hkk : (x.sq - 1).toNat = k := by have := get_sq h hk; omega
      simp only [hx, hkk]
      simp only [holdsB, aheadB, Bool.and_eq_true, decide_eq_true_eq] at hh
      have e1 := (h.deed k d' hk).en
      have hlt : k ≤ i := by
        rcases p8 with p8 | p8
        · rw [c7, hD.be, p8, e1] at hh; omega
        · rw [p8.1] at hh; omega
      rw [show ds.take i = ds.take k ++ (ds.take i).drop k by
        have := List.take_append_drop k (ds.take i)
        rw [List.take_take, Nat.min_eq_left hlt] at this
        exact this.symm, putsD_app, List.length_append]
      omega
    · intro j' x hj hx
      obtain ⟨k, d', hk, _, q7, _, hiff⟩ := by_at h hf hx i
      have := hiff.1 hj
      rw [q7, (h.deed k d' hk).be, hee, hD.en]
      omega
theorem few_bad (h : Al n ds) (hn : n ≤ 1000) (hf : Few ds es b) : ∀ e ∈ es, badB e = false := by
  intro e he
  obtain ⟨j, hj, rfl⟩ := List.getElem_of_mem he
  obtain ⟨i, d, hd, _, _, c3, c4, c5, _, _, _, c9⟩ := hf.of j _ (List.getElem?_eq_getElem hj)
  have hD := h.deed i d hd
  unfold badB
  by_cases h1 : d.op = 1
  · have h2 := hD.fr
    have h3 := hD.ub
    have ho : offN d.to d.fr = (d.to - d.fr).toNat := offN_in (by omega) (by omega)
    rw [c4, c5, (c9 h1).1, (h.read i d hd h1).1, ho]
    have : ¬ d.to < d.fr := by omega
    simp [this]
  · rw [c3]
    simp [h1]
end
end Go.Proofs.Ytpehfnobgdjgcaa
