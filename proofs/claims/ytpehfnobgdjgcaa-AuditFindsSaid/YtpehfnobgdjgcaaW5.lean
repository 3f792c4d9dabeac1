/-
  What is turned is found: the plain law.
-/
import Derived.Test.YtpehfnobgdjgcaaW4
namespace Go.Proofs.Ytpehfnobgdjgcaa

def never : ByteArray := ⟨#[110, 101, 118, 101, 114, 32, 119, 114, 105, 116, 116, 101, 110]⟩
theorem textAt_size {l : List ByteArray} (h : ∀ t ∈ l, t.size ≤ 3) (i : Nat) : (textAt l i).size ≤ 3 := by
  unfold textAt
  cases hi : l[i]? with
  | none => show (0 : Nat) ≤ 3; omega
  | some t => exact h t (List.mem_of_getElem? hi)
theorem putT_size {n : Nat} {ds : List DeedV} (h : Al n ds) {b : Int} {p : PutV} (hp : p ∈ putsD ds b) : p.tx.size ≤ 3 := by
  obtain ⟨d, hd, _, rfl⟩ := putsD_mem hp
  obtain ⟨i, hi, rfl⟩ := List.getElem_of_mem hd
  have hD := h.deed i _ (List.getElem?_eq_getElem hi)
  show (if (ds[i]).op = 2 then textAt (ds[i]).da.l (offN b (ds[i]).fr) else ByteArray.empty).size ≤ 3
  split
  · rename_i h2
    refine textAt_size (fun t ht => ?_) _
    rw [hD.da h2] at ht
    obtain ⟨j, _, rfl⟩ := List.mem_map.1 ht
    exact Nat.le_refl _
  · show (0 : Nat) ≤ 3
    omega
theorem textOf_never {n : Nat} {ds : List DeedV} (h : Al n ds) (b : Int) (m : Nat) : textOf (putsD ds b) m ≠ never := by
  have hs : (textOf (putsD ds b) m).size ≤ 3 := by
    unfold textOf
    split
    · show (0 : Nat) ≤ 3; omega
    · cases hi : (putsD ds b)[m - 1]? with
      | none => show (0 : Nat) ≤ 3; omega
      | some p => exact putT_size h (List.mem_of_getElem? hi)
  intro e
  rw [e] at hs
  exact absurd hs (by decide)
def withRe (d : DeedV) (t : Tx) : DeedV := ⟨d.cl, d.sq, d.op, d.fr, d.to, d.da, d.be, d.en, t⟩
theorem few_turned {n : Nat} {ds : List DeedV} (h : Al n ds) {k m : Nat} {d : DeedV} {t : Tx} {s : ByteArray} (hd : ds[k]? = some d) (ht : t.l = d.re.l.set m s) {b : Int} (hb : b ≠ d.fr + m) : Few ds (ds.set k (withRe d t)) b := by
  have hk := (List.getElem?_eq_some_iff.1 hd).1
  have key : ∀ (j : Nat) x, (ds.set k (withRe d t))[j]? = some x → ∃ y, ds[j]? = some y ∧ x.sq = y.sq ∧ (x = y ∨ j = k ∧ y = d ∧ x = withRe d t) := fun j x hx => by
    rw [List.getElem?_set] at hx
    by_cases q : k = j
    · subst q
      rw [if_pos rfl, if_pos hk] at hx
      have : x = withRe d t := (Option.some.inj hx).symm
      exact ⟨d, hd, by rw [this]; rfl, .inr ⟨rfl, rfl, this⟩⟩
    · rw [if_neg q] at hx
      exact ⟨x, hx, rfl, .inl rfl⟩
  refine ⟨fun j e he => ?_, fun i x hx _ => ?_, fun i j x y hx hy q => ?_⟩
  · obtain ⟨y, hy, _, q⟩ := key j e he
    have hD := h.deed j y hy
    rcases q with rfl | ⟨_, rfl, rfl⟩
    · exact ⟨j, e, hy, hD.cl, rfl, rfl, rfl, rfl, rfl, rfl, .inl rfl, fun _ => ⟨rfl, fun _ _ => rfl⟩⟩
    · refine ⟨j, y, hy, hD.cl, rfl, rfl, rfl, rfl, rfl, rfl, .inl rfl, fun _ => ⟨by show t.l.length = _; rw [ht, List.length_set], fun h1 h2 => ?_⟩⟩
      show textAt t.l _ = _
      unfold textAt
      rw [ht, List.getElem?_set, if_neg (by omega)]
  · by_cases q : k = i
    · subst q
      rw [hd] at hx
      cases hx
      exact ⟨k, withRe d t, by rw [List.getElem?_set, if_pos rfl, if_pos hk], rfl⟩
    · exact ⟨i, x, by rw [List.getElem?_set, if_neg q]; exact hx, rfl⟩
  · obtain ⟨x', hx', e1, _⟩ := key i x hx
    obtain ⟨y', hy', e2, _⟩ := key j y hy
    have q1 := get_sq h hx'
    have q2 := get_sq h hy'
    omega
/-- An answer that is turned is found, in its block. -/
theorem turned_check {n : Nat} {ds : List DeedV} {la : Option Addr} {ln lc : Nat} (h : Al n ds) (hn : n ≤ 12) {k m : Nat} {d : DeedV} {t : Tx} (hd : ds[k]? = some d) (hop : d.op = 1) (hm : m < (d.to - d.fr).toNat) (ht : t.l = d.re.l.set m never) : checkB (n : Int) (ds.set k (withRe d t)) [⟨0, 1, ⟨la, ln, lc, ds.map ranD⟩⟩] = (d.fr + m, false) := by
  have hD := h.deed k d hd
  have h1 := hD.fr
  have h2 := hD.ub
  have h3 := hD.en
  obtain ⟨b, hb⟩ := Int.eq_ofNat_of_zero_le (show 0 ≤ d.fr + (m : Int) by omega)
  rw [hb]
  have hk := (List.getElem?_eq_some_iff.1 hd).1
  refine checkB_at (few_bad h (by omega) (few_turned h hd ht (b := -1) (by omega))) (by omega) (by omega) (fun j hj => ?_) ?_
  · rw [lin_one]
    show (placesB _ (effL (putsD ds (j : Int))) j).isSome = true
    rw [eff_puts h]
    exact few_lin h (few_turned h hd ht (by omega)) (by omega)
  · rw [lin_one]
    show (placesB _ (effL (putsD ds (b : Int))) b).isSome = false
    rw [eff_puts h, places_no (m := k) (d := withRe d t) (by rw [List.getElem?_set, if_pos rfl, if_pos hk]) (by show 0 < d.en; omega) ?_ fun st => step_read (d := withRe d t) (by rw [List.getElem?_set, if_pos rfl, if_pos hk]) hop fun q _ _ => ?_]
    · rfl
    · show inB (withRe d t) (b : Int) = true
      have e1 : ¬ ((b : Int) < d.fr) := by omega
      have e2 : ¬ (d.to ≤ (b : Int)) := by omega
      simp [inB, withRe, e1, e2]
    · have ho : offN (b : Int) (withRe d t).fr = m := by
        show offN (b : Int) d.fr = m
        rw [offN_in (by omega) (by omega)]
        omega
      rw [ho]
      have hl : d.re.l.length = (d.to - d.fr).toNat := (h.read k d hd hop).1
      have : textAt (withRe d t).re.l m = never := by
        show textAt t.l m = never
        unfold textAt
        rw [ht, List.getElem?_set, if_pos rfl, if_pos (by omega)]
        rfl
      rw [this]
      exact textOf_never h _ _
theorem effT_mem {l : List PutV} : ∀ k, ∀ q ∈ effT l k, q ∈ l
  | 0 => by simp [effT]
  | k + 1 => by
    intro q hq
    unfold effT at hq
    rcases List.mem_append.1 hq with h | h
    · exact effT_mem k q h
    · split at h
      · rename_i p hp
        split at h
        · obtain rfl := List.mem_singleton.1 h
          exact List.mem_of_getElem? hp
        · cases h
      · cases h
theorem cut_puts {ds : List DeedV} {k : Nat} {d : DeedV} (hd : ds[k]? = some d) (b : Int) : putsD ds b = putsD (ds.take k) b ++ (putM 1 b (ranD d)).toList ++ putsD (ds.drop (k + 1)) b := by
  have hk := (List.getElem?_eq_some_iff.1 hd).1
  rw [putsD_cut ds b (k + 1), List.take_succ_eq_append_getElem hk, putsD_snoc, (List.getElem?_eq_some_iff.1 hd).2]
/-- A put that is done, and that nobody executed, is found. -/
theorem gone_check {n : Nat} {ds : List DeedV} {la : Option Addr} {ln lc : Nat} (h : Al n ds) (hn : n ≤ 12) {k : Nat} {d : DeedV} (hd : ds[k]? = some d) (hop : d.op = 2 ∨ d.op = 3) : checkB (n : Int) ds [⟨0, 1, ⟨la, ln, lc, (ds.map ranD).take k ++ (ds.map ranD).drop (k + 1)⟩⟩] = (d.fr, false) := by
  have hD := h.deed k d hd
  have h1 := hD.fr
  have h2 := hD.ub
  have h3 := hD.en
  have hP : ∀ b : Int, putsL ⟨0, 1, ⟨la, ln, lc, (ds.map ranD).take k ++ (ds.map ranD).drop (k + 1)⟩⟩ b = putsD (ds.take k) b ++ putsD (ds.drop (k + 1)) b := fun b => by
    show ((ds.map ranD).take k ++ (ds.map ranD).drop (k + 1)).filterMap (putM 1 b) = _
    rw [List.filterMap_append, ← List.map_take, ← List.map_drop]
    rfl
  obtain ⟨b, hb⟩ := Int.eq_ofNat_of_zero_le h1.1
  rw [hb]
  refine checkB_at (few_bad h (by omega) (Few.refl h 0)) (by omega) (by omega) (fun j hj => ?_) ?_
  · rw [lin_one, hP]
    have hno : putB d (j : Int) = false := by
      have : ¬ d.fr ≤ (j : Int) := by omega
      simp [putB, this]
    have := cut_puts hd (j : Int)
    rw [putM_ran, hno] at this
    simp only [Bool.false_eq_true, if_false, Option.toList_none, List.append_nil] at this
    rw [← this, eff_puts h]
    exact few_lin h (Few.refl h _) (by omega)
  · rw [lin_one, hP, places_no (m := k) (d := d) hd (by omega) ?_ fun st => step_cnt hd hop ?_]
    · rfl
    · have e1 : ¬ ((b : Int) < d.fr) := by omega
      have e2 : ¬ (d.to ≤ (b : Int)) := by omega
      simp [inB, e1, e2]
    · unfold cntOf
      rw [cntT_zero]
      · omega
      · intro q hq
        have hq := effT_mem _ q hq
        have hne : q.sq ≠ d.sq := by
          have e1 := get_sq h hd
          rcases List.mem_append.1 hq with hq | hq
          · obtain ⟨x, hx, _, rfl⟩ := putsD_mem hq
            obtain ⟨i, hi, rfl⟩ := List.getElem_of_mem hx
            rw [List.length_take] at hi
            rw [List.getElem_take]
            show (ds[i]).sq ≠ d.sq
            have := get_sq h (List.getElem?_eq_getElem (show i < ds.length by omega))
            omega
          · obtain ⟨x, hx, _, rfl⟩ := putsD_mem hq
            obtain ⟨i, hi, rfl⟩ := List.getElem_of_mem hx
            rw [List.length_drop] at hi
            rw [List.getElem_drop]
            show (ds[k + 1 + i]).sq ≠ d.sq
            have := get_sq h (List.getElem?_eq_getElem (show k + 1 + i < ds.length by omega))
            omega
        have : ¬ d.sq = q.sq := fun e => hne e.symm
        simp [deedIs, this]
theorem refs_nodup {n : Nat} {ds : List DeedV} (h : Al n ds) : ((ds.map ranD).map RanV.ref).Nodup := by
  refine self_plc _ ?_ |> fun q => q
  rw [List.map_map]
  have : (ds.map (RanV.ref ∘ ranD)).Nodup := by
    rw [List.nodup_iff_pairwise_ne, List.pairwise_iff_getElem]
    intro i j hi hj hij
    rw [List.length_map] at hi hj
    rw [List.getElem_map, List.getElem_map]
    intro e
    have e1 := get_sq h (List.getElem?_eq_getElem hi)
    have e2 := get_sq h (List.getElem?_eq_getElem hj)
    have : ((0 : Int), (ds[i]).sq) = ((0 : Int), (ds[j]).sq) := e
    have := (Prod.mk.inj this).2
    omega
  exact fun k hk => plc_self _ this k hk
theorem sameB_self (x : RanV) : sameB x x = true := by simp [sameB, sameC, sameR]
theorem agree_self {l : List RanV} (h : (l.map RanV.ref).Nodup) : agreeB l l = true := by
  unfold agreeB
  rw [decide_eq_true h, Bool.true_and, List.all_eq_true]
  intro i hi
  have hi := List.mem_range.1 hi
  have hp : ∀ j, (hj : j < l.length) → plc l[j].ref (l.map RanV.ref) = j := fun j hj => by
    have := plc_self _ h j (by rw [List.length_map]; exact hj)
    rwa [List.getElem_map] at this
  rw [goodB_pos (List.getElem?_eq_getElem hi) (hp i hi) (List.getElem?_eq_getElem hi), sameB_self, Bool.true_and, List.all_eq_true]
  intro q hq
  obtain ⟨j, hj, rfl⟩ := List.getElem_of_mem hq
  rw [List.length_take] at hj
  rw [List.getElem_take]
  unfold pairB
  rw [hp i hi, hp j (by omega), decide_eq_false (by omega)]
  rfl
theorem agree_dup {l : List RanV} {x : RanV} (hx : x ∈ l) (m : List RanV) : agreeB (l ++ [x]) m = false := by
  unfold agreeB
  rw [decide_eq_false, Bool.false_and]
  intro hn
  rw [List.map_append, List.nodup_append] at hn
  exact hn.2.2 x.ref (List.mem_map_of_mem hx) x.ref (by simp) rfl

/-! ### An element of a row written in place -/
section
open Go.RowKit
def lay (cs : List Value) (o : Nat) (vs : List Value) : List Value := cs.take o ++ vs ++ cs.drop (o + vs.length)
theorem lay_len {cs : List Value} {o : Nat} {vs : List Value} (h : o + vs.length ≤ cs.length) : (lay cs o vs).length = cs.length := by
  simp [lay]; omega
theorem lay_nil (cs : List Value) (o : Nat) : lay cs o [] = cs := by simp [lay]
theorem lay_step {cs : List Value} {o : Nat} {v : Value} {r : List Value} (h : o < cs.length) : lay (cs.set o v) (o + 1) r = lay cs o (v :: r) := by
  unfold lay
  rw [List.take_set, List.take_succ_eq_append_getElem h, List.set_append_right _ _ (by simp; omega), List.drop_set_of_lt (by omega)]
  simp
  have : o - min o cs.length = 0 := by omega
  rw [this]
  simp [Nat.add_assoc, Nat.add_comm 1]
theorem heap_setCells {g : Nat} {e : TypeId} : ∀ (vs : List Value) (o : Nat) (w : World) (cur : Array Value), w.heap[g]? = some (.cells cur e (0, 0)) → o + vs.length ≤ cur.size → (w.setCells g o vs).heap[g]? = some (.cells (lay cur.toList o vs).toArray e (0, 0))
  | [], o, w, cur, hg, _ => by rw [World.setCells, hg, lay_nil]
  | v :: r, o, w, cur, hg, h => by
    simp at h
    have h1 := heap_setCell_same w g o cur e v hg
    rw [World.setCells, heap_setCells r (o + 1) _ _ h1 (by simp; omega)]
    rw [show (cur.setIfInBounds o v).toList = cur.toList.set o v from by simp, lay_step (by simp; omega)]
theorem Kp.setCells {S : Nat → Prop} {a : World} {g : Nat} (hp : S g ∨ a.heap.size ≤ g) : ∀ (vs : List Value) (o : Nat) {w : World}, Kp S a w → Kp S a (w.setCells g o vs)
  | [], _, _, h => h
  | v :: r, o, _, h => Kp.setCells hp r (o + 1) (h.setCell (p := ⟨g, o, none⟩) hp v)

section
variable {α : Type} {enc : α → List Value} {k : Nat} {w : World} {base : Nat} {e : TypeId} {n c : Nat} {l : List α} {g : Nat}
theorem OwnR.cur (h : OwnR enc k w base e (some ⟨g, 0, none⟩) n c l) : ∃ cur, base ≤ g ∧ w.heap[g]? = some (.cells cur e (0, 0)) ∧ n ≤ c ∧ c ≤ maxLen ∧ cur.size = c * k ∧ cur.toList.take (n * k) = l.flatMap enc ∧ (l.flatMap enc).length = n * k := by
  rcases h.lie with ⟨h1, _⟩ | ⟨g', cur, h1, h2⟩
  · cases h1
  · cases h1; exact ⟨cur, h2⟩
theorem OwnR.drewR {a : Option Addr} (h : OwnR enc k w base e a n c l) : OwnR enc k w.drew base e a n c l := h.non ((Kp.refl _ _).drew)
/-- Cells of such a row are written. -/
theorem OwnR.setCells (h : OwnR enc k w base e (some ⟨g, 0, none⟩) n c l) (o : Nat) (vs : List Value) (hfit : o + vs.length ≤ c * k) {n' : Nat} {l' : List α} (hn' : n' ≤ c) (hl' : (l'.flatMap enc).length = n' * k)
    (hc : ∀ cs : List Value, cs.length = c * k → cs.take (n * k) = l.flatMap enc → (lay cs o vs).take (n' * k) = l'.flatMap enc) : OwnR enc k (w.setCells g o vs) base e (some ⟨g, 0, none⟩) n' c l' := by
  obtain ⟨cur, hb, hg, hnc, hm, hs, ht, hl⟩ := h.cur
  refine OwnR.mk hb (heap_setCells vs o w cur hg (by omega)) hn' hm ?_ ?_ hl'
  · have := lay_len (cs := cur.toList) (o := o) (vs := vs) (by simp; omega)
    simp only [List.size_toArray, this]
    simpa using hs
  · exact hc cur.toList (by simpa using hs) ht
theorem OwnR.isSome (h : OwnR enc k w base e (some ⟨g, 0, none⟩) n c l) (j : Nat) (hj : j < c * k) : (w.cell? ⟨g, j, none⟩).isSome = true := by
  obtain ⟨cur, hb, hg, hnc, hm, hs, ht, hl⟩ := h.cur
  rw [cell_of_row w g j _ _ _ hg]
  simp
  omega
theorem OwnR.shape (h : OwnR enc k w base e (some ⟨g, 0, none⟩) n c l) : w.shape? g = some (e, c * k) := by
  obtain ⟨cur, hb, hg, hnc, hm, hs, ht, hl⟩ := h.cur
  simp [World.shape?, hg, hs]
theorem flat_take_len (enc : α → List Value) (k : Nat) (hk : ∀ x, (enc x).length = k) {l : List α} {i : Nat} (hi : i ≤ l.length) : ((l.take i).flatMap enc).length = i * k := by
  rw [flat_len enc k hk, List.length_take, Nat.min_eq_left hi]
theorem flat_setE (enc : α → List Value) (l : List α) (i : Nat) (x : α) (k : Nat) (hk : ∀ x, (enc x).length = k) (hi : i < l.length) : (l.set i x).flatMap enc = lay (l.flatMap enc) (i * k) (enc x) := by
  have e1 : l.set i x = l.take i ++ [x] ++ l.drop (i + 1) := by
    rw [List.set_eq_take_append_cons_drop, if_pos hi]; simp
  have e2 : l = l.take i ++ [l[i]] ++ l.drop (i + 1) := by
    rw [← List.take_succ_eq_append_getElem hi, List.take_append_drop]
  rw [e1]
  conv => rhs; rw [e2]
  simp only [List.flatMap_append, List.flatMap_cons, List.flatMap_nil, List.append_nil]
  unfold lay
  have hlen : ((l.take i).flatMap enc).length = i * k := flat_take_len enc k hk (by omega)
  rw [List.drop_left' (by rw [List.length_append, hlen, hk, hk]), List.append_assoc, List.append_assoc, List.append_assoc, List.take_left' hlen]
theorem take_lay {cs : List Value} {o m : Nat} {vs : List Value} (h : o + vs.length ≤ m) (hm : m ≤ cs.length) : (lay cs o vs).take m = lay (cs.take m) o vs := by
  have hA : (cs.take o ++ vs).length = o + vs.length := by rw [List.length_append, List.length_take]; omega
  unfold lay
  rw [List.take_append, List.take_of_length_le (by omega), List.take_take, Nat.min_eq_left (by omega), hA, List.drop_take, ]
/-- An element of such a row is written. -/
theorem OwnR.setElem (h : OwnR enc k w base e (some ⟨g, 0, none⟩) n c l) (hk : ∀ x, (enc x).length = k) (h0 : 0 < k) {i : Nat} (hi : i < l.length) (x : α) : OwnR enc k (w.setCells g (i * k) (enc x)) base e (some ⟨g, 0, none⟩) n c (l.set i x) := by
  have hl := h.len hk h0
  have hR := h.reads hk h0
  have hnc := hR.cap
  have h3 : i * k + k ≤ n * k := by
    have := Nat.mul_le_mul_right k (show i + 1 ≤ n by omega); rwa [Nat.add_mul, Nat.one_mul] at this
  have h4 : n * k ≤ c * k := Nat.mul_le_mul_right k hnc
  refine h.setCells _ _ (by rw [hk]; omega) hnc (by rw [flat_len enc k hk]; simp [hl]) fun cs hcs ht => ?_
  rw [take_lay (by rw [hk]; omega) (by omega), ht, flat_setE enc l i x k hk hi]
end
end
end Go.Proofs.Ytpehfnobgdjgcaa
