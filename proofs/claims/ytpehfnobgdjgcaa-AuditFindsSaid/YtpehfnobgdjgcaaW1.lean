/-
  What one client does alone: data.
-/
import Derived.Test.YtpehfnobgdjgcaaP1
namespace Go.Proofs.Ytpehfnobgdjgcaa

structure DoV where
  op : Int
  fr : Int
  tt : Int
  nn : Int
deriving Inhabited
def encDo (x : DoV) : List Value := [.int .i64 x.op, .int .i64 x.fr, .int .i64 x.tt, .int .i64 x.nn]
theorem encDo_len (x : DoV) : (encDo x).length = 4 := rfl
/-- What is executed of a deed. -/
def ranD (d : DeedV) : RanV := ⟨(0, d.sq), ⟨d.op, 1, d.sq, d.fr, d.to, d.da⟩, ⟨true, d.re⟩⟩
def txb (i b : Nat) : ByteArray := ⟨#[UInt8.ofNat i, UInt8.ofNat b, 122]⟩
/-- The puts of a block. -/
def putsD (ds : List DeedV) (b : Int) : List PutV := (ds.map ranD).filterMap (putM 1 b)
/-- What a block has behind all deeds. -/
def topD (ds : List DeedV) (b : Int) : ByteArray := textOf (putsD ds b) (putsD ds b).length
/-- A deed as it stands at place i. -/
structure AlD (n i : Nat) (d : DeedV) : Prop where
  cl : d.cl = 1
  sq : d.sq = i + 1
  be : d.be = 2 * i + 1
  en : d.en = 2 * i + 2
  op : 1 ≤ d.op ∧ d.op ≤ 4
  fr : 0 ≤ d.fr ∧ d.fr < d.to
  ub : d.to ≤ n
  da : d.op = 2 → d.da.l = (List.range (d.to - d.fr).toNat).map fun j => txb i (d.fr.toNat + j)
/-- What a read tells. -/
def AlR (ds : List DeedV) (d : DeedV) : Prop := d.op = 1 → d.re.l.length = (d.to - d.fr).toNat ∧ ∀ j : Nat, j < (d.to - d.fr).toNat → textAt d.re.l j = topD ds (d.fr + j)
structure Al (n : Nat) (ds : List DeedV) : Prop where
  deed : ∀ (i : Nat) d, ds[i]? = some d → AlD n i d
  read : ∀ (i : Nat) d, ds[i]? = some d → AlR (ds.take i) d
/-- The array. -/
def ArrOf (n : Nat) (A : List ByteArray) (ds : List DeedV) : Prop := A.length = n ∧ ∀ b : Nat, b < n → A[b]? = some (topD ds b)
def reAt (op : Int) (A : List ByteArray) (f m : Nat) : List ByteArray := if op = 1 then (List.range m).map fun j => textAt A (f + j) else []
def daAt (op : Int) (i f m : Nat) : List ByteArray := if op = 2 then (List.range m).map fun j => txb i (f + j) else []
def arrAt (op : Int) (i : Nat) (A : List ByteArray) (f : Nat) : Nat → List ByteArray
  | 0 => A
  | m + 1 => if op = 2 then (arrAt op i A f m).set (f + m) (txb i (f + m)) else if op = 3 then (arrAt op i A f m).set (f + m) ByteArray.empty else arrAt op i A f m
theorem arrAt_len (op : Int) (i : Nat) (A : List ByteArray) (f : Nat) : ∀ m, (arrAt op i A f m).length = A.length
  | 0 => rfl
  | m + 1 => by
    have ih := arrAt_len op i A f m
    unfold arrAt
    split
    · rw [List.length_set, ih]
    · split
      · rw [List.length_set, ih]
      · exact ih
theorem arrAt_same {op : Int} (h2 : op ≠ 2) (h3 : op ≠ 3) (i : Nat) (A : List ByteArray) (f : Nat) : ∀ m, arrAt op i A f m = A
  | 0 => rfl
  | m + 1 => by rw [arrAt, if_neg h2, if_neg h3, arrAt_same h2 h3 i A f m]
theorem arrAt_get (op : Int) (i : Nat) (A : List ByteArray) (f : Nat) (b : Nat) (hb : b < A.length) : ∀ m, (arrAt op i A f m)[b]? = if f ≤ b ∧ b < f + m then (if op = 2 then some (txb i b) else if op = 3 then some ByteArray.empty else A[b]?) else A[b]?
  | 0 => by rw [if_neg (by omega)]; rfl
  | m + 1 => by
    have ih := arrAt_get op i A f b hb m
    have hl := arrAt_len op i A f m
    by_cases h2 : op = 2
    · simp only [arrAt, if_pos h2] at ih ⊢
      rw [List.getElem?_set]
      by_cases e : f + m = b
      · subst e
        simp [hl, hb]
      · rw [if_neg e, ih]
        by_cases q : f ≤ b ∧ b < f + m
        · rw [if_pos q, if_pos (by omega)]
        · rw [if_neg q, if_neg (by omega)]
    · by_cases h3 : op = 3
      · simp only [arrAt, if_neg h2, if_pos h3] at ih ⊢
        rw [List.getElem?_set]
        by_cases e : f + m = b
        · subst e
          simp [hl, hb]
        · rw [if_neg e, ih]
          by_cases q : f ≤ b ∧ b < f + m
          · rw [if_pos q, if_pos (by omega)]
          · rw [if_neg q, if_neg (by omega)]
      · rw [arrAt_same h2 h3]
        simp [h2, h3]
theorem putsD_snoc (ds : List DeedV) (d : DeedV) (b : Int) : putsD (ds ++ [d]) b = putsD ds b ++ (putM 1 b (ranD d)).toList := by
  unfold putsD
  rw [List.map_append, List.filterMap_append]
  simp only [List.map_cons, List.map_nil, List.filterMap_cons, List.filterMap_nil]
  cases putM 1 b (ranD d) <;> rfl
/-- Does a deed put the block? -/
def putB (d : DeedV) (b : Int) : Bool := (decide (d.op = 2) || decide (d.op = 3)) && (decide (d.fr ≤ b) && decide (b < d.to))
theorem okPut_ran (d : DeedV) (b : Int) : okPut (ranD d) b = putB d b := by
  unfold okPut putB ranD
  by_cases h1 : d.op = 2 <;> by_cases h2 : d.op = 3 <;> by_cases h3 : d.fr ≤ b <;> by_cases h4 : b < d.to <;> simp [h1, h2, h3, h4] <;> omega
def putD (d : DeedV) (b : Int) : PutV := ⟨1, 1, d.sq, (0, d.sq), if d.op = 2 then textAt d.da.l (offN b d.fr) else ByteArray.empty⟩
theorem putM_ran (d : DeedV) (b : Int) : putM 1 b (ranD d) = if putB d b then some (putD d b) else none := by
  unfold putM
  rw [okPut_ran]
  rfl
theorem textOf_snoc (l : List PutV) (p : PutV) : textOf (l ++ [p]) (l ++ [p]).length = p.tx := by
  unfold textOf
  rw [if_neg (by simp)]
  simp
theorem topD_snoc (ds : List DeedV) (d : DeedV) (b : Int) : topD (ds ++ [d]) b = if putB d b then (putD d b).tx else topD ds b := by
  unfold topD
  rw [putsD_snoc, putM_ran]
  split
  · exact textOf_snoc _ _
  · simp
theorem offN_in {b f : Int} (h : f ≤ b) (hb : b - f < 1000000) : offN b f = (b - f).toNat := by
  unfold offN
  rw [Int.emod_eq_of_lt (by omega) (by omega)]
theorem Al.nil (n : Nat) : Al n [] := ⟨fun i d h => by simp at h, fun i d h => by simp at h⟩
theorem Al.snoc {n : Nat} {ds : List DeedV} {d : DeedV} (h : Al n ds) (hd : AlD n ds.length d) (hr : AlR ds d) : Al n (ds ++ [d]) := by
  have key : ∀ (i : Nat) x, (ds ++ [d])[i]? = some x → (i < ds.length ∧ ds[i]? = some x) ∨ (i = ds.length ∧ x = d) := fun i x hx => by
    by_cases hi : i < ds.length
    · rw [List.getElem?_append_left hi] at hx; exact .inl ⟨hi, hx⟩
    · rw [List.getElem?_append_right (by omega)] at hx
      have := (List.getElem?_eq_some_iff.1 hx).1
      simp at this
      obtain rfl : i = ds.length := by omega
      simp at hx
      exact .inr ⟨rfl, hx.symm⟩
  refine ⟨fun i x hx => ?_, fun i x hx => ?_⟩
  · rcases key i x hx with ⟨_, hx⟩ | ⟨rfl, rfl⟩
    · exact h.deed i x hx
    · exact hd
  · rcases key i x hx with ⟨hi, hx⟩ | ⟨rfl, rfl⟩
    · rw [List.take_append_of_le_length (by omega)]
      exact h.read i x hx
    · rw [List.take_append_of_le_length (Nat.le_refl _), List.take_of_length_le (Nat.le_refl _)]
      exact hr
/-- One deed more, and its array. -/
theorem Al.next {n : Nat} {ds : List DeedV} {A : List ByteArray} {op : Int} {f t : Nat} {x y : Tx} (h : Al n ds) (ha : ArrOf n A ds) (hop : 1 ≤ op ∧ op ≤ 4) (hf : f < t) (ht : t ≤ n) (hn : n ≤ 1000)
    (hx : x.l = daAt op ds.length f (t - f)) (hy : y.l = reAt op A f (t - f)) :
    Al n (ds ++ [⟨1, (ds.length : Int) + 1, op, f, t, x, 2 * (ds.length : Int) + 1, 2 * (ds.length : Int) + 2, y⟩]) ∧ ArrOf n (arrAt op ds.length A f (t - f)) (ds ++ [⟨1, (ds.length : Int) + 1, op, f, t, x, 2 * (ds.length : Int) + 1, 2 * (ds.length : Int) + 2, y⟩]) := by
  have e : ((t : Int) - (f : Int)).toNat = t - f := by omega
  refine ⟨h.snoc ⟨rfl, rfl, rfl, rfl, hop, ⟨by show (0 : Int) ≤ f; omega, by show (f : Int) < t; omega⟩, by show (t : Int) ≤ n; omega, fun h2 => ?_⟩ (fun h1 => ?_), ?_⟩
  · show x.l = (List.range ((t : Int) - (f : Int)).toNat).map _
    have h2 : op = 2 := h2
    rw [hx, e, daAt, if_pos h2]
    rfl
  · have h1 : op = 1 := h1
    show y.l.length = ((t : Int) - (f : Int)).toNat ∧ ∀ j : Nat, j < ((t : Int) - (f : Int)).toNat → textAt y.l j = topD ds ((f : Int) + j)
    rw [hy, e, reAt, if_pos h1]
    refine ⟨by simp, fun j hj => ?_⟩
    have hA := ha.2 (f + j) (by omega)
    rw [show ((f : Int) + (j : Int)) = ((f + j : Nat) : Int) by omega]
    have : ((List.range (t - f)).map fun j => textAt A (f + j))[j]? = some (textAt A (f + j)) := by simp [hj]
    rw [textAt, this]
    simp [textAt, hA]
  · refine ⟨by rw [arrAt_len, ha.1], fun b hb => ?_⟩
    rw [arrAt_get op ds.length A f b (by rw [ha.1]; exact hb), ha.2 b hb, topD_snoc]
    by_cases q : f ≤ b ∧ b < f + (t - f)
    · rw [if_pos q]
      by_cases h2 : op = 2
      · subst h2
        have hp : putB ⟨1, (ds.length : Int) + 1, 2, f, t, x, 2 * (ds.length : Int) + 1, 2 * (ds.length : Int) + 2, y⟩ b = true := by simp [putB]; omega
        rw [hp]
        have ho : offN (b : Int) (f : Int) = b - f := by rw [offN_in (by omega) (by omega)]; omega
        have hl : x.l[b - f]? = some (txb ds.length b) := by
          rw [hx, daAt, if_pos rfl]
          simp only [List.getElem?_map, List.getElem?_range (show b - f < t - f by omega), Option.map_some]
          rw [show f + (b - f) = b by omega]
        simp [putD, ho, textAt, hl]
      · by_cases h3 : op = 3
        · subst h3
          have hp : putB ⟨1, (ds.length : Int) + 1, 3, f, t, x, 2 * (ds.length : Int) + 1, 2 * (ds.length : Int) + 2, y⟩ b = true := by simp [putB]; omega
          rw [hp]
          simp [putD]
        · have hp : putB ⟨1, (ds.length : Int) + 1, op, f, t, x, 2 * (ds.length : Int) + 1, 2 * (ds.length : Int) + 2, y⟩ b = false := by simp [putB, h2, h3]
          rw [hp, if_neg h2, if_neg h3]
          rfl
    · rw [if_neg q]
      have hp : putB ⟨1, (ds.length : Int) + 1, op, f, t, x, 2 * (ds.length : Int) + 1, 2 * (ds.length : Int) + 2, y⟩ b = false := by
        have : ¬ ((f : Int) ≤ b ∧ (b : Int) < t) := by omega
        simp only [putB]
        rw [← Bool.decide_and, decide_eq_false this, Bool.and_false]
      rw [hp]
      rfl
end Go.Proofs.Ytpehfnobgdjgcaa
