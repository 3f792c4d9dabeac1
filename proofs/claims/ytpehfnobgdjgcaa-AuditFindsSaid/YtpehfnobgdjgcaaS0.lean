/-
  Sorting by insertion: the lists.
-/
import Derived.Test.YtpehfnobgdjgcaaB0
namespace Go.Proofs.Ytpehfnobgdjgcaa
open Go.RowKit

theorem snocInd {α : Type} {M : List α → Prop} (h0 : M []) (h1 : ∀ l x, M l → M (l ++ [x])) (l : List α) : M l := by
  have : ∀ r : List α, M r.reverse := fun r => by
    induction r with
    | nil => exact h0
    | cons x r ih => rw [List.reverse_cons]; exact h1 _ _ ih
  have := this l.reverse
  rwa [List.reverse_reverse] at this

section
variable {α : Type} (lt : α → α → Bool)
/-- Where x goes, seen from j on to the left. -/
def cutT (S : List α) (x : α) : Nat → Nat
  | 0 => 0
  | j + 1 => match S[j]? with
    | some y => if lt x y then cutT S x j else j + 1
    | none => j + 1
def insS (x : α) (S : List α) : List α := S.take (cutT lt S x S.length) ++ x :: S.drop (cutT lt S x S.length)
/-- Sorted by insertion. -/
def sortS (l : List α) : List α := l.foldl (fun S x => insS lt x S) []
theorem cutT_le (S : List α) (x : α) : ∀ j, cutT lt S x j ≤ j
  | 0 => Nat.le_refl _
  | j + 1 => by
    have := cutT_le S x j
    unfold cutT
    split
    · split <;> omega
    · omega
theorem insS_len (x : α) (S : List α) : (insS lt x S).length = S.length + 1 := by
  have := cutT_le lt S x S.length
  simp [insS]
  omega
theorem sortS_nil : sortS lt ([] : List α) = [] := rfl
theorem sortS_snoc (l : List α) (x : α) : sortS lt (l ++ [x]) = insS lt x (sortS lt l) := by simp [sortS, List.foldl_append]
theorem sortS_len (l : List α) : (sortS lt l).length = l.length := by
  induction l using snocInd with
  | h0 => rfl
  | h1 l x ih => rw [sortS_snoc, insS_len, ih]; simp
theorem insS_perm (x : α) (S : List α) : (insS lt x S).Perm (x :: S) := by
  unfold insS
  refine List.perm_middle.trans (List.Perm.cons x ?_)
  rw [List.take_append_drop]
theorem sortS_perm (l : List α) : (sortS lt l).Perm l := by
  induction l using snocInd with
  | h0 => exact List.Perm.nil
  | h1 l x ih =>
    rw [sortS_snoc]
    exact (insS_perm lt x _).trans ((List.Perm.cons x ih).trans (List.perm_append_singleton x l).symm)
/-- The loop's step to the left. -/
theorem cutT_on {S : List α} {x : α} {j : Nat} (h : j < S.length) (hl : lt x S[j] = true) : cutT lt S x (j + 1) = cutT lt S x j := by simp [cutT, h, hl]
theorem cutT_off {S : List α} {x : α} {j : Nat} (h : j < S.length) (hl : lt x S[j] = false) : cutT lt S x (j + 1) = j + 1 := by simp [cutT, h, hl]

/-- x stands at place j of S, between P and R. -/
def arr (P S : List α) (x : α) (j : Nat) (R : List α) : List α := P ++ (S.take j ++ x :: S.drop j) ++ R
theorem arr_len (P S : List α) (x : α) {j : Nat} (h : j ≤ S.length) (R : List α) : (arr P S x j R).length = P.length + S.length + 1 + R.length := by simp [arr]; omega
theorem arr_split (P S : List α) (x : α) {j : Nat} (h : j < S.length) (R : List α) : arr P S x (j + 1) R = (P ++ S.take j) ++ (S[j] :: x :: (S.drop (j + 1) ++ R)) := by
  unfold arr
  rw [List.take_succ_eq_append_getElem h]
  simp only [List.append_assoc, List.cons_append, List.nil_append]
theorem arr_at (P S : List α) (x : α) {j : Nat} (h : j < S.length) (R : List α) : (arr P S x (j + 1) R)[P.length + j]? = some S[j] := by
  have hl : (P ++ S.take j).length = P.length + j := by simp; omega
  rw [arr_split P S x h R, List.getElem?_append_right (by omega), hl, Nat.sub_self]
  rfl
theorem arr_at1 (P S : List α) (x : α) {j : Nat} (h : j < S.length) (R : List α) : (arr P S x (j + 1) R)[P.length + j + 1]? = some x := by
  have hl : (P ++ S.take j).length = P.length + j := by simp; omega
  rw [arr_split P S x h R, List.getElem?_append_right (by omega), hl, show P.length + j + 1 - (P.length + j) = 1 by omega]
  rfl
theorem arr_swap (P S : List α) (x : α) {j : Nat} (h : j < S.length) (R : List α) : ((arr P S x (j + 1) R).set (P.length + j + 1) S[j]).set (P.length + j) x = arr P S x j R := by
  have hl : (P ++ S.take j).length = P.length + j := by simp; omega
  rw [arr_split P S x h R, List.set_append_right _ _ (by omega), List.set_append_right _ _ (by omega), hl, show P.length + j + 1 - (P.length + j) = 1 by omega, Nat.sub_self]
  have hd := List.drop_eq_getElem_cons h
  unfold arr
  simp only [List.set_cons_zero, List.set_cons_succ, hd, List.append_assoc, List.cons_append]
theorem arr_start (P B Q : List α) {i : Nat} (h : i < B.length) : P ++ sortS lt (B.take i) ++ B.drop i ++ Q = arr P (sortS lt (B.take i)) B[i] i (B.drop (i + 1) ++ Q) := by
  have hl : (sortS lt (B.take i)).length = i := by rw [sortS_len]; simp; omega
  have hd := List.drop_eq_getElem_cons h
  generalize sortS lt (B.take i) = S at *
  unfold arr
  rw [List.take_of_length_le (l := S) (by omega), List.drop_of_length_le (l := S) (by omega), hd]
  simp only [List.append_assoc, List.cons_append, List.nil_append]
theorem arr_end (P B Q : List α) {i : Nat} (h : i < B.length) {j : Nat} (hj : cutT lt (sortS lt (B.take i)) B[i] i = j) : arr P (sortS lt (B.take i)) B[i] j (B.drop (i + 1) ++ Q) = P ++ sortS lt (B.take (i + 1)) ++ B.drop (i + 1) ++ Q := by
  have hl : (sortS lt (B.take i)).length = i := by rw [sortS_len]; simp; omega
  rw [List.take_succ_eq_append_getElem h, sortS_snoc]
  unfold arr insS
  rw [hl, hj]
  simp
end
theorem OwnI.set1 {w : World} {base g n c : Nat} {l : List Int} (h : OwnI w base (some ⟨g, 0, none⟩) n c l) (i : Nat) (x : Int) : OwnI (w.setCell ⟨g, i, none⟩ (.int .i64 x)) base (some ⟨g, 0, none⟩) n c (l.set i x) :=
  OwnR.set h i (.int .i64 x) (by
    have : ∀ l : List Int, l.flatMap encI = l.map (Value.int .i64) := fun l => by induction l with | nil => rfl | cons y l ih => simp [encI] at ih ⊢; exact ih
    rw [this, this, List.map_set])
theorem OwnI.at_ {w : World} {base g n c : Nat} {l : List Int} (h : OwnI w base (some ⟨g, 0, none⟩) n c l) {i : Nat} {x : Int} (hx : l[i]? = some x) : w.cell? ⟨g, i, none⟩ = some (.int .i64 x) := by
  have := (h.reads encI_len (by omega)).get (i := 0) hx rfl
  rw [Nat.mul_one, Nat.add_zero, Nat.zero_add] at this
  exact this
end Go.Proofs.Ytpehfnobgdjgcaa
