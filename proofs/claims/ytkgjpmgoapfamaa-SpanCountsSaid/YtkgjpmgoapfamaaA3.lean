/-
  Plain law: how many blocks rows have together.
-/
import Derived.Test.YtkgjpmgoapfamaaA1
namespace Go.Proofs.Ytkgjpmgoapfamaa

/-- How many blocks a row's spans have, each for itself. -/
def size (L : List Sp) : Int := (L.map fun s => s.2 - s.1).sum
/-- Is a block in a row? -/
def inB (L : List Sp) (x : Int) : Bool := L.any fun s => decide (s.1 ≤ x) && decide (x < s.2)
theorem inB_iff (L : List Sp) (x : Int) : inB L x = true ↔ mem L x := by simp [inB, mem, Sin]
def cnt (L : List Sp) (lo : Int) (n : Nat) : Nat := (List.range n).countP fun (i : Nat) => inB L (lo + (i : Int))

theorem countP_iv (p q : Nat) (hpq : p ≤ q) : ∀ n, (List.range n).countP (fun i => decide (p ≤ i) && decide (i < q)) = min q n - min p n
  | 0 => by simp
  | n + 1 => by
    rw [List.range_succ, List.countP_append, countP_iv p q hpq n]
    by_cases h1 : p ≤ n
    · by_cases h2 : n < q
      · simp [h1, h2]; omega
      · simp [h1, h2]; omega
    · simp [h1]; omega
theorem countP_or {α : Type} (p q : α → Bool) (h : ∀ x, p x = true → q x = true → False) (l : List α) : l.countP (fun x => p x || q x) = l.countP p + l.countP q := by
  induction l with
  | nil => rfl
  | cons x r ih =>
    simp only [List.countP_cons, ih]
    have := h x
    cases hp : p x <;> cases hq : q x
    · simp
    · simp; omega
    · simp; omega
    · exact (this hp hq).elim
theorem countP_both {α : Type} (p q : α → Bool) (l : List α) : l.countP (fun x => p x || q x) + l.countP (fun x => p x && q x) = l.countP p + l.countP q := by
  induction l with
  | nil => rfl
  | cons x r ih =>
    simp only [List.countP_cons]
    cases p x <;> cases q x <;> simp <;> omega
theorem cnt_one {s : Sp} {lo : Int} {n : Nat} (h1 : lo ≤ s.1) (h2 : s.1 ≤ s.2) (h3 : s.2 ≤ lo + n) : (cnt [s] lo n : Int) = s.2 - s.1 := by
  have e : (fun (i : Nat) => inB [s] (lo + (i : Int))) = fun (i : Nat) => decide ((s.1 - lo).toNat ≤ i) && decide (i < (s.2 - lo).toNat) := by
    funext i
    simp only [inB, List.any_cons, List.any_nil, Bool.or_false]
    congr 1
    · rw [decide_eq_decide]; omega
    · rw [decide_eq_decide]; omega
  unfold cnt
  rw [e, countP_iv _ _ (by omega)]
  omega
theorem size_eq {L : List Sp} (hp : Plain L) {lo : Int} {n : Nat} (hb : ∀ x, mem L x → lo ≤ x ∧ x < lo + n) : size L = cnt L lo n := by
  induction L with
  | nil => simp [size, cnt, inB]
  | cons s r ih =>
    have hs := hp.lt s List.mem_cons_self
    have i1 := hb s.1 ((mem_cons _ _ _).2 (.inl ⟨Int.le_refl _, hs⟩))
    have i2 := hb (s.2 - 1) ((mem_cons _ _ _).2 (.inl ⟨by omega, by omega⟩))
    have e1 := cnt_one (s := s) (lo := lo) (n := n) i1.1 (by omega) (by omega)
    have e2 := ih hp.tail fun x hx => hb x ((mem_cons _ _ _).2 (.inr hx))
    have e3 : cnt (s :: r) lo n = cnt [s] lo n + cnt r lo n := by
      unfold cnt
      rw [← countP_or]
      · congr 1
        funext i
        simp [inB]
      · intro i h1 h2
        have m1 := (inB_iff _ _).1 h1
        have m2 := (inB_iff _ _).1 h2
        rw [mem_one] at m1
        have := hp.gt m2
        have := m1.2
        omega
    have e4 : size (s :: r) = (s.2 - s.1) + size r := by simp [size]
    rw [e4, e3, e2]
    omega
theorem cnt_cong {L M : List Sp} (h : ∀ x, mem L x ↔ mem M x) (lo : Int) (n : Nat) : cnt L lo n = cnt M lo n := by
  unfold cnt
  congr 1
  funext i
  rw [Bool.eq_iff_iff, inB_iff, inB_iff]
  exact h _
theorem size_join (A B : List Sp) {lo : Int} {n : Nat} (hA : ∀ x, mem A x → lo ≤ x ∧ x < lo + n) (hB : ∀ x, mem B x → lo ≤ x ∧ x < lo + n) :
    size (joinN A B) + size (meetN A B) = size (norm A) + size (norm B) := by
  have j : size (joinN A B) = cnt (joinN A B) lo n := size_eq (joinN_plain _ _) fun x hx => ((joinN_in _ _ _).1 hx).elim (hA x) (hB x)
  have m : size (meetN A B) = cnt (meetN A B) lo n := size_eq (meetN_plain _ _) fun x hx => hA x ((meetN_in _ _ _).1 hx).1
  have a : size (norm A) = cnt (norm A) lo n := size_eq (norm_plain _) fun x hx => hA x ((norm_in _ _).1 hx)
  have b : size (norm B) = cnt (norm B) lo n := size_eq (norm_plain _) fun x hx => hB x ((norm_in _ _).1 hx)
  have k := countP_both (fun (i : Nat) => inB (norm A) (lo + (i : Int))) (fun (i : Nat) => inB (norm B) (lo + (i : Int))) (List.range n)
  have k1 : cnt (joinN A B) lo n = (List.range n).countP (fun (i : Nat) => inB (norm A) (lo + (i : Int)) || inB (norm B) (lo + (i : Int))) := by
    unfold cnt
    congr 1
    funext i
    rw [Bool.eq_iff_iff, Bool.or_eq_true, inB_iff, inB_iff, inB_iff, joinN_in, norm_in, norm_in]
  have k2 : cnt (meetN A B) lo n = (List.range n).countP (fun (i : Nat) => inB (norm A) (lo + (i : Int)) && inB (norm B) (lo + (i : Int))) := by
    unfold cnt
    congr 1
    funext i
    rw [Bool.eq_iff_iff, Bool.and_eq_true, inB_iff, inB_iff, inB_iff, meetN_in, norm_in, norm_in]
  rw [← k1, ← k2] at k
  rw [j, m, a, b]
  have k : cnt (joinN A B) lo n + cnt (meetN A B) lo n = cnt (norm A) lo n + cnt (norm B) lo n := k
  omega
theorem size_cut (A B : List Sp) {lo : Int} {n : Nat} (hA : ∀ x, mem A x → lo ≤ x ∧ x < lo + n) : size (cutN A B) + size (meetN A B) = size (norm A) := by
  have j : size (cutN A B) = cnt (cutN A B) lo n := size_eq (cutN_plain _ _) fun x hx => hA x ((cutN_in _ _ _).1 hx).1
  have m : size (meetN A B) = cnt (meetN A B) lo n := size_eq (meetN_plain _ _) fun x hx => hA x ((meetN_in _ _ _).1 hx).1
  have a : size (norm A) = cnt (norm A) lo n := size_eq (norm_plain _) fun x hx => hA x ((norm_in _ _).1 hx)
  have k : cnt (norm A) lo n = cnt (cutN A B) lo n + cnt (meetN A B) lo n := by
    unfold cnt
    rw [← countP_or]
    · congr 1
      funext i
      rw [Bool.eq_iff_iff, Bool.or_eq_true, inB_iff, inB_iff, inB_iff, norm_in, cutN_in, meetN_in]
      by_cases h : mem B (lo + i) <;> simp [h]
    · intro i h1 h2
      rw [inB_iff, cutN_in] at h1
      rw [inB_iff, meetN_in] at h2
      exact h1.2 h2.2
  rw [j, m, a, k]
  omega
end Go.Proofs.Ytkgjpmgoapfamaa
