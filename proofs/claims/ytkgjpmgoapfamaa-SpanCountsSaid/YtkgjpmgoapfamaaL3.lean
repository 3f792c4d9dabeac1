/-
  Rows go together as sets do: the plain laws.
-/
import Derived.Test.YtkgjpmgoapfamaaL2
namespace Go.Proofs.Ytkgjpmgoapfamaa

theorem bothL_len (s t : Sp) : (bothL s t).length ≤ 1 := by
  unfold bothL
  split <;> simp
theorem meet_len : ∀ (a b : List Sp), (meet a b).length ≤ a.length + b.length
  | [], b => by simp [meet]
  | _ :: _, [] => by simp [meet]
  | s :: a, t :: b => by
    rw [meet]
    have h0 := bothL_len s t
    split
    · have h1 := meet_len a (t :: b)
      simp only [List.length_append, List.length_cons] at h1 ⊢
      omega
    · have h1 := meet_len (s :: a) b
      simp only [List.length_append, List.length_cons] at h1 ⊢
      omega
termination_by a b => a.length + b.length
theorem meetN_len (A B : List Sp) : (meetN A B).length ≤ A.length + B.length := by
  have h1 := meet_len (norm A) (norm B)
  have h2 := norm_len A
  have h3 := norm_len B
  unfold meetN
  omega
theorem joinN_len (A B : List Sp) : (joinN A B).length ≤ A.length + B.length := by
  have h1 := norm_len (A ++ B)
  rw [List.length_append] at h1
  exact h1
theorem cutN_le {A B : List Sp} {m n : Nat} (hA : A.length ≤ m) (hB : B.length ≤ n) : (cutN A B).length ≤ m * (n + 1) := by
  have h1 := cut_len (norm A) (norm B)
  have h2 := norm_len A
  have h3 := norm_len B
  exact Nat.le_trans h1 (Nat.mul_le_mul (by omega) (by omega))
theorem set_one (A B C : List Sp) : meetN A (joinN B C) = joinN (meetN A B) (meetN A C) :=
  plain_ext (meetN_plain _ _) (joinN_plain _ _) fun x => by simp only [meetN_in, joinN_in]; exact and_or_left
theorem set_two (A B C : List Sp) : cutN A (joinN B C) = cutN (cutN A B) C :=
  plain_ext (cutN_plain _ _) (cutN_plain _ _) fun x => by simp only [cutN_in, joinN_in, not_or, and_assoc]
theorem join_comm (A B : List Sp) : joinN A B = joinN B A :=
  plain_ext (joinN_plain _ _) (joinN_plain _ _) fun x => by simp only [joinN_in]; exact or_comm
theorem meet_comm (A B : List Sp) : meetN A B = meetN B A :=
  plain_ext (meetN_plain _ _) (meetN_plain _ _) fun x => by simp only [meetN_in]; exact and_comm
theorem set_three (A B : List Sp) : joinN (cutN A B) (meetN A B) = norm A :=
  plain_ext (joinN_plain _ _) (norm_plain _) fun x => by
    simp only [joinN_in, cutN_in, meetN_in, norm_in]
    by_cases h : mem B x <;> simp [h]
theorem norm_norm (A : List Sp) : norm (norm A) = norm A := plain_ext (norm_plain _) (norm_plain _) fun x => norm_in _ x
end Go.Proofs.Ytkgjpmgoapfamaa
