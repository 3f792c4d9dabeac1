/-
  Plain law: a span in pieces of so many blocks.
-/
import Derived.Test.YtkgjpmgoapfamaaA1
namespace Go.Proofs.Ytkgjpmgoapfamaa

/-- Where the pieces are cut. -/
def cp (s : Sp) (m : Int) (i : Nat) : Int := if s.1 + i * m < s.2 then s.1 + i * m else s.2
def pcs (s : Sp) (m : Int) (i : Nat) : List Sp := (List.range i).map fun j => (cp s m j, cp s m (j + 1))
/-- How many pieces there are. -/
def pn (s : Sp) (m : Int) : Nat := ((s.2 - s.1) / m + if (s.2 - s.1) % m = 0 then 0 else 1).toNat

theorem pcs_len (s : Sp) (m : Int) (i : Nat) : (pcs s m i).length = i := by simp [pcs]
theorem pcs_snoc (s : Sp) (m : Int) (i : Nat) : pcs s m (i + 1) = pcs s m i ++ [(cp s m i, cp s m (i + 1))] := by simp [pcs, List.range_succ]
theorem cp_zero {s : Sp} (h : s.1 < s.2) (m : Int) : cp s m 0 = s.1 := by simp [cp, h]
theorem cp_le (s : Sp) (m : Int) (i : Nat) : cp s m i ≤ s.2 := by unfold cp; split <;> omega
theorem pn_lt {s : Sp} {m : Int} (hm : 1 ≤ m) (hs : s.1 < s.2) {i : Nat} : s.1 + i * m < s.2 ↔ i < pn s m := by
  have e := Int.mul_ediv_add_emod (s.2 - s.1) m
  have h1 := Int.emod_nonneg (s.2 - s.1) (show m ≠ 0 by omega)
  have h2 := Int.emod_lt_of_pos (s.2 - s.1) (show 0 < m by omega)
  have h0 : 0 ≤ (s.2 - s.1) / m := Int.ediv_nonneg (by omega) (by omega)
  unfold pn
  generalize (s.2 - s.1) / m = q at *
  generalize (s.2 - s.1) % m = r at *
  constructor
  · intro h
    by_cases hr : r = 0
    · rw [if_pos hr]
      have : (i : Int) < q := by
        refine Int.lt_of_not_ge fun hge => ?_
        have := Int.mul_le_mul_of_nonneg_right hge (show 0 ≤ m by omega)
        rw [Int.mul_comm m q] at e
        omega
      omega
    · rw [if_neg hr]
      have : (i : Int) < q + 1 := by
        refine Int.lt_of_not_ge fun hge => ?_
        have := Int.mul_le_mul_of_nonneg_right hge (show 0 ≤ m by omega)
        rw [Int.add_mul, Int.one_mul] at this
        rw [Int.mul_comm m q] at e
        omega
      omega
  · intro h
    by_cases hr : r = 0
    · rw [if_pos hr] at h
      have : (i : Int) + 1 ≤ q := by omega
      have := Int.mul_le_mul_of_nonneg_right this (show 0 ≤ m by omega)
      rw [Int.add_mul, Int.one_mul] at this
      rw [Int.mul_comm m q] at e
      omega
    · rw [if_neg hr] at h
      have : (i : Int) ≤ q := by omega
      have := Int.mul_le_mul_of_nonneg_right this (show 0 ≤ m by omega)
      rw [Int.mul_comm m q] at e
      omega
theorem cp_in {s : Sp} {m : Int} (hm : 1 ≤ m) (hs : s.1 < s.2) {i : Nat} (h : i < pn s m) : cp s m i = s.1 + i * m := if_pos ((pn_lt hm hs).2 h)
theorem cp_end {s : Sp} {m : Int} (hm : 1 ≤ m) (hs : s.1 < s.2) {i : Nat} (h : pn s m ≤ i) : cp s m i = s.2 := if_neg fun q => by have := (pn_lt hm hs).1 q; omega
/-- The next cut. -/
theorem cp_step {s : Sp} {m : Int} (hm : 1 ≤ m) (hs : s.1 < s.2) {i : Nat} (h : i < pn s m) : cp s m (i + 1) = if m < s.2 - cp s m i then cp s m i + m else s.2 := by
  rw [cp_in hm hs h]
  unfold cp
  have e : ((i + 1 : Nat) : Int) * m = i * m + m := by rw [Int.natCast_add, Int.add_mul]; simp
  rw [e]
  by_cases hc : s.1 + (i * m + m) < s.2
  · rw [if_pos hc, if_pos (by omega)]; omega
  · rw [if_neg hc, if_neg (by omega)]
theorem cp_lt {s : Sp} {m : Int} (hm : 1 ≤ m) (hs : s.1 < s.2) {i : Nat} (h : i < pn s m) : cp s m i < s.2 ∧ s.1 ≤ cp s m i ∧ cp s m i < cp s m (i + 1) := by
  have h1 := (pn_lt hm hs).2 h
  have h2 : 0 ≤ (i : Int) * m := Int.mul_nonneg (by omega) (by omega)
  rw [cp_step hm hs h, cp_in hm hs h]
  refine ⟨h1, by omega, ?_⟩
  split <;> omega
end Go.Proofs.Ytkgjpmgoapfamaa
