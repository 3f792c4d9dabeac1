/-
  What a loop over a Map must keep.
-/
import Derived.RangeFuncNested
import Derived.RangeFuncBound
import Derived.RangeFuncCalls
import Derived.RangeFuncLeaves
import Derived.RangeFuncBox
import Derived.Shelf.Abstract
import Derived.Shelf.RegionOpen
import Derived.WalkKit
import Derived.OwnWalkIn
import Derived.TacticsInMore
import Derived.LoopNIn
import Derived.LoopIn
import Derived.Test.YtdijaillcajpaaaRI
import Derived.Test.YtdijaillcajpaaaM3A

namespace Go.Proofs.Ytdijaillcajpaaa
open Go.RowKit Go.Shelf

theorem Kp.grow {w w' : World} (h : Kp Non w w') : w.grownBy w' none := ⟨h.os, h.tape, h.output, h.size, fun k hk _ => h.block k hk (fun f => f)⟩
theorem Kp.of_grow {w w' : World} (h : w.grownBy w' none) : Kp Non w w' := ⟨h.os, h.tape, h.output, h.size, fun k hk _ => h.block k hk (fun e => by cases e)⟩

/-- The blocks that a Map's block m points to, and itself. -/
def FP (m : Nat) (A : World) (k : Nat) : Prop := k = m ∨ ∃ i p n c, A.cell? ⟨m, i, none⟩ = some (.slice (some p) n c) ∧ p.block = k
/-- What a round of a loop over a Map keeps: every block of cells from lo on, but the Map's own. -/
structure KG (lo m : Nat) (A B : World) : Prop where
  size : A.heap.size ≤ B.heap.size
  keep : ∀ (k : Nat) (o : Obj), lo ≤ k → A.heap[k]? = some o → o.isCells = true → ¬ FP m A k → B.heap[k]? = some o
  foot : ∀ k, FP m B k → FP m A k ∨ A.heap.size ≤ k
theorem KG.trans {lo m : Nat} {A B C : World} (h : KG lo m A B) (k : KG lo m B C) : KG lo m A C := by
  refine ⟨Nat.le_trans h.size k.size, fun i o hi ho hc hn => ?_, fun i hi => ?_⟩
  · refine k.keep i o hi (h.keep i o hi ho hc hn) hc fun hf => ?_
    rcases h.foot i hf with h1 | h1
    · exact hn h1
    · have := (Array.getElem?_eq_some_iff.1 ho).1; omega
  · rcases k.foot i hi with h1 | h1
    · exact h.foot i h1
    · exact .inr (Nat.le_trans h.size h1)
theorem KG.putObj {lo m : Nat} {w : World} (hm : m < w.heap.size) (W : World) (l : Nat) (o o' : Obj) (hl : w.heap.size ≤ l) (h : W.heap[l]? = some o) (hc : o.isCells = false) (_ : o.isWalk = false) : KG lo m W (W.putObj l o') := by
  refine ⟨by simp, fun k ob _ hk hkc _ => ?_, fun k hk => ?_⟩
  · rw [World.putObj_heap_other]
    · exact hk
    · rintro rfl
      rw [h] at hk; cases hk
      rw [hc] at hkc; cases hkc
  · left
    rcases hk with rfl | ⟨i, p, n, c, hp, rfl⟩
    · exact .inl rfl
    · refine .inr ⟨i, p, n, c, ?_, rfl⟩
      have hne : m ≠ l := by omega
      rw [← hp]
      simp only [World.cell?, World.putObj_heap_other (Ne.symm hne.symm)]
theorem KG.refl (lo m : Nat) (A : World) : KG lo m A A := ⟨Nat.le_refl _, fun _ _ _ h _ _ => h, fun _ h => .inl h⟩
/-- A round that leaves the Map as it was. -/
theorem KG.of_kp {lo m : Nat} {S : Nat → Prop} {A B : World} (h : Kp S A B) (hm : m < A.heap.size) (hS : ∀ i, S i → i < lo ∧ i ≠ m) : KG lo m A B := by
  refine ⟨h.size, fun k o hk ho _ _ => ?_, fun k hk => ?_⟩
  · have := (Array.getElem?_eq_some_iff.1 ho).1
    rw [h.block k this (fun s => by have := (hS k s).1; omega)]
    exact ho
  · left
    rcases hk with rfl | ⟨i, p, n, c, hp, rfl⟩
    · exact .inl rfl
    · refine .inr ⟨i, p, n, c, ?_, rfl⟩
      have := h.block m hm (fun s => (hS m s).2 rfl)
      rw [← hp]
      simp only [World.cell?, this]
theorem KG.cell {lo m : Nat} {A B : World} (h : KG lo m A B) {p : Addr} {v : Value} (hl : lo ≤ p.block) (hn : ¬ FP m A p.block) (hc : A.cell? p = some v) : B.cell? p = some v := by
  unfold World.cell? at hc ⊢
  cases ho : A.heap[p.block]? with
  | none => rw [ho] at hc; simp at hc
  | some o =>
    have hk : o.isCells = true := by
      rw [ho] at hc
      cases o <;> simp_all [Obj.isCells]
    rw [h.keep _ o hl ho hk hn]
    rw [ho] at hc
    exact hc
section
variable {α : Type} {enc : α → List Value} {k : Nat} {w w' : World} {base : Nat} {e : TypeId} {a : Option Addr} {n c : Nat} {l : List α}
theorem OwnR.keeps (h : OwnR enc k w base e a n c l) (hk : ∀ g o, Blk a g → w.heap[g]? = some o → o.isCells = true → w'.heap[g]? = some o) : OwnR enc k w' base e a n c l := by
  rcases h.lie with ⟨rfl, rfl, rfl, hx⟩ | ⟨g, cur, rfl, hb, hg, hnc, hm, hs, ht, hlen⟩
  · exact ⟨by simp [hx], .inl ⟨rfl, rfl⟩⟩
  · exact OwnR.mk hb (hk g _ ⟨_, rfl, rfl⟩ hg rfl) hnc hm hs ht hlen
end
end Go.Proofs.Ytdijaillcajpaaa
