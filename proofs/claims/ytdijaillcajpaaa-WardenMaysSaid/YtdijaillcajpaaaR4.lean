/-
  A region that draws its order, in any number of pieces.
-/
import Derived.Test.YtdijaillcajpaaaR3
namespace Go.Proofs.Ytdijaillcajpaaa
section
variable {P : Program} {Q : Exit → Act → World → Prop}

/-- Each piece: where it ends, what its operations are, what their reads look at. -/
def wpPieces (P : Program) (l : List Oper) (Q : Exit → Act → World → Prop) : List (Nat × List Nat × (World → Prop)) → Nat → Act → World → Prop
  | [], _, a, w => Q .normal a w
  | (b1, m, C) :: ps, b0, a, w => C w ∧ wpPure P l.toArray C (fun F => wpChain P l.toArray C (Then Q fun a2 w2 => wpPieces P l Q ps b1 a2 w2) ((l.take b1).drop b0) ((m.take b1).drop b0) F w) l m a
def piecesChk (ops : Array Oper) (tab : List Nat) : List (Nat × List Nat) → Nat → Bool
  | [], b0 => b0 == ops.size
  | (b1, m) :: ps, b0 => winChk ops tab m b0 b1 && piecesChk ops tab ps b1

theorem any_of_pieces {l : List Oper} : ∀ (ps : List (Nat × List Nat × (World → Prop))) (b0 : Nat), piecesChk l.toArray (ancTab l.toArray) (ps.map fun x => (x.1, x.2.1)) b0 = true →
    ∀ (fuel : Nat) (listed : Array Bool) (a : Act) (w : World), leftOf l.toArray listed ≤ fuel → listed.size = l.toArray.size → (∀ j, j < b0 → listed.getD j false = true) → (∀ j, b0 ≤ j → j < l.toArray.size → listed.getD j false = false) →
    wpPieces P l Q ps b0 a w → wpAny P .any l.toArray (NoPanic Q) fuel listed a w
  | [], b0, hc => by
    intro fuel listed a3 w3 hle hs hlow hhigh hq
    have hb : b0 = l.toArray.size := by simpa [piecesChk] using hc
    have hall : ∀ j, j < l.toArray.size → listed.getD j false = true := fun j hj => hlow j (by omega)
    cases fuel with
    | zero =>
      refine ⟨?_, hq⟩
      refine List.eq_nil_iff_forall_not_mem.2 fun j hj => ?_
      obtain ⟨hun, o, ho, _⟩ := mem_ready.1 hj
      have hjn := (Array.getElem?_eq_some_iff.1 ho).1
      rw [(getD_both' (by rw [hs]; exact hjn) true).2 (hall j hjn)] at hun
      cases hun
    | succ fuel =>
      refine ⟨fun _ => hq, fun j hj => ?_⟩
      obtain ⟨hun, o, ho, _⟩ := mem_ready.1 hj
      have hjn := (Array.getElem?_eq_some_iff.1 ho).1
      rw [(getD_both' (by rw [hs]; exact hjn) true).2 (hall j hjn)] at hun
      cases hun
  | (b1, m, C) :: ps, b0, hc => by
    intro fuel listed a2 w2 hle hs hlow hhigh ⟨hC2, h2'⟩
    simp only [List.map_cons, piecesChk, Bool.and_eq_true] at hc
    have hk2 := wchk_of hc.1
    obtain ⟨F2, f1, f2, f3, f4, f5⟩ := wpure_run hk2 l.toArray.size 0 a2 (by omega) (by simpa using h2') (fun j o _ hj _ => by omega)
    refine any_of_winv (Q := Q) (Q' := Then Q fun a2 w2 => wpPieces P l Q ps b1 a2 w2) (fun h => h) hk2 ?_ fuel listed a2 w2 b0 F2 hle ⟨hs, fun j hj d hd => ?_, hlow, fun j hj hj' => hhigh j ?_ hj', Nat.le_refl _, (fun j hj hj' => by omega), fun j hj hj' _ => hhigh j hj ?_, ?_, fun _ => hC2, f2, f3,
      fun t ht => f4 t fun j o hj _ hmj => ht j o hj hmj (hhigh j (hk2.out j (Array.getElem?_eq_some_iff.1 hj).1 hmj).1 (Array.getElem?_eq_some_iff.1 hj).1), fun j o hj hmj _ => f5 j o hj hmj⟩
    · intro fuel listed a3 w3 hle hs hlow hhigh hq
      exact any_of_pieces ps b1 hc.2 fuel listed a3 w3 hle hs hlow hhigh hq
    · have hjn : j < l.toArray.size := by
        rcases Nat.lt_or_ge j l.toArray.size with h' | h'
        · exact h'
        · rw [Array.getD_eq_getD_getElem?, Array.getElem?_eq_none (by omega)] at hj; cases hj
      have hjb : j < b0 := by
        rcases Nat.lt_or_ge j b0 with h' | h'
        · exact h'
        · rw [hhigh j h' hjn] at hj; cases hj
      exact hlow d (by have := hk2.back j hjn d hd; omega)
    · have := hk2.low
      omega
    · have := hk2.top
      omega
    · simpa using f1

/-- A REGION THAT DRAWS ITS ORDER, IN PIECES. -/
theorem wp_region_pieces {id : Nat} {l : List Oper} {a : Act} {w : World} (ps : List (Nat × List Nat × (World → Prop))) (hm : P.follows .mixedOrders = true) (hc : piecesChk l.toArray (ancTab l.toArray) (ps.map fun x => (x.1, x.2.1)) 0 = true)
    (h : wpPieces P l Q ps 0 a w.drew) : (Code.region id l.toArray true).wp P Q a w := by
  have hz : ∀ j, (Array.replicate l.toArray.size false).getD j false = false := fun j => by
    simp only [Array.getD_eq_getD_getElem?, Array.getElem?_replicate]
    split <;> rfl
  refine wp_region_noPanic (wp_region_any hm ?_)
  refine any_of_pieces ps 0 hc l.toArray.size (Array.replicate l.toArray.size false) a w.drew ?_ (by simp) (fun j hj => by omega) (fun j _ _ => hz j) h
  unfold leftOf
  have := List.countP_le_length (p := fun i => !(Array.replicate l.toArray.size false).getD i true) (l := List.range l.toArray.size)
  simpa using this
end
end Go.Proofs.Ytdijaillcajpaaa
