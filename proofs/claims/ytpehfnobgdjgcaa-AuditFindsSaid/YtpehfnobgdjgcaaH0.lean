/-
  What Check says: data.
-/
import Derived.Test.YtpehfnobgdjgcaaG28
namespace Go.Proofs.Ytpehfnobgdjgcaa
open Go.RowKit

def linB (ds : List DeedV) (p : List LifeV) (block : Int) : Bool := match histL p block with | some all => (placesB ds (effL all) block).isSome | none => false
theorem effL_len (l : List PutV) : (effL l).length ≤ l.length := effT_len l l.length
theorem histL_len {p : List LifeV} {block : Int} {all : List PutV} (h : histL p block = some all) (hp : p.length ≤ 12) (hlog : ∀ y ∈ p, y.log.l.length ≤ 1000) : all.length ≤ 12000 := by
  unfold histL at h
  split at h
  · cases h
    have hb : ∀ id, (bestOf (rowsOf p id block)).length ≤ 1000 := fun id => by
      rcases bestOf_mem (rowsOf p id block) with h | h
      · rw [h]; simp
      · exact rowsOf_len hlog id block _ h
    have : ∀ ids : List Int, (ids.flatMap fun id => bestOf (rowsOf p id block)).length ≤ ids.length * 1000 := fun ids => by
      induction ids with
      | nil => simp
      | cons x ids ih =>
        have := hb x
        rw [List.flatMap_cons, List.length_append, List.length_cons]
        omega
    have h1 := this (idsL p)
    have h2 := idsL_len p
    omega
  · cases h

/-- A read that is done and tells too little. -/
def badB (d : DeedV) : Bool := decide (0 < d.en) && (decide (d.op = 1) && (decide (d.to < d.fr) || !decide (d.re.l.length = offN d.to d.fr)))
/-- Do all lives of a shard agree? -/
def livesB (p : List LifeV) : Bool := (List.range p.length).all fun i => match p[i]? with | some x => (p.take i).all fun y => !decide (x.sh = y.sh) || agreeB x.log.l y.log.l | none => true
/-- The first block below n that isn't linear. -/
def firstT (ds : List DeedV) (p : List LifeV) : Nat → Option Nat
  | 0 => none
  | k + 1 => match firstT ds p k with
    | some b => some b
    | none => if linB ds p k then none else some k
def checkN (n : Int) : Nat := (if 256 < n then 256 else n).toNat
def checkB (n : Int) (ds : List DeedV) (p : List LifeV) : Int × Bool :=
  if ds.any badB then (-2, false) else if livesB p then (match firstT ds p (checkN n) with | some b => ((b : Int), false) | none => (0, true)) else (-1, false)
end Go.Proofs.Ytpehfnobgdjgcaa
