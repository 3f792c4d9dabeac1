/-
  The judge: the text behind so many puts, the least place that a read may have.
-/
import Derived.Test.YtpehfnobgdjgcaaG22
namespace Go.Proofs.Ytpehfnobgdjgcaa
open Go.RowKit

def textOf (l : List PutV) (n : Nat) : ByteArray := if n = 0 then ByteArray.empty else ((l[n - 1]?).map PutV.tx).getD ByteArray.empty
def lowT (ys : List DeedV) (d : DeedV) : Nat → Nat
  | 0 => 0
  | k + 1 => match ys[k]? with
    | some x => if aheadB x d then k + 1 else lowT ys d k
    | none => lowT ys d k
/-- Does a deed hold a read back? -/
def holdsB (x d : DeedV) (block : Int) : Bool := decide (x.op = 1) && aheadB x d && (decide (x.fr ≤ block) && decide (block < x.to))
def lowU (ds : List DeedV) (at_ : List Int) (block : Int) (d : DeedV) (n0 : Int) : Nat → Int
  | 0 => n0
  | k + 1 => match ds[k]? with
    | some x => if holdsB x d block then max (lowU ds at_ block d n0 k) (at_.getD k 0) else lowU ds at_ block d n0 k
    | none => lowU ds at_ block d n0 k
def lowB (ys ds : List DeedV) (at_ : List Int) (block : Int) (d : DeedV) : Int := lowU ds at_ block d (lowT ys d ys.length) ds.length
theorem lowT_le (ys : List DeedV) (d : DeedV) : ∀ k, lowT ys d k ≤ k
  | 0 => Nat.le_refl _
  | k + 1 => by
    have := lowT_le ys d k
    unfold lowT
    split
    · split <;> omega
    · omega
theorem lowU_in {ds : List DeedV} {at_ : List Int} {block : Int} {d : DeedV} {n0 : Int} {N : Nat} (h0 : 0 ≤ n0 ∧ n0 ≤ N) (ha : ∀ z ∈ at_, 0 ≤ z ∧ z ≤ N) : ∀ k, 0 ≤ lowU ds at_ block d n0 k ∧ lowU ds at_ block d n0 k ≤ N
  | 0 => h0
  | k + 1 => by
    have ih := lowU_in h0 ha k (ds := ds) (block := block) (d := d)
    have hz : 0 ≤ at_.getD k 0 ∧ at_.getD k 0 ≤ N := by
      rw [List.getD]
      cases h : at_[k]? with
      | none => simp
      | some z => exact ha z (List.mem_of_getElem? h)
    unfold lowU
    split
    · split
      · omega
      · exact ih
    · exact ih

/-- The judge and what it points to. -/
structure JW (W : World) (bj : Nat) (block : Int) (la : Option Addr) (lc : Nat) (l : List PutV) (ya : Option Addr) (yc : Nat) (ys : List DeedV) (da : Option Addr) (dc : Nat) (ds : List DeedV) (aa : Option Addr) (ac : Nat) (at_ : List Int) : Prop where
  box : BxJ W bj block (.slice la l.length lc) (.slice ya ys.length yc) (.slice da ds.length dc) (.slice aa at_.length ac)
  ls : Puts_ W la l.length lc l
  ys : Reads encDeed 9 W ya ys.length yc ys
  ds : Deeds W da ds.length dc ds
  at_ : Ints W aa at_.length ac at_
section
variable {W W' : World} {bj : Nat} {block : Int} {la : Option Addr} {lc : Nat} {l : List PutV} {ya : Option Addr} {yc : Nat} {ys : List DeedV} {da : Option Addr} {dc : Nat} {ds : List DeedV} {aa : Option Addr} {ac : Nat} {at_ : List Int}
theorem JW.non (h : JW W bj block la lc l ya yc ys da dc ds aa ac at_) (k : Kp Non W W') : JW W' bj block la lc l ya yc ys da dc ds aa ac at_ := ⟨Bx.non h.box k, h.ls.non k, h.ys.non k, h.ds.non k, h.at_.non k⟩

set_option maxRecDepth 100000 in
set_option maxHeartbeats 1000000 in
theorem jtext_calls (h : JW W bj block la lc l ya yc ys da dc ds aa ac at_) (n : Nat) (hn : n ≤ l.length) : Calls Try.prog 57 #[.pointer (some ⟨bj, 0, none⟩), .int .i64 n] W (ValOut (.string (textOf l n)) W) := by
  obtain ⟨j0, j1, j2, j3, j4⟩ := BxJ.cells h.box
  have hl := h.ls
  have hcl := hl.cap
  have hml := hl.max
  by_cases h0 : n = 0
  · subst h0
    have e0 : (((0 : Nat) : Int) == 0) = true := by simp
    have HT : Hid (textOf l 0 = ⟨#[]⟩) := Lib.hid rfl
    go_enter Try.func57, Try.ntmps57
    go_wp2_with fail
    go_ret
    exact ⟨by rw [HT.out]; rfl, Kp.refl _ _⟩
  · obtain ⟨m, rfl⟩ : ∃ m, n = m + 1 := ⟨n - 1, by omega⟩
    have hm : m < l.length := by omega
    have gm : (m : Int) < (l.length : Nat) := by omega
    have e0 : (((m + 1 : Nat) : Int) == 0) = false := by simp; omega
    obtain ⟨lb, lo, rfl⟩ := hl.there (by omega)
    have c5 := (Puts_.cells hl hm).2.2.2.2.2
    have HT : Hid (textOf l (m + 1) = l[m].tx) := Lib.hid (by simp [textOf, List.getElem?_eq_getElem hm])
    generalize l[m].tx = s at *
    have hwm : wrap64 (((m + 1 : Nat) : Int) - 1) = m := by unfold wrap64; omega
    have hwn : IntKind.i64.wrap (m : Int) = m := IntWalk.i64_in _ (by omega)
    clear h0 hn
    go_enter Try.func57, Try.ntmps57
    go_wp2_with fail
    go_ret
    exact ⟨by rw [HT.out]; rfl, Kp.refl _ _⟩
end
end Go.Proofs.Ytpehfnobgdjgcaa
