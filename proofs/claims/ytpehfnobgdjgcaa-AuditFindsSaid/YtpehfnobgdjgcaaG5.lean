/-
  The same reply? The document's.
-/
import Derived.Test.YtpehfnobgdjgcaaG4
namespace Go.Proofs.Ytpehfnobgdjgcaa
open Go.RowKit

set_option maxRecDepth 100000 in
set_option maxHeartbeats 1000000 in
theorem sameReply_calls (x y : RepV) (w : World) (hx : x.da.there w) (hy : y.da.there w) : Calls Try.prog 36 #[valRep x, valRep y] w (BoolOut (sameR x y) w) := by
  show Calls Try.prog 36 #[.agg #[.bool x.ok, .slice x.da.a x.da.n x.da.c], .agg #[.bool y.ok, .slice y.da.a y.da.n y.da.c]] w _
  have HS : Hid (sameR x y = ((x.ok == y.ok) && decide (x.da.l = y.da.l))) := Lib.hid rfl
  have HC := Lib.hid (sameCmd_calls ⟨0, 0, 0, 0, 0, x.da⟩ ⟨0, 0, 0, 0, 0, y.da⟩)
  have HD : Hid (sameC ⟨0, 0, 0, 0, 0, x.da⟩ ⟨0, 0, 0, 0, 0, y.da⟩ = decide (x.da.l = y.da.l)) := Lib.hid (by simp [sameC])
  have HX := Lib.hid hx
  have HY := Lib.hid hy
  clear hx hy
  generalize sameC ⟨0, 0, 0, 0, 0, x.da⟩ ⟨0, 0, 0, 0, 0, y.da⟩ = d at *
  go_enter Try.func36, Try.ntmps36
  generalize e1 : (x.ok == y.ok) = p1 at HS ⊢
  rcases p1 with _ | _
  · have e2 : ¬ x.ok = y.ok := by simpa using e1
    have HK : Hid (∀ a b c, Kp Non w (((w.alloc a).alloc b).drewN c)) := Lib.hid fun a b c => (((Kp.refl _ w).alloc _).alloc _).drewN _
    go_wp2_with fail
    go_ret
    exact ⟨ret_bool (by rw [HS.out]; simp), ((Kp.refl _ w).alloc _).alloc _⟩
  · have e2 : x.ok = y.ok := by simpa using e1
    go_wp2_with fail
    refine (HC.out _ (HX.out.non (((Kp.refl _ w).alloc _).alloc _)) (HY.out.non (((Kp.refl _ w).alloc _).alloc _))).mono ?_
    rintro e w1 ⟨rfl, hk1⟩
    have hk1 := (((Kp.refl Non w).alloc _).alloc _).trans hk1
    go_wp2_with fail
    go_ret
    exact ⟨ret_bool (by rw [HS.out, HD.out]; simp), hk1⟩
end Go.Proofs.Ytpehfnobgdjgcaa
