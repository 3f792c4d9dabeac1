/-
  SpanJoins: the blocks of either of two rows. For every input. (Printed by seq.py and sframe.py.)
-/
import Derived.Test.YtkgjpmgoapfamaaL2
namespace Go.Proofs.Ytkgjpmgoapfamaa
open Go.RowKit

set_option maxRecDepth 100000 in
set_option maxHeartbeats 1000000 in
theorem joins_walk (aA : Option Addr) (nA cA : Nat) (lA : List Sp) (aB : Option Addr) (nB cB : Nat) (lB : List Sp) (w : World) (hA : Spans w aA nA cA lA) (hB : Spans w aB nB cB lB) : Calls Try.prog 13 #[.slice aA nA cA, .slice aB nB cB] w (BoolOut true w) := by
  go_enter Try.func13, Try.ntmps13
  go_wp2_with fail
  refine (lcut_calls aA nA cA lA w hA).mono ?_
  rintro e _ ⟨mA, rfl, rfl, hmA, hCA⟩
  obtain rfl := hCA.len
  generalize lA.take 60 = A at *
  clear hA
  have hA := hCA
  clear hCA
  go_wp2_with fail
  refine (lcut_calls aB nB cB lB w hB).mono ?_
  rintro e _ ⟨mB, rfl, rfl, hmB, hCB⟩
  obtain rfl := hCB.len
  generalize lB.take 60 = B at *
  clear hB
  have hB := hCB
  clear hCB
  go_wp2_with fail
  refine (join_calls aA A.length cA A aB B.length cB B w hA hB (by omega) (by omega)).mono ?_
  rintro e w1 ⟨aR, cR, rfl, hOR, hk1⟩
  have hR := hOR.reads encS_len (by omega)
  have hA := hA.non hk1
  have hB := hB.non hk1
  clear hOR
  go_wp2_with fail
  refine (of_calls aA A.length cA A aB B.length cB B 0 w1 hA hB (.inl rfl) (by omega) (by omega)).mono ?_
  rintro e w2 ⟨aS, cS, rfl, hOS, hk2⟩
  rw [of_join] at hOS ⊢
  have hS := hOS.reads encS_len (by omega)
  have hR := hR.non hk2
  have hk2 := hk1.trans hk2
  clear hA hB hk1 hOS
  have HS := Lib.hid (same_calls aR (joinN A B).length cR (joinN A B) aS (joinN A B).length cS (joinN A B) w2 hR hS)
  rw [decide_eq_true (rfl)] at HS
  go_wp2_with fail
  refine HS.out.mono ?_
  rintro e w3 ⟨rfl, hk3⟩
  have hk3 := hk2.trans hk3
  clear hR hS hk2 HS
  go_wp2_with fail
  refine (lives_true w3).mono ?_
  rintro e w4 ⟨rfl, hk4⟩
  have hk4 := hk3.trans hk4
  clear hk3
  go_wp2_with fail
  go_ret
  exact ⟨rfl, hk4⟩

open Go.ChangeShapes Go.WideShapes Go.ChangeAt
set_option maxRecDepth 100000 in
theorem span_joins_lifted (os : Os) (started : os.Started) (H : Type) (enc : TypeId × Value → H) :
    ReturnsInHanded {} Try.checked os 13 .any (Rows.spanJoinsSpec.pre6 enc Try.prog Try.f13 Rows.spanJoinsRow.domain false) (Rows.spanJoinsSpec.post enc Try.prog Try.f13 false true false false) := by
  refine returnsInHanded_of_change_sized (C := Try.checked) own started (by kernel_rfl) Try.func13
    (ChangeSpec.witness6 (enc := enc) (C := Try.checked) false ⟨#[], #[.slice none 0 0, .slice none 0 0], []⟩ 8 (by kernel_rfl) (by kernel_rfl) (by kernel_rfl) (by kernel_rfl)) ?_
  intro W base args ds gs before hval0 hW hcnd _ _
  have hval : ∀ (j : Nat) t v, Try.f13.params[j]? = some t → args[j]? = some v → Value.okWide Try.prog W .any base t v := hval0
  have hW' := hW
  obtain ⟨p, q, hA0, hV, rfl, hfz, hnd⟩ := hW
  have hA : DataW.TrodAll enc Try.prog W 0 (fun _ => true) true Try.f13.params.toList args.toList ds p := hA0
  rw [Try.params13] at hA hval
  obtain ⟨v0, vs0, d0, ds0, p0, q0, hargs, rfl, rfl, h0, r0⟩ := trodAll_cons hA
  obtain ⟨v1, vs1, d1, ds1, p1, q1, rfl, rfl, rfl, h1, r1⟩ := trodAll_cons r0
  obtain ⟨rfl, rfl, rfl⟩ := trodAll_nil r1
  obtain rfl : args = #[v0, v1] := by cases args; simp_all
  obtain ⟨rfl, rfl⟩ := trodVars_none hV
  have lt0 : ∀ x ∈ p0, x.block < W.heap.size := by obtain ⟨m, hm⟩ := h0; exact DataW.trod_lt m _ _ _ hm
  have k0 := h0
  obtain ⟨a0, n0, c0, rfl⟩ := okWide_slice Try.underlying22 (hval 0 22 v0 rfl rfl)
  obtain ⟨l0, b0, i0⟩ := spans_in h0
  have lt1 : ∀ x ∈ p1, x.block < W.heap.size := by obtain ⟨m, hm⟩ := h1; exact DataW.trod_lt m _ _ _ hm
  have k1 := h1
  obtain ⟨a1, n1, c1, rfl⟩ := okWide_slice Try.underlying22 (hval 1 22 v1 rfl rfl)
  obtain ⟨l1, b1, i1⟩ := spans_in h1
  clear hA0 hval0
  refine (joins_walk a0 n0 c0 l0 a1 n1 c1 l1 W b0 b1).mono fun e W' ⟨he, hk⟩ => ?_
  have bel := hk.below
  subst he
  exact ⟨_, rfl, _, _, _, [], _, [], hW', trodAll_mk1 (shut_bool Try.underlying4 _), (trodAll_cons_mk (Below.trod laidOut (by kernel_rfl) (of_decide_eq_true (by kernel_rfl)) k0 bel lt0)
    (trodAll_cons_mk (Below.trod laidOut (by kernel_rfl) (of_decide_eq_true (by kernel_rfl)) k1 bel lt1)
    trodAll_mk0)), rfl, bel.frame _, fun h => by cases h⟩

theorem span_joins : Rows.SpanJoinsSaid :=
  OpenClaim.holds_of_wide 13 Try.f13 rfl rfl rfl rfl rfl rfl rfl ⟨rfl, rfl, rfl, rfl, rfl⟩ rfl rfl rfl rfl rfl (by kernel_rfl) Try.func13 (by kernel_rfl)
    (of_decide_eq_true (by kernel_rfl)) (by unfold Func.isWrapper; first | (rw [if_pos (by decide +kernel)]; kernel_rfl) | (rw [if_neg (by decide +kernel)]; exact ⟨rfl, rfl⟩))
    (fun os started H enc _ => span_joins_lifted os started H enc)
#print axioms span_joins
end Go.Proofs.Ytkgjpmgoapfamaa
