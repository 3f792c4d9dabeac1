/-
  SpanCuts: the blocks of one row that another hasn't; what is handed in stays. For every input. (Printed by seq.py and sframe.py.)
-/
import Derived.Test.YtkgjpmgoapfamaaL0
namespace Go.Proofs.Ytkgjpmgoapfamaa
open Go.RowKit

set_option maxRecDepth 100000 in
set_option maxHeartbeats 1000000 in
theorem cuts_walk (aA : Option Addr) (nA cA : Nat) (lA : List Sp) (aB : Option Addr) (nB cB : Nat) (lB : List Sp) (w : World) (hA : Spans w aA nA cA lA) (hB : Spans w aB nB cB lB) : Calls Try.prog 4 #[.slice aA nA cA, .slice aB nB cB] w (BoolOut true w) := by
  go_enter Try.func4, Try.ntmps4
  go_wp2_with fail
  refine (lcut_calls aA nA cA lA w hA).mono ?_
  rintro e _ ⟨mA, rfl, rfl, hmA, hCA⟩
  obtain rfl := hCA.len
  generalize lA.take 60 = A at *
  clear hA
  have hA := hCA
  clear hCA
  go_wp2_with fail
  refine (own_calls aA A.length cA A w hA (by omega)).mono ?_
  rintro e w1 ⟨aP, cP, rfl, hOP, hk1⟩
  have hP := hOP.reads encS_len (by omega)
  have hB := hB.non hk1
  clear hA hOP
  go_wp2_with fail
  refine (lcut_calls aB nB cB lB w1 hB).mono ?_
  rintro e _ ⟨mB, rfl, rfl, hmB, hCB⟩
  obtain rfl := hCB.len
  generalize lB.take 60 = B at *
  clear hB
  have hB := hCB
  clear hCB
  go_wp2_with fail
  refine (own_calls aB B.length cB B w1 hB (by omega)).mono ?_
  rintro e w2 ⟨aQ, cQ, rfl, hOQ, hk2⟩
  have hQ := hOQ.reads encS_len (by omega)
  have hP := hP.non hk2
  have hk2 := hk1.trans hk2
  clear hB hk1 hOQ
  go_wp2_with fail
  refine (own_calls aP A.length cP A w2 hP (by omega)).mono ?_
  rintro e w3 ⟨aX, cX, rfl, hOX, hk3⟩
  have hX := hOX.reads encS_len (by omega)
  have hP := hP.non hk3
  have hQ := hQ.non hk3
  have hk3 := hk2.trans hk3
  clear hk2 hOX
  go_wp2_with fail
  refine (own_calls aQ B.length cQ B w3 hQ (by omega)).mono ?_
  rintro e w4 ⟨aY, cY, rfl, hOY, hk4⟩
  have hY := hOY.reads encS_len (by omega)
  have hP := hP.non hk4
  have hQ := hQ.non hk4
  have hX := hX.non hk4
  have hk4 := hk3.trans hk4
  clear hk3 hOY
  have hnm : A.length * (B.length + 1) ≤ 1000000000000 := Nat.le_trans (Nat.mul_le_mul (show A.length ≤ 100000 by omega) (show B.length + 1 ≤ 100001 by omega)) (by decide)
  go_wp2_with fail
  refine (cut_calls aP A.length cP A aQ B.length cQ B w4 hP hQ (by omega) (by omega) hnm).mono ?_
  rintro e w5 ⟨aR, cR, rfl, hOR, hk5⟩
  have hR := hOR.reads encS_len (by omega)
  have hP := hP.non hk5
  have hQ := hQ.non hk5
  have hX := hX.non hk5
  have hY := hY.non hk5
  have hk5 := hk4.trans hk5
  clear hk4 hOR
  clear hnm
  go_wp2_with fail
  refine (of_calls aP A.length cP A aQ B.length cQ B 2 w5 hP hQ (.inr (.inr rfl)) (by omega) (by omega)).mono ?_
  rintro e w6 ⟨aS, cS, rfl, hOS, hk6⟩
  rw [of_cut] at hOS ⊢
  have hS := hOS.reads encS_len (by omega)
  have hP := hP.non hk6
  have hQ := hQ.non hk6
  have hX := hX.non hk6
  have hY := hY.non hk6
  have hR := hR.non hk6
  have hk6 := hk5.trans hk6
  clear hk5 hOS
  have HS := Lib.hid (same_calls aR (cutN A B).length cR (cutN A B) aS (cutN A B).length cS (cutN A B) w6 hR hS)
  rw [decide_eq_true (rfl)] at HS
  go_wp2_with fail
  refine HS.out.mono ?_
  rintro e w7 ⟨rfl, hk7⟩
  have hP := hP.non hk7
  have hQ := hQ.non hk7
  have hX := hX.non hk7
  have hY := hY.non hk7
  have hk7 := hk6.trans hk7
  clear hR hS hk6 HS
  have HS := Lib.hid (same_calls aP A.length cP A aX A.length cX A w7 hP hX)
  rw [decide_eq_true (rfl)] at HS
  go_wp2_with fail
  refine HS.out.mono ?_
  rintro e w8 ⟨rfl, hk8⟩
  have hQ := hQ.non hk8
  have hY := hY.non hk8
  have hk8 := hk7.trans hk8
  clear hP hX hk7 HS
  have HS := Lib.hid (same_calls aQ B.length cQ B aY B.length cY B w8 hQ hY)
  rw [decide_eq_true (rfl)] at HS
  go_wp2_with fail
  refine HS.out.mono ?_
  rintro e w9 ⟨rfl, hk9⟩
  have hk9 := hk8.trans hk9
  clear hQ hY hk8 HS
  go_wp2_with fail
  refine (lives_true w9).mono ?_
  rintro e w10 ⟨rfl, hk10⟩
  have hk10 := hk9.trans hk10
  clear hk9
  go_wp2_with fail
  go_ret
  exact ⟨rfl, hk10⟩

open Go.ChangeShapes Go.WideShapes Go.ChangeAt
set_option maxRecDepth 100000 in
theorem span_cuts_lifted (os : Os) (started : os.Started) (H : Type) (enc : TypeId × Value → H) :
    ReturnsInHanded {} Try.checked os 4 .any (Rows.spanCutsSpec.pre6 enc Try.prog Try.f4 Rows.spanCutsRow.domain false) (Rows.spanCutsSpec.post enc Try.prog Try.f4 false true false false) := by
  refine returnsInHanded_of_change_sized (C := Try.checked) own started (by kernel_rfl) Try.func4
    (ChangeSpec.witness6 (enc := enc) (C := Try.checked) false ⟨#[], #[.slice none 0 0, .slice none 0 0], []⟩ 8 (by kernel_rfl) (by kernel_rfl) (by kernel_rfl) (by kernel_rfl)) ?_
  intro W base args ds gs before hval0 hW hcnd _ _
  have hval : ∀ (j : Nat) t v, Try.f4.params[j]? = some t → args[j]? = some v → Value.okWide Try.prog W .any base t v := hval0
  have hW' := hW
  obtain ⟨p, q, hA0, hV, rfl, hfz, hnd⟩ := hW
  have hA : DataW.TrodAll enc Try.prog W 0 (fun _ => true) true Try.f4.params.toList args.toList ds p := hA0
  rw [Try.params4] at hA hval
  obtain ⟨v0, vs0, d0, ds0, p0, q0, hargs, rfl, rfl, h0, r0⟩ := trodAll_cons hA
  obtain ⟨v1, vs1, d1, ds1, p1, q1, rfl, rfl, rfl, h1, r1⟩ := trodAll_cons r0
  obtain ⟨rfl, rfl, rfl⟩ := trodAll_nil r1
  obtain rfl : args = #[v0, v1] := by cases args; simp_all
  obtain ⟨rfl, rfl⟩ := trodVars_none hV
  have lt0 : ∀ x ∈ p0, x.block < W.heap.size := by obtain ⟨m, hm⟩ := h0; exact DataW.trod_lt m _ _ _ hm
  have k0 := h0
  obtain ⟨a0, n0, c0, rfl⟩ := okWide_slice Try.underlying22 (hval 0 22 v0 rfl rfl)
  obtain ⟨l0, b0, i0⟩ := spans_in h0
  have lt1 : ∀ x ∈ p1, x.block < W.heap.size := by obtain ⟨m, hm⟩ := h1; exact DataW.trod_lt m _ _ _ hm
  have k1 := h1
  obtain ⟨a1, n1, c1, rfl⟩ := okWide_slice Try.underlying22 (hval 1 22 v1 rfl rfl)
  obtain ⟨l1, b1, i1⟩ := spans_in h1
  clear hA0 hval0
  refine (cuts_walk a0 n0 c0 l0 a1 n1 c1 l1 W b0 b1).mono fun e W' ⟨he, hk⟩ => ?_
  have bel := hk.below
  subst he
  exact ⟨_, rfl, _, _, _, [], _, [], hW', trodAll_mk1 (shut_bool Try.underlying4 _), (trodAll_cons_mk (Below.trod laidOut (by kernel_rfl) (of_decide_eq_true (by kernel_rfl)) k0 bel lt0)
    (trodAll_cons_mk (Below.trod laidOut (by kernel_rfl) (of_decide_eq_true (by kernel_rfl)) k1 bel lt1)
    trodAll_mk0)), rfl, bel.frame _, fun h => by cases h⟩

theorem span_cuts : Rows.SpanCutsSaid :=
  OpenClaim.holds_of_wide 4 Try.f4 rfl rfl rfl rfl rfl rfl rfl ⟨rfl, rfl, rfl, rfl, rfl⟩ rfl rfl rfl rfl rfl (by kernel_rfl) Try.func4 (by kernel_rfl)
    (of_decide_eq_true (by kernel_rfl)) (by unfold Func.isWrapper; first | (rw [if_pos (by decide +kernel)]; kernel_rfl) | (rw [if_neg (by decide +kernel)]; exact ⟨rfl, rfl⟩))
    (fun os started H enc _ => span_cuts_lifted os started H enc)
#print axioms span_cuts
end Go.Proofs.Ytkgjpmgoapfamaa
