/-
  SpanSets: rows that are joined, met and cut go together as sets do. For every input. (Printed by seq.py and sframe.py.)
-/
import Derived.Test.YtkgjpmgoapfamaaL3
namespace Go.Proofs.Ytkgjpmgoapfamaa
open Go.RowKit

set_option maxRecDepth 100000 in
set_option maxHeartbeats 1000000 in
theorem sets_walk (aA : Option Addr) (nA cA : Nat) (lA : List Sp) (aB : Option Addr) (nB cB : Nat) (lB : List Sp) (aC : Option Addr) (nC cC : Nat) (lC : List Sp) (w : World) (hA : Spans w aA nA cA lA) (hB : Spans w aB nB cB lB) (hC : Spans w aC nC cC lC) : Calls Try.prog 14 #[.slice aA nA cA, .slice aB nB cB, .slice aC nC cC] w (BoolOut true w) := by
  go_enter Try.func14, Try.ntmps14
  go_wp2_with fail
  refine (lcut_calls aA nA cA lA w hA).mono ?_
  rintro e _ ⟨mA, rfl, rfl, hmA, hCA⟩
  obtain rfl := hCA.len
  generalize lA.take 60 = A at *
  clear hA
  have hA := hCA
  clear hCA
  go_wp2_with fail
  refine (lcut_calls aB nB cB lB w hB).mono ?_
  rintro e _ ⟨mB, rfl, rfl, hmB, hCB⟩
  obtain rfl := hCB.len
  generalize lB.take 60 = B at *
  clear hB
  have hB := hCB
  clear hCB
  go_wp2_with fail
  refine (lcut_calls aC nC cC lC w hC).mono ?_
  rintro e _ ⟨mC, rfl, rfl, hmC, hCC⟩
  obtain rfl := hCC.len
  generalize lC.take 60 = C at *
  clear hC
  have hC := hCC
  clear hCC
  go_wp2_with fail
  refine (join_calls aB B.length cB B aC C.length cC C w hB hC (by omega) (by omega)).mono ?_
  rintro e w1 ⟨aJ, cJ, rfl, hOJ, hk1⟩
  have hJ := hOJ.reads encS_len (by omega)
  have hA := hA.non hk1
  have hB := hB.non hk1
  have hC := hC.non hk1
  clear hOJ
  have hlJ : (joinN B C).length ≤ 100000 := (Nat.le_trans (joinN_len B C) (by omega))
  go_wp2_with fail
  refine (meet_calls aA A.length cA A aJ (joinN B C).length cJ (joinN B C) w1 hA hJ (by omega) (by omega)).mono ?_
  rintro e w2 ⟨aOne, cOne, rfl, hOOne, hk2⟩
  have hOne := hOOne.reads encS_len (by omega)
  have hA := hA.non hk2
  have hB := hB.non hk2
  have hC := hC.non hk2
  have hk2 := hk1.trans hk2
  clear hJ hk1 hOOne
  go_wp2_with fail
  refine (meet_calls aA A.length cA A aB B.length cB B w2 hA hB (by omega) (by omega)).mono ?_
  rintro e w3 ⟨aM1, cM1, rfl, hOM1, hk3⟩
  have hM1 := hOM1.reads encS_len (by omega)
  have hA := hA.non hk3
  have hB := hB.non hk3
  have hC := hC.non hk3
  have hOne := hOne.non hk3
  have hk3 := hk2.trans hk3
  clear hk2 hOM1
  have hlM1 : (meetN A B).length ≤ 100000 := (Nat.le_trans (meetN_len A B) (by omega))
  go_wp2_with fail
  refine (meet_calls aA A.length cA A aC C.length cC C w3 hA hC (by omega) (by omega)).mono ?_
  rintro e w4 ⟨aM2, cM2, rfl, hOM2, hk4⟩
  have hM2 := hOM2.reads encS_len (by omega)
  have hA := hA.non hk4
  have hB := hB.non hk4
  have hC := hC.non hk4
  have hOne := hOne.non hk4
  have hM1 := hM1.non hk4
  have hk4 := hk3.trans hk4
  clear hk3 hOM2
  have hlM2 : (meetN A C).length ≤ 100000 := (Nat.le_trans (meetN_len A C) (by omega))
  go_wp2_with fail
  refine (join_calls aM1 (meetN A B).length cM1 (meetN A B) aM2 (meetN A C).length cM2 (meetN A C) w4 hM1 hM2 (by omega) (by omega)).mono ?_
  rintro e w5 ⟨aTwo, cTwo, rfl, hOTwo, hk5⟩
  have hTwo := hOTwo.reads encS_len (by omega)
  have hA := hA.non hk5
  have hB := hB.non hk5
  have hC := hC.non hk5
  have hOne := hOne.non hk5
  have hk5 := hk4.trans hk5
  clear hM1 hM2 hk4 hOTwo
  go_wp2_with fail
  refine (join_calls aB B.length cB B aC C.length cC C w5 hB hC (by omega) (by omega)).mono ?_
  rintro e w6 ⟨aJ2, cJ2, rfl, hOJ2, hk6⟩
  have hJ2 := hOJ2.reads encS_len (by omega)
  have hA := hA.non hk6
  have hB := hB.non hk6
  have hC := hC.non hk6
  have hOne := hOne.non hk6
  have hTwo := hTwo.non hk6
  have hk6 := hk5.trans hk6
  clear hk5 hOJ2
  have hnm : A.length * ((joinN B C).length + 1) ≤ 1000000000000 := Nat.le_trans (Nat.mul_le_mul (show A.length ≤ 100000 by omega) (show (joinN B C).length + 1 ≤ 100001 by omega)) (by decide)
  go_wp2_with fail
  refine (cut_calls aA A.length cA A aJ2 (joinN B C).length cJ2 (joinN B C) w6 hA hJ2 (by omega) (by omega) hnm).mono ?_
  rintro e w7 ⟨aThree, cThree, rfl, hOThree, hk7⟩
  have hThree := hOThree.reads encS_len (by omega)
  have hA := hA.non hk7
  have hB := hB.non hk7
  have hC := hC.non hk7
  have hOne := hOne.non hk7
  have hTwo := hTwo.non hk7
  have hk7 := hk6.trans hk7
  clear hJ2 hk6 hOThree
  clear hnm
  have hnm : A.length * (B.length + 1) ≤ 1000000000000 := Nat.le_trans (Nat.mul_le_mul (show A.length ≤ 100000 by omega) (show B.length + 1 ≤ 100001 by omega)) (by decide)
  go_wp2_with fail
  refine (cut_calls aA A.length cA A aB B.length cB B w7 hA hB (by omega) (by omega) hnm).mono ?_
  rintro e w8 ⟨aK, cK, rfl, hOK, hk8⟩
  have hK := hOK.reads encS_len (by omega)
  have hA := hA.non hk8
  have hB := hB.non hk8
  have hC := hC.non hk8
  have hOne := hOne.non hk8
  have hTwo := hTwo.non hk8
  have hThree := hThree.non hk8
  have hk8 := hk7.trans hk8
  clear hk7 hOK
  clear hnm
  have hlK : (cutN A B).length ≤ 100000 := (Nat.le_trans (cutN_le (show A.length ≤ 60 by omega) (show B.length ≤ 60 by omega)) (by decide))
  have hnm : (cutN A B).length * (C.length + 1) ≤ 1000000000000 := Nat.le_trans (Nat.mul_le_mul (show (cutN A B).length ≤ 100000 by omega) (show C.length + 1 ≤ 100001 by omega)) (by decide)
  go_wp2_with fail
  refine (cut_calls aK (cutN A B).length cK (cutN A B) aC C.length cC C w8 hK hC (by omega) (by omega) hnm).mono ?_
  rintro e w9 ⟨aFour, cFour, rfl, hOFour, hk9⟩
  have hFour := hOFour.reads encS_len (by omega)
  have hA := hA.non hk9
  have hB := hB.non hk9
  have hOne := hOne.non hk9
  have hTwo := hTwo.non hk9
  have hThree := hThree.non hk9
  have hk9 := hk8.trans hk9
  clear hC hK hk8 hOFour
  clear hnm
  have HS := Lib.hid (same_calls aOne (meetN A (joinN B C)).length cOne (meetN A (joinN B C)) aTwo (joinN (meetN A B) (meetN A C)).length cTwo (joinN (meetN A B) (meetN A C)) w9 hOne hTwo)
  rw [decide_eq_true (set_one A B C)] at HS
  go_wp2_with fail
  refine HS.out.mono ?_
  rintro e w10 ⟨rfl, hk10⟩
  have hA := hA.non hk10
  have hB := hB.non hk10
  have hThree := hThree.non hk10
  have hFour := hFour.non hk10
  have hk10 := hk9.trans hk10
  clear hOne hTwo hk9 HS
  have HS := Lib.hid (same_calls aThree (cutN A (joinN B C)).length cThree (cutN A (joinN B C)) aFour (cutN (cutN A B) C).length cFour (cutN (cutN A B) C) w10 hThree hFour)
  rw [decide_eq_true (set_two A B C)] at HS
  go_wp2_with fail
  refine HS.out.mono ?_
  rintro e w11 ⟨rfl, hk11⟩
  have hA := hA.non hk11
  have hB := hB.non hk11
  have hk11 := hk10.trans hk11
  clear hThree hFour hk10 HS
  go_wp2_with fail
  refine (join_calls aA A.length cA A aB B.length cB B w11 hA hB (by omega) (by omega)).mono ?_
  rintro e w12 ⟨aX, cX, rfl, hOX, hk12⟩
  have hX := hOX.reads encS_len (by omega)
  have hA := hA.non hk12
  have hB := hB.non hk12
  have hk12 := hk11.trans hk12
  clear hk11 hOX
  go_wp2_with fail
  refine (join_calls aB B.length cB B aA A.length cA A w12 hB hA (by omega) (by omega)).mono ?_
  rintro e w13 ⟨aY, cY, rfl, hOY, hk13⟩
  have hY := hOY.reads encS_len (by omega)
  have hA := hA.non hk13
  have hB := hB.non hk13
  have hX := hX.non hk13
  have hk13 := hk12.trans hk13
  clear hk12 hOY
  have HS := Lib.hid (same_calls aX (joinN A B).length cX (joinN A B) aY (joinN B A).length cY (joinN B A) w13 hX hY)
  rw [decide_eq_true (join_comm A B)] at HS
  go_wp2_with fail
  refine HS.out.mono ?_
  rintro e w14 ⟨rfl, hk14⟩
  have hA := hA.non hk14
  have hB := hB.non hk14
  have hk14 := hk13.trans hk14
  clear hX hY hk13 HS
  go_wp2_with fail
  refine (meet_calls aA A.length cA A aB B.length cB B w14 hA hB (by omega) (by omega)).mono ?_
  rintro e w15 ⟨aX2, cX2, rfl, hOX2, hk15⟩
  have hX2 := hOX2.reads encS_len (by omega)
  have hA := hA.non hk15
  have hB := hB.non hk15
  have hk15 := hk14.trans hk15
  clear hk14 hOX2
  go_wp2_with fail
  refine (meet_calls aB B.length cB B aA A.length cA A w15 hB hA (by omega) (by omega)).mono ?_
  rintro e w16 ⟨aY2, cY2, rfl, hOY2, hk16⟩
  have hY2 := hOY2.reads encS_len (by omega)
  have hA := hA.non hk16
  have hB := hB.non hk16
  have hX2 := hX2.non hk16
  have hk16 := hk15.trans hk16
  clear hk15 hOY2
  have HS := Lib.hid (same_calls aX2 (meetN A B).length cX2 (meetN A B) aY2 (meetN B A).length cY2 (meetN B A) w16 hX2 hY2)
  rw [decide_eq_true (meet_comm A B)] at HS
  go_wp2_with fail
  refine HS.out.mono ?_
  rintro e w17 ⟨rfl, hk17⟩
  have hA := hA.non hk17
  have hB := hB.non hk17
  have hk17 := hk16.trans hk17
  clear hX2 hY2 hk16 HS
  have hnm : A.length * (B.length + 1) ≤ 1000000000000 := Nat.le_trans (Nat.mul_le_mul (show A.length ≤ 100000 by omega) (show B.length + 1 ≤ 100001 by omega)) (by decide)
  go_wp2_with fail
  refine (cut_calls aA A.length cA A aB B.length cB B w17 hA hB (by omega) (by omega) hnm).mono ?_
  rintro e w18 ⟨aP, cP, rfl, hOP, hk18⟩
  have hP := hOP.reads encS_len (by omega)
  have hA := hA.non hk18
  have hB := hB.non hk18
  have hk18 := hk17.trans hk18
  clear hk17 hOP
  clear hnm
  have hlP : (cutN A B).length ≤ 100000 := (Nat.le_trans (cutN_le (show A.length ≤ 60 by omega) (show B.length ≤ 60 by omega)) (by decide))
  go_wp2_with fail
  refine (meet_calls aA A.length cA A aB B.length cB B w18 hA hB (by omega) (by omega)).mono ?_
  rintro e w19 ⟨aQ, cQ, rfl, hOQ, hk19⟩
  have hQ := hOQ.reads encS_len (by omega)
  have hA := hA.non hk19
  have hP := hP.non hk19
  have hk19 := hk18.trans hk19
  clear hB hk18 hOQ
  have hlQ : (meetN A B).length ≤ 100000 := (Nat.le_trans (meetN_len A B) (by omega))
  go_wp2_with fail
  refine (join_calls aP (cutN A B).length cP (cutN A B) aQ (meetN A B).length cQ (meetN A B) w19 hP hQ (by omega) (by omega)).mono ?_
  rintro e w20 ⟨aR, cR, rfl, hOR, hk20⟩
  have hR := hOR.reads encS_len (by omega)
  have hA := hA.non hk20
  have hk20 := hk19.trans hk20
  clear hP hQ hk19 hOR
  go_wp2_with fail
  refine (norm_calls aA A.length cA A w20 hA (by omega)).mono ?_
  rintro e w21 ⟨aN, cN, rfl, hON, hk21⟩
  have hN := hON.reads encS_len (by omega)
  have hA := hA.non hk21
  have hR := hR.non hk21
  have hk21 := hk20.trans hk21
  clear hk20 hON
  have HS := Lib.hid (same_calls aR (joinN (cutN A B) (meetN A B)).length cR (joinN (cutN A B) (meetN A B)) aN (norm A).length cN (norm A) w21 hR hN)
  rw [decide_eq_true (set_three A B)] at HS
  go_wp2_with fail
  refine HS.out.mono ?_
  rintro e w22 ⟨rfl, hk22⟩
  have hA := hA.non hk22
  have hk22 := hk21.trans hk22
  clear hR hN hk21 HS
  go_wp2_with fail
  refine (norm_calls aA A.length cA A w22 hA (by omega)).mono ?_
  rintro e w23 ⟨aN1, cN1, rfl, hON1, hk23⟩
  have hN1 := hON1.reads encS_len (by omega)
  have hA := hA.non hk23
  have hk23 := hk22.trans hk23
  clear hk22 hON1
  have hlN1 : (norm A).length ≤ 100000 := (Nat.le_trans (norm_len A) (by omega))
  go_wp2_with fail
  refine (norm_calls aN1 (norm A).length cN1 (norm A) w23 hN1 (by omega)).mono ?_
  rintro e w24 ⟨aN2, cN2, rfl, hON2, hk24⟩
  have hN2 := hON2.reads encS_len (by omega)
  have hA := hA.non hk24
  have hk24 := hk23.trans hk24
  clear hN1 hk23 hON2
  go_wp2_with fail
  refine (norm_calls aA A.length cA A w24 hA (by omega)).mono ?_
  rintro e w25 ⟨aN3, cN3, rfl, hON3, hk25⟩
  have hN3 := hON3.reads encS_len (by omega)
  have hN2 := hN2.non hk25
  have hk25 := hk24.trans hk25
  clear hA hk24 hON3
  have HS := Lib.hid (same_calls aN2 (norm (norm A)).length cN2 (norm (norm A)) aN3 (norm A).length cN3 (norm A) w25 hN2 hN3)
  rw [decide_eq_true (norm_norm A)] at HS
  go_wp2_with fail
  refine HS.out.mono ?_
  rintro e w26 ⟨rfl, hk26⟩
  have hk26 := hk25.trans hk26
  clear hN2 hN3 hk25 HS
  go_wp2_with fail
  refine (lives_true w26).mono ?_
  rintro e w27 ⟨rfl, hk27⟩
  have hk27 := hk26.trans hk27
  clear hk26
  go_wp2_with fail
  go_ret
  exact ⟨rfl, hk27⟩

open Go.ChangeShapes Go.WideShapes Go.ChangeAt
set_option maxRecDepth 100000 in
theorem span_sets_lifted (os : Os) (started : os.Started) (H : Type) (enc : TypeId × Value → H) :
    ReturnsInHanded {} Try.checked os 14 .any (Rows.spanSetsSpec.pre6 enc Try.prog Try.f14 Rows.spanSetsRow.domain false) (Rows.spanSetsSpec.post enc Try.prog Try.f14 false true false false) := by
  refine returnsInHanded_of_change_sized (C := Try.checked) own started (by kernel_rfl) Try.func14
    (ChangeSpec.witness6 (enc := enc) (C := Try.checked) false ⟨#[], #[.slice none 0 0, .slice none 0 0, .slice none 0 0], []⟩ 8 (by kernel_rfl) (by kernel_rfl) (by kernel_rfl) (by kernel_rfl)) ?_
  intro W base args ds gs before hval0 hW hcnd _ _
  have hval : ∀ (j : Nat) t v, Try.f14.params[j]? = some t → args[j]? = some v → Value.okWide Try.prog W .any base t v := hval0
  have hW' := hW
  obtain ⟨p, q, hA0, hV, rfl, hfz, hnd⟩ := hW
  have hA : DataW.TrodAll enc Try.prog W 0 (fun _ => true) true Try.f14.params.toList args.toList ds p := hA0
  rw [Try.params14] at hA hval
  obtain ⟨v0, vs0, d0, ds0, p0, q0, hargs, rfl, rfl, h0, r0⟩ := trodAll_cons hA
  obtain ⟨v1, vs1, d1, ds1, p1, q1, rfl, rfl, rfl, h1, r1⟩ := trodAll_cons r0
  obtain ⟨v2, vs2, d2, ds2, p2, q2, rfl, rfl, rfl, h2, r2⟩ := trodAll_cons r1
  obtain ⟨rfl, rfl, rfl⟩ := trodAll_nil r2
  obtain rfl : args = #[v0, v1, v2] := by cases args; simp_all
  obtain ⟨rfl, rfl⟩ := trodVars_none hV
  have lt0 : ∀ x ∈ p0, x.block < W.heap.size := by obtain ⟨m, hm⟩ := h0; exact DataW.trod_lt m _ _ _ hm
  have k0 := h0
  obtain ⟨a0, n0, c0, rfl⟩ := okWide_slice Try.underlying22 (hval 0 22 v0 rfl rfl)
  obtain ⟨l0, b0, i0⟩ := spans_in h0
  have lt1 : ∀ x ∈ p1, x.block < W.heap.size := by obtain ⟨m, hm⟩ := h1; exact DataW.trod_lt m _ _ _ hm
  have k1 := h1
  obtain ⟨a1, n1, c1, rfl⟩ := okWide_slice Try.underlying22 (hval 1 22 v1 rfl rfl)
  obtain ⟨l1, b1, i1⟩ := spans_in h1
  have lt2 : ∀ x ∈ p2, x.block < W.heap.size := by obtain ⟨m, hm⟩ := h2; exact DataW.trod_lt m _ _ _ hm
  have k2 := h2
  obtain ⟨a2, n2, c2, rfl⟩ := okWide_slice Try.underlying22 (hval 2 22 v2 rfl rfl)
  obtain ⟨l2, b2, i2⟩ := spans_in h2
  clear hA0 hval0
  refine (sets_walk a0 n0 c0 l0 a1 n1 c1 l1 a2 n2 c2 l2 W b0 b1 b2).mono fun e W' ⟨he, hk⟩ => ?_
  have bel := hk.below
  subst he
  exact ⟨_, rfl, _, _, _, [], _, [], hW', trodAll_mk1 (shut_bool Try.underlying4 _), (trodAll_cons_mk (Below.trod laidOut (by kernel_rfl) (of_decide_eq_true (by kernel_rfl)) k0 bel lt0)
    (trodAll_cons_mk (Below.trod laidOut (by kernel_rfl) (of_decide_eq_true (by kernel_rfl)) k1 bel lt1)
    (trodAll_cons_mk (Below.trod laidOut (by kernel_rfl) (of_decide_eq_true (by kernel_rfl)) k2 bel lt2)
    trodAll_mk0))), rfl, bel.frame _, fun h => by cases h⟩

theorem span_sets : Rows.SpanSetsSaid :=
  OpenClaim.holds_of_wide 14 Try.f14 rfl rfl rfl rfl rfl rfl rfl ⟨rfl, rfl, rfl, rfl, rfl⟩ rfl rfl rfl rfl rfl (by kernel_rfl) Try.func14 (by kernel_rfl)
    (of_decide_eq_true (by kernel_rfl)) (by unfold Func.isWrapper; first | (rw [if_pos (by decide +kernel)]; kernel_rfl) | (rw [if_neg (by decide +kernel)]; exact ⟨rfl, rfl⟩))
    (fun os started H enc _ => span_sets_lifted os started H enc)
#print axioms span_sets
end Go.Proofs.Ytkgjpmgoapfamaa
