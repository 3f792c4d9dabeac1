/-
  SpanNorms: the plain row of any spans; what is handed in stays. For every input. (The frame: sframe.py.)
-/
import Derived.Test.YtkgjpmgoapfamaaL0
namespace Go.Proofs.Ytkgjpmgoapfamaa
open Go.RowKit

set_option maxRecDepth 100000 in
set_option maxHeartbeats 1000000 in
theorem norms_walk (a : Option Addr) (n c : Nat) (l : List Sp) (w : World) (h : Spans w a n c l) : Calls Try.prog 3 #[.slice a n c] w (BoolOut true w) := by
  go_enter Try.func3, Try.ntmps3
  go_wp2_with fail
  refine (lcut_calls a n c l w h).mono ?_
  rintro e _ ⟨m, rfl, rfl, hm, hC⟩
  obtain rfl := hC.len
  generalize l.take 60 = A at *
  clear h
  go_wp2_with fail
  refine (own_calls a A.length c A w hC (by omega)).mono ?_
  rintro e w1 ⟨a1, c1, rfl, hO1, hk1⟩
  have hR1 := hO1.reads encS_len (by omega)
  clear hC hO1
  go_wp2_with fail
  refine (own_calls a1 A.length c1 A w1 hR1 (by omega)).mono ?_
  rintro e w2 ⟨a2, c2, rfl, hO2, hk2⟩
  have hR2 := hO2.reads encS_len (by omega)
  have hR1 := hR1.non hk2
  have hk2 := hk1.trans hk2
  clear hk1 hO2
  go_wp2_with fail
  refine (norm_calls a1 A.length c1 A w2 hR1 (by omega)).mono ?_
  rintro e w3 ⟨a3, c3, rfl, hO3, hk3⟩
  have hR3 := hO3.reads encS_len (by omega)
  have hR2 := hR2.non hk3
  have hR1 := hR1.non hk3
  have hk3 := hk2.trans hk3
  clear hk2 hO3
  go_wp2_with fail
  refine (of_calls a1 A.length c1 A none 0 0 [] 0 w3 hR1 (Reads.empty _) (.inl rfl) (by omega) (by omega)).mono ?_
  rintro e w4 ⟨a4, c4, rfl, hO4, hk4⟩
  rw [of_norm] at hO4 ⊢
  have hR4 := hO4.reads encS_len (by omega)
  have hR3 := hR3.non hk4
  have hR2 := hR2.non hk4
  have hR1 := hR1.non hk4
  have hk4 := hk3.trans hk4
  clear hk3 hO4
  have HS := Lib.hid (same_calls a3 (norm A).length c3 (norm A) a4 (norm A).length c4 (norm A) w4 hR3 hR4)
  rw [decide_eq_true rfl] at HS
  go_wp2_with fail
  refine HS.out.mono ?_
  rintro e w5 ⟨rfl, hk5⟩
  have hR3 := hR3.non hk5
  have hR2 := hR2.non hk5
  have hR1 := hR1.non hk5
  have hk5 := hk4.trans hk5
  clear hk4 HS hR4
  go_wp2_with fail
  refine (plain_calls a3 (norm A).length c3 (norm A) w5 hR3 (norm_plain A)).mono ?_
  rintro e w6 ⟨rfl, hk6⟩
  have hR2 := hR2.non hk6
  have hR1 := hR1.non hk6
  have hk6 := hk5.trans hk6
  clear hk5 hR3
  have HS := Lib.hid (same_calls a1 A.length c1 A a2 A.length c2 A w6 hR1 hR2)
  rw [decide_eq_true rfl] at HS
  go_wp2_with fail
  refine HS.out.mono ?_
  rintro e w7 ⟨rfl, hk7⟩
  have hk7 := hk6.trans hk7
  clear hk6 HS hR2 hR1
  go_wp2_with fail
  refine (lives_true w7).mono ?_
  rintro e w8 ⟨rfl, hk8⟩
  go_wp2_with fail
  go_ret
  exact ⟨rfl, hk7.trans hk8⟩

open Go.ChangeShapes Go.WideShapes Go.ChangeAt
set_option maxRecDepth 100000 in
theorem span_norms_lifted (os : Os) (started : os.Started) (H : Type) (enc : TypeId × Value → H) :
    ReturnsInHanded {} Try.checked os 3 .any (Rows.spanNormsSpec.pre6 enc Try.prog Try.f3 Rows.spanNormsRow.domain false) (Rows.spanNormsSpec.post enc Try.prog Try.f3 false true false false) := by
  refine returnsInHanded_of_change_sized (C := Try.checked) own started (by kernel_rfl) Try.func3
    (ChangeSpec.witness6 (enc := enc) (C := Try.checked) false ⟨#[], #[.slice none 0 0], []⟩ 8 (by kernel_rfl) (by kernel_rfl) (by kernel_rfl) (by kernel_rfl)) ?_
  intro W base args ds gs before hval0 hW hcnd _ _
  have hval : ∀ (j : Nat) t v, Try.f3.params[j]? = some t → args[j]? = some v → Value.okWide Try.prog W .any base t v := hval0
  have hW' := hW
  obtain ⟨p, q, hA0, hV, rfl, hfz, hnd⟩ := hW
  have hA : DataW.TrodAll enc Try.prog W 0 (fun _ => true) true Try.f3.params.toList args.toList ds p := hA0
  rw [Try.params3] at hA hval
  obtain ⟨v0, vs0, d0, ds0, p0, q0, hargs, rfl, rfl, h0, r0⟩ := trodAll_cons hA
  obtain ⟨rfl, rfl, rfl⟩ := trodAll_nil r0
  obtain rfl : args = #[v0] := by cases args; simp_all
  obtain ⟨rfl, rfl⟩ := trodVars_none hV
  have lt0 : ∀ x ∈ p0, x.block < W.heap.size := by obtain ⟨m, hm⟩ := h0; exact DataW.trod_lt m _ _ _ hm
  have k0 := h0
  obtain ⟨a0, n0, c0, rfl⟩ := okWide_slice Try.underlying22 (hval 0 22 v0 rfl rfl)
  obtain ⟨l0, b0, i0⟩ := spans_in h0
  clear hA0 hval0
  refine (norms_walk a0 n0 c0 l0 W b0).mono fun e W' ⟨he, hk⟩ => ?_
  have bel := hk.below
  subst he
  exact ⟨_, rfl, _, _, _, [], _, [], hW', trodAll_mk1 (shut_bool Try.underlying4 _), (trodAll_cons_mk (Below.trod laidOut (by kernel_rfl) (of_decide_eq_true (by kernel_rfl)) k0 bel lt0)
    trodAll_mk0), rfl, bel.frame _, fun h => by cases h⟩

theorem span_norms : Rows.SpanNormsSaid :=
  OpenClaim.holds_of_wide 3 Try.f3 rfl rfl rfl rfl rfl rfl rfl ⟨rfl, rfl, rfl, rfl, rfl⟩ rfl rfl rfl rfl rfl (by kernel_rfl) Try.func3 (by kernel_rfl)
    (of_decide_eq_true (by kernel_rfl)) (by unfold Func.isWrapper; first | (rw [if_pos (by decide +kernel)]; kernel_rfl) | (rw [if_neg (by decide +kernel)]; exact ⟨rfl, rfl⟩))
    (fun os started H enc _ => span_norms_lifted os started H enc)
#print axioms span_norms
end Go.Proofs.Ytkgjpmgoapfamaa
