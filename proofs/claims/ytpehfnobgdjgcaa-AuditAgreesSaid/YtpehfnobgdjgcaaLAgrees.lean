/-
  AuditAgrees: whether any two rows of what was executed go together. For every input. (The frame: sframe.py.)
-/
import Derived.Test.YtpehfnobgdjgcaaH1
import Derived.Test.YtpehfnobgdjgcaaO0
namespace Go.Proofs.Ytpehfnobgdjgcaa
open Go.RowKit

set_option maxRecDepth 100000 in
set_option maxHeartbeats 1000000 in
theorem agrees_walk (a : Option Addr) (n c : Nat) (l : List RanV) (a' : Option Addr) (n' c' : Nat) (l' : List RanV) (w : World) (h : Rans w a n c l) (h' : Rans w a' n' c' l') : Calls Try.prog 5 #[.slice a n c, .slice a' n' c'] w (BoolOut true w) := by
  obtain rfl := h.reads.len
  obtain rfl := h'.reads.len
  go_enter Try.func5, Try.ntmps5
  have g0 : (w.alloc (.cells #[.int .i64 0, .int .i64 0, .slice a l.length c, .int .i64 0, .int .i64 0, .slice a' l'.length c'] 48)).heap[w.heap.size]? = some (.cells #[.int .i64 0, .int .i64 0, .slice a l.length c, .int .i64 0, .int .i64 0, .slice a' l'.length c'] 48) := heap_alloc_new w _
  have k0 : Kp Non w (w.alloc (.cells #[.int .i64 0, .int .i64 0, .slice a l.length c, .int .i64 0, .int .i64 0, .slice a' l'.length c'] 48)) := (Kp.refl Non w).alloc _
  have HL : Lives (w.alloc (.cells #[.int .i64 0, .int .i64 0, .slice a l.length c, .int .i64 0, .int .i64 0, .slice a' l'.length c'] 48)) (some ⟨w.heap.size, 0, none⟩) 2 2 [⟨0, 0, ⟨a, l.length, c, l⟩⟩, ⟨0, 0, ⟨a', l'.length, c', l'⟩⟩] := ⟨Reads.blk encLife_len (by omega) [_, _] g0 rfl (show 2 ≤ maxLen by decide), fun x hx => by
    rcases List.mem_cons.1 hx with rfl | hx
    · exact h.non k0
    · obtain rfl := List.mem_singleton.1 hx
      exact h'.non k0⟩
  have HC := Lib.hid (light_calls none (some ⟨w.heap.size, 0, none⟩) 0 2 [] [⟨0, 0, ⟨a, l.length, c, l⟩⟩, ⟨0, 0, ⟨a', l'.length, c', l'⟩⟩] _ ⟨Reads.empty _, fun x hx => by cases hx⟩ HL)
  have HK := Lib.hid k0
  clear g0 HL k0
  go_wp2_with fail
  refine HC.out.mono ?_
  rintro e w1 ⟨b, rfl, hk1, hb⟩
  have hk1 := HK.out.trans hk1
  clear HC HK
  rcases b with _ | _
  · go_wp2_with fail
    refine (alives_calls w1).mono ?_
    rintro e w2 ⟨rfl, hk2⟩
    go_wp2_with fail
    go_ret
    exact ⟨rfl, hk1.trans hk2⟩
  · have hl : l.length ≤ 25 := (hb rfl).logs ⟨0, 0, ⟨a, l.length, c, l⟩⟩ (by simp)
    clear hb
    have H1 := Lib.hid fun W (k : Kp Non w W) => agree_calls a a' c c' l l' W (h.non k) (h'.non k)
    have H2 := Lib.hid fun W (k : Kp Non w W) => rAgree_calls a a' c c' l l' W (h.non k) (h'.non k) (by omega)
    generalize agreeB l l' = g at *
    have hg : (g == g) = true := by simp
    go_wp2_with fail
    refine (H1.out _ hk1).mono ?_
    rintro e w2 ⟨rfl, hk2⟩
    have hk2 := hk1.trans hk2
    go_wp2_with fail
    refine (H2.out _ hk2).mono ?_
    rintro e w3 ⟨rfl, hk3⟩
    have hk3 := hk2.trans hk3
    go_wp2_with fail
    refine (alives_calls w3).mono ?_
    rintro e w4 ⟨rfl, hk4⟩
    go_wp2_with fail
    go_ret
    exact ⟨rfl, hk3.trans hk4⟩
open Go.ChangeShapes Go.WideShapes Go.ChangeAt
set_option maxRecDepth 100000 in
theorem audit_agrees_lifted (os : Os) (started : os.Started) (H : Type) (enc : TypeId × Value → H) :
    ReturnsInHanded {} Try.checked os 5 .any (Rows.auditAgreesSpec.pre6 enc Try.prog Try.f5 Rows.auditAgreesRow.domain false) (Rows.auditAgreesSpec.post enc Try.prog Try.f5 false true false false) := by
  refine returnsInHanded_of_change_sized (C := Try.checked) own started (by kernel_rfl) Try.func5
    (ChangeSpec.witness6 (enc := enc) (C := Try.checked) false ⟨#[], #[.slice none 0 0, .slice none 0 0], []⟩ 8 (by kernel_rfl) (by kernel_rfl) (by kernel_rfl) (by kernel_rfl)) ?_
  intro W base args ds gs before hval0 hW hcnd _ _
  have hval : ∀ (j : Nat) t v, Try.f5.params[j]? = some t → args[j]? = some v → Value.okWide Try.prog W .any base t v := hval0
  have hW' := hW
  obtain ⟨p, q, hA0, hV, rfl, hfz, hnd⟩ := hW
  have hA : DataW.TrodAll enc Try.prog W 0 (fun _ => true) true Try.f5.params.toList args.toList ds p := hA0
  rw [Try.params5] at hA hval
  obtain ⟨v0, vs0, d0, ds0, p0, q0, hargs, rfl, rfl, h0, r0⟩ := trodAll_cons hA
  obtain ⟨v1, vs1, d1, ds1, p1, q1, rfl, rfl, rfl, h1, r1⟩ := trodAll_cons r0
  obtain ⟨rfl, rfl, rfl⟩ := trodAll_nil r1
  obtain rfl : args = #[v0, v1] := by cases args; simp_all
  obtain ⟨rfl, rfl⟩ := trodVars_none hV
  have lt0 : ∀ x ∈ p0, x.block < W.heap.size := by obtain ⟨m, hm⟩ := h0; exact DataW.trod_lt m _ _ _ hm
  have k0 := h0
  obtain ⟨a0, n0, c0, rfl⟩ := okWide_slice Try.underlying46 (hval 0 46 v0 rfl rfl)
  obtain ⟨l0, b0, i0⟩ := rans_in h0
  have lt1 : ∀ x ∈ p1, x.block < W.heap.size := by obtain ⟨m, hm⟩ := h1; exact DataW.trod_lt m _ _ _ hm
  have k1 := h1
  obtain ⟨a1, n1, c1, rfl⟩ := okWide_slice Try.underlying46 (hval 1 46 v1 rfl rfl)
  obtain ⟨l1, b1, i1⟩ := rans_in h1
  clear hA0 hval0
  refine (agrees_walk a0 n0 c0 l0 a1 n1 c1 l1 W ⟨b0, i0⟩ ⟨b1, i1⟩).mono fun e W' ⟨he, hk⟩ => ?_
  have bel := hk.below
  subst he
  exact ⟨_, rfl, _, _, _, [], _, [], hW', trodAll_mk1 (shut_bool Try.underlying4 _), (trodAll_cons_mk (Below.trod laidOut (by kernel_rfl) (of_decide_eq_true (by kernel_rfl)) k0 bel lt0)
    (trodAll_cons_mk (Below.trod laidOut (by kernel_rfl) (of_decide_eq_true (by kernel_rfl)) k1 bel lt1)
    trodAll_mk0)), rfl, bel.frame _, fun h => by cases h⟩

theorem audit_agrees : Rows.AuditAgreesSaid :=
  OpenClaim.holds_of_wide 5 Try.f5 rfl rfl rfl rfl rfl rfl rfl ⟨rfl, rfl, rfl, rfl, rfl⟩ rfl rfl rfl rfl rfl (by kernel_rfl) Try.func5 (by kernel_rfl)
    (of_decide_eq_true (by kernel_rfl)) (by unfold Func.isWrapper; first | (rw [if_pos (by decide +kernel)]; kernel_rfl) | (rw [if_neg (by decide +kernel)]; exact ⟨rfl, rfl⟩))
    (fun os started H enc _ => audit_agrees_lifted os started H enc)
#print axioms audit_agrees
end Go.Proofs.Ytpehfnobgdjgcaa
