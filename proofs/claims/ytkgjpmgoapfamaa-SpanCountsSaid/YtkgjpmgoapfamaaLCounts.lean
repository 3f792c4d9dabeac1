/-
  SpanCounts: how many blocks two rows have goes together. For every input. (Printed by seq.py and sframe.py.)
-/
import Derived.Test.YtkgjpmgoapfamaaL4
namespace Go.Proofs.Ytkgjpmgoapfamaa
open Go.RowKit

set_option maxRecDepth 100000 in
set_option maxHeartbeats 1000000 in
theorem counts_walk (aA : Option Addr) (nA cA : Nat) (lA : List Sp) (aB : Option Addr) (nB cB : Nat) (lB : List Sp) (w : World) (hA : Spans w aA nA cA lA) (hB : Spans w aB nB cB lB) (iA : ∀ s ∈ lA, SpI s) (iB : ∀ s ∈ lB, SpI s) : Calls Try.prog 15 #[.slice aA nA cA, .slice aB nB cB] w (BoolOut true w) := by
  go_enter Try.func15, Try.ntmps15
  have HIA := Lib.hid (fun x hx => mem_i64 (l := lA.take 60) (fun s hs => iA s (List.mem_of_mem_take hs)) x hx)
  have HIB := Lib.hid (fun x hx => mem_i64 (l := lB.take 60) (fun s hs => iB s (List.mem_of_mem_take hs)) x hx)
  go_wp2_with fail
  refine (lcut_calls aA nA cA lA w hA).mono ?_
  rintro e _ ⟨mA, rfl, rfl, hmA, hCA⟩
  obtain rfl := hCA.len
  generalize lA.take 60 = A at *
  clear hA
  have hA := hCA
  clear hCA
  go_wp2_with fail
  refine (lcut_calls aB nB cB lB w hB).mono ?_
  rintro e _ ⟨mB, rfl, rfl, hmB, hCB⟩
  obtain rfl := hCB.len
  generalize lB.take 60 = B at *
  clear hB
  have hB := hCB
  clear hCB
  have HJ := Lib.hid (size_join A B HIA.out HIB.out)
  have HC := Lib.hid (size_cut A B HIA.out)
  have h1 : IntKind.u64.wrap (size (norm (joinN A B)) % 18446744073709551616 + size (norm (meetN A B)) % 18446744073709551616) = IntKind.u64.wrap (size (norm A) % 18446744073709551616 + size (norm B) % 18446744073709551616) := by rw [norm_id (joinN_plain A B), norm_id (meetN_plain A B)]; have := HJ.out; simp only [IntKind.wrap_u64]; omega
  have h2 : IntKind.u64.wrap (size (norm (cutN A B)) % 18446744073709551616 + size (norm (meetN A B)) % 18446744073709551616) = size (norm A) % 18446744073709551616 := by rw [norm_id (cutN_plain A B), norm_id (meetN_plain A B)]; have := HC.out; simp only [IntKind.wrap_u64]; omega
  obtain ⟨xa, hxa⟩ : ∃ x, size (norm A) % 18446744073709551616 = x := ⟨_, rfl⟩
  obtain ⟨xb, hxb⟩ : ∃ x, size (norm B) % 18446744073709551616 = x := ⟨_, rfl⟩
  obtain ⟨xj, hxj⟩ : ∃ x, size (norm (joinN A B)) % 18446744073709551616 = x := ⟨_, rfl⟩
  obtain ⟨xm, hxm⟩ : ∃ x, size (norm (meetN A B)) % 18446744073709551616 = x := ⟨_, rfl⟩
  obtain ⟨xc, hxc⟩ : ∃ x, size (norm (cutN A B)) % 18446744073709551616 = x := ⟨_, rfl⟩
  rw [hxj, hxm, hxa, hxb] at h1
  rw [hxc, hxm, hxa] at h2
  have HXA := Lib.hid hxa
  have HXB := Lib.hid hxb
  have HXJ := Lib.hid hxj
  have HXM := Lib.hid hxm
  have HXC := Lib.hid hxc
  have hd1 : (xa == xa) = true := beq_self_eq_true _
  clear HJ HC HIA HIB hxb hxj hxm hxc hd1
  go_wp2_with fail
  refine (norm_calls aA A.length cA A w hA (by omega)).mono ?_
  rintro e w1 ⟨aN, cN, rfl, hON, hk1⟩
  have hN := hON.reads encS_len (by omega)
  have hA := hA.non hk1
  have hB := hB.non hk1
  clear hON
  have hlN := norm_len A
  have hNc := hN.cap
  have hNm := hN.max
  have HSZ : ∀ L, L = norm A → Hid (size L % 18446744073709551616 = xa) := fun L e => Lib.hid (by rw [e, hxa])
  have HSZ := Lib.hid HSZ
  obtain ⟨L, hL⟩ : ∃ L, norm A = L := ⟨_, rfl⟩
  have HSL := HSZ.out L hL.symm
  have hNL := hN
  rw [hL] at hN hlN ⊢
  clear HSZ hL hNL hxa
  go_wp2_with fail
  go_loopw [5, 15] (fun v5 v15 wr => ∃ k : Nat, k ≤ L.length ∧ v15 = .int .i64 k ∧ v5 = .int .u64 (size (L.take k) % 18446744073709551616) ∧ Kp Non w1 wr) (fun _ v15 _ => L.length - (intOf v15).toNat)
  case atStart => exact ⟨0, by omega, rfl, rfl, Kp.refl _ _⟩
  case round =>
    obtain ⟨k, hk, rfl, rfl, hkr⟩ := hrel
    by_cases hlt : k < L.length
    · have g : (k : Int) < (L.length : Nat) := by omega
      obtain ⟨b, o, rfl⟩ := hN.there (by omega)
      have c0 := Spans.c0 (hN.non hkr) hlt
      have c1 := Spans.c1 (hN.non hkr) hlt
      have HS := Lib.hid (size_snoc hlt)
      generalize L[k] = s at *
      have hkN : Kp Non w1 (wr.alloc (.cells #[.int .i64 s.1, .int .i64 s.2] 30)) := hkr.alloc _
      go_wp2_with fail
      go_roundw
      case rel => exact ⟨k + 1, by omega, by go_num, by rw [HS.out]; simp only [IntKind.wrap_u64, size_step], hkN⟩
      case measure => simp [intOf]; omega
    · obtain rfl : k = L.length := by omega
      rw [List.take_of_length_le (Nat.le_refl _), HSL.out]
      clear HSL
      obtain ⟨w2, rfl⟩ : ∃ x, x = wr := ⟨_, rfl⟩
      have hA := hA.non hkr
      have hB := hB.non hkr
      have hk2 := hk1.trans hkr
      go_wp2_with fail
      refine (count_calls aA A.length cA A w2 hA (by omega)).mono ?_
      rintro e w3 ⟨rfl, hk3⟩
      have hA := hA.non hk3
      have hB := hB.non hk3
      have hk3 := hk2.trans hk3
      clear hk2
      rw [HXA.out]
      go_wp2_with fail
      refine (join_calls aA A.length cA A aB B.length cB B w3 hA hB (by omega) (by omega)).mono ?_
      rintro e w4 ⟨aJ, cJ, rfl, hOJ, hk4⟩
      have hJ := hOJ.reads encS_len (by omega)
      have hA := hA.non hk4
      have hB := hB.non hk4
      have hk4 := hk3.trans hk4
      clear hk3 hOJ
      have hlJ : (joinN A B).length ≤ 100000 := (Nat.le_trans (joinN_len A B) (by omega))
      go_wp2_with fail
      refine (count_calls aJ (joinN A B).length cJ (joinN A B) w4 hJ (by omega)).mono ?_
      rintro e w5 ⟨rfl, hk5⟩
      have hA := hA.non hk5
      have hB := hB.non hk5
      have hk5 := hk4.trans hk5
      clear hJ hk4
      rw [HXJ.out]
      go_wp2_with fail
      refine (meet_calls aA A.length cA A aB B.length cB B w5 hA hB (by omega) (by omega)).mono ?_
      rintro e w6 ⟨aM, cM, rfl, hOM, hk6⟩
      have hM := hOM.reads encS_len (by omega)
      have hA := hA.non hk6
      have hB := hB.non hk6
      have hk6 := hk5.trans hk6
      clear hk5 hOM
      have hlM : (meetN A B).length ≤ 100000 := (Nat.le_trans (meetN_len A B) (by omega))
      go_wp2_with fail
      refine (count_calls aM (meetN A B).length cM (meetN A B) w6 hM (by omega)).mono ?_
      rintro e w7 ⟨rfl, hk7⟩
      have hA := hA.non hk7
      have hB := hB.non hk7
      have hk7 := hk6.trans hk7
      clear hM hk6
      rw [HXM.out]
      go_wp2_with fail
      refine (count_calls aA A.length cA A w7 hA (by omega)).mono ?_
      rintro e w8 ⟨rfl, hk8⟩
      have hA := hA.non hk8
      have hB := hB.non hk8
      have hk8 := hk7.trans hk8
      clear hk7
      rw [HXA.out]
      go_wp2_with fail
      refine (count_calls aB B.length cB B w8 hB (by omega)).mono ?_
      rintro e w9 ⟨rfl, hk9⟩
      have hA := hA.non hk9
      have hB := hB.non hk9
      have hk9 := hk8.trans hk9
      clear hk8
      rw [HXB.out]
      have hnm : A.length * (B.length + 1) ≤ 1000000000000 := Nat.le_trans (Nat.mul_le_mul (show A.length ≤ 100000 by omega) (show B.length + 1 ≤ 100001 by omega)) (by decide)
      go_wp2_with fail
      refine (cut_calls aA A.length cA A aB B.length cB B w9 hA hB (by omega) (by omega) hnm).mono ?_
      rintro e w10 ⟨aC, cC, rfl, hOC, hk10⟩
      have hC := hOC.reads encS_len (by omega)
      have hA := hA.non hk10
      have hB := hB.non hk10
      have hk10 := hk9.trans hk10
      clear hk9 hOC
      clear hnm
      have hlC : (cutN A B).length ≤ 100000 := (Nat.le_trans (cutN_le (show A.length ≤ 60 by omega) (show B.length ≤ 60 by omega)) (by decide))
      go_wp2_with fail
      refine (count_calls aC (cutN A B).length cC (cutN A B) w10 hC (by omega)).mono ?_
      rintro e w11 ⟨rfl, hk11⟩
      have hA := hA.non hk11
      have hB := hB.non hk11
      have hk11 := hk10.trans hk11
      clear hC hk10
      rw [HXC.out]
      go_wp2_with fail
      refine (meet_calls aA A.length cA A aB B.length cB B w11 hA hB (by omega) (by omega)).mono ?_
      rintro e w12 ⟨aM2, cM2, rfl, hOM2, hk12⟩
      have hM2 := hOM2.reads encS_len (by omega)
      have hA := hA.non hk12
      have hk12 := hk11.trans hk12
      clear hB hk11 hOM2
      have hlM2 : (meetN A B).length ≤ 100000 := (Nat.le_trans (meetN_len A B) (by omega))
      go_wp2_with fail
      refine (count_calls aM2 (meetN A B).length cM2 (meetN A B) w12 hM2 (by omega)).mono ?_
      rintro e w13 ⟨rfl, hk13⟩
      have hA := hA.non hk13
      have hk13 := hk12.trans hk13
      clear hM2 hk12
      rw [HXM.out]
      go_wp2_with fail
      refine (count_calls aA A.length cA A w13 hA (by omega)).mono ?_
      rintro e w14 ⟨rfl, hk14⟩
      have hk14 := hk13.trans hk14
      clear hA hk13
      rw [HXA.out]
      go_wp2_with fail
      refine (lives_true w14).mono ?_
      rintro e w15 ⟨rfl, hk15⟩
      have hk15 := hk14.trans hk15
      clear hk14
      go_wp2_with fail
      go_ret
      exact ⟨rfl, hk15⟩

open Go.ChangeShapes Go.WideShapes Go.ChangeAt
set_option maxRecDepth 100000 in
theorem span_counts_lifted (os : Os) (started : os.Started) (H : Type) (enc : TypeId × Value → H) :
    ReturnsInHanded {} Try.checked os 15 .any (Rows.spanCountsSpec.pre6 enc Try.prog Try.f15 Rows.spanCountsRow.domain false) (Rows.spanCountsSpec.post enc Try.prog Try.f15 false true false false) := by
  refine returnsInHanded_of_change_sized (C := Try.checked) own started (by kernel_rfl) Try.func15
    (ChangeSpec.witness6 (enc := enc) (C := Try.checked) false ⟨#[], #[.slice none 0 0, .slice none 0 0], []⟩ 8 (by kernel_rfl) (by kernel_rfl) (by kernel_rfl) (by kernel_rfl)) ?_
  intro W base args ds gs before hval0 hW hcnd _ _
  have hval : ∀ (j : Nat) t v, Try.f15.params[j]? = some t → args[j]? = some v → Value.okWide Try.prog W .any base t v := hval0
  have hW' := hW
  obtain ⟨p, q, hA0, hV, rfl, hfz, hnd⟩ := hW
  have hA : DataW.TrodAll enc Try.prog W 0 (fun _ => true) true Try.f15.params.toList args.toList ds p := hA0
  rw [Try.params15] at hA hval
  obtain ⟨v0, vs0, d0, ds0, p0, q0, hargs, rfl, rfl, h0, r0⟩ := trodAll_cons hA
  obtain ⟨v1, vs1, d1, ds1, p1, q1, rfl, rfl, rfl, h1, r1⟩ := trodAll_cons r0
  obtain ⟨rfl, rfl, rfl⟩ := trodAll_nil r1
  obtain rfl : args = #[v0, v1] := by cases args; simp_all
  obtain ⟨rfl, rfl⟩ := trodVars_none hV
  have lt0 : ∀ x ∈ p0, x.block < W.heap.size := by obtain ⟨m, hm⟩ := h0; exact DataW.trod_lt m _ _ _ hm
  have k0 := h0
  obtain ⟨a0, n0, c0, rfl⟩ := okWide_slice Try.underlying22 (hval 0 22 v0 rfl rfl)
  obtain ⟨l0, b0, i0⟩ := spans_in h0
  have lt1 : ∀ x ∈ p1, x.block < W.heap.size := by obtain ⟨m, hm⟩ := h1; exact DataW.trod_lt m _ _ _ hm
  have k1 := h1
  obtain ⟨a1, n1, c1, rfl⟩ := okWide_slice Try.underlying22 (hval 1 22 v1 rfl rfl)
  obtain ⟨l1, b1, i1⟩ := spans_in h1
  clear hA0 hval0
  refine (counts_walk a0 n0 c0 l0 a1 n1 c1 l1 W b0 b1 i0 i1).mono fun e W' ⟨he, hk⟩ => ?_
  have bel := hk.below
  subst he
  exact ⟨_, rfl, _, _, _, [], _, [], hW', trodAll_mk1 (shut_bool Try.underlying4 _), (trodAll_cons_mk (Below.trod laidOut (by kernel_rfl) (of_decide_eq_true (by kernel_rfl)) k0 bel lt0)
    (trodAll_cons_mk (Below.trod laidOut (by kernel_rfl) (of_decide_eq_true (by kernel_rfl)) k1 bel lt1)
    trodAll_mk0)), rfl, bel.frame _, fun h => by cases h⟩

theorem span_counts : Rows.SpanCountsSaid :=
  OpenClaim.holds_of_wide 15 Try.f15 rfl rfl rfl rfl rfl rfl rfl ⟨rfl, rfl, rfl, rfl, rfl⟩ rfl rfl rfl rfl rfl (by kernel_rfl) Try.func15 (by kernel_rfl)
    (of_decide_eq_true (by kernel_rfl)) (by unfold Func.isWrapper; first | (rw [if_pos (by decide +kernel)]; kernel_rfl) | (rw [if_neg (by decide +kernel)]; exact ⟨rfl, rfl⟩))
    (fun os started H enc _ => span_counts_lifted os started H enc)
#print axioms span_counts
end Go.Proofs.Ytkgjpmgoapfamaa
