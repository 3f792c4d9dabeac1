/-
  SpanGaps: the blocks of a span that a row hasn't. For every input. (The frame: sframe.py.)
-/
import Derived.Test.YtkgjpmgoapfamaaL1
namespace Go.Proofs.Ytkgjpmgoapfamaa
open Go.RowKit


section
variable {P : Program} {ops : Array Oper} {C : World → Prop} {Q : Exit → Act → World → Prop}
/-- One that comes next, under a guard that says yes. -/
theorem free_gd {m T T' : List Nat} {f : Nat} {a : Act} {w : World} {i : Nat} (o : Oper) (ho : ops[i]? = some o) (hg : Region.wanted o (yielded ops a.tmps) = true) (k : Nat) (hk : m.getD i 0 = k) (hT : T.erase i = T')
    (h : ∀ K : Act → World → Prop, (∀ a' w', (k = 1 → C w') → wpFree P ops C Q m f T' a' w' → K a' w') → o.wp P a w K (NoPanic Q)) : FreeAt P ops C Q m f T a w i := by
  subst hk hT
  intro o' ho'
  rw [ho] at ho'
  cases ho'
  rw [if_pos hg]
  exact h _ fun a' w' h1 h2 => ⟨h1, h2⟩
end

set_option maxRecDepth 100000 in
set_option maxHeartbeats 1000000 in
theorem gaps_walk (aA : Option Addr) (nA cA : Nat) (lA : List Sp) (s : Sp) (w : World) (hA : Spans w aA nA cA lA) : Calls Try.prog 5 #[.slice aA nA cA, valS s] w (BoolOut true w) := by
  have hbx0 := BoxS.new w s
  have hA0 := hA.non ((Kp.refl Non w).alloc (.cells #[.int .i64 s.1, .int .i64 s.2] 30))
  go_enter Try.func5, Try.ntmps5
  go_wp2_with fail
  refine (lcut_calls aA nA cA lA _ hA0).mono ?_
  rintro e wb ⟨mA, rfl, hw, hmA, hC⟩
  obtain rfl := hC.len
  generalize lA.take 60 = A at *
  clear hA hA0
  have hA := hC
  clear hC
  rw [hw] at hbx0 hA
  have hkb : Kp Non w wb := by rw [← hw]; exact (Kp.refl _ _).alloc _
  have hbl := hbx0.lt
  clear hw
  have x0 := hbx0.c0
  have x1 := hbx0.c1
  generalize w.heap.size = bx at *
  go_wp2_with fail
  refine wp_region_free [0,0,1,0,1,0,2,2,2,2,2,2] (by kernel_rfl) (by kernel_rfl) (fun w' => w'.cell? ⟨bx, 0, none⟩ = some (.int .i64 s.1) ∧ w'.cell? ⟨bx, 1, none⟩ = some (.int .i64 s.2)) ⟨x0, x1⟩ [2,4,6,7,8,9,10,11] rfl ?_
  repeat (first | (with_reducible refine pure_skip ?_) | ((with_reducible refine pure_k rfl ?_); intro K hK; apply Exists.intro; refine ⟨fun w' hC => ?_, ?_⟩; (obtain ⟨g1, g2⟩ := hC; go_simp; rfl); go_simp; refine hK _ ?_; clear hK K))
  with_reducible refine pure_nil ?_
  show wpFree _ _ _ _ _ 8 _ _ _
  refine free_two 2 4 (by kernel_rfl) ?_ ?_
  · refine free_at _ rfl rfl 1 rfl rfl fun K hK => ?_
    go_simp
    have hkd : Kp Non wb wb.drew := (Kp.refl _ _).drew
    refine (gaps_calls aA A.length cA A s _ (hA.non hkd) (by omega)).mono ?_
    rintro e w3 ⟨a3, c3, rfl, hO3, hk3⟩
    have hR3 := hO3.reads encS_len (by omega)
    have hk3 : Kp Non wb w3 := hkd.trans hk3
    refine hK _ _ (fun _ => ⟨hk3.cell x0 (fun f => f), hk3.cell x1 (fun f => f)⟩) ?_
    clear hK K
    refine free_one 4 (by kernel_rfl) ?_
    refine free_at _ rfl rfl 1 rfl rfl fun K hK => ?_
    go_simp
    have hk4 : Kp Non wb (w3.alloc (.cells #[.int .i64 s.1, .int .i64 s.2] 30)) := hk3.alloc _
    have hR4 := hR3.non ((Kp.refl Non w3).alloc (.cells #[.int .i64 s.1, .int .i64 s.2] 30))
    have hone : Spans (w3.alloc (.cells #[.int .i64 s.1, .int .i64 s.2] 30)) (some ⟨w3.heap.size, 0, none⟩) 1 1 [s] := Reads.new rfl rfl
    refine hK _ _ (fun _ => ⟨hk4.cell x0 (fun f => f), hk4.cell x1 (fun f => f)⟩) ?_
    clear hK K
    have hkw := hkb.trans hk4
    have hA4 := hA.non hk4
    clear hA hR3 hO3 hk3 hkd
    refine free_one 6 (by kernel_rfl) ?_
    refine free_at _ rfl rfl 2 rfl rfl fun K hK => ?_
    go_simp
    refine (of_calls _ 1 1 [s] aA A.length cA A 2 _ hone hA4 (.inr (.inr rfl)) (by omega) (by omega)).mono ?_
    rintro e w5 ⟨a5, c5, rfl, hO5, hk5⟩
    rw [of_cut] at hO5 ⊢
    have hR5 := hO5.reads encS_len (by omega)
    have hR2 := hR4.non hk5
    have hk5 : Kp Non w w5 := hkw.trans hk5
    refine hK _ _ (fun h => by cases h) ?_
    clear hK K
    refine free_one 7 (by kernel_rfl) ?_
    refine free_at _ rfl rfl 2 rfl rfl fun K hK => ?_
    have HS := Lib.hid (same_calls _ (cutN [s] A).length _ (cutN [s] A) a5 (cutN [s] A).length c5 (cutN [s] A) w5 hR2 hR5)
    rw [decide_eq_true rfl] at HS
    go_simp
    refine HS.out.mono ?_
    rintro e w6 ⟨rfl, hk6⟩
    have hk6 : Kp Non w w6 := hk5.trans hk6
    refine hK _ _ (fun h => by cases h) ?_
    clear hK K
    refine free_one 8 (by kernel_rfl) ?_
    refine free_at _ rfl rfl 2 rfl rfl fun K hK => ?_
    go_simp
    refine hK _ _ (fun h => by cases h) ?_
    clear hK K
    refine free_one 9 (by kernel_rfl) ?_
    refine free_gd _ rfl (by simp [Region.wanted, yielded]) 2 rfl rfl fun K hK => ?_
    go_simp
    refine (lives_true w6).mono ?_
    rintro e w7 ⟨rfl, hk7⟩
    refine hK _ _ (fun h => by cases h) ?_
    clear hK K
    refine free_one 10 (by kernel_rfl) ?_
    refine free_at _ rfl rfl 2 rfl rfl fun K hK => ?_
    go_simp
    refine hK _ _ (fun h => by cases h) ?_
    clear hK K
    refine free_one 11 (by kernel_rfl) ?_
    refine free_at _ rfl rfl 2 rfl rfl fun K hK => ?_
    go_simp
    refine hK _ _ (fun h => by cases h) ?_
    clear hK K
    refine free_nil ?_
    go_wp2_with fail
    go_ret
    exact ⟨rfl, hk6.trans hk7⟩
  · refine free_at _ rfl rfl 1 rfl rfl fun K hK => ?_
    go_simp
    have hkd : Kp Non wb (wb.alloc (.cells #[.int .i64 s.1, .int .i64 s.2] 30)).drew := ((Kp.refl _ _).alloc _).drew
    have hone0 : Spans (wb.alloc (.cells #[.int .i64 s.1, .int .i64 s.2] 30)).drew (some ⟨wb.heap.size, 0, none⟩) 1 1 [s] := Reads.non (Reads.new (w := wb) rfl rfl) ((Kp.refl _ _).drew)
    refine hK _ _ (fun _ => ⟨hkd.cell x0 (fun f => f), hkd.cell x1 (fun f => f)⟩) ?_
    clear hK K
    refine free_one 2 (by kernel_rfl) ?_
    refine free_at _ rfl rfl 1 rfl rfl fun K hK => ?_
    go_simp
    refine (gaps_calls aA A.length cA A s _ (hA.non hkd) (by omega)).mono ?_
    rintro e w3 ⟨a3, c3, rfl, hO3, hk3⟩
    have hR4 := hO3.reads encS_len (by omega)
    have hone := hone0.non hk3
    have hk4 : Kp Non wb w3 := hkd.trans hk3
    refine hK _ _ (fun _ => ⟨hk4.cell x0 (fun f => f), hk4.cell x1 (fun f => f)⟩) ?_
    clear hK K
    have hkw := hkb.trans hk4
    have hA4 := hA.non hk4
    clear hA hO3 hk3 hkd hone0
    refine free_one 6 (by kernel_rfl) ?_
    refine free_at _ rfl rfl 2 rfl rfl fun K hK => ?_
    go_simp
    refine (of_calls _ 1 1 [s] aA A.length cA A 2 _ hone hA4 (.inr (.inr rfl)) (by omega) (by omega)).mono ?_
    rintro e w5 ⟨a5, c5, rfl, hO5, hk5⟩
    rw [of_cut] at hO5 ⊢
    have hR5 := hO5.reads encS_len (by omega)
    have hR2 := hR4.non hk5
    have hk5 : Kp Non w w5 := hkw.trans hk5
    refine hK _ _ (fun h => by cases h) ?_
    clear hK K
    refine free_one 7 (by kernel_rfl) ?_
    refine free_at _ rfl rfl 2 rfl rfl fun K hK => ?_
    have HS := Lib.hid (same_calls _ (cutN [s] A).length _ (cutN [s] A) a5 (cutN [s] A).length c5 (cutN [s] A) w5 hR2 hR5)
    rw [decide_eq_true rfl] at HS
    go_simp
    refine HS.out.mono ?_
    rintro e w6 ⟨rfl, hk6⟩
    have hk6 : Kp Non w w6 := hk5.trans hk6
    refine hK _ _ (fun h => by cases h) ?_
    clear hK K
    refine free_one 8 (by kernel_rfl) ?_
    refine free_at _ rfl rfl 2 rfl rfl fun K hK => ?_
    go_simp
    refine hK _ _ (fun h => by cases h) ?_
    clear hK K
    refine free_one 9 (by kernel_rfl) ?_
    refine free_gd _ rfl (by simp [Region.wanted, yielded]) 2 rfl rfl fun K hK => ?_
    go_simp
    refine (lives_true w6).mono ?_
    rintro e w7 ⟨rfl, hk7⟩
    refine hK _ _ (fun h => by cases h) ?_
    clear hK K
    refine free_one 10 (by kernel_rfl) ?_
    refine free_at _ rfl rfl 2 rfl rfl fun K hK => ?_
    go_simp
    refine hK _ _ (fun h => by cases h) ?_
    clear hK K
    refine free_one 11 (by kernel_rfl) ?_
    refine free_at _ rfl rfl 2 rfl rfl fun K hK => ?_
    go_simp
    refine hK _ _ (fun h => by cases h) ?_
    clear hK K
    refine free_nil ?_
    go_wp2_with fail
    go_ret
    exact ⟨rfl, hk6.trans hk7⟩

open Go.ChangeShapes Go.WideShapes Go.ChangeAt
set_option maxRecDepth 100000 in
theorem span_gaps_lifted (os : Os) (started : os.Started) (H : Type) (enc : TypeId × Value → H) :
    ReturnsInHanded {} Try.checked os 5 .any (Rows.spanGapsSpec.pre6 enc Try.prog Try.f5 Rows.spanGapsRow.domain false) (Rows.spanGapsSpec.post enc Try.prog Try.f5 false true false false) := by
  refine returnsInHanded_of_change_sized (C := Try.checked) own started (by kernel_rfl) Try.func5
    (ChangeSpec.witness6 (enc := enc) (C := Try.checked) false ⟨#[], #[.slice none 0 0, .agg #[.int .i64 0, .int .i64 0]], []⟩ 8 (by kernel_rfl) (by kernel_rfl) (by kernel_rfl) (by kernel_rfl)) ?_
  intro W base args ds gs before hval0 hW hcnd _ _
  have hval : ∀ (j : Nat) t v, Try.f5.params[j]? = some t → args[j]? = some v → Value.okWide Try.prog W .any base t v := hval0
  have hW' := hW
  obtain ⟨p, q, hA0, hV, rfl, hfz, hnd⟩ := hW
  have hA : DataW.TrodAll enc Try.prog W 0 (fun _ => true) true Try.f5.params.toList args.toList ds p := hA0
  rw [Try.params5] at hA hval
  obtain ⟨v0, vs0, d0, ds0, p0, q0, hargs, rfl, rfl, h0, r0⟩ := trodAll_cons hA
  obtain ⟨v1, vs1, d1, ds1, p1, q1, rfl, rfl, rfl, h1, r1⟩ := trodAll_cons r0
  obtain ⟨rfl, rfl, rfl⟩ := trodAll_nil r1
  obtain rfl : args = #[v0, v1] := by cases args; simp_all
  obtain ⟨rfl, rfl⟩ := trodVars_none hV
  have lt0 : ∀ x ∈ p0, x.block < W.heap.size := by obtain ⟨m, hm⟩ := h0; exact DataW.trod_lt m _ _ _ hm
  have k0 := h0
  obtain ⟨a0, n0, c0, rfl⟩ := okWide_slice Try.underlying22 (hval 0 22 v0 rfl rfl)
  obtain ⟨l0, b0, i0⟩ := spans_in h0
  have lt1 : ∀ x ∈ p1, x.block < W.heap.size := by obtain ⟨m, hm⟩ := h1; exact DataW.trod_lt m _ _ _ hm
  have k1 := h1
  obtain ⟨s1, rfl, i1⟩ := span_in (hval 1 30 v1 rfl rfl) h1
  clear hA0 hval0
  refine (gaps_walk a0 n0 c0 l0 s1 W b0).mono fun e W' ⟨he, hk⟩ => ?_
  have bel := hk.below
  subst he
  exact ⟨_, rfl, _, _, _, [], _, [], hW', trodAll_mk1 (shut_bool Try.underlying4 _), (trodAll_cons_mk (Below.trod laidOut (by kernel_rfl) (of_decide_eq_true (by kernel_rfl)) k0 bel lt0)
    (trodAll_cons_mk (Below.trod laidOut (by kernel_rfl) (of_decide_eq_true (by kernel_rfl)) k1 bel lt1)
    trodAll_mk0)), rfl, bel.frame _, fun h => by cases h⟩

theorem span_gaps : Rows.SpanGapsSaid :=
  OpenClaim.holds_of_wide 5 Try.f5 rfl rfl rfl rfl rfl rfl rfl ⟨rfl, rfl, rfl, rfl, rfl⟩ rfl rfl rfl rfl rfl (by kernel_rfl) Try.func5 (by kernel_rfl)
    (of_decide_eq_true (by kernel_rfl)) (by unfold Func.isWrapper; first | (rw [if_pos (by decide +kernel)]; kernel_rfl) | (rw [if_neg (by decide +kernel)]; exact ⟨rfl, rfl⟩))
    (fun os started H enc _ => span_gaps_lifted os started H enc)
#print axioms span_gaps
end Go.Proofs.Ytkgjpmgoapfamaa
