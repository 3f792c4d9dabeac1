/-
  SpanHas: whether a row has a block, and two spans one of both. For every input. (The frame: sframe.py.)
-/
import Derived.Test.YtkgjpmgoapfamaaE11
namespace Go.Proofs.Ytkgjpmgoapfamaa
open Go.RowKit Go.ChangeShapes Go.WideShapes Go.ChangeAt Go.Deep

section
variable {H : Type} {enc : TypeId × Value → H} {w : World} {base : Nat} {held : Bool}
set_option maxRecDepth 100000 in
theorem two_in {b0 : Nat} {v : Value} {d : DataW H} {p : List MemPlace} (hv : Value.okWide Try.prog w .any b0 33 v) (h : DataW.Trod enc Try.prog w base (fun _ => true) held 33 v d p) : ∃ s t : Sp, v = .agg #[.int .i64 s.1, .int .i64 s.2, .int .i64 t.1, .int .i64 t.2] ∧ SpI s ∧ SpI t := by
  have hT : Try.prog.underlying 33 = some (.array 2 30) := by kernel_rfl
  have h2 : Try.prog.cellsOf 30 = 2 := by kernel_rfl
  have h4 : Try.prog.cellsOf 33 = 4 := by kernel_rfl
  have hv' := hv
  simp only [Value.okWide, hT] at hv'
  obtain ⟨cs, rfl, hsz, _⟩ := hv'
  rw [h4] at hsz
  obtain ⟨l⟩ := cs
  match l, hsz with
  | [v0, v1, v2, v3], _ =>
    obtain ⟨fuel, ht⟩ := h
    obtain ⟨xs, m, _, _, _, hxl, hfl⟩ := DataW.trod_array hT ht
    have f0 := hfl 0 (by omega)
    have f1 := hfl 1 (by omega)
    rw [h2] at f0 f1
    match xs, hxl with
    | [y0, y1], _ =>
      have f0 : DataW.trod enc Try.prog w base (fun _ => true) held m 30 [v0, v1] = some y0 := by simpa [Value.cells] using f0
      have f1 : DataW.trod enc Try.prog w base (fun _ => true) held m 30 [v2, v3] = some y1 := by simpa [Value.cells] using f1
      obtain ⟨s, rfl, rfl, hs⟩ := span_cells f0
      obtain ⟨t, rfl, rfl, ht'⟩ := span_cells f1
      exact ⟨s, t, rfl, hs, ht'⟩
end

theorem Reads.at1 {w : World} {b o c : Nat} {s : Sp} (hc : 1 ≤ c) (hm : c ≤ 1000) (h0 : w.cell? ⟨b, o, none⟩ = some (.int .i64 s.1)) (h1 : w.cell? ⟨b, o + 1, none⟩ = some (.int .i64 s.2)) : Spans w (some ⟨b, o, none⟩) 1 c [s] :=
  ⟨rfl, hc, by omega, (fun h => by cases h), fun j y hy => ⟨b, o, rfl, fun i v hv => by
    match j with
    | 0 =>
      simp at hy; subst hy
      match i, hv with
      | 0, hv => simp [encS] at hv; subst hv; simpa using h0
      | 1, hv => simp [encS] at hv; subst hv; simpa using h1
      | i + 2, hv => simp [encS] at hv
    | j + 1 => simp at hy⟩⟩

set_option maxRecDepth 100000 in
set_option maxHeartbeats 1000000 in
theorem has_walk (aA : Option Addr) (nA cA : Nat) (lA : List Sp) (x : Int) (s t : Sp) (w : World) (hA : Spans w aA nA cA lA) : Calls Try.prog 6 #[.slice aA nA cA, .int .i64 x, .agg #[.int .i64 s.1, .int .i64 s.2, .int .i64 t.1, .int .i64 t.2]] w (BoolOut true w) := by
  have hb0 : (w.alloc (.cells #[.int .i64 s.1, .int .i64 s.2, .int .i64 t.1, .int .i64 t.2] 33)).heap[w.heap.size]? = some (.cells #[.int .i64 s.1, .int .i64 s.2, .int .i64 t.1, .int .i64 t.2] 33 (0, 0)) := heap_alloc_new w _
  have hA0 := hA.non ((Kp.refl Non w).alloc (.cells #[.int .i64 s.1, .int .i64 s.2, .int .i64 t.1, .int .i64 t.2] 33))
  go_enter Try.func6, Try.ntmps6
  go_wp2_with fail
  refine (lcut_calls aA nA cA lA _ hA0).mono ?_
  rintro e wb ⟨mA, rfl, hw, hmA, hC⟩
  obtain rfl := hC.len
  generalize lA.take 60 = A at *
  clear hA hA0
  have hA := hC
  clear hC
  rw [hw] at hb0 hA
  have hkb : Kp Non w wb := by rw [← hw]; exact (Kp.refl _ _).alloc _
  clear hw
  generalize w.heap.size = bx at *
  have x0 : wb.cell? ⟨bx, 0, none⟩ = some (.int .i64 s.1) := (cell_of_row wb bx 0 _ _ _ hb0).trans rfl
  have x1 : wb.cell? ⟨bx, 1, none⟩ = some (.int .i64 s.2) := (cell_of_row wb bx 1 _ _ _ hb0).trans rfl
  have x2 : wb.cell? ⟨bx, 2, none⟩ = some (.int .i64 t.1) := (cell_of_row wb bx 2 _ _ _ hb0).trans rfl
  have x3 : wb.cell? ⟨bx, 3, none⟩ = some (.int .i64 t.2) := (cell_of_row wb bx 3 _ _ _ hb0).trans rfl
  have HTM := Lib.hid (touch_meet s t)
  have hal : Try.prog.arrayLen 33 = 2 := by kernel_rfl
  have hel : Try.prog.elem 33 = 30 := by kernel_rfl
  have hT : Try.prog.underlying 33 = some (.array (Try.prog.arrayLen 33) (Try.prog.elem 33)) := by kernel_rfl
  have hs1 : ∀ w, (Instr.sliceAt 33 (.pointer (some ⟨bx, 0, none⟩)) none (some (.int .i64 1)) none).run Try.prog w = .ok (.slice (some ⟨bx, 0, none⟩) 1 2) w := fun w => by
    have hz := Try.sizeOf30
    rw [run_sliceAt_array_h w 33 ⟨bx, 0, none⟩ hT .i64 1 (by omega) (by rw [hal]; omega), hel, hal, hz]
    simp [Result.andThen, slicedAt, Addr.add]
  have hs2 : ∀ w, (Instr.sliceAt 33 (.pointer (some ⟨bx, 0, none⟩)) (some (.int .i64 1)) none none).run Try.prog w = .ok (.slice (some ⟨bx, 2, none⟩) 1 1) w := fun w => by
    have hz := Try.sizeOf30
    rw [run_sliceAt_array_l w 33 ⟨bx, 0, none⟩ hT .i64 1 (by omega) (by rw [hal]; omega), hel, hal, hz]
    simp [Result.andThen, slicedAt, Addr.add]
  clear hal hel hT
  go_wp2_with fail
  refine wp_region_chain [0,0,2,2,2,2] (by kernel_rfl) (by kernel_rfl) (fun w' => w'.cell? ⟨bx, 0, none⟩ = some (.int .i64 s.1) ∧ w'.cell? ⟨bx, 1, none⟩ = some (.int .i64 s.2)) ⟨x0, x1⟩ ?_
  repeat (first | (with_reducible refine pure_skip ?_) | ((with_reducible refine pure_k rfl ?_); intro K hK; apply Exists.intro; refine ⟨fun w' hC => ?_, ?_⟩; (obtain ⟨g1, g2⟩ := hC; go_simp; rfl); go_simp; refine hK _ ?_; clear hK K))
  with_reducible refine pure_nil ?_
  repeat (with_reducible refine chain_skip0 ?_)
  with_reducible refine chain_step rfl fun K hK => ?_
  go_simp
  have hkd : Kp Non wb wb.drew := (Kp.refl _ _).drew
  have q1 : Spans wb.drew (some ⟨bx, 0, none⟩) 1 2 [s] := Reads.at1 (by omega) (by omega) (hkd.cell x0 (fun f => f)) (hkd.cell x1 (fun f => f))
  have q2 : Spans wb.drew (some ⟨bx, 2, none⟩) 1 1 [t] := Reads.at1 (by omega) (by omega) (hkd.cell x2 (fun f => f)) (hkd.cell x3 (fun f => f))
  refine (of_calls _ 1 2 [s] _ 1 1 [t] 1 _ q1 q2 (.inr (.inl rfl)) (by omega) (by omega)).mono ?_
  rintro e w1 ⟨a1, c1, rfl, hO1, hk1⟩
  rw [of_meet] at hO1 ⊢
  have hk1 : Kp Non wb w1 := hkd.trans hk1
  refine hK _ _ (fun h => by cases h) ?_
  clear hK K
  repeat (with_reducible refine chain_skip0 ?_)
  with_reducible refine chain_step rfl fun K hK => ?_
  go_simp
  refine hK _ _ (fun h => by cases h) ?_
  clear hK K
  repeat (with_reducible refine chain_skip0 ?_)
  with_reducible refine chain_step rfl fun K hK => ?_
  go_simp
  refine hK _ _ (fun h => by cases h) ?_
  clear hK K
  repeat (with_reducible refine chain_skip0 ?_)
  with_reducible refine chain_step rfl fun K hK => ?_
  go_simp
  refine hK _ _ (fun h => by cases h) ?_
  clear hK K
  with_reducible refine chain_nil ?_
  have hA1 := hA.non hk1
  clear hA hO1 q1 q2 hs1 hs2
  have H1 := Lib.hid (fun W => touch_calls s t W)
  have hH2 : ∀ W, Calls Try.prog 27 #[valS t, valS s] W (BoolOut (touchB s t) W) := fun W => by rw [← touch_comm s t]; exact touch_calls t s W
  have H2 := Lib.hid hH2
  have H3 := Lib.hid (fun W (h : Spans W aA A.length cA A) => has_calls aA A.length cA A x W h)
  have H4 := Lib.hid (fun W (h : Spans W aA A.length cA A) => rHas_calls aA A.length cA A x W h)
  clear hH2
  rw [← HTM.out]
  clear HTM
  generalize touchB s t = tb at *
  generalize has A x = hb at *
  generalize (meetN [s] [t]).length = nm at *
  have hbb : (hb == hb) = true := beq_self_eq_true _
  have htt : (tb == tb) = true := beq_self_eq_true _
  go_wp2_with fail
  refine (H3.out _ hA1).mono ?_
  rintro e w2 ⟨rfl, hk2⟩
  have hA2 := hA1.non hk2
  have hk2 : Kp Non wb w2 := hk1.trans hk2
  clear hA1 hk1
  go_wp2_with fail
  refine (H4.out _ hA2).mono ?_
  rintro e w3 ⟨rfl, hk3⟩
  have hk3 : Kp Non wb w3 := hk2.trans hk3
  have y0 := hk3.cell x0 (fun f => f)
  have y1 := hk3.cell x1 (fun f => f)
  have y2 := hk3.cell x2 (fun f => f)
  have y3 := hk3.cell x3 (fun f => f)
  clear hA2 hk2
  go_wp2_with fail
  refine (H1.out _).mono ?_
  rintro e w4 ⟨rfl, hk4⟩
  have hk4 : Kp Non wb w4 := hk3.trans hk4
  clear y0 y1 y2 y3 hk3
  have y0 := hk4.cell x0 (fun f => f)
  have y1 := hk4.cell x1 (fun f => f)
  have y2 := hk4.cell x2 (fun f => f)
  have y3 := hk4.cell x3 (fun f => f)
  go_wp2_with fail
  refine (H2.out _).mono ?_
  rintro e w5 ⟨rfl, hk5⟩
  have hk5 : Kp Non wb w5 := hk4.trans hk5
  go_wp2_with fail
  refine (lives_true w5).mono ?_
  rintro e w6 ⟨rfl, hk6⟩
  go_wp2_with fail
  go_ret
  exact ⟨rfl, hkb.trans (hk5.trans hk6)⟩

open Go.ChangeShapes Go.WideShapes Go.ChangeAt
set_option maxRecDepth 100000 in
theorem span_has_lifted (os : Os) (started : os.Started) (H : Type) (enc : TypeId × Value → H) :
    ReturnsInHanded {} Try.checked os 6 .any (Rows.spanHasSpec.pre6 enc Try.prog Try.f6 Rows.spanHasRow.domain false) (Rows.spanHasSpec.post enc Try.prog Try.f6 false true false false) := by
  refine returnsInHanded_of_change_sized (C := Try.checked) own started (by kernel_rfl) Try.func6
    (ChangeSpec.witness6 (enc := enc) (C := Try.checked) false ⟨#[], #[.slice none 0 0, .int .i64 0, .agg #[.int .i64 0, .int .i64 0, .int .i64 0, .int .i64 0]], []⟩ 8 (by kernel_rfl) (by kernel_rfl) (by kernel_rfl) (by kernel_rfl)) ?_
  intro W base args ds gs before hval0 hW hcnd _ _
  have hval : ∀ (j : Nat) t v, Try.f6.params[j]? = some t → args[j]? = some v → Value.okWide Try.prog W .any base t v := hval0
  have hW' := hW
  obtain ⟨p, q, hA0, hV, rfl, hfz, hnd⟩ := hW
  have hA : DataW.TrodAll enc Try.prog W 0 (fun _ => true) true Try.f6.params.toList args.toList ds p := hA0
  rw [Try.params6] at hA hval
  obtain ⟨v0, vs0, d0, ds0, p0, q0, hargs, rfl, rfl, h0, r0⟩ := trodAll_cons hA
  obtain ⟨v1, vs1, d1, ds1, p1, q1, rfl, rfl, rfl, h1, r1⟩ := trodAll_cons r0
  obtain ⟨v2, vs2, d2, ds2, p2, q2, rfl, rfl, rfl, h2, r2⟩ := trodAll_cons r1
  obtain ⟨rfl, rfl, rfl⟩ := trodAll_nil r2
  obtain rfl : args = #[v0, v1, v2] := by cases args; simp_all
  obtain ⟨rfl, rfl⟩ := trodVars_none hV
  have lt0 : ∀ x ∈ p0, x.block < W.heap.size := by obtain ⟨m, hm⟩ := h0; exact DataW.trod_lt m _ _ _ hm
  have k0 := h0
  obtain ⟨a0, n0, c0, rfl⟩ := okWide_slice Try.underlying22 (hval 0 22 v0 rfl rfl)
  obtain ⟨l0, b0, i0⟩ := spans_in h0
  have lt1 : ∀ x ∈ p1, x.block < W.heap.size := by obtain ⟨m, hm⟩ := h1; exact DataW.trod_lt m _ _ _ hm
  have k1 := h1
  obtain ⟨a1, rfl, _, _, w1⟩ := open_int Try.underlying3 (hval 1 3 v1 rfl rfl) h1
  simp only [Lit.wf, Bool.and_eq_true, decide_eq_true_eq] at w1
  have lt2 : ∀ x ∈ p2, x.block < W.heap.size := by obtain ⟨m, hm⟩ := h2; exact DataW.trod_lt m _ _ _ hm
  have k2 := h2
  obtain ⟨s2, t2, rfl, i2, j2⟩ := two_in (hval 2 33 v2 rfl rfl) h2
  clear hA0 hval0
  refine (has_walk a0 n0 c0 l0 a1 s2 t2 W b0).mono fun e W' ⟨he, hk⟩ => ?_
  have bel := hk.below
  subst he
  exact ⟨_, rfl, _, _, _, [], _, [], hW', trodAll_mk1 (shut_bool Try.underlying4 _), (trodAll_cons_mk (Below.trod laidOut (by kernel_rfl) (of_decide_eq_true (by kernel_rfl)) k0 bel lt0)
    (trodAll_cons_mk (Below.trod laidOut (by kernel_rfl) (of_decide_eq_true (by kernel_rfl)) k1 bel lt1)
    (trodAll_cons_mk (Below.trod laidOut (by kernel_rfl) (of_decide_eq_true (by kernel_rfl)) k2 bel lt2)
    trodAll_mk0))), rfl, bel.frame _, fun h => by cases h⟩

theorem span_has : Rows.SpanHasSaid :=
  OpenClaim.holds_of_wide 6 Try.f6 rfl rfl rfl rfl rfl rfl rfl ⟨rfl, rfl, rfl, rfl, rfl⟩ rfl rfl rfl rfl rfl (by kernel_rfl) Try.func6 (by kernel_rfl)
    (of_decide_eq_true (by kernel_rfl)) (by unfold Func.isWrapper; first | (rw [if_pos (by decide +kernel)]; kernel_rfl) | (rw [if_neg (by decide +kernel)]; exact ⟨rfl, rfl⟩))
    (fun os started H enc _ => span_has_lifted os started H enc)
#print axioms span_has
end Go.Proofs.Ytkgjpmgoapfamaa
