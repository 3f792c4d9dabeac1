/-
  SpanBlocks: a loop over any row's blocks goes over them, rising, each once. For every input. (The frame: sframe.py.)
-/
import Derived.Test.YtkgjpmgoapfamaaE14
import Derived.Test.YtkgjpmgoapfamaaL0
namespace Go.Proofs.Ytkgjpmgoapfamaa
open Go.RowKit

theorem take_snoc_lt {X Y : List Int} {j m : Nat} (hj : j < Y.length) (h : ((X ++ Y.take j).take m).length < m) : (X ++ Y.take (j + 1)).take m = (X ++ Y.take j).take m ++ [Y[j]] := by
  have h2 : (X ++ Y.take j).length < m := by
    rw [List.length_take] at h
    omega
  have e : X ++ Y.take (j + 1) = (X ++ Y.take j) ++ [Y[j]] := by rw [List.take_succ_eq_append_getElem hj, List.append_assoc]
  rw [e, List.take_of_length_le (Nat.le_of_lt h2), List.take_of_length_le (by rw [List.length_append]; simp at h2 ⊢; omega)]
theorem take_stop {X Y : List Int} {j m : Nat} (h : ¬ ((X ++ Y.take j).take m).length < m) : (X ++ Y).take m = (X ++ Y.take j).take m := by
  conv => lhs; rw [← List.take_append_drop j Y, ← List.append_assoc]
  simp only [List.length_take, List.length_append] at h
  rw [List.take_append_of_le_length (by simp; omega)]

set_option maxRecDepth 100000 in
set_option maxHeartbeats 1000000 in
theorem blocks_walk (aA : Option Addr) (nA cA : Nat) (lA : List Sp) (x : Int) (w : World) (hA : Spans w aA nA cA lA) (hI : ∀ s ∈ lA, -9223372036854775808 ≤ s.1 ∧ s.2 ≤ 9223372036854775807) : Calls Try.prog 7 #[.slice aA nA cA, .int .i64 x] w (BoolOut true w) := by
  obtain ⟨m, hm3, hmx⟩ : ∃ m : Nat, m ≤ 300 ∧ max 0 (min x 300) = (m : Int) := ⟨(max 0 (min x 300)).toNat, by omega, by omega⟩
  obtain ⟨i0, hi0, hz0, hz1, hz2⟩ := info_parts infoI
  go_enter Try.func7, Try.ntmps7
  go_wp2_with fail
  refine (lcut_calls aA nA cA lA w hA).mono ?_
  rintro e _ ⟨mA, rfl, rfl, hmA, hC⟩
  obtain rfl := hC.len
  have hI2 : ∀ s ∈ lA.take 60, -9223372036854775808 ≤ s.1 ∧ s.2 ≤ 9223372036854775807 := fun s hs => hI s (List.mem_of_mem_take hs)
  generalize lA.take 60 = A at *
  clear hA hI
  have hA := hC
  clear hC
  have HI := Lib.hid hI2
  have HN := Lib.hid (norm_i64 hI2)
  clear hI2
  go_wp2_with fail
  refine (of_calls aA A.length cA A none 0 0 [] 0 w hA (Reads.empty _) (.inl rfl) (by omega) (by omega)).mono ?_
  rintro e w1 ⟨aR, cR, rfl, hO1, hk1⟩
  rw [of_norm] at hO1 ⊢
  have hA1 := hA.non hk1
  have hnl := norm_len A
  have HF := Lib.hid (fun W (h : Spans W aA A.length cA A) => first_calls aA A.length cA A m W h (by omega) hm3 HI.out)
  clear hA
  generalize norm A = R at *
  have hRd := hO1.reads encS_len (by omega)
  have hcR := hRd.cap
  have hmR := hRd.max
  have HW := Lib.hid (show blks (R.take R.length) = blks R by rw [List.take_length])
  go_wp2_with fail
  go_loopw [5, 20] (fun v5 v20 wr => ∃ (k : Nat) (a5 : Option Addr) (c5 : Nat), k ≤ R.length ∧ v20 = .int .i64 k ∧ v5 = .slice a5 ((blks (R.take k)).take m).length c5 ∧ OwnI wr w1.heap.size a5 ((blks (R.take k)).take m).length c5 ((blks (R.take k)).take m) ∧ Kp Non w1 wr) (fun _ v20 _ => R.length - (intOf v20).toNat)
  case atStart => exact ⟨0, none, 0, by omega, rfl, by simp [blks], by simpa [blks] using OwnR.nil _ _ _, Kp.refl _ _⟩
  case round =>
    obtain ⟨k, a5, c5, hk, rfl, rfl, hO5, hkr⟩ := hrel
    by_cases hlt : k < R.length
    · have g : (k : Int) < (R.length : Nat) := by omega
      have hRr := hRd.non hkr
      obtain ⟨b, o, rfl⟩ := hRr.there (by omega)
      have c0 := Spans.c0 hRr hlt
      have c1 := Spans.c1 hRr hlt
      have hbd := HN.out R[k] (List.getElem_mem hlt)
      have HSn := Lib.hid (blks_snoc hlt)
      have hbx := BoxS.new wr R[k]
      have hkN : Kp Non wr (wr.alloc (.cells #[.int .i64 R[k].1, .int .i64 R[k].2] 30)) := (Kp.refl _ wr).alloc _
      have hO5N := hO5.non hkN
      have HLe : Hid (((blks (R.take k)).take m).length ≤ m) := Lib.hid (by simp; omega)
      clear hRr hO5
      generalize R[k] = s at *
      generalize blks (R.take k) = X at *
      have hwb := hkr.size
      go_wp2_with fail
      go_loopw [5, 8] (fun v5 v8 wi => ∃ (j : Nat) (a6 : Option Addr) (c6 : Nat), j ≤ (rng s).length ∧ v8 = .int .i64 (s.1 + (j : Int)) ∧ v5 = .slice a6 ((X ++ (rng s).take j).take m).length c6 ∧ OwnI wi w1.heap.size a6 ((X ++ (rng s).take j).take m).length c6 ((X ++ (rng s).take j).take m) ∧ BoxS wi wr.heap.size s ∧ Kp Non w1 wi) (fun _ v8 _ => (rng s).length - (intOf v8 - s.1).toNat)
      case atStart => exact ⟨0, a5, c5, by omega, by simp, by simp, by simpa using hO5N, hbx, hkr.trans hkN⟩
      case round =>
        obtain ⟨j, a6, c6, hj, rfl, rfl, hO6, hbi, hki⟩ := hrel
        have hrl := rng_len s
        have b1 := hbi.c1
        have hLm : ((X ++ (rng s).take j).take m).length ≤ m := by simp; omega
        have HD : Hid (¬ ((X ++ (rng s).take j).take m).length < m → (X ++ rng s).take m = (X ++ (rng s).take j).take m) := Lib.hid take_stop
        by_cases hjl : j < (rng s).length
        · have HT := Lib.hid (fun h => take_snoc_lt (X := X) (m := m) hjl h)
          have HA := Lib.hid (rng_at s hjl)
          have g2 : s.1 + (j : Int) < s.2 := by omega
          have hwj : IntKind.i64.wrap (s.1 + (j : Int) + 1) = s.1 + ((j + 1 : Nat) : Int) := by rw [IntKind.wrap_i64] <;> omega
          generalize hL : (X ++ (rng s).take j).take m = L at *
          clear hL
          by_cases hfull : L.length < m
          · have g3 : (L.length : Int) < (m : Int) := by omega
            go_wp2_with (at_builtin; refine wpList_append_row rfl _ _ 37 rfl w1.heap.size 3 i0 _ 8 Try.underlying37 hi0 hz0 hz1 hz2 rfl (by decide) encI_len encI_one a6 L.length c6 L rfl (hO6.non ((Kp.refl _ _).alloc _)) _ 1 1 [s.1 + (j : Int)] rfl (Reads.new rfl rfl) (by omega) (by omega) ?_ ?_; exact Nat.le_trans hki.size (by simp); intro a7 c7 w7 hO7 hq7 _)
            have hkT : Kp Non wr (wr.alloc (.cells #[.int .i64 (s.1 + (j : Int))] 3)) := (Kp.refl _ _).alloc _
            have hb7 := (hbi.non hkT).kp hq7 (fun q => by
              obtain ⟨cs, e1⟩ := hO6.tag _ q
              rw [show wr.heap[_]? = _ from hbi] at e1
              simp at e1)
            have hk7 : Kp Non w1 w7 := (hki.trans hkT).comp hq7 (fun _ _ f => f) (fun i hi q => by have := (hO6.blk i q).1; omega)
            refine ⟨⟨j + 1, a7, c7, by omega, by simp, ?_, ?_, hb7, hk7⟩, by simp [intOf]; omega⟩
            · rw [HT.out hfull]; simp
            · rw [HT.out hfull, HA.out]; simpa using hO7
          · have g3 : decide (L.length < m) = false := by simp; omega
            have HE := Lib.hid (HD.out hfull)
            clear HD HT hfull
            go_wp2_with fail
            go_roundw
            case rel => exact ⟨k + 1, a6, c6, by omega, by go_num, by rw [HSn.out, HE.out], by rw [HSn.out, HE.out]; exact hO6, hki⟩
            case measure => simp [intOf]; omega
        · obtain rfl : j = (rng s).length := by omega
          have g2 : decide (s.1 + ((rng s).length : Int) < s.2) = false := by simp; omega
          rw [List.take_length] at hO6 ⊢
          clear HD hLm
          have HE := HSn
          generalize hL : (X ++ rng s).take m = L at *
          have HL := Lib.hid hL
          clear hL
          go_wp2_with fail
          go_roundw
          case rel => exact ⟨k + 1, a6, c6, by omega, by go_num, by rw [HSn.out, HL.out], by rw [HSn.out, HL.out]; exact hO6, hki⟩
          case measure => simp [intOf]; omega
    · obtain rfl : k = R.length := by omega
      rw [HW.out] at hO5 ⊢
      have hI5 := hO5.reads encI_len (by omega)
      have hAr := hA1.non hkr
      clear hO5 HN HW hRd hO1
      have HFm : Hid (((blks R).take m).length ≤ 300) := Lib.hid (by simp; omega)
      generalize (blks R).take m = L at *
      have hkr := hk1.trans hkr
      go_wp2_with fail
      refine (HF.out _ hAr).mono ?_
      rintro e w2 ⟨a6, c6, rfl, hO6, hk2⟩
      have hI6 := hO6.reads encI_len (by omega)
      have hI5 := hI5.non hk2
      have hA2 := hAr.non hk2
      have hk2 := hkr.trans hk2
      go_wp2_with fail
      refine (HF.out _ hA2).mono ?_
      rintro e w3 ⟨a7, c7, rfl, hO7, hk3⟩
      have hI7 := hO7.reads encI_len (by omega)
      have hI5 := hI5.non hk3
      have hI6 := hI6.non hk3
      have hk3 := hk2.trans hk3
      have hne : ((L.length : Int) != (L.length : Int)) = false := by simp
      clear hAr hA2 hO6 hO7 hA1 HF
      have hc5 := hI5.cap
      have hc6 := hI6.cap
      have hc7 := hI7.cap
      have hx5 := hI5.max
      have hx6 := hI6.max
      have hx7 := hI7.max
      go_wp2_with fail
      go_loopw [63] (fun v63 wr => ∃ k : Nat, k ≤ L.length ∧ v63 = .int .i64 k ∧ Kp Non w3 wr) (fun v63 _ => L.length - (intOf v63).toNat)
      case atStart => exact ⟨0, by omega, rfl, Kp.refl _ _⟩
      case round =>
        obtain ⟨k, hk, rfl, hk4⟩ := hrel
        by_cases hlt : k < L.length
        · have g : (k : Int) < (L.length : Nat) := by omega
          obtain ⟨b5, o5, rfl⟩ := hI5.there (by omega)
          obtain ⟨b6, o6, rfl⟩ := hI6.there (by omega)
          obtain ⟨b7, o7, rfl⟩ := hI7.there (by omega)
          have c5 := Ints.c (hI5.non hk4.drew) hlt
          have c6 := Ints.c (hI6.non hk4.drew) hlt
          have c7 := Ints.c (hI7.non hk4.drew) hlt
          generalize L[k] = y at *
          go_wp2_with fail
          refine wp_region_chain [0,0,0,0,0,0,0,0,0,0,0,0,0,0,0,0,0,0,0,0] (by kernel_rfl) (by kernel_rfl) (fun w' => w'.cell? ⟨b5, o5 + k, none⟩ = some (.int .i64 y) ∧ w'.cell? ⟨b6, o6 + k, none⟩ = some (.int .i64 y) ∧ w'.cell? ⟨b7, o7 + k, none⟩ = some (.int .i64 y)) ⟨c5, c6, c7⟩ ?_
          iterate 10 ((with_reducible refine pure_k rfl ?_); intro K hK; apply Exists.intro; refine ⟨fun w' hC => ?_, ?_⟩; (obtain ⟨g1, g2, g3⟩ := hC; go_simp; rfl); go_simp; refine hK _ ?_; clear hK K)
          iterate 9 ((with_reducible refine pure_ky (by simp [Region.wanted, yielded]) ?_); intro K hK; apply Exists.intro; refine ⟨fun w' hC => ?_, ?_⟩; (obtain ⟨g1, g2, g3⟩ := hC; go_simp; rfl); go_simp; refine hK _ ?_; clear hK K)
          iterate 1 ((with_reducible refine pure_k rfl ?_); intro K hK; apply Exists.intro; refine ⟨fun w' hC => ?_, ?_⟩; (obtain ⟨g1, g2, g3⟩ := hC; go_simp; rfl); go_simp; refine hK _ ?_; clear hK K)
          with_reducible refine pure_nil ?_
          repeat (with_reducible refine chain_skip0 ?_)
          with_reducible refine chain_nil ?_
          go_wp2_with fail
          go_roundw
          case rel => exact ⟨k + 1, by omega, by go_num, hk4.drew⟩
          case measure => simp [intOf]; omega
        · obtain rfl : k = L.length := by omega
          go_wp2_with fail
          refine (lives_true wr).mono ?_
          rintro e w4 ⟨rfl, hk5⟩
          go_wp2_with fail
          go_ret
          exact ⟨rfl, hk3.trans (hk4.trans hk5)⟩
open Go.ChangeShapes Go.WideShapes Go.ChangeAt
set_option maxRecDepth 100000 in
theorem span_blocks_lifted (os : Os) (started : os.Started) (H : Type) (enc : TypeId × Value → H) :
    ReturnsInHanded {} Try.checked os 7 .any (Rows.spanBlocksSpec.pre6 enc Try.prog Try.f7 Rows.spanBlocksRow.domain false) (Rows.spanBlocksSpec.post enc Try.prog Try.f7 false true false false) := by
  refine returnsInHanded_of_change_sized (C := Try.checked) own started (by kernel_rfl) Try.func7
    (ChangeSpec.witness6 (enc := enc) (C := Try.checked) false ⟨#[], #[.slice none 0 0, .int .i64 0], []⟩ 8 (by kernel_rfl) (by kernel_rfl) (by kernel_rfl) (by kernel_rfl)) ?_
  intro W base args ds gs before hval0 hW hcnd _ _
  have hval : ∀ (j : Nat) t v, Try.f7.params[j]? = some t → args[j]? = some v → Value.okWide Try.prog W .any base t v := hval0
  have hW' := hW
  obtain ⟨p, q, hA0, hV, rfl, hfz, hnd⟩ := hW
  have hA : DataW.TrodAll enc Try.prog W 0 (fun _ => true) true Try.f7.params.toList args.toList ds p := hA0
  rw [Try.params7] at hA hval
  obtain ⟨v0, vs0, d0, ds0, p0, q0, hargs, rfl, rfl, h0, r0⟩ := trodAll_cons hA
  obtain ⟨v1, vs1, d1, ds1, p1, q1, rfl, rfl, rfl, h1, r1⟩ := trodAll_cons r0
  obtain ⟨rfl, rfl, rfl⟩ := trodAll_nil r1
  obtain rfl : args = #[v0, v1] := by cases args; simp_all
  obtain ⟨rfl, rfl⟩ := trodVars_none hV
  have lt0 : ∀ x ∈ p0, x.block < W.heap.size := by obtain ⟨m, hm⟩ := h0; exact DataW.trod_lt m _ _ _ hm
  have k0 := h0
  obtain ⟨a0, n0, c0, rfl⟩ := okWide_slice Try.underlying22 (hval 0 22 v0 rfl rfl)
  obtain ⟨l0, b0, i0⟩ := spans_in h0
  have lt1 : ∀ x ∈ p1, x.block < W.heap.size := by obtain ⟨m, hm⟩ := h1; exact DataW.trod_lt m _ _ _ hm
  have k1 := h1
  obtain ⟨a1, rfl, _, _, w1⟩ := open_int Try.underlying3 (hval 1 3 v1 rfl rfl) h1
  simp only [Lit.wf, Bool.and_eq_true, decide_eq_true_eq] at w1
  clear hA0 hval0
  refine (blocks_walk a0 n0 c0 l0 a1 W b0 (fun s hs => ⟨(i0 s hs).1.1, (i0 s hs).2.2⟩)).mono fun e W' ⟨he, hk⟩ => ?_
  have bel := hk.below
  subst he
  exact ⟨_, rfl, _, _, _, [], _, [], hW', trodAll_mk1 (shut_bool Try.underlying4 _), (trodAll_cons_mk (Below.trod laidOut (by kernel_rfl) (of_decide_eq_true (by kernel_rfl)) k0 bel lt0)
    (trodAll_cons_mk (Below.trod laidOut (by kernel_rfl) (of_decide_eq_true (by kernel_rfl)) k1 bel lt1)
    trodAll_mk0)), rfl, bel.frame _, fun h => by cases h⟩

theorem span_blocks : Rows.SpanBlocksSaid :=
  OpenClaim.holds_of_wide 7 Try.f7 rfl rfl rfl rfl rfl rfl rfl ⟨rfl, rfl, rfl, rfl, rfl⟩ rfl rfl rfl rfl rfl (by kernel_rfl) Try.func7 (by kernel_rfl)
    (of_decide_eq_true (by kernel_rfl)) (by unfold Func.isWrapper; first | (rw [if_pos (by decide +kernel)]; kernel_rfl) | (rw [if_neg (by decide +kernel)]; exact ⟨rfl, rfl⟩))
    (fun os started H enc _ => span_blocks_lifted os started H enc)
#print axioms span_blocks
end Go.Proofs.Ytkgjpmgoapfamaa
