/-
  slices.Grow from nothing, slices.Concat, Join.
-/
import Derived.Test.YtkgjpmgoapfamaaE8
import Derived.Test.YtkgjpmgoapfamaaC0
namespace Go.Proofs.Ytkgjpmgoapfamaa
open Go.RowKit

section
variable {α : Type} {enc : α → List Value} {k : Nat} {P : Program} {w : World} {e : TypeId}
/-- What an append of zeros to nothing makes. -/
theorem OwnR.zeros0 (hk : ∀ x, (enc x).length = k) (t tn ty : TypeId) (i : TypeInfo) (z : Value) (zx : α) (hz2 : enc zx = z.cells.toList) (bts : Nat) (ht : P.underlying t = some (.slice e)) (htn : P.underlying tn = some (.int .i64)) (hi : P.info? e = some i) (hz : i.zero = some z) (hsize : i.size = k) (hby : i.bytes = bts) (h0 : 0 < k)
    (m : Nat) (hm : 0 < m) (hbd : m * bts ≤ 140737488355328) (hbig : m ≤ 140737488355328) :
    ∃ G w', (Builtin.append_ #[t, tn] ty #[.slice none 0 0, .int .i64 m]).run P w = .ok (.slice (some ⟨w.heap.size, 0, none⟩) m G) w' ∧ OwnR enc k w' w.heap.size e (some ⟨w.heap.size, 0, none⟩) 0 G [] ∧ Kp Non w w' := by
  have hzs : z.cells.size = k := by have := congrArg List.length hz2; rw [hk] at this; simpa using this.symm
  have hold : (Builtin.firstCells i.size 0 (.slice none 0 0)).run P w.drew = .ok #[] w.drew := by
    rw [hsize]
    exact run_firstCells_none w.drew k 0 0 0
  have hr := Lib.run_append_grow_zeros w t tn ty e i z .i64 .i64 ht htn hi hz none 0 0 _ hold m hm (by omega) (by omega) (by omega) (by rw [hby]; omega) (by rw [hby]; exact growslice_fits (by omega) (by rw [Nat.zero_add]; exact hbd))
  rw [Nat.zero_add] at hr
  refine ⟨_, _, hr, ?_, ((Kp.refl _ w).drew).alloc _⟩
  have hge := grownCap_ge w m 0 e
  have hcm : grownCap w m 0 e ≤ maxLen := grownCap_le_maxLen w m 0 e (by unfold maxLen; omega)
  refine OwnR.mk (Nat.le_refl _) (heap_alloc_new w.drew _) (Nat.zero_le _) hcm ?_ (by simp) (by simp)
  simp only [Array.size_append, List.size_toArray, size_zeroCells, hzs, List.length_nil]
  rw [Nat.zero_add, ← Nat.add_mul]
  congr 1
  omega
end

set_option maxRecDepth 100000 in
set_option maxHeartbeats 1000000 in
theorem grow_calls (m : Nat) (w : World) (hm : m ≤ 1000000000) : Calls Try.prog 82 #[.slice none 0 0, .int .i64 m] w fun e w' => ∃ a c, e = .returned (.slice a 0 c) ∧ OwnS w' w.heap.size a 0 c [] ∧ Kp Non w w' := by
  obtain ⟨i0, hi0, hz0, hz1, hz2⟩ := info_parts infoS
  rcases Nat.eq_zero_or_pos m with rfl | hpos
  · go_enter Try.func82, Try.ntmps82
    go_wp2_with fail
    go_ret
    exact ⟨none, 0, rfl, OwnR.nil _ _ _, Kp.refl _ _⟩
  · obtain ⟨G, w1, hr, hO1, hk1⟩ := OwnR.zeros0 (P := Try.prog) (w := w) encS_len 22 3 22 i0 _ ((0, 0) : Sp) rfl 16 Try.underlying22 Try.underlying3 hi0 hz0 hz1 hz2 (by omega) m hpos (by omega) (by omega)
    have hw0 : IntKind.i64.wrap (m : Int) = (m : Int) := by rw [IntKind.wrap_i64] <;> omega
    have hp1 : decide ((0 : Int) < (m : Int)) = true := decide_eq_true (by omega)
    have hp2 : decide ((m : Int) < 0) = false := decide_eq_false (by omega)
    go_enter Try.func82, Try.ntmps82
    go_wp2_with (at_builtin; refine Lib.wpList_append_run _ rfl _ _ 22 3 rfl _ _ rfl rfl _ _ hr ?_)
    go_ret
    exact ⟨_, G, rfl, hO1, hk1⟩

/-- How many spans some rows have. -/
def total (R : List Rw) : Nat := (R.map fun r => r.2.length).sum
theorem total_snoc {R : List Rw} {j : Nat} (hj : j < R.length) : total (R.take (j + 1)) = total (R.take j) + R[j].2.length := by
  unfold total
  rw [List.take_succ_eq_append_getElem hj, List.map_append, List.sum_append]
  simp
theorem total_le {R : List Rw} (h : ∀ r ∈ R, r.2.length ≤ 1000000) : total R ≤ 1000000 * R.length := by
  unfold total
  induction R with
  | nil => simp
  | cons r R ih =>
    have h1 := h r List.mem_cons_self
    have h2 := ih fun x hx => h x (List.mem_cons_of_mem _ hx)
    simp only [List.map_cons, List.sum_cons, List.length_cons]
    omega
theorem flat_snoc {R : List Rw} {j : Nat} (hj : j < R.length) : (R.take (j + 1)).flatMap (·.2) = (R.take j).flatMap (·.2) ++ R[j].2 := by
  rw [List.take_succ_eq_append_getElem hj, List.flatMap_append]
  simp
theorem flat_total (R : List Rw) : (R.flatMap (·.2)).length = total R := by
  unfold total
  rw [List.length_flatMap]

set_option maxRecDepth 100000 in
set_option maxHeartbeats 1000000 in
theorem concat_calls (a : Option Addr) (n c : Nat) (R : List Rw) (w : World) (h : Rows2 w a n c R) (hn : n ≤ 100) (hr : ∀ r ∈ R, r.2.length ≤ 1000000) : Calls Try.prog 65 #[.slice a n c] w (SpansOut (R.flatMap (·.2)) w) := by
  obtain rfl := h.reads.len
  obtain ⟨i0, hi0, hz0, hz1, hz2⟩ := info_parts infoS
  have hc := h.reads.cap
  have hm := h.reads.max
  have HR := Lib.hid hr
  have htl : ∀ j, total (R.take j) ≤ 1000000 * 100 := fun j => by
    have h1 := total_le (R := R.take j) fun r hr' => hr r (List.mem_of_mem_take hr')
    have h2 : (R.take j).length ≤ 100 := by rw [List.length_take]; omega
    omega
  have HTL := Lib.hid htl
  clear hr htl
  go_enter Try.func65, Try.ntmps65
  go_wp2_with fail
  go_loopw [3, 11] (fun v3 v11 wr => ∃ j : Nat, j ≤ R.length ∧ v11 = .int .i64 j ∧ v3 = .int .i64 (total (R.take j)) ∧ w = wr) (fun _ v11 _ => R.length - (intOf v11).toNat)
  case atStart => exact ⟨0, by omega, rfl, rfl, rfl⟩
  case round =>
    obtain ⟨j, hj, rfl, rfl, rfl⟩ := hrel
    have ht0 := HTL.out j
    by_cases hlt : j < R.length
    · have g : (j : Int) < (R.length : Nat) := by omega
      obtain ⟨b, o, rfl⟩ := h.reads.there (by omega)
      have c0 := Rows2.c h.reads hlt
      have hX := h.each R[j] (List.getElem_mem hlt)
      have HN := Lib.hid (total_snoc hlt)
      have ht1 := HTL.out (j + 1)
      rw [total_snoc hlt] at ht1
      generalize R[j] = r at *
      obtain ⟨⟨ra, rn, rc⟩, rl⟩ := r
      simp only at c0 hX HN ht1
      obtain rfl := hX.len
      have hw1 : IntKind.i64.wrap ((total (R.take j) : Int) + (rl.length : Int)) = (total (R.take j) : Int) + (rl.length : Int) := by rw [IntKind.wrap_i64] <;> omega
      have hp2 : decide ((total (R.take j) : Int) + (rl.length : Int) < 0) = false := by simp; omega
      go_wp2_with fail
      go_roundw
      case rel => exact ⟨j + 1, by omega, by go_num, by rw [HN.out]; simp, trivial⟩
      case measure => simp [intOf]; omega
    · obtain rfl : j = R.length := by omega
      rw [List.take_of_length_le (Nat.le_refl _)] at ht0
      go_wp2_with fail
      refine (grow_calls _ _ (by omega)).mono ?_
      rintro e w1 ⟨a1, c1, rfl, hO1, hk1⟩
      go_wp2_with fail
      go_loopw [6, 27] (fun v6 v27 wq => ∃ (j : Nat) (out : List Sp) (a6 : Option Addr) (c6 : Nat), j ≤ R.length ∧ v27 = .int .i64 j ∧ v6 = .slice a6 out.length c6 ∧ Hid (out = (R.take j).flatMap (·.2)) ∧ out.length ≤ 1000000 * 100 ∧ OwnS wq w.heap.size a6 out.length c6 out ∧ Kp Non w wq) (fun _ v27 _ => R.length - (intOf v27).toNat)
      case atStart => exact ⟨0, [], a1, c1, by omega, rfl, rfl, Lib.hid rfl, by simp, hO1, hk1⟩
      case round =>
        obtain ⟨j, out, a6, c6, hj, rfl, rfl, HF, hol, hO, hkr⟩ := hrel
        by_cases hlt : j < R.length
        · have g : (j : Int) < (R.length : Nat) := by omega
          obtain ⟨b, o, rfl⟩ := h.reads.there (by omega)
          have c0 := Rows2.c (h.non hkr).reads hlt
          have hX := (h.non hkr).each R[j] (List.getElem_mem hlt)
          have HN := Lib.hid (flat_snoc hlt)
          have ht1 := HTL.out (j + 1)
          rw [← flat_total, HN.out, ← HF.out] at ht1
          generalize R[j] = r at *
          obtain ⟨⟨ra, rn, rc⟩, rl⟩ := r
          simp only at c0 hX HN ht1
          obtain rfl := hX.len
          simp only [List.length_append] at ht1
          go_wp2_with (at_builtin; refine wpList_append_row rfl _ _ 22 rfl w.heap.size 30 i0 _ 16 Try.underlying22 hi0 hz0 hz1 hz2 rfl (by decide) encS_len encS_one a6 out.length c6 out rfl hO ra rl.length rc rl rfl hX (by omega) (by omega) hkr.size ?_; intro a7 c7 w7 hO7 hq7 _)
          go_roundw
          case rel =>
            refine ⟨j + 1, out ++ rl, a7, c7, by omega, by go_num, by simp, Lib.hid (by rw [HN.out, HF.out]), by simp; omega, by simpa using hO7, hkr.comp hq7 (fun _ _ f => f) (fun i hi q => ?_)⟩
            have := (hO.blk i q).1; omega
          case measure => simp [intOf]; omega
        · obtain rfl : j = R.length := by omega
          rw [List.take_of_length_le (Nat.le_refl _)] at HF
          go_wp2_with fail
          go_ret
          rw [← HF.out]
          exact ⟨a6, c6, rfl, hO, hkr⟩

set_option maxRecDepth 100000 in
set_option maxHeartbeats 1000000 in
theorem join_calls (a : Option Addr) (n c : Nat) (A : List Sp) (a' : Option Addr) (n' c' : Nat) (B : List Sp) (w : World) (h : Spans w a n c A) (h' : Spans w a' n' c' B) (hn : n ≤ 1000000) (hn' : n' ≤ 1000000) :
    Calls Try.prog 44 #[.slice a n c, .slice a' n' c'] w (SpansOut (joinN A B) w) := by
  obtain rfl := h.len
  obtain rfl := h'.len
  have hkA : Kp Non w (w.alloc (.cells #[.slice a A.length c, .slice a' B.length c'] 22)) := (Kp.refl _ w).alloc _
  have hR : Rows2 (w.alloc (.cells #[.slice a A.length c, .slice a' B.length c'] 22)) (some ⟨w.heap.size, 0, none⟩) 2 2 [((a, A.length, c), A), ((a', B.length, c'), B)] :=
    ⟨Reads.newL encR_len rfl rfl rfl (by simp), fun r hr => by
      simp only [List.mem_cons, List.not_mem_nil, or_false] at hr
      rcases hr with rfl | rfl
      · exact h.non hkA
      · exact h'.non hkA⟩
  have HC := Lib.hid (concat_calls _ 2 2 _ _ hR (by omega) (fun r hr => by
      simp only [List.mem_cons, List.not_mem_nil, or_false] at hr
      rcases hr with rfl | rfl
      · simpa using hn
      · simpa using hn'))
  simp only [List.flatMap_cons, List.flatMap_nil, List.append_nil] at HC
  clear hR
  go_enter Try.func44, Try.ntmps44
  go_wp2_with fail
  refine HC.out.mono ?_
  rintro e w1 ⟨a1, c1, rfl, hO1, hk1⟩
  have hR1 := hO1.reads encS_len (by omega)
  rw [List.length_append] at hR1
  have hl : A.length + B.length ≤ 2000000 := by omega
  go_wp2_with fail
  refine (norm_calls a1 (A.length + B.length) c1 (A ++ B) w1 hR1 (by omega)).mono ?_
  rintro e w2 ⟨a2, c2, rfl, hO2, hk2⟩
  go_wp2_with fail
  go_ret
  have hJ : joinN A B = norm (A ++ B) := rfl
  rw [SpansOut, hJ]
  exact ⟨a2, c2, rfl, hO2.lower (Nat.le_trans hkA.size hk1.size), (hkA.trans hk1).trans hk2⟩
end Go.Proofs.Ytkgjpmgoapfamaa
