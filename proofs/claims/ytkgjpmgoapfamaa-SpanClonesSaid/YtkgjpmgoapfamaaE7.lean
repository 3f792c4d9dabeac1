/-
  The document's Of.
-/
import Derived.Test.YtkgjpmgoapfamaaE6
import Derived.Test.YtkgjpmgoapfamaaE3
namespace Go.Proofs.Ytkgjpmgoapfamaa
open Go.RowKit

/-- Is a block asked for? -/
def kf (kd : Int) (p q : Bool) : Bool := if kd = 0 then p || q else if kd = 1 then p && q else p && !q
def ofL (kd : Int) (A B : List Sp) : List Sp := buildL (fun x => kf kd (has A x) (has B x)) (endsL [A, B])

theorem has_cong {l : List Sp} {x y : Int} (h : mem l x ↔ mem l y) : has l x = has l y := by
  cases hx : has l x with
  | true => exact ((has_iff l y).2 (h.1 ((has_iff l x).1 hx))).symm
  | false =>
    cases hy : has l y with
    | true =>
      have := (has_iff l x).2 (h.2 ((has_iff l y).1 hy))
      rw [hx] at this; cases this
    | false => rfl
theorem has_no {l : List Sp} {x : Int} (h : ¬ mem l x) : has l x = false := by
  cases hx : has l x with
  | true => exact absurd ((has_iff l x).1 hx) h
  | false => rfl
theorem ofL_law (kd : Int) (A B : List Sp) : Plain (ofL kd A B) ∧ ∀ x, mem (ofL kd A B) x ↔ kf kd (has A x) (has B x) = true := by
  refine of_law [A, B] (fun x => kf kd (has A x) (has B x)) (fun x y h => ?_) (fun x h => ?_)
  · have h1 := has_cong (h A (by simp))
    have h2 := has_cong (h B (by simp))
    simp only [h1, h2]
  · have h1 := has_no (h A (by simp))
    have h2 := has_no (h B (by simp))
    simp only [h1, h2]
    unfold kf
    split
    · rfl
    · split <;> rfl
theorem of_join (A B : List Sp) : ofL 0 A B = joinN A B := plain_ext (ofL_law _ _ _).1 (joinN_plain _ _) fun x => by
  rw [(ofL_law _ _ _).2, joinN_in]
  simp [kf, has_iff]
theorem of_meet (A B : List Sp) : ofL 1 A B = meetN A B := plain_ext (ofL_law _ _ _).1 (meetN_plain _ _) fun x => by
  rw [(ofL_law _ _ _).2, meetN_in]
  simp [kf, has_iff]
theorem of_cut (A B : List Sp) : ofL 2 A B = cutN A B := plain_ext (ofL_law _ _ _).1 (cutN_plain _ _) fun x => by
  rw [(ofL_law _ _ _).2, cutN_in, ← has_iff A, ← has_iff B]
  simp [kf]
theorem of_norm (A : List Sp) : ofL 0 A [] = norm A := by
  rw [of_join]
  unfold joinN
  rw [List.append_nil]

theorem ends_len2 (A B : List Sp) : (endsL [A, B]).length ≤ 2 * A.length + 2 * B.length := by
  have h1 := fold_len A []
  have h2 := fold_len B (A.foldl estep [])
  have h3 : (endsL [A, B]).length = (B.foldl estep (A.foldl estep [])).length := rfl
  simp only [List.length_nil] at h1
  omega
theorem ends_rise2 (A B : List Sp) : RiseI (endsL [A, B]) := fold_rise (fold_rise List.Pairwise.nil)

set_option maxRecDepth 100000 in
set_option maxHeartbeats 2000000 in
theorem of_calls (a : Option Addr) (n c : Nat) (A : List Sp) (a' : Option Addr) (n' c' : Nat) (B : List Sp) (kd : Int) (w : World) (h : Spans w a n c A) (h' : Spans w a' n' c' B) (hkd : kd = 0 ∨ kd = 1 ∨ kd = 2) (hn : n ≤ 1000) (hn' : n' ≤ 1000) :
    Calls Try.prog 20 #[.slice a n c, .slice a' n' c', .int .i64 kd] w (SpansOut (ofL kd A B) w) := by
  obtain rfl := h.len
  obtain rfl := h'.len
  obtain ⟨i0, hi0, hz0, hz1, hz2⟩ := info_parts infoB
  have hkA : Kp Non w (w.alloc (.cells #[.slice a A.length c, .slice a' B.length c'] 22)) := (Kp.refl _ w).alloc _
  have hR : Rows2 (w.alloc (.cells #[.slice a A.length c, .slice a' B.length c'] 22)) (some ⟨w.heap.size, 0, none⟩) 2 2 [((a, A.length, c), A), ((a', B.length, c'), B)] :=
    ⟨Reads.newL encR_len rfl rfl rfl (by simp), fun r hr => by
      simp only [List.mem_cons, List.not_mem_nil, or_false] at hr
      rcases hr with rfl | rfl
      · exact h.non hkA
      · exact h'.non hkA⟩
  have HE := Lib.hid (ends_calls _ 2 2 _ _ hR (by omega) (fun r hr => by
      simp only [List.mem_cons, List.not_mem_nil, or_false] at hr
      rcases hr with rfl | rfl
      · exact hn
      · exact hn'))
  simp only [List.map_cons, List.map_nil] at HE
  have hel := ends_len2 A B
  have her := Lib.hid (ends_rise2 A B)
  have hOF : ofL kd A B = buildL (fun x => kf kd (has A x) (has B x)) (endsL [A, B]) := rfl
  have HOF := Lib.hid hOF
  clear hOF hR
  obtain ⟨E, hE⟩ : ∃ E, E = endsL [A, B] := ⟨_, rfl⟩
  rw [← hE] at HE hel her HOF
  clear hE
  go_enter Try.func20, Try.ntmps20
  go_wp2_with fail
  refine HE.out.mono ?_
  rintro e w1 ⟨a1, c1, rfl, hO1, hk1⟩
  have hk1' : Kp Non w w1 := hkA.trans hk1
  have hIE := hO1.reads encI_len (by omega)
  have hEc := hIE.cap
  have hEm := hIE.max
  clear HE hk1 hkA
  go_wp2_with fail
  go_loopw [8, 19] (fun v8 v19 wr => ∃ (k : Nat) (K : List Bool) (a8 : Option Addr) (c8 : Nat), k ≤ E.length ∧ v19 = .int .i64 k ∧ v8 = .slice a8 K.length c8 ∧ Hid (K = (E.take k).map (fun x => kf kd (has A x) (has B x))) ∧ Hid (K.length = k) ∧ OwnB' wr w1.heap.size a8 K.length c8 K ∧ Kp Non w1 wr) (fun _ v19 _ => E.length - (intOf v19).toNat)
  case atStart => exact ⟨0, [], none, 0, by omega, rfl, rfl, Lib.hid rfl, Lib.hid rfl, OwnR.nil _ _ _, Kp.refl _ _⟩
  case round =>
    obtain ⟨k, K, a8, c8, hk, rfl, rfl, HK, hKl, hO, hkr⟩ := hrel
    have hKb : K.length ≤ 100000 := by rw [hKl.out]; omega
    by_cases hlt : k < E.length
    · have g : (k : Int) < (E.length : Nat) := by omega
      obtain ⟨b, o, rfl⟩ := hIE.there (by omega)
      have c0 := Ints.c (hIE.non hkr) hlt
      have HT := Lib.hid (List.take_succ_eq_append_getElem hlt)
      generalize E[k] = x at *
      go_wp2_with fail
      refine (rHas_calls _ _ _ _ x _ (h.non (hk1'.trans hkr))).mono ?_
      rintro e w2 ⟨rfl, hk2⟩
      go_wp2_with fail
      refine (rHas_calls _ _ _ _ x _ (h'.non ((hk1'.trans hkr).trans hk2))).mono ?_
      rintro e w3 ⟨rfl, hk3⟩
      have hk23 : Kp Non wr w3 := hk2.trans hk3
      have hO3 := hO.non hk23
      have hsz : w1.heap.size ≤ w3.heap.size := Nat.le_trans hkr.size hk23.size
      have hkf : ∀ p q, has A x = p → has B x = q → Hid (K ++ [kf kd p q] = (E.take (k + 1)).map (fun x => kf kd (has A x) (has B x))) := fun p q hp hq => Lib.hid (by rw [HT.out, List.map_append, ← HK.out, ← hp, ← hq]; rfl)
      have HKF := Lib.hid hkf
      clear hkf
      generalize hp : has A x = p
      generalize hq : has B x = q
      have HQ := HKF.out p q hp hq
      clear hp hq HKF
      rcases hkd with rfl | rfl | rfl
      all_goals cases p <;> cases q
      all_goals
        go_wp2_with (at_builtin; refine wpList_append_row rfl _ _ 43 rfl w1.heap.size 4 i0 _ 1 Try.underlying43 hi0 hz0 hz1 hz2 rfl (by decide) encB_len encB_one a8 K.length c8 K rfl (hO3.non ((Kp.refl _ _).alloc _)) _ 1 1 [_] rfl (Reads.new rfl rfl) (by omega) (by omega) ?_ ?_; exact Nat.le_trans hsz (by simp); intro a9 c9 w9 hO9 hq9 _)
        go_roundw
        case rel =>
          refine ⟨k + 1, _, a9, c9, by omega, by go_num, ?_, HQ, Lib.hid (by rw [List.length_append, hKl.out]; rfl), ?_, (((hkr.trans hk23).alloc _)).comp hq9 (fun _ _ f => f) (fun i hi q => ?_)⟩
          · simp
          · simpa [kf] using hO9
          · have := (hO.blk i q).1; omega
        case measure => simp [intOf]; omega
    · obtain rfl : k = E.length := by omega
      rw [List.take_of_length_le (Nat.le_refl _)] at HK
      go_wp2_with fail
      have hB : Bools wr a8 K.length c8 (E.map fun x => kf kd (has A x) (has B x)) := by rw [← HK.out]; exact hO.reads encB_len (by omega)
      refine (build_calls _ _ _ _ E _ _ _ _ (hIE.non hkr) hB her.out (by omega)).mono ?_
      rintro e w2 ⟨a2, c2, rfl, hO2, hk2⟩
      go_wp2_with fail
      go_ret
      rw [SpansOut, HOF.out]
      exact ⟨a2, c2, rfl, hO2.lower (Nat.le_trans hk1'.size hkr.size), (hk1'.trans hkr).trans hk2⟩
end Go.Proofs.Ytkgjpmgoapfamaa
