/-
  Which rules there may be.
-/
import Derived.Test.YtdijaillcajpaaaV0
namespace Go.Proofs.Ytdijaillcajpaaa
open Go.RowKit

def MayP (R : RulV) : Prop := (0 ≤ R.hot ∧ R.hot ≤ 1073741824) ∧ (0 ≤ R.cold ∧ R.cold ≤ 1073741824) ∧ (0 ≤ R.long ∧ R.long ≤ 1073741824) ∧ (0 ≤ R.mute ∧ R.mute ≤ 1073741824) ∧ (0 ≤ R.cap ∧ R.cap ≤ 1073741824)
instance (R : RulV) : Decidable (MayP R) := by unfold MayP; infer_instance
def mayB (R : RulV) : Bool := decide (MayP R)
theorem mayB_no {R : RulV} (h : ¬ MayP R) : mayB R = false := decide_eq_false h
def rulL (R : RulV) : List Int := [R.hot, R.cold, R.long, R.mute, R.cap]
theorem mayB_all (R : RulV) (h : ∀ x ∈ rulL R, 0 ≤ x ∧ x ≤ 1073741824) : mayB R = true := by
  refine decide_eq_true ⟨h _ ?_, h _ ?_, h _ ?_, h _ ?_, h _ ?_⟩ <;> simp [rulL]
theorem mayB_bad {R : RulV} {x : Int} (hx : x ∈ rulL R) (h : x < 0 ∨ 1073741824 < x) : mayB R = false := by
  refine mayB_no fun q => ?_
  unfold MayP at q
  simp only [rulL, List.mem_cons, List.not_mem_nil, or_false] at hx
  omega

set_option maxRecDepth 100000 in
set_option maxHeartbeats 4000000 in
theorem rMay_calls (R : RulV) (w : World) : Calls Try.prog 34 #[valRul R] w (BoolOut (mayB R) w) := by
  by_cases t0 : 0 ≤ R.hot
  · have d0 : decide (0 ≤ R.hot) = true := by simpa using t0
    by_cases t1 : 0 ≤ R.cold
    · have d1 : decide (0 ≤ R.cold) = true := by simpa using t1
      by_cases t2 : 0 ≤ R.long
      · have d2 : decide (0 ≤ R.long) = true := by simpa using t2
        by_cases t3 : 0 ≤ R.mute
        · have d3 : decide (0 ≤ R.mute) = true := by simpa using t3
          by_cases t4 : 0 ≤ R.cap
          · have d4 : decide (0 ≤ R.cap) = true := by simpa using t4
            by_cases t5 : R.hot ≤ 1073741824
            · have d5 : decide (R.hot ≤ 1073741824) = true := by simpa using t5
              by_cases t6 : R.cold ≤ 1073741824
              · have d6 : decide (R.cold ≤ 1073741824) = true := by simpa using t6
                by_cases t7 : R.long ≤ 1073741824
                · have d7 : decide (R.long ≤ 1073741824) = true := by simpa using t7
                  by_cases t8 : R.mute ≤ 1073741824
                  · have d8 : decide (R.mute ≤ 1073741824) = true := by simpa using t8
                    by_cases t9 : R.cap ≤ 1073741824
                    · have d9 : decide (R.cap ≤ 1073741824) = true := by simpa using t9
                      have hb : mayB R = true := decide_eq_true ⟨⟨t0, t5⟩, ⟨t1, t6⟩, ⟨t2, t7⟩, ⟨t3, t8⟩, ⟨t4, t9⟩⟩
                      have HB := Lib.hid hb
                      clear hb
                      go_enter Try.func34, Try.ntmps34
                      go_wp2_with fail
                      go_ret
                      exact ⟨by rw [HB.out]; rfl, (Kp.refl _ _).alloc _⟩
                    · have d9 : decide (R.cap ≤ 1073741824) = false := by simpa using t9
                      have HB := Lib.hid (mayB_no (R := R) (fun q => t9 (by unfold MayP at q; omega)))
                      go_enter Try.func34, Try.ntmps34
                      go_wp2_with fail
                      go_ret
                      exact ⟨by rw [HB.out]; rfl, (Kp.refl _ _).alloc _⟩
                  · have d8 : decide (R.mute ≤ 1073741824) = false := by simpa using t8
                    have HB := Lib.hid (mayB_no (R := R) (fun q => t8 (by unfold MayP at q; omega)))
                    go_enter Try.func34, Try.ntmps34
                    go_wp2_with fail
                    go_ret
                    exact ⟨by rw [HB.out]; rfl, (Kp.refl _ _).alloc _⟩
                · have d7 : decide (R.long ≤ 1073741824) = false := by simpa using t7
                  have HB := Lib.hid (mayB_no (R := R) (fun q => t7 (by unfold MayP at q; omega)))
                  go_enter Try.func34, Try.ntmps34
                  go_wp2_with fail
                  go_ret
                  exact ⟨by rw [HB.out]; rfl, (Kp.refl _ _).alloc _⟩
              · have d6 : decide (R.cold ≤ 1073741824) = false := by simpa using t6
                have HB := Lib.hid (mayB_no (R := R) (fun q => t6 (by unfold MayP at q; omega)))
                go_enter Try.func34, Try.ntmps34
                go_wp2_with fail
                go_ret
                exact ⟨by rw [HB.out]; rfl, (Kp.refl _ _).alloc _⟩
            · have d5 : decide (R.hot ≤ 1073741824) = false := by simpa using t5
              have HB := Lib.hid (mayB_no (R := R) (fun q => t5 (by unfold MayP at q; omega)))
              go_enter Try.func34, Try.ntmps34
              go_wp2_with fail
              go_ret
              exact ⟨by rw [HB.out]; rfl, (Kp.refl _ _).alloc _⟩
          · have d4 : decide (0 ≤ R.cap) = false := by simpa using t4
            have HB := Lib.hid (mayB_no (R := R) (fun q => t4 (by unfold MayP at q; omega)))
            go_enter Try.func34, Try.ntmps34
            go_wp2_with fail
            go_ret
            exact ⟨by rw [HB.out]; rfl, (Kp.refl _ _).alloc _⟩
        · have d3 : decide (0 ≤ R.mute) = false := by simpa using t3
          have HB := Lib.hid (mayB_no (R := R) (fun q => t3 (by unfold MayP at q; omega)))
          go_enter Try.func34, Try.ntmps34
          go_wp2_with fail
          go_ret
          exact ⟨by rw [HB.out]; rfl, (Kp.refl _ _).alloc _⟩
      · have d2 : decide (0 ≤ R.long) = false := by simpa using t2
        have HB := Lib.hid (mayB_no (R := R) (fun q => t2 (by unfold MayP at q; omega)))
        go_enter Try.func34, Try.ntmps34
        go_wp2_with fail
        go_ret
        exact ⟨by rw [HB.out]; rfl, (Kp.refl _ _).alloc _⟩
    · have d1 : decide (0 ≤ R.cold) = false := by simpa using t1
      have HB := Lib.hid (mayB_no (R := R) (fun q => t1 (by unfold MayP at q; omega)))
      go_enter Try.func34, Try.ntmps34
      go_wp2_with fail
      go_ret
      exact ⟨by rw [HB.out]; rfl, (Kp.refl _ _).alloc _⟩
  · have d0 : decide (0 ≤ R.hot) = false := by simpa using t0
    have HB := Lib.hid (mayB_no (R := R) (fun q => t0 (by unfold MayP at q; omega)))
    go_enter Try.func34, Try.ntmps34
    go_wp2_with fail
    go_ret
    exact ⟨by rw [HB.out]; rfl, (Kp.refl _ _).alloc _⟩
set_option maxRecDepth 100000 in
set_option maxHeartbeats 1000000 in
theorem wMay_calls (R : RulV) (w : World) : Calls Try.prog 33 #[valRul R] w (BoolOut (mayB R) w) := by
  have HA := Lib.hid (mayB_all R)
  have HN := Lib.hid (fun x (hx : x ∈ rulL R) (h : x < 0 ∨ 1073741824 < x) => mayB_bad hx h)
  obtain ⟨V, hV, hI, hk0⟩ : ∃ V, (w.alloc (.cells #[.int .i64 R.hot, .int .i64 R.cold, .int .i64 R.long, .int .i64 R.mute, .int .i64 R.cap] 64)).alloc (.cells #[.int .i64 R.hot, .int .i64 R.cold, .int .i64 R.long, .int .i64 R.mute, .int .i64 R.cap] 3) = V ∧ Ints V (some ⟨w.heap.size + 1, 0, none⟩) 5 5 (rulL R) ∧ Kp Non w V := by
    refine ⟨_, rfl, ?_, ((Kp.refl _ w).alloc _).alloc _⟩
    have := heap_alloc_new (w.alloc (.cells #[.int .i64 R.hot, .int .i64 R.cold, .int .i64 R.long, .int .i64 R.mute, .int .i64 R.cap] 64)) (.cells #[.int .i64 R.hot, .int .i64 R.cold, .int .i64 R.long, .int .i64 R.mute, .int .i64 R.cap] 3)
    rw [World.size_alloc] at this
    exact (OwnR.mk (enc := encI) (k := 1) (base := 0) (n := 5) (c := 5) (Nat.zero_le _) this (Nat.le_refl _) (by decide) rfl rfl rfl : OwnI _ 0 _ 5 5 (rulL R)).reads encI_len (by omega)
  have hll : (rulL R).length = 5 := rfl
  go_enter Try.func33, Try.ntmps33
  go_wp2_with fail
  clear hV
  generalize rulL R = l at *
  go_loopw [17] (fun v17 wr => ∃ k : Nat, k ≤ 5 ∧ v17 = .int .i64 k ∧ (∀ x ∈ l.take k, 0 ≤ x ∧ x ≤ 1073741824) ∧ Kp Non V wr) (fun v17 _ => 5 - (intOf v17).toNat)
  case atStart => exact ⟨0, by omega, rfl, (by simp), Kp.refl _ _⟩
  case round =>
    obtain ⟨k, hk, rfl, hall, hkr⟩ := hrel
    have HQ := Lib.hid hall
    clear hall
    by_cases hlt : k < 5
    · have hkl : k < l.length := by omega
      have g : (k : Int) < 5 := by omega
      have c0 := Ints.c (hI.non hkr) hkl
      rw [Nat.zero_add] at c0
      have HT := Lib.hid (List.take_succ_eq_append_getElem hkl)
      have HM := Lib.hid (HN.out l[k] (List.getElem_mem hkl))
      have HLL := Lib.hid hll
      clear HN HA hll
      generalize l[k] = x at *
      by_cases h0 : x < 0
      · have d0 : decide (x < 0) = true := by simpa using h0
        have hb := Lib.hid (HM.out (.inl h0))
        clear HM
        go_wp2_with fail
        go_ret
        exact ⟨by rw [hb.out]; rfl, hk0.trans hkr⟩
      · have d0 : decide (x < 0) = false := by simpa using h0
        by_cases h1 : 1073741824 < x
        · have d1 : decide (1073741824 < x) = true := by simpa using h1
          have hb := Lib.hid (HM.out (.inr h1))
          clear HM
          go_wp2_with fail
          go_ret
          exact ⟨by rw [hb.out]; rfl, hk0.trans hkr⟩
        · have d1 : decide (1073741824 < x) = false := by simpa using h1
          clear HM
          go_wp2_with fail
          go_roundw
          case rel =>
            refine ⟨k + 1, by omega, by go_num, ?_, hkr⟩
            rw [HT.out]
            intro y hy
            rcases List.mem_append.1 hy with hy | hy
            · exact HQ.out y hy
            · simp at hy; subst hy; omega
          case measure => simp [intOf]; omega
    · obtain rfl : k = 5 := by omega
      have hb := Lib.hid (HA.out (fun x hx => HQ.out x (by rw [← hll, List.take_length]; exact hx)))
      clear HA HN HQ
      go_wp2_with fail
      go_ret
      exact ⟨by rw [hb.out]; rfl, hk0.trans hkr⟩
theorem maxI (a b : Int) : (if a < b then b else a) = max a b := by omega
def fewB (a b m : Int) : Bool := decide (max a 0 ≤ m ∧ max b 0 ≤ m - max a 0)
set_option maxRecDepth 100000 in
set_option maxHeartbeats 1000000 in
theorem few_calls (a b m : Int) (hm : 0 ≤ m ∧ m ≤ 1073741824) (w : World) : Calls Try.prog 89 #[.int .i64 a, .int .i64 b, .int .i64 m] w (BoolOut (fewB a b m) w) := by
  by_cases h : max a 0 ≤ m
  · have HB : Hid (fewB a b m = decide (max b 0 ≤ m - max a 0)) := Lib.hid (by unfold fewB; rw [decide_eq_decide]; exact ⟨fun q => q.2, fun q => ⟨h, q⟩⟩)
    go_enter Try.func89, Try.ntmps89
    go_wp2_with fail
    go_ret
    exact ⟨by rw [HB.out]; rfl, Kp.refl _ _⟩
  · have HB : Hid (fewB a b m = false) := Lib.hid (decide_eq_false fun q => h q.1)
    have d0 : decide (max a 0 ≤ m) = false := decide_eq_false h
    go_enter Try.func89, Try.ntmps89
    go_wp2_with fail
    go_ret
    exact ⟨by rw [HB.out]; rfl, Kp.refl _ _⟩
end Go.Proofs.Ytdijaillcajpaaa
