/-
  IsMembers, of the program and of the document.
-/
import Derived.Test.YtdijaillcajpaaaD1
namespace Go.Proofs.Ytdijaillcajpaaa
open Go.RowKit

def OkM (l : List Int) : Prop := (∀ x ∈ l, 0 ≤ x ∧ x < 7) ∧ l.Pairwise (· < ·)
theorem memsB_ok {l : List Int} (h : OkM l) : memsB l = decide (l.length % 2 = 1) := by
  unfold memsB
  rw [decide_eq_decide]
  exact ⟨fun q => q.2.2, fun q => ⟨h.1, h.2, q⟩⟩
theorem memsB_bad0 {l : List Int} {k : Nat} (hk : k < l.length) (h : l[k] < 0 ∨ 7 ≤ l[k]) : memsB l = false := by
  unfold memsB
  rw [decide_eq_false_iff_not]
  intro q
  have := q.1 _ (List.getElem_mem hk)
  omega
theorem memsB_bad1 {l : List Int} {k : Nat} (hk : k + 1 < l.length) (h : l[k + 1] ≤ l[k]) : memsB l = false := by
  unfold memsB
  rw [decide_eq_false_iff_not]
  intro q
  have := List.pairwise_iff_getElem.1 q.2.1 k (k + 1) (by omega) hk (by omega)
  omega
theorem okM_step {l : List Int} {k : Nat} (hk : k < l.length) (h : OkM (l.take k)) (h0 : 0 ≤ l[k]) (h7 : l[k] < 7) (hp : ∀ j (hj : j < l.length), j + 1 = k → l[j] < l[k]) : OkM (l.take (k + 1)) := by
  rw [List.take_succ_eq_append_getElem hk]
  refine ⟨fun x hx => ?_, List.pairwise_append.2 ⟨h.2, List.pairwise_singleton _ _, fun x hx y hy => ?_⟩⟩
  · rcases List.mem_append.1 hx with hx | hx
    · exact h.1 x hx
    · simp at hx; subst hx; exact ⟨h0, h7⟩
  · simp at hy
    subst hy
    obtain ⟨i, hi, rfl⟩ := List.mem_iff_getElem.1 hx
    simp at hi
    rw [List.getElem_take]
    have h1 := hp (k - 1) (by omega) (by omega)
    by_cases e : i = k - 1
    · subst e; exact h1
    · have h2 := List.pairwise_iff_getElem.1 h.2 i (k - 1) (by simp; omega) (by simp; omega) (by omega)
      rw [List.getElem_take, List.getElem_take] at h2
      omega
theorem rem2 (n : Nat) : ((n : Int) % 2 == 1) = decide (n % 2 = 1) := by
  rw [Bool.eq_iff_iff]
  simp
  omega

set_option maxRecDepth 100000 in
set_option maxHeartbeats 1000000 in
theorem aIsMembers_calls (a : Option Addr) (n c : Nat) (l : List Int) (w : World) (h : Ints w a n c l) : Calls Try.prog 20 #[.slice a n c] w (BoolOut (memsB l) w) := by
  obtain rfl := h.len
  have hmax := h.max
  have hcap := h.cap
  have HB := Lib.hid (fun (q : OkM l) => memsB_ok q)
  have HR := Lib.hid (rem2 l.length)
  go_enter Try.func20, Try.ntmps20
  go_wp2_with fail
  go_loopw [7] (fun v7 wr => ∃ k : Nat, k ≤ l.length ∧ v7 = .int .i64 k ∧ OkM (l.take k) ∧ Kp Non w wr) (fun v7 _ => l.length - (intOf v7).toNat)
  case atStart => exact ⟨0, by omega, rfl, ⟨(by simp), (by simp)⟩, Kp.refl _ _⟩
  case round =>
    obtain ⟨k, hk, rfl, hok, hkp⟩ := hrel
    have HO := Lib.hid hok
    clear hok
    by_cases hlt : k < l.length
    · have g : (k : Int) < (l.length : Nat) := by omega
      obtain ⟨b, o, rfl⟩ := h.there (by omega)
      have hR := h.non hkp
      have c0 := Ints.c hR hlt
      have HS := Lib.hid (fun h0 h7 hp => okM_step hlt HO.out h0 h7 hp)
      have H0 := Lib.hid (fun q => memsB_bad0 hlt q)
      by_cases hx0 : l[k] < 0
      · have d0 : decide (l[k] < 0) = true := by simpa using hx0
        have hb := Lib.hid (H0.out (.inl hx0))
        clear H0 HS HO HB HR hR
        generalize l[k] = x at *
        go_wp2_with fail
        go_ret
        exact ⟨by rw [hb.out]; rfl, hkp⟩
      · have d0 : decide (l[k] < 0) = false := by simpa using hx0
        by_cases hx7 : 7 ≤ l[k]
        · have d7 : decide (7 ≤ l[k]) = true := by simpa using hx7
          have hb := Lib.hid (H0.out (.inr (by omega)))
          clear H0 HS HO HB HR hR
          generalize l[k] = x at *
          go_wp2_with fail
          go_ret
          exact ⟨by rw [hb.out]; rfl, hkp⟩
        · have d7 : decide (7 ≤ l[k]) = false := by simpa using hx7
          cases k with
          | zero =>
            have hn := Lib.hid (HS.out (by omega) (by omega) (fun j _ e => by omega))
            clear H0 HS HO HB HR hR
            rw [Nat.add_zero] at c0
            generalize l[0] = x at *
            go_wp2_with fail
            go_roundw
            case rel => exact ⟨0 + 1, by omega, rfl, hn.out, hkp⟩
            case measure => simp [intOf]; omega
          | succ j =>
            have c1 := Ints.c hR (j := j) (by omega)
            have e1 : IntKind.i64.wrap (((j + 1 : Nat) : Int) - 1) = (j : Int) := by rw [IntKind.wrap_i64] <;> omega
            have e2 : ((j + 1 : Nat) : Int) = (j : Int) + 1 := by omega
            have e3 : ((j : Int) + 1 - 1) = j := by omega
            have d1 : decide ((0 : Int) < (j : Int) + 1) = true := by simp
            have g1 : (j : Int) < (l.length : Nat) := by omega
            by_cases hxp : l[j + 1] ≤ l[j]
            · have dp : decide (l[j + 1] ≤ l[j]) = true := by simpa using hxp
              have hb := Lib.hid (memsB_bad1 hlt hxp)
              clear H0 HS HO HB HR hR
              generalize l[j + 1] = x at *
              generalize l[j] = y at *
              rw [e2] at g ⊢
              clear e2
              go_wp2_with fail
              go_ret
              exact ⟨by rw [hb.out]; rfl, hkp⟩
            · have dp : decide (l[j + 1] ≤ l[j]) = false := by simpa using hxp
              have hn := Lib.hid (HS.out (by omega) (by omega) (fun i _ e => by
                have e : i = j := by omega
                subst e; omega))
              clear H0 HS HO HB HR hR
              generalize l[j + 1] = x at *
              generalize l[j] = y at *
              rw [e2] at g ⊢
              clear e2
              go_wp2_with fail
              go_roundw
              case rel => exact ⟨j + 1 + 1, by omega, by go_num, hn.out, hkp⟩
              case measure => simp [intOf]; omega
    · obtain rfl : k = l.length := by omega
      have hb := Lib.hid (HB.out (by have := HO.out; rwa [List.take_length] at this))
      clear HB HO
      go_wp2_with fail
      go_ret
      exact ⟨by rw [hb.out, ← HR.out]; rfl, hkp⟩
set_option maxRecDepth 100000 in
set_option maxHeartbeats 1000000 in
theorem rIsMembers_calls (a : Option Addr) (n c : Nat) (l : List Int) (w : World) (h : Ints w a n c l) : Calls Try.prog 25 #[.slice a n c] w (BoolOut (memsB l) w) := by
  obtain rfl := h.len
  have hmax := h.max
  have hcap := h.cap
  have HB := Lib.hid (fun (q : OkM l) => memsB_ok q)
  have HR := Lib.hid (rem2 l.length)
  go_enter Try.func25, Try.ntmps25
  go_wp2_with fail
  go_loopw [7] (fun v7 wr => ∃ k : Nat, k ≤ l.length ∧ v7 = .int .i64 k ∧ OkM (l.take k) ∧ Kp Non w wr) (fun v7 _ => l.length - (intOf v7).toNat)
  case atStart => exact ⟨0, by omega, rfl, ⟨(by simp), (by simp)⟩, Kp.refl _ _⟩
  case round =>
    obtain ⟨k, hk, rfl, hok, hkp⟩ := hrel
    have HO := Lib.hid hok
    clear hok
    by_cases hlt : k < l.length
    · have g : (k : Int) < (l.length : Nat) := by omega
      obtain ⟨b, o, rfl⟩ := h.there (by omega)
      have hR := h.non hkp
      have c0 := Ints.c hR hlt
      have HS := Lib.hid (fun h0 h7 hp => okM_step hlt HO.out h0 h7 hp)
      have H0 := Lib.hid (fun q => memsB_bad0 hlt q)
      by_cases hx0 : l[k] < 0
      · have d0 : decide (l[k] < 0) = true := by simpa using hx0
        have hb := Lib.hid (H0.out (.inl hx0))
        clear H0 HS HO HB HR hR
        generalize l[k] = x at *
        go_wp2_with fail
        go_ret
        exact ⟨by rw [hb.out]; rfl, hkp⟩
      · have d0 : decide (l[k] < 0) = false := by simpa using hx0
        by_cases hx7 : 6 < l[k]
        · have d7 : decide (6 < l[k]) = true := by simpa using hx7
          have hb := Lib.hid (H0.out (.inr (by omega)))
          clear H0 HS HO HB HR hR
          generalize l[k] = x at *
          go_wp2_with fail
          go_ret
          exact ⟨by rw [hb.out]; rfl, hkp⟩
        · have d7 : decide (6 < l[k]) = false := by simpa using hx7
          cases k with
          | zero =>
            have hn := Lib.hid (HS.out (by omega) (by omega) (fun j _ e => by omega))
            clear H0 HS HO HB HR hR
            rw [Nat.add_zero] at c0
            generalize l[0] = x at *
            go_wp2_with fail
            go_roundw
            case rel => exact ⟨0 + 1, by omega, rfl, hn.out, hkp⟩
            case measure => simp [intOf]; omega
          | succ j =>
            have c1 := Ints.c hR (j := j) (by omega)
            have e1 : IntKind.i64.wrap (((j + 1 : Nat) : Int) - 1) = (j : Int) := by rw [IntKind.wrap_i64] <;> omega
            have e2 : ((j + 1 : Nat) : Int) = (j : Int) + 1 := by omega
            have e3 : ((j : Int) + 1 - 1) = j := by omega
            have d1 : decide ((0 : Int) < (j : Int) + 1) = true := by simp
            have g1 : (j : Int) < (l.length : Nat) := by omega
            by_cases hxp : l[j + 1] ≤ l[j]
            · have dp : decide (l[j + 1] ≤ l[j]) = true := by simpa using hxp
              have hb := Lib.hid (memsB_bad1 hlt hxp)
              clear H0 HS HO HB HR hR
              generalize l[j + 1] = x at *
              generalize l[j] = y at *
              rw [e2] at g ⊢
              clear e2
              go_wp2_with fail
              go_ret
              exact ⟨by rw [hb.out]; rfl, hkp⟩
            · have dp : decide (l[j + 1] ≤ l[j]) = false := by simpa using hxp
              have hn := Lib.hid (HS.out (by omega) (by omega) (fun i _ e => by
                have e : i = j := by omega
                subst e; omega))
              clear H0 HS HO HB HR hR
              generalize l[j + 1] = x at *
              generalize l[j] = y at *
              rw [e2] at g ⊢
              clear e2
              go_wp2_with fail
              go_roundw
              case rel => exact ⟨j + 1 + 1, by omega, by go_num, hn.out, hkp⟩
              case measure => simp [intOf]; omega
    · obtain rfl : k = l.length := by omega
      have hb := Lib.hid (HB.out (by have := HO.out; rwa [List.take_length] at this))
      clear HB HO
      go_wp2_with fail
      go_ret
      exact ⟨by rw [hb.out, ← HR.out]; rfl, hkp⟩
end Go.Proofs.Ytdijaillcajpaaa
