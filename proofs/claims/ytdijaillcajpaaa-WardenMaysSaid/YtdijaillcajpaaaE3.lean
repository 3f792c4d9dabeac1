/-
  Rows of numbers: Index, Contains, Equal, SameInts.
-/
import Derived.Test.YtdijaillcajpaaaE0
namespace Go.Proofs.Ytdijaillcajpaaa
open Go.RowKit

/-- Where a number stands first; -1: nowhere. -/
def idxI (l : List Int) (x : Int) : Int := match l.findIdx? (fun y => decide (x = y)) with
  | some i => i
  | none => -1
theorem idxI_no {l : List Int} {x : Int} (h : ∀ y ∈ l, x ≠ y) : idxI l x = -1 := by
  unfold idxI
  rw [List.findIdx?_eq_none_iff.2 (fun y hy => decide_eq_false (h y hy))]
theorem idxI_yes {l : List Int} {x : Int} {i : Nat} (hi : i < l.length) (hp : x = l[i]) (h : ∀ y ∈ l.take i, x ≠ y) : idxI l x = i := by
  unfold idxI
  have : l.findIdx? (fun y => decide (x = y)) = some i := by
    rw [List.findIdx?_eq_some_iff_getElem]
    refine ⟨hi, by simpa using hp, fun j hj => ?_⟩
    have := h l[j] (List.mem_take_iff_getElem.2 ⟨j, by omega, rfl⟩)
    simp [this]
  rw [this]
theorem idxI_in {l : List Int} {x : Int} (h : x ∈ l) : ∃ i : Nat, i < l.length ∧ l[i]? = some x ∧ idxI l x = i := by
  unfold idxI
  cases hf : l.findIdx? (fun y => decide (x = y)) with
  | none => have := List.findIdx?_eq_none_iff.1 hf x h; simp at this
  | some i =>
    obtain ⟨hi, h1, _⟩ := List.findIdx?_eq_some_iff_getElem.1 hf
    exact ⟨i, hi, by rw [List.getElem?_eq_getElem hi]; simpa using (of_decide_eq_true h1).symm, rfl⟩
theorem idxI_mem (l : List Int) (x : Int) : decide (0 ≤ idxI l x) = decide (x ∈ l) := by
  rw [decide_eq_decide]
  constructor
  · intro h
    refine Classical.byContradiction fun q => ?_
    rw [idxI_no (fun y hy e => q (by rw [e]; exact hy))] at h
    omega
  · intro h
    obtain ⟨i, _, _, e⟩ := idxI_in h
    omega
set_option maxRecDepth 100000 in
set_option maxHeartbeats 1000000 in
theorem indexI_calls (a : Option Addr) (n c : Nat) (l : List Int) (x : Int) (w : World) (h : Ints w a n c l) : Calls Try.prog 90 #[.slice a n c, .int .i64 x] w (ValOut (.int .i64 (idxI l x)) w) := by
  obtain rfl := h.len
  have hmax := h.max
  have hcap := h.cap
  go_enter Try.func90, Try.ntmps90
  go_wp2_with fail
  go_loopw [8] (fun v8 wr => ∃ k : Nat, k ≤ l.length ∧ v8 = .int .i64 k ∧ (∀ y ∈ l.take k, x ≠ y) ∧ Kp Non w wr) (fun v8 _ => l.length - (intOf v8).toNat)
  case atStart => exact ⟨0, by omega, rfl, (by simp), Kp.refl _ _⟩
  case round =>
    obtain ⟨k, hk, rfl, hall, hkr⟩ := hrel
    have HA := Lib.hid hall
    clear hall
    by_cases hlt : k < l.length
    · have g : (k : Int) < (l.length : Nat) := by omega
      obtain ⟨b, o, rfl⟩ := h.there (by omega)
      have c0 := Ints.c (h.non hkr) hlt
      have HT := Lib.hid (List.take_succ_eq_append_getElem hlt)
      have HY := Lib.hid (fun e => idxI_yes hlt e HA.out)
      generalize l[k] = y at *
      by_cases hxy : x = y
      · have hb := Lib.hid (HY.out hxy)
        have e1 : (x == y) = true := by simpa using hxy
        clear HY hxy
        go_wp2_with fail
        go_ret
        exact ⟨by rw [hb.out]; rfl, hkr⟩
      · have e1 : (x == y) = false := by simpa using hxy
        have HN := Lib.hid hxy
        clear HY hxy
        go_wp2_with fail
        go_roundw
        case rel =>
          refine ⟨k + 1, by omega, by go_num, ?_, hkr⟩
          rw [HT.out]
          intro z hz
          rcases List.mem_append.1 hz with hz | hz
          · exact HA.out z hz
          · simp at hz; subst hz; exact HN.out
        case measure => simp [intOf]; omega
    · obtain rfl : k = l.length := by omega
      have hb := Lib.hid (idxI_no (l := l) (x := x) fun y hy => HA.out y (by rw [List.take_length]; exact hy))
      go_wp2_with fail
      go_ret
      exact ⟨by rw [hb.out]; rfl, hkr⟩
set_option maxRecDepth 100000 in
theorem containsI_calls (a : Option Addr) (n c : Nat) (l : List Int) (x : Int) (w : World) (h : Ints w a n c l) : Calls Try.prog 86 #[.slice a n c, .int .i64 x] w (BoolOut (decide (x ∈ l)) w) := by
  have HI := Lib.hid (indexI_calls a n c l x w h)
  have HM := Lib.hid (idxI_mem l x)
  generalize idxI l x = i at *
  go_enter Try.func86, Try.ntmps86
  go_wp2_with fail
  refine HI.out.mono ?_
  rintro e w1 ⟨rfl, hk⟩
  go_wp2_with fail
  go_ret
  exact ⟨by rw [← HM.out]; rfl, hk⟩
theorem take_eq_step {l l' : List Int} {k : Nat} (h : l.take k = l'.take k) (hk : k < l.length) (hk' : k < l'.length) (he : l[k] = l'[k]) : l.take (k + 1) = l'.take (k + 1) := by
  rw [List.take_succ_eq_append_getElem hk, List.take_succ_eq_append_getElem hk', h, he]
set_option maxRecDepth 100000 in
set_option maxHeartbeats 1000000 in
theorem equalI_calls (a : Option Addr) (n c : Nat) (l : List Int) (a' : Option Addr) (n' c' : Nat) (l' : List Int) (w : World) (h : Ints w a n c l) (h' : Ints w a' n' c' l') : Calls Try.prog 88 #[.slice a n c, .slice a' n' c'] w (BoolOut (decide (l = l')) w) := by
  obtain rfl := h.len
  obtain rfl := h'.len
  have hmax := h.max
  have hcap := h.cap
  have hmax' := h'.max
  have hcap' := h'.cap
  by_cases hll : l.length = l'.length
  · have e0 : ((l.length : Int) != (l'.length : Int)) = false := by simp [hll]
    have HLL := Lib.hid hll
    have hle : l.length ≤ l'.length := by omega
    have hle' : l'.length ≤ l.length := by omega
    clear hll
    go_enter Try.func88, Try.ntmps88
    go_wp2_with fail
    go_loopw [13] (fun v13 wr => ∃ k : Nat, k ≤ l.length ∧ v13 = .int .i64 k ∧ l.take k = l'.take k ∧ Kp Non w wr) (fun v13 _ => l.length - (intOf v13).toNat)
    case atStart => exact ⟨0, by omega, rfl, rfl, Kp.refl _ _⟩
    case round =>
      obtain ⟨k, hk, rfl, heq, hkr⟩ := hrel
      have HQ := Lib.hid heq
      clear heq
      by_cases hlt : k < l.length
      · have hlt' : k < l'.length := by omega
        have g : (k : Int) < (l.length : Nat) := by omega
        have g' : (k : Int) < (l'.length : Nat) := by omega
        obtain ⟨b, o, rfl⟩ := h.there (by omega)
        obtain ⟨b', o', rfl⟩ := h'.there (by omega)
        have c0 := Ints.c (h.non hkr) hlt
        have c1 := Ints.c (h'.non hkr) hlt'
        have HT := Lib.hid (fun e => take_eq_step HQ.out hlt hlt' e)
        have HN : Hid (l[k] ≠ l'[k] → l ≠ l') := Lib.hid (fun q e => q (by subst e; rfl))
        generalize l[k] = x at *
        generalize l'[k] = y at *
        by_cases hxy : x = y
        · have e1 : (x != y) = false := by simpa using hxy
          have HS := Lib.hid (HT.out hxy)
          clear HT HN hxy
          go_wp2_with fail
          go_quiet (fail)
          go_wp2_with fail
          go_roundw
          case rel => exact ⟨k + 1, by omega, by go_num, HS.out, Kp.drewN hkr _⟩
          case measure => simp [intOf]; omega
        · have e1 : (x != y) = true := by simpa using hxy
          have HS := Lib.hid (decide_eq_false (HN.out hxy))
          clear HT HN hxy
          go_wp2_with fail
          go_quiet (fail)
          go_wp2_with fail
          go_ret
          exact ⟨by rw [HS.out]; rfl, Kp.drewN hkr _⟩
      · obtain rfl : k = l.length := by omega
        have HS := Lib.hid (decide_eq_true (show l = l' by have := HQ.out; rwa [List.take_length, HLL.out, List.take_length] at this))
        go_wp2_with fail
        go_ret
        exact ⟨by rw [HS.out]; rfl, hkr⟩
  · have e0 : ((l.length : Int) != (l'.length : Int)) = true := by simp; omega
    have HS := Lib.hid (decide_eq_false (fun e : l = l' => hll (by rw [e])))
    clear hll
    go_enter Try.func88, Try.ntmps88
    go_wp2_with fail
    go_ret
    exact ⟨by rw [HS.out]; rfl, Kp.refl _ _⟩
set_option maxRecDepth 100000 in
set_option maxHeartbeats 1000000 in
theorem sameInts_calls (a : Option Addr) (n c : Nat) (l : List Int) (a' : Option Addr) (n' c' : Nat) (l' : List Int) (w : World) (h : Ints w a n c l) (h' : Ints w a' n' c' l') : Calls Try.prog 19 #[.slice a n c, .slice a' n' c'] w (BoolOut (decide (l = l')) w) := by
  obtain rfl := h.len
  obtain rfl := h'.len
  have hmax := h.max
  have hcap := h.cap
  have hmax' := h'.max
  have hcap' := h'.cap
  by_cases hll : l.length = l'.length
  · have e0 : ((l.length : Int) != (l'.length : Int)) = false := by simp [hll]
    have HLL := Lib.hid hll
    have hle : l.length ≤ l'.length := by omega
    have hle' : l'.length ≤ l.length := by omega
    clear hll
    go_enter Try.func19, Try.ntmps19
    go_wp2_with fail
    go_loopw [13] (fun v13 wr => ∃ k : Nat, k ≤ l.length ∧ v13 = .int .i64 k ∧ l.take k = l'.take k ∧ Kp Non w wr) (fun v13 _ => l.length - (intOf v13).toNat)
    case atStart => exact ⟨0, by omega, rfl, rfl, Kp.refl _ _⟩
    case round =>
      obtain ⟨k, hk, rfl, heq, hkr⟩ := hrel
      have HQ := Lib.hid heq
      clear heq
      by_cases hlt : k < l.length
      · have hlt' : k < l'.length := by omega
        have g : (k : Int) < (l.length : Nat) := by omega
        have g' : (k : Int) < (l'.length : Nat) := by omega
        obtain ⟨b, o, rfl⟩ := h.there (by omega)
        obtain ⟨b', o', rfl⟩ := h'.there (by omega)
        have c0 := Ints.c (h.non hkr) hlt
        have c1 := Ints.c (h'.non hkr) hlt'
        have HT := Lib.hid (fun e => take_eq_step HQ.out hlt hlt' e)
        have HN : Hid (l[k] ≠ l'[k] → l ≠ l') := Lib.hid (fun q e => q (by subst e; rfl))
        generalize l[k] = x at *
        generalize l'[k] = y at *
        by_cases hxy : x = y
        · have e1 : (x != y) = false := by simpa using hxy
          have HS := Lib.hid (HT.out hxy)
          clear HT HN hxy
          go_wp2_with fail
          go_quiet (fail)
          go_wp2_with fail
          go_roundw
          case rel => exact ⟨k + 1, by omega, by go_num, HS.out, Kp.drewN hkr _⟩
          case measure => simp [intOf]; omega
        · have e1 : (x != y) = true := by simpa using hxy
          have HS := Lib.hid (decide_eq_false (HN.out hxy))
          clear HT HN hxy
          go_wp2_with fail
          go_quiet (fail)
          go_wp2_with fail
          go_ret
          exact ⟨by rw [HS.out]; rfl, Kp.drewN hkr _⟩
      · obtain rfl : k = l.length := by omega
        have HS := Lib.hid (decide_eq_true (show l = l' by have := HQ.out; rwa [List.take_length, HLL.out, List.take_length] at this))
        go_wp2_with fail
        go_ret
        exact ⟨by rw [HS.out]; rfl, hkr⟩
  · have e0 : ((l.length : Int) != (l'.length : Int)) = true := by simp; omega
    have HS := Lib.hid (decide_eq_false (fun e : l = l' => hll (by rw [e])))
    clear hll
    go_enter Try.func19, Try.ntmps19
    go_wp2_with fail
    go_ret
    exact ⟨by rw [HS.out]; rfl, Kp.refl _ _⟩
end Go.Proofs.Ytdijaillcajpaaa
