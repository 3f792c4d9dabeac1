/-
  Small calls: empty, both, the comparison, cloning, the place of the first empty span, dropping the empty ones.
-/
import Derived.Test.YtdijaillcajpaaaB0
import Derived.Test.YtdijaillcajpaaaA1
import Derived.Test.YtdijaillcajpaaaProg
import Derived.BigQuiet
import Derived.Deep.QuietTactic
import Derived.Lib.SliceRun
namespace Go.Proofs.Ytdijaillcajpaaa
open Go.RowKit

theorem infoS : (Try.prog.info? 36).map (fun i => (i.zero, i.size, i.bytes)) = some (some (.agg #[.int .i64 0, .int .i64 0]), 2, 16) := by kernel_rfl
theorem infoI : (Try.prog.info? 3).map (fun i => (i.zero, i.size, i.bytes)) = some (some (.int .i64 0), 1, 8) := by kernel_rfl
theorem infoB : (Try.prog.info? 4).map (fun i => (i.zero, i.size, i.bytes)) = some (some (.bool false), 1, 1) := by kernel_rfl

/-- A span as a value. -/
abbrev valS (s : Sp) : Value := .agg #[.int .i64 s.1, .int .i64 s.2]
/-- A bool comes out, and no old block differs. -/
def BoolOut (b : Bool) (w : World) (e : Ending) (w' : World) : Prop := e = .returned (.bool b) ∧ Kp Non w w'
def ValOut (v : Value) (w : World) (e : Ending) (w' : World) : Prop := e = .returned v ∧ Kp Non w w'

theorem full_yes {s : Sp} (h : s.1 < s.2) : full s = true := by simp [full, h]
theorem full_no {s : Sp} (h : s.2 ≤ s.1) : full s = false := by simp [full, h]

theorem full_not (s : Sp) : decide (s.2 ≤ s.1) = !full s := by
  unfold full
  by_cases h : s.1 < s.2
  · simp [h]
  · have : s.2 ≤ s.1 := by omega
    simp [h, this]
theorem empty_calls (s : Sp) (w : World) : Calls Try.prog 70 #[valS s] w (BoolOut (!full s) w) := by
  rw [← full_not]
  go_enter Try.func70, Try.ntmps70
  go_wp2
  go_ret
  exact ⟨rfl, (Kp.refl _ _).alloc _⟩

/-- What a slice that is copied comes out as. -/
def RowOf {α : Type} (enc : α → List Value) (k : Nat) (e : TypeId) (l : List α) (w : World) (r : Ending) (w' : World) : Prop :=
  ∃ a c, r = .returned (.slice a l.length c) ∧ OwnR enc k w' w.heap.size e a l.length c l ∧ Kp Non w w'
theorem OwnR.zero {α : Type} (enc : α → List Value) (k : Nat) (w : World) (e : TypeId) : OwnR enc k (w.alloc (.cells #[] e)) w.heap.size e (some ⟨w.heap.size, 0, none⟩) 0 0 [] :=
  OwnR.mk (Nat.le_refl _) (heap_alloc_new w _) (Nat.le_refl _) (by unfold maxLen; omega) (by simp) (by simp) (by simp)

set_option maxRecDepth 100000 in
set_option maxHeartbeats 400000 in
theorem cloneS_calls (a : Option Addr) (n c : Nat) (l : List Sp) (w : World) (h : Reads encS 2 w a n c l) (hn : n ≤ 1000000000000) : Calls Try.prog 96 #[.slice a n c] w (RowOf encS 2 36 l w) := by
  obtain ⟨i0, hi0, hz0, hz1, hz2⟩ := info_parts infoS
  have hlen := h.len
  have q22 : ∀ (w : World) (a : Option Addr) (n c n' c' : Nat), (binOp .eql 54 (.slice a n c) (.slice none n' c')).run Try.prog w = .ok (.bool a.isNone) w := fun w a n c n' c' => Lib.run_eql_slice_nil w 54 36 a n c n' c' Try.underlying54
  cases a with
  | none =>
    have h0 := h.nil rfl
    have h1 := h.cap
    obtain rfl : n = 0 := by omega
    subst h0
    obtain rfl : l = [] := List.eq_nil_of_length_eq_zero hlen.symm
    clear h1 hlen
    go_enter Try.func96, Try.ntmps96
    go_wp2
    go_ret
    exact ⟨none, 0, rfl, OwnR.nil _ _ _, Kp.refl _ _⟩
  | some ad =>
    obtain ⟨b, o, sp⟩ := ad
    go_enter Try.func96, Try.ntmps96
    go_wp2_with (at_builtin; refine wpList_append_row rfl _ _ 54 rfl w.heap.size 36 i0 _ 16 Try.underlying54 hi0 hz0 hz1 hz2 rfl (by decide) encS_len encS_one (some ⟨w.heap.size, 0, none⟩) 0 0 [] rfl (OwnR.zero encS 2 w 36) (some ⟨b, o, sp⟩) n c l rfl (h.non ((Kp.refl _ _).alloc _)) (by omega) (by omega) ?_ ?_; exact ((Kp.refl Non w).alloc _).size; intro a1 c1 w1 hO1 hk1 _; rw [Nat.zero_add, List.nil_append] at hO1; simp only [Nat.zero_add])
    go_ret
    subst hlen
    exact ⟨a1, c1, rfl, hO1, ((Kp.refl Non w).alloc _).comp hk1 (fun _ _ f => f) (fun i hi q => by obtain ⟨ad, e1, rfl⟩ := q; cases e1; simp at hi)⟩

set_option maxRecDepth 100000 in
set_option maxHeartbeats 400000 in
theorem cloneIs_calls (a : Option Addr) (n c : Nat) (l : List Int) (w : World) (h : Reads encI 1 w a n c l) (hn : n ≤ 1000000000000) : Calls Try.prog 75 #[.slice a n c] w (RowOf encI 1 3 l w) := by
  obtain ⟨i0, hi0, hz0, hz1, hz2⟩ := info_parts infoI
  have hlen := h.len
  have q22 : ∀ (w : World) (a : Option Addr) (n c n' c' : Nat), (binOp .eql 37 (.slice a n c) (.slice none n' c')).run Try.prog w = .ok (.bool a.isNone) w := fun w a n c n' c' => Lib.run_eql_slice_nil w 37 3 a n c n' c' Try.underlying37
  cases a with
  | none =>
    have h0 := h.nil rfl
    have h1 := h.cap
    obtain rfl : n = 0 := by omega
    subst h0
    obtain rfl : l = [] := List.eq_nil_of_length_eq_zero hlen.symm
    clear h1 hlen
    go_enter Try.func75, Try.ntmps75
    go_wp2
    go_ret
    exact ⟨none, 0, rfl, OwnR.nil _ _ _, Kp.refl _ _⟩
  | some ad =>
    obtain ⟨b, o, sp⟩ := ad
    go_enter Try.func75, Try.ntmps75
    go_wp2_with (at_builtin; refine wpList_append_row rfl _ _ 37 rfl w.heap.size 3 i0 _ 8 Try.underlying37 hi0 hz0 hz1 hz2 rfl (by decide) encI_len encI_one (some ⟨w.heap.size, 0, none⟩) 0 0 [] rfl (OwnR.zero encI 1 w 3) (some ⟨b, o, sp⟩) n c l rfl (h.non ((Kp.refl _ _).alloc _)) (by omega) (by omega) ?_ ?_; exact ((Kp.refl Non w).alloc _).size; intro a1 c1 w1 hO1 hk1 _; rw [Nat.zero_add, List.nil_append] at hO1; simp only [Nat.zero_add])
    go_ret
    subst hlen
    exact ⟨a1, c1, rfl, hO1, ((Kp.refl Non w).alloc _).comp hk1 (fun _ _ f => f) (fun i hi q => by obtain ⟨ad, e1, rfl⟩ := q; cases e1; simp at hi)⟩

/-- The place of the first span of which p says yes. -/
def idxP (p : Sp → Bool) (l : List Sp) : Int :=
  match l.findIdx? p with
  | some i => i
  | none => -1
theorem idxP_no {p : Sp → Bool} {l : List Sp} (h : ∀ x ∈ l, p x = false) : idxP p l = -1 := by
  unfold idxP
  rw [List.findIdx?_eq_none_iff.2 h]
theorem idxP_yes {p : Sp → Bool} {l : List Sp} {i : Nat} (hi : i < l.length) (hp : p l[i] = true) (h : ∀ x ∈ l.take i, p x = false) : idxP p l = i := by
  unfold idxP
  have : l.findIdx? p = some i := by
    rw [List.findIdx?_eq_some_iff_getElem]
    refine ⟨hi, hp, fun j hj => ?_⟩
    have := h l[j] (List.mem_take_iff_getElem.2 ⟨j, by omega, rfl⟩)
    simp [this]
  rw [this]

set_option maxRecDepth 100000 in
set_option maxHeartbeats 400000 in
theorem idxEmpty_calls (a : Option Addr) (n c : Nat) (l : List Sp) (w : World) (h : Spans w a n c l) : Calls Try.prog 119 #[.slice a n c, .func (.func 70) #[] #[]] w (ValOut (.int .i64 (idxP (fun s => !full s) l)) w) := by
  obtain rfl := h.len
  have hmax := h.max
  have hcap := h.cap
  have HE := Lib.hid empty_calls
  go_enter Try.func119, Try.ntmps119
  go_wp2
  go_loopw [8] (fun v8 wr => ∃ k : Nat, k ≤ l.length ∧ v8 = .int .i64 k ∧ (∀ x ∈ l.take k, (!full x) = false) ∧ Kp Non w wr) (fun v8 _ => l.length - (intOf v8).toNat)
  case atStart => exact ⟨0, by omega, rfl, (by simp), Kp.refl _ _⟩
  case round =>
    obtain ⟨k, hk, rfl, hall, hkp⟩ := hrel
    have hR := h.non hkp
    have HA := Lib.hid hall
    clear hall
    by_cases hlt : k < l.length
    · have g : (k : Int) < (l.length : Nat) := by omega
      have hkl := hlt
      obtain ⟨b, o, rfl⟩ := h.there (by omega)
      have c0 := Spans.c0 hR hkl
      have c1 := Spans.c1 hR hkl
      have HT : Hid (l.take (k + 1) = l.take k ++ [l[k]]) := Lib.hid (List.take_succ_eq_append_getElem hkl)
      have HI := Lib.hid (fun (hp : (!full l[k]) = true) => idxP_yes (p := fun s => !full s) hkl hp HA.out)
      have HX := Lib.hid (HE.out l[k])
      cases hf : full l[k] with
      | false =>
        rw [hf] at HX
        have hi := HI.out (by rw [hf]; rfl)
        clear HI HE HA
        have HI := Lib.hid hi
        clear hi hf
        generalize l[k] = s at *
        go_wp2_with fail
        refine (HX.out _).mono ?_
        rintro e w' ⟨rfl, hk2⟩
        go_wp2_with fail
        go_ret
        exact ⟨by rw [HI.out]; rfl, hkp.trans hk2⟩
      | true =>
        rw [hf] at HX
        have HF := Lib.hid hf
        clear HI HE hf
        generalize hs : l[k] = s at *
        have HS := Lib.hid hs
        clear hs
        go_wp2_with fail
        refine (HX.out _).mono ?_
        rintro e w' ⟨rfl, hk2⟩
        go_wp2_with fail
        refine ⟨⟨k + 1, by omega, by go_num, ?_, hkp.trans hk2⟩, by simp [intOf]; omega⟩
        rw [HT.out]
        intro x hx
        rcases List.mem_append.1 hx with hx | hx
        · exact HA.out x hx
        · simp at hx; subst hx; rw [HF.out]; rfl
    · obtain rfl : k = l.length := by omega
      go_wp2
      go_ret
      exact ⟨by rw [idxP_no (fun x hx => HA.out x (by rw [List.take_of_length_le (by omega)]; exact hx))]; rfl, hkp⟩
end Go.Proofs.Ytdijaillcajpaaa
