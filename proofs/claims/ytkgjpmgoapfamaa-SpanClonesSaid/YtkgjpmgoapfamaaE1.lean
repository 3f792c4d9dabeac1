/-
  The document's small functions: Same, Has, Plain; the law's cut.
-/
import Derived.Test.YtkgjpmgoapfamaaB6
import Derived.Laws.StructEq
namespace Go.Proofs.Ytkgjpmgoapfamaa
open Go.RowKit

theorem take_eq_succ {α : Type} {l l' : List α} {k : Nat} (h : l.take k = l'.take k) (hk : k < l.length) (hk' : k < l'.length) (he : l[k] = l'[k]) : l.take (k + 1) = l'.take (k + 1) := by
  rw [List.take_succ_eq_append_getElem hk, List.take_succ_eq_append_getElem hk', h, he]
theorem run_eqS (a b c d : Int) (w : World) : (Op.equalIn 10000 30 (.agg #[.int .i64 a, .int .i64 b]) (.agg #[.int .i64 c, .int .i64 d])).run Try.prog w = .ok (a == c && b == d) w := by
  have u3 := Try.underlying3
  have hS : Try.prog.underlying 30 = some (.struct (Try.prog.fieldsOf 30)) := by kernel_rfl
  have hp : Try.prog.stoodInHeld 30 = false := by kernel_rfl
  rw [show (10000 : Nat) = 9999 + 1 from rfl, run_equalIn_agg w 9999 30 _ _ hS hp]
  simp only [Program.fieldsOf, Try.underlying30]
  go_simp
  by_cases h1 : a = c <;> by_cases h2 : b = d <;> simp [h1, h2]
@[go_sem high] theorem run_neqS (a b c d : Int) (w : World) : (binOp .neq 30 (.agg #[.int .i64 a, .int .i64 b]) (.agg #[.int .i64 c, .int .i64 d])).run Try.prog w = .ok (.bool (!decide ((a, b) = (c, d)))) w := by
  rw [run_neq_struct, run_eqS]
  by_cases h1 : a = c <;> by_cases h2 : b = d <;> simp [h1, h2, Result.andThen]
@[go_sem] theorem guardS : Try.prog.eqGuardType Try.prog.depth 30 = false := by kernel_rfl

set_option maxRecDepth 100000 in
set_option maxHeartbeats 1000000 in
theorem same_calls (a : Option Addr) (n c : Nat) (l : List Sp) (a' : Option Addr) (n' c' : Nat) (l' : List Sp) (w : World) (h : Spans w a n c l) (h' : Spans w a' n' c' l') : Calls Try.prog 19 #[.slice a n c, .slice a' n' c'] w (BoolOut (decide (l = l')) w) := by
  obtain rfl := h.len
  obtain rfl := h'.len
  have hc := h.cap
  have hm := h.max
  have hc' := h'.cap
  have hm' := h'.max
  by_cases hl : l.length = l'.length
  · go_enter Try.func19, Try.ntmps19
    have HL := Lib.hid hl
    have e0 : ((l.length : Int) != (l'.length : Int)) = false := by simp [hl]
    clear hl
    go_wp2_with fail
    go_loopw [13] (fun v13 wr => ∃ k : Nat, k ≤ l.length ∧ v13 = .int .i64 k ∧ Hid (l.take k = l'.take k) ∧ Kp Non w wr) (fun v13 _ => l.length - (intOf v13).toNat)
    case atStart => exact ⟨0, by omega, rfl, Lib.hid (by simp), Kp.refl _ _⟩
    case round =>
      obtain ⟨k, hk, rfl, hall, hkr⟩ := hrel
      by_cases hlt : k < l.length
      · have g : (k : Int) < (l.length : Nat) := by omega
        have g' : (k : Int) < (l'.length : Nat) := by have := HL.out; omega
        have hlt' : k < l'.length := by rw [← HL.out]; exact hlt
        obtain ⟨b, o, rfl⟩ := h.there (by omega)
        obtain ⟨b', o', rfl⟩ := h'.there (by have := HL.out; omega)
        have c0 := Spans.c0 (h.non hkr.drew) hlt
        have c1 := Spans.c1 (h.non hkr.drew) hlt
        have d0 := Spans.c0 (h'.non hkr.drew) hlt'
        have d1 := Spans.c1 (h'.non hkr.drew) hlt'
        go_wp2_with fail
        refine wp_region_chain [0,0,0,0,0,0,0,0,0] (by kernel_rfl) (by kernel_rfl) (fun w' => w'.cell? ⟨b, o + k * 2, none⟩ = some (.int .i64 l[k].1) ∧ w'.cell? ⟨b, o + k * 2 + 1, none⟩ = some (.int .i64 l[k].2) ∧ w'.cell? ⟨b', o' + k * 2, none⟩ = some (.int .i64 l'[k].1) ∧ w'.cell? ⟨b', o' + k * 2 + 1, none⟩ = some (.int .i64 l'[k].2)) ⟨c0, c1, d0, d1⟩ ?_
        repeat (first | (with_reducible refine pure_skip ?_) | ((with_reducible refine pure_k rfl ?_); intro K hK; apply Exists.intro; refine ⟨fun w' hC => ?_, ?_⟩; (obtain ⟨g1, g2, g3, g4⟩ := hC; go_simp; rfl); go_simp; refine hK _ ?_; clear hK K))
        with_reducible refine pure_nil ?_
        have HT := Lib.hid (fun (he : l[k] = l'[k]) => take_eq_succ hall.out hlt hlt' he)
        have HN := Lib.hid (fun (e : l = l') => (by subst e; rfl : l[k] = l'[k]))
        generalize l[k] = s at *
        generalize l'[k] = t at *
        repeat (with_reducible refine chain_skip0 ?_)
        with_reducible refine chain_nil ?_
        generalize hq : (!decide (s.1 = t.1) || !decide (s.2 = t.2)) = q
        cases q with
        | false =>
          have HE : Hid (l.take (k + 1) = l'.take (k + 1)) := Lib.hid (HT.out (by simp at hq; exact Prod.ext hq.1 hq.2))
          clear hq
          go_wp2_with fail
          go_roundw
          case rel => exact ⟨k + 1, by omega, by go_num, HE, hkr.drew⟩
          case measure => simp [intOf]; omega
        | true =>
          have HD : Hid (decide (l = l') = false) := Lib.hid (decide_eq_false fun e => by have := HN.out e; subst this; simp at hq)
          clear hq
          go_wp2_with fail
          go_ret
          exact ⟨by rw [HD.out]; rfl, hkr.drew⟩
      · obtain rfl : k = l.length := by omega
        have hd : decide (l = l') = true := decide_eq_true (by
          have := hall.out
          rw [List.take_of_length_le (Nat.le_refl _), List.take_of_length_le (by have := HL.out; omega)] at this
          exact this)
        have HD := Lib.hid hd
        clear hd
        go_wp2_with fail
        go_ret
        exact ⟨by rw [HD.out]; rfl, hkr⟩
  · have hd : decide (l = l') = false := decide_eq_false fun e => hl (by rw [e])
    have HD := Lib.hid hd
    clear hd
    have hne : ¬ (l.length : Int) = (l'.length : Int) := by omega
    go_enter Try.func19, Try.ntmps19
    go_wp2_with fail
    go_ret
    exact ⟨by rw [HD.out]; rfl, Kp.refl _ _⟩

/-- Is a block one of a row's? -/
def has (l : List Sp) (x : Int) : Bool := l.any fun s => decide (s.1 ≤ x) && decide (x < s.2)
theorem has_iff (l : List Sp) (x : Int) : has l x = true ↔ mem l x := by
  simp [has, mem, Sin]

set_option maxRecDepth 100000 in
set_option maxHeartbeats 1000000 in
theorem rHas_calls (a : Option Addr) (n c : Nat) (l : List Sp) (x : Int) (w : World) (h : Spans w a n c l) : Calls Try.prog 26 #[.slice a n c, .int .i64 x] w (BoolOut (has l x) w) := by
  obtain rfl := h.len
  have hc := h.cap
  have hm := h.max
  go_enter Try.func26, Try.ntmps26
  go_wp2_with fail
  go_loopw [9] (fun v9 wr => ∃ k : Nat, k ≤ l.length ∧ v9 = .int .i64 k ∧ Hid (∀ p ∈ l.take k, ¬ Sin p x) ∧ Kp Non w wr) (fun v9 _ => l.length - (intOf v9).toNat)
  case atStart => exact ⟨0, by omega, rfl, Lib.hid (by simp), Kp.refl _ _⟩
  case round =>
    obtain ⟨k, hk, rfl, HA, hkr⟩ := hrel
    by_cases hlt : k < l.length
    · have g : (k : Int) < (l.length : Nat) := by omega
      obtain ⟨b, o, rfl⟩ := h.there (by omega)
      have c0 := Spans.c0 (h.non hkr) hlt
      have c1 := Spans.c1 (h.non hkr) hlt
      have hkN : Kp Non w (wr.alloc (.cells #[.int .i64 l[k].1, .int .i64 l[k].2] 30)) := hkr.alloc _
      have HT := Lib.hid (List.take_succ_eq_append_getElem hlt)
      have HM := Lib.hid (List.getElem_mem hlt)
      generalize l[k] = p at *
      by_cases h1 : p.1 ≤ x
      · by_cases h2 : x < p.2
        · have HD := Lib.hid ((has_iff l x).2 ⟨p, HM.out, h1, h2⟩)
          go_wp2_with fail
          go_ret
          exact ⟨by rw [HD.out]; rfl, hkN⟩
        · go_wp2_with fail
          go_roundw
          case rel =>
            refine ⟨k + 1, by omega, by go_num, Lib.hid ?_, hkN⟩
            rw [HT.out]
            intro q hq
            rcases List.mem_append.1 hq with hq | hq
            · exact HA.out q hq
            · simp at hq; subst hq; exact fun hs => h2 hs.2
          case measure => simp [intOf]; omega
      · have d1 : decide (p.1 ≤ x) = false := by simp; omega
        go_wp2_with fail
        go_roundw
        case rel =>
          refine ⟨k + 1, by omega, by go_num, Lib.hid ?_, hkN⟩
          rw [HT.out]
          intro q hq
          rcases List.mem_append.1 hq with hq | hq
          · exact HA.out q hq
          · simp at hq; subst hq; exact fun hs => h1 hs.1
        case measure => simp [intOf]; omega
    · obtain rfl : k = l.length := by omega
      have HD : Hid (has l x = false) := Lib.hid (by
        rw [Bool.eq_false_iff]
        intro e
        obtain ⟨p, hp, hs⟩ := (has_iff l x).1 e
        exact HA.out p (by rw [List.take_of_length_le (Nat.le_refl _)]; exact hp) hs)
      go_wp2_with fail
      go_ret
      exact ⟨by rw [HD.out]; rfl, hkr⟩

set_option maxRecDepth 100000 in
theorem lcut_calls (a : Option Addr) (n c : Nat) (l : List Sp) (w : World) (h : Spans w a n c l) : Calls Try.prog 17 #[.slice a n c] w fun e w' => ∃ m, e = .returned (.slice a m c) ∧ w = w' ∧ m ≤ 60 ∧ Spans w a m c (l.take 60) := by
  obtain rfl := h.len
  have hc := h.cap
  have hm := h.max
  go_enter Try.func17, Try.ntmps17
  by_cases h60 : l.length ≤ 60
  · have hr : Spans w a l.length c (l.take 60) := by rw [List.take_of_length_le h60]; exact h
    have HR := Lib.hid hr
    clear hr
    have g : (l.length : Int) ≤ 60 := by omega
    go_wp2_with fail
    go_ret
    exact ⟨_, rfl, rfl, h60, HR.out⟩
  · have hr : Spans w a 60 c (l.take 60) := h.take 60 (by omega)
    have HR := Lib.hid hr
    clear hr
    have g : (60 : Int) < l.length := by omega
    obtain ⟨b, o, rfl⟩ := h.there (by omega)
    go_wp2_with fail
    go_ret
    exact ⟨60, rfl, rfl, Nat.le_refl _, HR.out⟩
end Go.Proofs.Ytkgjpmgoapfamaa
