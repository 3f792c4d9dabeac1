/-
  slices.SortStableFunc of at most 20 places.
-/
import Derived.Test.YtpehfnobgdjgcaaS2
namespace Go.Proofs.Ytpehfnobgdjgcaa
open Go.RowKit

def SortEOut (w : World) (base : Nat) (a : Option Addr) (n c : Nat) (l : List Int) (e : Ending) (w' : World) : Prop := e = .returned (.tuple #[]) ∧ OwnI w' base a n c l ∧ Kp (Blk a) w w'
set_option maxRecDepth 100000 in
/-- Of no elements: nothing is done. -/
theorem insE_at (b3 : Nat) (da : Option Addr) (dc : Nat) (ds : List DeedV) (base g n c : Nat) (l : List Int) (w : World) (_hw0 : BxDs w b3 da dc ds) (h : OwnI w base (some ⟨g, 0, none⟩) n c l) (hl : l.length ≤ 1000) : Calls Try.prog 71 #[.slice (some ⟨g, 0, none⟩) n c, .int .i64 l.length, .int .i64 l.length, .func (.func 44) #[] #[.pointer (some ⟨b3, 0, none⟩)]] w (SortedOut w base g n c l) := by
  obtain ⟨m, hm⟩ : ∃ m, l.length = m := ⟨_, rfl⟩
  rw [hm] at hl ⊢
  clear hm _hw0
  have g1 : ¬ (m : Int) + 1 < m := by omega
  go_enter Try.func71, Try.ntmps71
  go_wp2_with fail
  go_loopw [8] (fun v8 wr => v8 = .int .i64 ((m : Int) + 1) ∧ wr = w) (fun _ _ => 0)
  case atStart => exact ⟨by go_num, rfl⟩
  case round =>
    obtain ⟨rfl, rfl⟩ := hrel
    go_wp2_with fail
    go_end0
    exact ⟨rfl, h, Kp.refl _ _⟩
set_option maxRecDepth 100000 in
set_option maxHeartbeats 1000000 in
theorem stableI_calls (b3 : Nat) (da : Option Addr) (dc : Nat) (ds : List DeedV) (base : Nat) (a : Option Addr) (n c : Nat) (l : List Int) (w0 w : World) (hw0 : BxDs w0 b3 da dc ds) (hk0 : Kp Non w0 w) (hg : w0.heap.size ≤ base) (hin : ∀ z ∈ l, 0 ≤ z ∧ z < ds.length) (h : OwnI w base a n c l) (hn : n ≤ 20) :
    Calls Try.prog 55 #[.slice a n c, .int .i64 n, .func (.func 44) #[] #[.pointer (some ⟨b3, 0, none⟩)]] w (SortEOut w base a n c (sortS (ltE ds) l)) := by
  have hlen := h.len encI_len (by omega)
  rcases h.lie with ⟨rfl, rfl, rfl, hx⟩ | ⟨g, cur, rfl, hgb, _⟩
  · obtain rfl : l = [] := List.eq_nil_of_length_eq_zero (by omega)
    clear hx hlen hn hin
    have HI : Hid (Calls Try.prog 71 #[.slice none 0 0, .int .i64 0, .int .i64 0, .func (.func 44) #[] #[.pointer (some ⟨b3, 0, none⟩)]] w (fun e W' => e = .returned (.tuple #[]) ∧ Kp Non w W')) := by
      refine Lib.hid ?_
      go_enter Try.func71, Try.ntmps71
      go_wp2_with fail
      go_loopw [8] (fun v8 wr => v8 = .int .i64 1 ∧ wr = w) (fun _ _ => 0)
      case atStart => exact ⟨rfl, rfl⟩
      case round =>
        obtain ⟨rfl, rfl⟩ := hrel
        go_wp2_with fail
        go_end0
        exact ⟨rfl, Kp.refl _ _⟩
    go_enter Try.func55, Try.ntmps55
    go_wp2_with fail
    go_loopw [7, 8] (fun v7 v8 wr => v7 = .int .i64 0 ∧ v8 = .int .i64 20 ∧ wr = w) (fun _ _ _ => 0)
    case atStart => exact ⟨rfl, rfl, rfl⟩
    case round =>
      obtain ⟨rfl, rfl, rfl⟩ := hrel
      go_wp2_with fail
      refine HI.out.mono ?_
      rintro e w1 ⟨rfl, hk1⟩
      go_wp2_with fail
      go_loopw [6] (fun v6 wr => v6 = .int .i64 20 ∧ wr = w1) (fun _ _ => 0)
      case atStart => exact ⟨rfl, rfl⟩
      case round =>
        obtain ⟨rfl, rfl⟩ := hrel
        go_wp2_with fail
        go_end0
        exact ⟨rfl, h.non hk1, hk1.non⟩
  · have hg0 : w0.heap.size ≤ g := by omega
    by_cases h20 : n = 20
    · have HI : Hid (Calls Try.prog 71 #[.slice (some ⟨g, 0, none⟩) n c, .int .i64 0, .int .i64 20, .func (.func 44) #[] #[.pointer (some ⟨b3, 0, none⟩)]] w (SortedOut w base g n c (sortS (ltE ds) l))) := Lib.hid (by
        have t := insE_calls b3 da dc ds base g n c [] l [] w0 w hw0 hk0 hg0 hin (by simpa using h) (by simp; omega)
        rw [show ([] : List Int).length + l.length = 20 from by simp; omega] at t
        simp only [List.nil_append, List.append_nil, List.length_nil, Int.natCast_zero] at t
        exact t)
      have HI2 : Hid (∀ W, Kp (One g) w W → OwnI W base (some ⟨g, 0, none⟩) n c (sortS (ltE ds) l) → Calls Try.prog 71 #[.slice (some ⟨g, 0, none⟩) n c, .int .i64 20, .int .i64 n, .func (.func 44) #[] #[.pointer (some ⟨b3, 0, none⟩)]] W (SortedOut W base g n c (sortS (ltE ds) l))) := Lib.hid fun W r hO => by
        have hl : (sortS (ltE ds) l).length = 20 := by rw [sortS_len, ← hlen, h20]
        have hb0 := hw0.non (hk0.newer r fun i hi => by rw [show i = g from hi]; exact hg0)
        have t := insE_at b3 da dc ds base g n c (sortS (ltE ds) l) W hb0 hO (by omega)
        rw [hl] at t
        rw [h20] at t ⊢
        exact t
      have g20 : (20 : Int) ≤ (n : Nat) := by omega
      have g20' : 20 ≤ n := by omega
      have g40 : ¬ (40 : Int) ≤ (n : Nat) := by omega
      have g40' : ¬ 40 ≤ n := by omega
      have g21 : ¬ (20 : Int) < (n : Nat) := by omega
      have g21' : ¬ 20 < n := by omega
      clear hlen hn h20
      go_enter Try.func55, Try.ntmps55
      go_wp2_with fail
      go_loopw [7, 8] (fun v7 v8 wr => (v7 = .int .i64 0 ∧ v8 = .int .i64 20 ∧ wr = w) ∨ (v7 = .int .i64 20 ∧ v8 = .int .i64 40 ∧ OwnI wr base (some ⟨g, 0, none⟩) n c (sortS (ltE ds) l) ∧ Kp (One g) w wr)) (fun _ v8 _ => 60 - (intOf v8).toNat)
      case atStart => exact .inl ⟨rfl, rfl, rfl⟩
      case round =>
        rcases hrel with ⟨rfl, rfl, rfl⟩ | ⟨rfl, rfl, hO, hk⟩
        · go_wp2_with fail
          refine HI.out.mono ?_
          rintro e w1 ⟨rfl, hO1, hk1⟩
          go_wp2_with fail
          go_roundw
          case rel => exact .inr ⟨rfl, rfl, hO1, hk1⟩
          case measure => simp [intOf]
        · have HI2 := Lib.hid (HI2.out _ hk hO)
          go_wp2_with fail
          refine HI2.out.mono ?_
          rintro e w1 ⟨rfl, hO1, hk1⟩
          go_wp2_with fail
          go_loopw [6] (fun v6 wr => v6 = .int .i64 20 ∧ wr = w1) (fun _ _ => 0)
          case atStart => exact ⟨rfl, rfl⟩
          case round =>
            obtain ⟨rfl, rfl⟩ := hrel
            go_wp2_with fail
            go_end0
            exact ⟨rfl, hO1, (hk.trans hk1).mono fun i _ hi => ⟨_, rfl, Eq.symm hi⟩⟩
    · have HI : Hid (Calls Try.prog 71 #[.slice (some ⟨g, 0, none⟩) n c, .int .i64 0, .int .i64 n, .func (.func 44) #[] #[.pointer (some ⟨b3, 0, none⟩)]] w (SortedOut w base g n c (sortS (ltE ds) l))) := Lib.hid (by
        have t := insE_calls b3 da dc ds base g n c [] l [] w0 w hw0 hk0 hg0 hin (by simpa using h) (by simp; omega)
        rw [show ([] : List Int).length + l.length = n from by simp; omega] at t
        simp only [List.nil_append, List.append_nil, List.length_nil, Int.natCast_zero] at t
        exact t)
      have g20 : ¬ (20 : Int) ≤ (n : Nat) := by omega
      have g20' : ¬ 20 ≤ n := by omega
      have g21 : ¬ (20 : Int) < (n : Nat) := by omega
      have g21' : ¬ 20 < n := by omega
      clear hlen h20
      go_enter Try.func55, Try.ntmps55
      go_wp2_with fail
      go_loopw [7, 8] (fun v7 v8 wr => v7 = .int .i64 0 ∧ v8 = .int .i64 20 ∧ wr = w) (fun _ _ _ => 0)
      case atStart => exact ⟨rfl, rfl, rfl⟩
      case round =>
        obtain ⟨rfl, rfl, rfl⟩ := hrel
        go_wp2_with fail
        refine HI.out.mono ?_
        rintro e w1 ⟨rfl, hO1, hk1⟩
        go_wp2_with fail
        go_loopw [6] (fun v6 wr => v6 = .int .i64 20 ∧ wr = w1) (fun _ _ => 0)
        case atStart => exact ⟨rfl, rfl⟩
        case round =>
          obtain ⟨rfl, rfl⟩ := hrel
          go_wp2_with fail
          go_end0
          exact ⟨rfl, hO1, hk1.mono fun i _ hi => ⟨_, rfl, Eq.symm hi⟩⟩
set_option maxRecDepth 100000 in
set_option maxHeartbeats 1000000 in
theorem sortStable_calls (b3 : Nat) (da : Option Addr) (dc : Nat) (ds : List DeedV) (base : Nat) (a : Option Addr) (n c : Nat) (l : List Int) (w0 w : World) (hw0 : BxDs w0 b3 da dc ds) (hk0 : Kp Non w0 w) (hg : w0.heap.size ≤ base) (hin : ∀ z ∈ l, 0 ≤ z ∧ z < ds.length) (h : OwnI w base a n c l) (hn : n ≤ 20) :
    Calls Try.prog 43 #[.slice a n c, .func (.func 44) #[] #[.pointer (some ⟨b3, 0, none⟩)]] w (SortEOut w base a n c (sortS (ltE ds) l)) := by
  have HS := Lib.hid (stableI_calls b3 da dc ds base a n c l w0 w hw0 hk0 hg hin h hn)
  clear h hin hn
  go_enter Try.func43, Try.ntmps43
  go_wp2_with fail
  refine HS.out.mono ?_
  rintro e w1 ⟨rfl, hO1, hk1⟩
  go_wp2_with fail
  go_end0
  exact ⟨rfl, hO1, hk1⟩
end Go.Proofs.Ytpehfnobgdjgcaa
