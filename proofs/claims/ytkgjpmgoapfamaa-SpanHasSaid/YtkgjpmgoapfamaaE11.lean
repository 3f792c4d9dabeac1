/-
  Touch, Has.
-/
import Derived.Test.YtkgjpmgoapfamaaL1
namespace Go.Proofs.Ytkgjpmgoapfamaa
open Go.RowKit

/-- Does a span have a block? -/
def inS (x : Int) (s : Sp) : Bool := decide (s.1 ≤ x) && decide (x < s.2)
def touchB (s t : Sp) : Bool := full s && full t && full (both s t)

set_option maxRecDepth 100000 in
theorem hasP_calls (bx : Nat) (x : Int) (s : Sp) (w : World) (hb : w.cell? ⟨bx, 0, none⟩ = some (.int .i64 x)) : Calls Try.prog 54 #[valS s, .pointer (some ⟨bx, 0, none⟩)] w (BoolOut (inS x s) w) := by
  have hk : Kp Non w (w.alloc (.cells #[.int .i64 s.1, .int .i64 s.2] 30)) := (Kp.refl _ _).alloc _
  have hb' := hk.cell hb (fun f => f)
  by_cases h1 : s.1 ≤ x
  · have hi : inS x s = decide (x < s.2) := by simp [inS, h1]
    have HI := Lib.hid hi
    clear hi
    go_enter Try.func54, Try.ntmps54
    go_wp2_with fail
    go_ret
    exact ⟨by rw [HI.out]; rfl, hk⟩
  · have hi : inS x s = false := by simp [inS, h1]
    have HI := Lib.hid hi
    have hd : decide (s.1 ≤ x) = false := by simp; omega
    clear hi
    go_enter Try.func54, Try.ntmps54
    go_wp2_with fail
    go_ret
    exact ⟨by rw [HI.out]; rfl, hk⟩

set_option maxRecDepth 100000 in
set_option maxHeartbeats 400000 in
theorem idxHas_calls (bx : Nat) (z : Int) (a : Option Addr) (n c : Nat) (l : List Sp) (w : World) (h : Spans w a n c l) (hb : w.cell? ⟨bx, 0, none⟩ = some (.int .i64 z)) : Calls Try.prog 66 #[.slice a n c, .func (.func 54) #[] #[.pointer (some ⟨bx, 0, none⟩)]] w (ValOut (.int .i64 (idxP (inS z) l)) w) := by
  obtain rfl := h.len
  have hmax := h.max
  have hcap := h.cap
  have HE := Lib.hid (hasP_calls bx z)
  go_enter Try.func66, Try.ntmps66
  go_wp2
  go_loopw [8] (fun v8 wr => ∃ k : Nat, k ≤ l.length ∧ v8 = .int .i64 k ∧ (∀ x ∈ l.take k, inS z x = false) ∧ Kp Non w wr) (fun v8 _ => l.length - (intOf v8).toNat)
  case atStart => exact ⟨0, by omega, rfl, (by simp), Kp.refl _ _⟩
  case round =>
    obtain ⟨k, hk, rfl, hall, hkp⟩ := hrel
    have hR := h.non hkp
    have HA := Lib.hid hall
    clear hall
    by_cases hlt : k < l.length
    · have g : (k : Int) < (l.length : Nat) := by omega
      have hkl := hlt
      obtain ⟨b, o, rfl⟩ := h.there (by omega)
      have c0 := Spans.c0 hR hkl
      have c1 := Spans.c1 hR hkl
      have HT : Hid (l.take (k + 1) = l.take k ++ [l[k]]) := Lib.hid (List.take_succ_eq_append_getElem hkl)
      have HI := Lib.hid (fun (hp : inS z l[k] = true) => idxP_yes (p := inS z) hkl hp HA.out)
      have HX := Lib.hid (HE.out l[k])
      cases hf : inS z l[k] with
      | true =>
        rw [hf] at HX
        have hi := HI.out hf
        clear HI HE HA
        have HI := Lib.hid hi
        clear hi hf
        generalize l[k] = s at *
        go_wp2_with fail
        refine (HX.out _ (hkp.cell hb (fun f => f))).mono ?_
        rintro e w' ⟨rfl, hk2⟩
        go_wp2_with fail
        go_ret
        exact ⟨by rw [HI.out]; rfl, hkp.trans hk2⟩
      | false =>
        rw [hf] at HX
        have HF := Lib.hid hf
        clear HI HE hf
        generalize hs : l[k] = s at *
        have HS := Lib.hid hs
        clear hs
        go_wp2_with fail
        refine (HX.out _ (hkp.cell hb (fun f => f))).mono ?_
        rintro e w' ⟨rfl, hk2⟩
        go_wp2_with fail
        refine ⟨⟨k + 1, by omega, by go_num, ?_, hkp.trans hk2⟩, by simp [intOf]; omega⟩
        rw [HT.out]
        intro x hx
        rcases List.mem_append.1 hx with hx | hx
        · exact HA.out x hx
        · simp at hx; subst hx; exact HF.out
    · obtain rfl : k = l.length := by omega
      go_wp2
      go_ret
      exact ⟨by rw [idxP_no (fun x hx => HA.out x (by rw [List.take_of_length_le (by omega)]; exact hx))]; rfl, hkp⟩

theorem has_any (l : List Sp) (x : Int) : has l x = decide (0 ≤ idxP (inS x) l) := by
  by_cases h : ∃ s ∈ l, inS x s = true
  · have h1 : has l x = true := by
      obtain ⟨s, hs, hi⟩ := h
      refine (has_iff l x).2 ⟨s, hs, ?_⟩
      simp [inS] at hi
      exact hi
    rw [h1]
    symm
    rw [decide_eq_true_eq]
    unfold idxP
    cases hf : l.findIdx? (inS x) with
    | none =>
      obtain ⟨s, hs, hi⟩ := h
      have := List.findIdx?_eq_none_iff.1 hf s hs
      rw [hi] at this; cases this
    | some i => simp
  · have h1 : has l x = false := has_no fun ⟨s, hs, h1, h2⟩ => h ⟨s, hs, by simp [inS]; exact ⟨h1, h2⟩⟩
    rw [h1]
    symm
    rw [decide_eq_false_iff_not]
    unfold idxP
    rw [List.findIdx?_eq_none_iff.2 fun s hs => by
      cases hi : inS x s with
      | false => rfl
      | true => exact absurd ⟨s, hs, hi⟩ h]
    simp
set_option maxRecDepth 100000 in
set_option maxHeartbeats 400000 in
theorem has_calls (a : Option Addr) (n c : Nat) (l : List Sp) (x : Int) (w : World) (h : Spans w a n c l) : Calls Try.prog 25 #[.slice a n c, .int .i64 x] w (BoolOut (has l x) w) := by
  have hk : Kp Non w (w.alloc (.cells #[.int .i64 x] 3)) := (Kp.refl _ _).alloc _
  have hb : (w.alloc (.cells #[.int .i64 x] 3)).cell? ⟨w.heap.size, 0, none⟩ = some (.int .i64 x) := cell_new (w := w) (cur := #[.int .i64 x]) (e := 3) (fr := (0, 0)) rfl 0
  have HX := Lib.hid (idxHas_calls w.heap.size x a n c l _ (h.non hk) hb)
  have HC : Hid (Calls Try.prog 53 #[.slice a n c, .func (.func 54) #[] #[.pointer (some ⟨w.heap.size, 0, none⟩)]] (w.alloc (.cells #[.int .i64 x] 3)) (BoolOut (has l x) (w.alloc (.cells #[.int .i64 x] 3)))) := Lib.hid (by
    rw [has_any]
    go_enter Try.func53, Try.ntmps53
    go_wp2_with fail
    refine HX.out.mono ?_
    rintro e w1 ⟨rfl, hk1⟩
    go_wp2_with fail
    go_ret
    exact ⟨rfl, hk1⟩)
  go_enter Try.func25, Try.ntmps25
  go_wp2_with fail
  refine HC.out.mono ?_
  rintro e w1 ⟨rfl, hk1⟩
  go_wp2_with fail
  go_ret
  exact ⟨rfl, hk.trans hk1⟩

set_option maxRecDepth 100000 in
set_option maxHeartbeats 1000000 in
theorem touch_calls (s t : Sp) (w : World) : Calls Try.prog 27 #[valS s, valS t] w (BoolOut (touchB s t) w) := by
  have hs := BoxS.new w s
  have ht := BoxS.new (w.alloc (.cells #[.int .i64 s.1, .int .i64 s.2] 30)) t
  have hs := hs.non ((Kp.refl Non _).alloc (.cells #[.int .i64 t.1, .int .i64 t.2] 30))
  have hkb : Kp Non w ((w.alloc (.cells #[.int .i64 s.1, .int .i64 s.2] 30)).alloc (.cells #[.int .i64 t.1, .int .i64 t.2] 30)) := ((Kp.refl _ w).alloc _).alloc _
  go_enter Try.func27, Try.ntmps27
  go_wp2_with fail
  obtain ⟨W, hW⟩ : ∃ W, (w.alloc (.cells #[.int .i64 s.1, .int .i64 s.2] 30)).alloc (.cells #[.int .i64 t.1, .int .i64 t.2] 30) = W := ⟨_, rfl⟩
  rw [hW] at hs ht hkb ⊢
  rw [World.size_alloc] at ht
  clear hW
  generalize w.heap.size + 1 = bt at *
  generalize w.heap.size = bs at *
  refine (empty_calls s W).mono ?_
  rintro e w1 ⟨rfl, hk1⟩
  have hs1 := hs.non hk1
  have ht1 := ht.non hk1
  have y0 := ht1.c0
  have y1 := ht1.c1
  cases hfs : full s with
  | false =>
    have HT : Hid (touchB s t = false) := Lib.hid (by simp [touchB, hfs])
    clear hfs
    go_wp2_with fail
    go_ret
    exact ⟨by rw [HT.out]; rfl, hkb.trans hk1⟩
  | true =>
    have HFS := Lib.hid hfs
    clear hfs
    go_wp2_with fail
    refine (empty_calls t w1).mono ?_
    rintro e w2 ⟨rfl, hk2⟩
    have hs2 := hs1.non hk2
    have ht2 := ht1.non hk2
    have y0 := ht2.c0
    have y1 := ht2.c1
    have x0 := hs2.c0
    have x1 := hs2.c1
    have hk2 := hk1.trans hk2
    cases hft : full t with
    | false =>
      have HT : Hid (touchB s t = false) := Lib.hid (by simp [touchB, hft])
      clear hft
      go_wp2_with fail
      go_ret
      exact ⟨by rw [HT.out]; rfl, hkb.trans hk2⟩
    | true =>
      have HT : Hid (touchB s t = full (both s t)) := Lib.hid (by simp [touchB, hft, HFS.out])
      clear hft
      have HB := Lib.hid (fun W => both_calls s t W)
      generalize both s t = q at *
      go_wp2_with fail
      refine (HB.out w2).mono ?_
      rintro e w3 ⟨rfl, hk3⟩
      go_wp2_with fail
      refine (empty_calls q w3).mono ?_
      rintro e w4 ⟨rfl, hk4⟩
      go_wp2_with fail
      go_ret
      exact ⟨by rw [HT.out]; simp, hkb.trans ((hk2.trans hk3).trans hk4)⟩

/-- Two spans touch just where they have a block in common. -/
theorem touch_meet (s t : Sp) : touchB s t = decide (0 < (meetN [s] [t]).length) := by
  by_cases h : ∃ x, Sin s x ∧ Sin t x
  · obtain ⟨x, h1, h2⟩ := h
    have h3 := (both_in s t x).2 ⟨h1, h2⟩
    have e1 : touchB s t = true := by
      have a1 := h1.1; have a2 := h1.2; have b1 := h2.1; have b2 := h2.2; have c1 := h3.1; have c2 := h3.2
      simp only [touchB, full, Bool.and_eq_true, decide_eq_true_eq]
      omega
    rw [e1]
    symm
    rw [decide_eq_true_eq]
    have hm : mem (meetN [s] [t]) x := by rw [meetN_in, mem_one, mem_one]; exact ⟨h1, h2⟩
    obtain ⟨u, hu, _⟩ := hm
    exact List.length_pos_of_mem hu
  · have e1 : touchB s t = false := by
      cases hb : touchB s t with
      | false => rfl
      | true =>
        simp only [touchB, full, Bool.and_eq_true, decide_eq_true_eq] at hb
        have hi : Sin (both s t) (both s t).1 := ⟨Int.le_refl _, hb.2⟩
        exact absurd ⟨_, (both_in s t _).1 hi⟩ h
    rw [e1]
    symm
    rw [decide_eq_false_iff_not]
    intro hpos
    obtain ⟨u, hu⟩ := List.exists_mem_of_length_pos hpos
    have hlt := (meetN_plain [s] [t]).lt u hu
    have hm : mem (meetN [s] [t]) u.1 := ⟨u, hu, Int.le_refl _, hlt⟩
    rw [meetN_in, mem_one, mem_one] at hm
    exact h ⟨_, hm⟩
theorem touch_comm (s t : Sp) : touchB t s = touchB s t := by
  rw [touch_meet, touch_meet]
  congr 3
  exact plain_ext (meetN_plain _ _) (meetN_plain _ _) fun x => by rw [meetN_in, meetN_in]; exact and_comm
end Go.Proofs.Ytkgjpmgoapfamaa
