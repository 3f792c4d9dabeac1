/-
  slices.DeleteFunc of the empty spans of a row of the call's own.
-/
import Derived.Test.YtdijaillcajpaaaB2
namespace Go.Proofs.Ytdijaillcajpaaa
open Go.RowKit

/-- What is left of a row of the call's own. -/
def LeftOut {α : Type} (enc : α → List Value) (k : Nat) (e : TypeId) (base : Nat) (a : Option Addr) (l : List α) (w : World) (r : Ending) (w' : World) : Prop :=
  ∃ c', r = .returned (.slice a l.length c') ∧ OwnR enc k w' base e a l.length c' l ∧ Kp (Blk a) w w'

theorem first_empty (l : List Sp) : (l.filter full = l ∧ idxP (fun s => !full s) l = -1) ∨ ∃ i, ∃ h : i < l.length, idxP (fun s => !full s) l = i ∧ full l[i] = false ∧ (l.take i).filter full = l.take i := by
  by_cases hall : ∀ x ∈ l, full x = true
  · exact .inl ⟨List.filter_eq_self.2 hall, idxP_no fun x hx => by rw [hall x hx]; rfl⟩
  · right
    have hex : ∃ x ∈ l, (fun s => !full s) x = true := by
      simp only [Classical.not_forall] at hall
      obtain ⟨x, hx, hf⟩ := hall
      exact ⟨x, hx, by simpa using hf⟩
    unfold idxP
    cases hf : l.findIdx? (fun s => !full s) with
    | none => rw [List.findIdx?_eq_none_iff] at hf; obtain ⟨x, hx, h⟩ := hex; have := hf x hx; simp_all
    | some i =>
      rw [List.findIdx?_eq_some_iff_getElem] at hf
      obtain ⟨hi, h1, h2⟩ := hf
      refine ⟨i, hi, rfl, by simpa using h1, List.filter_eq_self.2 fun x hx => ?_⟩
      obtain ⟨j, hj, rfl⟩ := List.mem_take_iff_getElem.1 hx
      have := h2 j (by omega)
      simpa using this

theorem moved {F mid r : List Sp} {x : Sp} (hm : 0 < mid.length) : (F ++ mid ++ x :: r).set F.length x = (F ++ [x]) ++ ((mid ++ [x]).drop 1) ++ r := by
  cases mid with
  | nil => simp at hm
  | cons m mid => simp

set_option maxRecDepth 100000 in
set_option maxHeartbeats 400000 in
theorem deleteEmpty_calls (a : Option Addr) (n c : Nat) (l : List Sp) (base : Nat) (w : World) (h : OwnS w base a n c l) : Calls Try.prog 100 #[.slice a n c, .func (.func 70) #[] #[]] w (LeftOut encS 2 36 base a (l.filter full) w) := by
  obtain rfl := h.len encS_len (by omega)
  have hR := h.reads encS_len (by omega)
  have hmax := hR.max
  have hcap := hR.cap
  rcases first_empty l with ⟨h1, h2⟩ | ⟨i0, hi0, h2, h3, h4⟩
  · have HI := Lib.hid (idxEmpty_calls a l.length c l w hR)
    rw [h2] at HI
    rw [h1]
    clear h1 h2
    go_enter Try.func100, Try.ntmps100
    go_wp2_with fail
    refine HI.out.mono ?_
    rintro e w1 ⟨rfl, hk1⟩
    go_wp2_with fail
    go_ret
    exact ⟨c, rfl, h.non hk1, hk1.non⟩
  · have HI := Lib.hid (idxEmpty_calls a l.length c l w hR)
    rw [h2] at HI
    obtain ⟨b, o, rfl⟩ := hR.there (by omega)
    rcases h.lie with ⟨h1, _⟩ | ⟨g, cur, h1, _⟩
    · cases h1
    cases h1
    have HE := Lib.hid empty_calls
    have HF0 : Hid ((l.take (i0 + 1)).filter full = l.take i0) := Lib.hid (by rw [List.take_succ_eq_append_getElem hi0, List.filter_append, h4]; simp [h3])
    clear h2 h4
    have hb0 : ((i0 : Int) == -1) = false := by simp
    go_enter Try.func100, Try.ntmps100
    go_wp2_with fail
    refine HI.out.mono ?_
    rintro e w1 ⟨rfl, hk1⟩
    go_wp2_with fail
    go_loopw [5, 6] (fun v5 v6 wr => ∃ (j : Nat) (mid : List Sp), j ≤ l.length ∧ 0 < mid.length ∧ ((l.take j).filter full).length + mid.length = j ∧ v5 = .int .i64 ((l.take j).filter full).length ∧ v6 = .int .i64 j ∧ OwnS wr base (some ⟨b, 0, none⟩) l.length c ((l.take j).filter full ++ mid ++ l.drop j) ∧ Kp (One b) w wr) (fun _ v6 _ => l.length - (intOf v6).toNat)
    case atStart =>
      refine ⟨i0 + 1, [l[i0]], by omega, by simp, by rw [HF0.out]; simp; omega, by rw [HF0.out]; simp [Nat.min_eq_left (Nat.le_of_lt hi0)], by go_num, ?_, hk1.non⟩
      rw [HF0.out]
      have : l.take i0 ++ [l[i0]] ++ l.drop (i0 + 1) = l := by rw [← List.take_succ_eq_append_getElem hi0, List.take_append_drop]
      rw [this]
      exact h.non hk1
    case round =>
      obtain ⟨j, mid, hj, hm0, hlen, rfl, rfl, hO, hkp⟩ := hrel
      have hRr := hO.reads encS_len (by omega)
      have HO := Lib.hid hO
      clear hO
      by_cases hlt : j < l.length
      · have gj : (j : Int) < (l.length : Nat) := by omega
        have e1 : l.drop j = l[j] :: l.drop (j + 1) := List.drop_eq_getElem_cons hlt
        have hAt : ((l.take j).filter full ++ mid ++ l.drop j)[j]? = some l[j] := by
          rw [List.getElem?_append_right (by rw [List.length_append]; omega), List.length_append, hlen, Nat.sub_self, e1]; rfl
        have c0 := hRr.get hAt (i := 0) rfl
        have c1 := hRr.get hAt (i := 1) rfl
        rw [Nat.add_zero, Nat.zero_add] at c0
        rw [Nat.zero_add] at c1
        have HE1 := Lib.hid e1
        have HX := Lib.hid (HE.out l[j])
        have hFlt : ((l.take j).filter full).length < j := by omega
        have HL := Lib.hid hlen
        have HT0 := Lib.hid (List.take_succ_eq_append_getElem hlt)
        clear hAt hRr e1 hlen HE
        cases hf : full l[j] with
        | false =>
          rw [hf] at HX
          have HT : Hid ((l.take (j + 1)).filter full = (l.take j).filter full) := Lib.hid (by rw [HT0.out, List.filter_append]; simp [hf])
          clear hf HT0
          generalize hs : l[j] = s at *
          clear hs
          generalize (l.take j).filter full = F at *
          go_wp2_with fail
          refine (HX.out _).mono ?_
          rintro e w2 ⟨rfl, hk2⟩
          go_wp2_with fail
          go_roundw
          case rel =>
            refine ⟨j + 1, mid ++ [s], by omega, by simp, ?_, by rw [HT.out], by go_num, ?_, ?_⟩
            · rw [HT.out, List.length_append, ← Nat.add_assoc, HL.out]; rfl
            · rw [HT.out]
              have h9 := HO.out
              rw [HE1.out] at h9
              have e9 : F ++ (mid ++ [s]) ++ l.drop (j + 1) = F ++ mid ++ s :: l.drop (j + 1) := by simp
              rw [e9]
              exact h9.non (((Kp.refl _ _).alloc _).trans hk2)
            · exact hkp.trans ((((Kp.refl _ _).alloc _).trans hk2).non)
          case measure => simp [intOf]; omega
        | true =>
          rw [hf] at HX
          have HT : Hid ((l.take (j + 1)).filter full = (l.take j).filter full ++ [l[j]]) := Lib.hid (by rw [HT0.out, List.filter_append]; simp [hf])
          clear hf HT0
          generalize hs : l[j] = s at *
          clear hs
          generalize (l.take j).filter full = F at *
          have hFn : F.length < l.length := by omega
          have gF : (F.length : Int) < (l.length : Nat) := by omega
          go_wp2_with fail
          refine (HX.out _).mono ?_
          rintro e w2 ⟨rfl, hk2⟩
          have hO2 := HO.out.non (((Kp.refl _ _).alloc (.cells #[.int .i64 s.1, .int .i64 s.2] 36)).trans hk2)
          have hR2 := hO2.reads encS_len (by omega)
          have x0 : w2.cell? ⟨wr.heap.size, 0, none⟩ = _ := hk2.cell (a := ⟨wr.heap.size, 0, none⟩) (World.cell?_alloc_new wr _ _ 0) (fun f => f)
          have x1 : w2.cell? ⟨wr.heap.size, 1, none⟩ = _ := hk2.cell (a := ⟨wr.heap.size, 1, none⟩) (World.cell?_alloc_new wr _ _ 1) (fun f => f)
          obtain ⟨y, hy⟩ : ∃ y, (F ++ mid ++ l.drop j)[F.length]? = some y := ⟨_, List.getElem?_eq_getElem (by rw [List.length_append, List.length_append]; omega)⟩
          have y0 := hR2.get hy (i := 0) rfl
          have y1 := hR2.get hy (i := 1) rfl
          rw [Nat.add_zero, Nat.zero_add] at y0
          rw [Nat.zero_add] at y1
          have f0 := hO2.fz rfl (F.length * 2)
          have f1 := hO2.fz rfl (F.length * 2 + 1)
          have HO2 := Lib.hid hO2
          clear hR2 hO2 hy c0 c1
          go_wp2_with fail
          go_roundw
          case rel =>
            have h9 := HO2.out
            rw [HE1.out] at h9
            have h10 := h9.setElem encS_len (by omega) (i := F.length) (by rw [List.length_append, List.length_append, List.length_cons]; omega) s
            rw [moved hm0] at h10
            refine ⟨j + 1, (mid ++ [s]).drop 1, by omega, by rw [List.length_drop, List.length_append]; exact hm0, ?_, by simp [HT.out], by go_num, ?_, ?_⟩
            · rw [HT.out]; simp; have := HL.out; omega
            · rw [HT.out]; exact h10
            · exact hkp.trans (Kp.setCell (S := One b) (Kp.setCell (S := One b) (((Kp.refl _ _).alloc _).trans hk2).non (p := ⟨b, F.length * 2, none⟩) (.inl rfl) _) (p := ⟨b, F.length * 2 + 1, none⟩) (.inl rfl) _)
          case measure => simp [intOf]; omega
      · obtain rfl : j = l.length := by omega
        rw [List.take_of_length_le (Nat.le_refl _)] at hlen HO ⊢
        have hFn : (l.filter full).length < l.length := by omega
        obtain ⟨w3, hr, hO3, hk3⟩ := run_clear_row (P := Try.prog) encS_len (by omega) wr 54 0 36 _ Try.underlying54 Try.zeroValue36 rfl (by intro u hu; simp [Value.cells] at hu; rcases hu with rfl | rfl <;> rfl) HO.out (l.filter full).length (l.length - (l.filter full).length) (c - (l.filter full).length) (by omega)
        rw [List.drop_of_length_le (Nat.le_refl _), List.append_nil, List.take_left' rfl] at hO3
        have hk4 := hkp.trans hk3
        clear hkp hRr
        have HK := Lib.hid hO3
        clear hO3 HO
        generalize hF : l.filter full = F at *
        have g1 : ¬ c = F.length := by omega
        have g2 : F.length ≤ c := by omega
        have g3 : F.length ≤ l.length := by omega
        clear hF
        go_wp2_with fail
        go_ret
        exact ⟨c, rfl, HK.out, hk4.mono fun i _ q => ⟨_, rfl, q.symm⟩⟩
end Go.Proofs.Ytdijaillcajpaaa
