/-
  slices.Delete of one element of a row of the call's own: at spans, numbers and texts. (Printed by gen_del.py.)
-/
import Derived.Test.YtdijaillcajpaaaC1
namespace Go.Proofs.Ytdijaillcajpaaa
open Go.RowKit

section
variable {P : Program} {α : Type} {enc : α → List Value} {k : Nat} {w : World} {base g : Nat} {e : TypeId} {n c : Nat} {l : List α}
/-- An append onto a beginning of a row, where there is room for it. -/
theorem OwnR.room (h : OwnR enc k w base e (some ⟨g, 0, none⟩) n c l) (hk : ∀ x, (enc x).length = k) (h0 : 0 < k) (h1 : ∀ x, ∀ v ∈ enc x, v.oneCell' = true) (t ty : TypeId) (i : TypeInfo) (ht : P.underlying t = some (.slice e)) (hi : P.info? e = some i) (hsize : i.size = k)
    (p : Nat) (ad : Addr) (m c2 : Nat) (l2 : List α) (hm : l2.length = m) (hsrc : 0 < m → ∀ j u, (l2.flatMap enc)[j]? = some u → w.cell? (ad.add j) = some u) (hpm : p + m ≤ n) :
    ∃ w', (Builtin.append_ #[t, t] ty #[.slice (some ⟨g, 0, none⟩) p c, .slice (some ad) m c2]).run P w = .ok (.slice (some ⟨g, 0, none⟩) (p + m) c) w' ∧ OwnR enc k w' base e (some ⟨g, 0, none⟩) n c (l.take p ++ l2 ++ l.drop (p + m)) ∧ Kp (One g) w w' := by
  have hl := h.len hk h0
  have hnc := (h.reads hk h0).cap
  by_cases hz : m = 0
  · subst hz
    obtain rfl : l2 = [] := List.eq_nil_of_length_eq_zero hm
    refine ⟨w, run_append_nothing w t t ty e i ht hi (some ⟨g, 0, none⟩) p c (by omega) _ (Src.ofSlice w ht ad 0 c2 [] (by simp) (by simp) (by simp)), ?_, Kp.refl _ _⟩
    simpa using h
  · obtain ⟨cur, hb, hg, _, hmx, hs, hta, hlen⟩ := h.cur
    have hfl := flat_len enc k hk l2
    rw [hm] at hfl
    have e1 : p * k + m * k = (p + m) * k := by rw [Nat.add_mul]
    have e2 : (p + m) * k ≤ n * k := Nat.mul_le_mul_right k hpm
    have e3 : n * k ≤ c * k := Nat.mul_le_mul_right k hnc
    have hr := run_append_room (P := P) w t ty e i ht hi g p c cur hg ad m c2 (l2.flatMap enc) (by rw [hfl, hsize]) (hsrc (by omega)) (fun u hu => by
      obtain ⟨x, _, hx⟩ := List.mem_flatMap.1 hu
      exact h1 x u hx) (by omega) (by rw [hfl, hsize]; omega)
    rw [hsize] at hr
    refine ⟨_, hr, ?_, ⟨rfl, rfl, rfl, by simp, fun j _ hj => setRow_other w g j _ hj⟩⟩
    have hl3 : ((l.take p ++ l2 ++ l.drop (p + m)).flatMap enc).length = n * k := by
      rw [flat_len enc k hk]; simp only [List.length_append, List.length_take, List.length_drop, hm]; congr 1; omega
    refine OwnR.mk hb (setRow_heap w g cur _ e _ hg) hnc hmx ?_ ?_ hl3
    · simp only [List.size_toArray, List.length_append, List.length_take, List.length_drop, Array.length_toList, hfl]
      omega
    · have e4 : l.flatMap enc = (l.take p).flatMap enc ++ (l.drop p).flatMap enc := by rw [← List.flatMap_append, List.take_append_drop]
      have hp1 := flat_take_len enc k hk (l := l) (i := p) (by omega)
      have hq1 := flat_take_len enc k hk (l := l) (i := p + m) (by omega)
      have e5 : l.flatMap enc = (l.take (p + m)).flatMap enc ++ (l.drop (p + m)).flatMap enc := by rw [← List.flatMap_append, List.take_append_drop]
      have ta : cur.toList.take (p * k) = (l.take p).flatMap enc := by
        have := congrArg (List.take (p * k)) hta
        rw [List.take_take, Nat.min_eq_left (by omega), e4, List.take_left' hp1] at this
        exact this
      have tb : (cur.toList.drop ((p + m) * k)).take (n * k - (p + m) * k) = (l.drop (p + m)).flatMap enc := by
        have := congrArg (List.drop ((p + m) * k)) hta
        rw [e5, List.drop_left' hq1, List.drop_take] at this
        exact this
      rw [ta, hfl]
      show ((l.take p).flatMap enc ++ l2.flatMap enc ++ cur.toList.drop (p * k + m * k)).take (n * k) = _
      rw [List.take_append, List.take_of_length_le (by rw [List.length_append, hp1, hfl]; omega), List.length_append, hp1, hfl, e1, tb, List.flatMap_append, List.flatMap_append]
end

/-- What a deletion leaves. -/
def DelOut {α : Type} (enc : α → List Value) (k : Nat) (e : TypeId) (base g : Nat) (c : Nat) (l : List α) (w : World) (r : Ending) (w' : World) : Prop :=
  r = .returned (.slice (some ⟨g, 0, none⟩) l.length c) ∧ OwnR enc k w' base e (some ⟨g, 0, none⟩) l.length c l ∧ Kp (One g) w w'

set_option maxRecDepth 100000 in
set_option maxHeartbeats 1000000 in
theorem deleteS_calls (g n c : Nat) (l : List Sp) (base i : Nat) (w : World) (h : OwnS w base (some ⟨g, 0, none⟩) n c l) (hi : i < n) :
    Calls Try.prog 107 #[.slice (some ⟨g, 0, none⟩) n c, .int .i64 (i : Nat), .int .i64 ((i : Int) + 1)] w (DelOut encS 2 36 base g c (l.take i ++ l.drop (i + 1)) w) := by
  obtain rfl := h.len encS_len (by omega)
  obtain ⟨i0, hi0, hz0, hz1, hz2⟩ := info_parts infoS
  have hR := h.reads encS_len (by omega)
  have hcap := hR.cap
  have hmax := hR.max
  have hlen' : (l.take i ++ l.drop (i + 1)).length = l.length - 1 := by simp; omega
  obtain ⟨w1, hr, hO1, hk1⟩ := h.drewR.room (P := Try.prog) encS_len (by omega) encS_one 54 54 i0 Try.underlying54 hi0 hz1 i (if c = i + 1 then ⟨g, 0, none⟩ else ⟨g, (i + 1) * 2, none⟩) (l.length - (i + 1)) (c - (i + 1)) (l.drop (i + 1)) (by simp)
    (fun hm j u hu => by
      rw [if_neg (by omega), add_lit]
      have e2 : l.flatMap encS = (l.take (i + 1)).flatMap encS ++ (l.drop (i + 1)).flatMap encS := by rw [← List.flatMap_append, List.take_append_drop]
      have e3 : (l.flatMap encS)[(i + 1) * 2 + j]? = some u := by
        have e4 := flat_take_len encS 2 encS_len (l := l) (i := i + 1) (by omega)
        rw [e2, List.getElem?_append_right (by omega), e4, Nat.add_sub_cancel_left]; exact hu
      have := hR.flat encS_len (by omega) e3
      simpa using this) (by omega)
  have e0 : i + (l.length - (i + 1)) = l.length - 1 := by omega
  rw [e0] at hr hO1
  obtain ⟨w2, hcl, hO2, hk2⟩ := run_clear_row (P := Try.prog) encS_len (by omega) w1 54 0 36 _ Try.underlying54 Try.zeroValue36 rfl (by intro u hu; simp [Value.cells] at hu; first | (rcases hu with rfl | rfl <;> rfl) | (subst hu; rfl)) hO1 (l.length - 1) 1 (c - (l.length - 1)) (by omega)
  rw [List.take_left' hlen'] at hO2
  try rw [Nat.mul_one] at hcl
  have hkk : Kp (One g) w w2 := ((Kp.drew (Kp.refl _ _)).trans hk1).trans hk2
  have HO := Lib.hid hO2
  have HR := Lib.hid hr
  clear hO1 hO2 hk1 hk2 hr
  have e1 : ((i : Int) + 1).toNat = i + 1 := by omega
  have b0 : ((i : Int) == (i : Int) + 1) = false := by simp; omega
  have g1 : (i : Int) ≤ (i : Int) + 1 := by omega
  have g2 : (0 : Int) ≤ (i : Int) + 1 := by omega
  have g3 : (i : Int) + 1 ≤ (l.length : Nat) := by omega
  have g4 : ¬ c = i := by omega
  have g5 : (i : Int) ≤ (l.length : Nat) := by omega
  have g6 : (i : Int) ≤ c := by omega
  have g7 : ¬ c = l.length - 1 := by omega
  have g8 : (i : Int) + 1 ≤ c := by omega
  have g9 : l.length - (l.length - 1) = 1 := by omega
  have g10 : l.length - 1 ≤ l.length := by omega
  have hw1 : IntKind.i64.wrap ((i : Int) + 1) = (i : Int) + 1 := by rw [IntKind.wrap_i64]; omega
  by_cases hci : c = i + 1
  · have HI := Lib.hid hci
    have hr := HR.out
    rw [if_pos hci] at hr
    have hd : (c = i + 1) = True := eq_true hci
    have HR := Lib.hid hr
    clear hci hr
    go_enter Try.func107, Try.ntmps107
    go_wp2_with fail
    refine wp_region_chain [0,0,0,0,0,0,2,2] (by kernel_rfl) (by kernel_rfl) (fun _ => True) trivial ?_
    repeat (first | (with_reducible refine pure_skip ?_) | ((with_reducible refine pure_k rfl ?_); intro K hK; apply Exists.intro; refine ⟨fun w' hC => ?_, ?_⟩; (go_simp; rfl); go_simp; refine hK _ ?_; clear hK K))
    with_reducible refine pure_nil ?_
    repeat (with_reducible refine chain_skip0 ?_)
    with_reducible refine chain_step rfl fun K hK => ?_
    refine wp_append_of _ _ 54 rfl _ _ rfl rfl (R := fun v' w' => v' = .slice (some ⟨g, 0, none⟩) (l.length - 1) c ∧ w' = w1) ⟨_, _, HR.out, rfl, rfl⟩ ?_
    rintro v' w' ⟨rfl, rfl⟩
    go_simp
    refine hK _ _ (fun h => by cases h) ?_
    clear hK K
    repeat (with_reducible refine chain_skip0 ?_)
    with_reducible refine chain_step rfl fun K hK => ?_
    go_simp
    refine hK _ _ (fun h => by cases h) ?_
    clear hK K
    with_reducible refine chain_nil ?_
    go_wp2_with fail
    go_ret
    exact ⟨by rw [hlen']; rfl, by rw [hlen']; exact HO.out, hkk⟩
  · have hr := HR.out
    rw [if_neg hci] at hr
    have HR := Lib.hid hr
    clear hr
    go_enter Try.func107, Try.ntmps107
    go_wp2_with fail
    refine wp_region_chain [0,0,0,0,0,0,2,2] (by kernel_rfl) (by kernel_rfl) (fun _ => True) trivial ?_
    repeat (first | (with_reducible refine pure_skip ?_) | ((with_reducible refine pure_k rfl ?_); intro K hK; apply Exists.intro; refine ⟨fun w' hC => ?_, ?_⟩; (go_simp; rfl); go_simp; refine hK _ ?_; clear hK K))
    with_reducible refine pure_nil ?_
    repeat (with_reducible refine chain_skip0 ?_)
    with_reducible refine chain_step rfl fun K hK => ?_
    refine wp_append_of _ _ 54 rfl _ _ rfl rfl (R := fun v' w' => v' = .slice (some ⟨g, 0, none⟩) (l.length - 1) c ∧ w' = w1) ⟨_, _, HR.out, rfl, rfl⟩ ?_
    rintro v' w' ⟨rfl, rfl⟩
    go_simp
    refine hK _ _ (fun h => by cases h) ?_
    clear hK K
    repeat (with_reducible refine chain_skip0 ?_)
    with_reducible refine chain_step rfl fun K hK => ?_
    go_simp
    refine hK _ _ (fun h => by cases h) ?_
    clear hK K
    with_reducible refine chain_nil ?_
    go_wp2_with fail
    go_ret
    exact ⟨by rw [hlen']; rfl, by rw [hlen']; exact HO.out, hkk⟩
theorem deleteS_at (g n c : Nat) (l : List Sp) (base i : Nat) (w : World) (h : OwnS w base (some ⟨g, 0, none⟩) n c l) (hi : i < n) (z1 z2 : Int) (h1 : z1 = (i : Nat)) (h2 : z2 = (i : Int) + 1) :
    Calls Try.prog 107 #[.slice (some ⟨g, 0, none⟩) n c, .int .i64 z1, .int .i64 z2] w (DelOut encS 2 36 base g c (l.take i ++ l.drop (i + 1)) w) := by
  subst h1 h2
  exact deleteS_calls g n c l base i w h hi

set_option maxRecDepth 100000 in
set_option maxHeartbeats 1000000 in
theorem deleteI_calls (g n c : Nat) (l : List Int) (base i : Nat) (w : World) (h : OwnI w base (some ⟨g, 0, none⟩) n c l) (hi : i < n) :
    Calls Try.prog 108 #[.slice (some ⟨g, 0, none⟩) n c, .int .i64 (i : Nat), .int .i64 ((i : Int) + 1)] w (DelOut encI 1 3 base g c (l.take i ++ l.drop (i + 1)) w) := by
  obtain rfl := h.len encI_len (by omega)
  obtain ⟨i0, hi0, hz0, hz1, hz2⟩ := info_parts infoI
  have hR := h.reads encI_len (by omega)
  have hcap := hR.cap
  have hmax := hR.max
  have hlen' : (l.take i ++ l.drop (i + 1)).length = l.length - 1 := by simp; omega
  obtain ⟨w1, hr, hO1, hk1⟩ := h.drewR.room (P := Try.prog) encI_len (by omega) encI_one 37 37 i0 Try.underlying37 hi0 hz1 i (if c = i + 1 then ⟨g, 0, none⟩ else ⟨g, i + 1, none⟩) (l.length - (i + 1)) (c - (i + 1)) (l.drop (i + 1)) (by simp)
    (fun hm j u hu => by
      rw [if_neg (by omega), add_lit]
      have e2 : l.flatMap encI = (l.take (i + 1)).flatMap encI ++ (l.drop (i + 1)).flatMap encI := by rw [← List.flatMap_append, List.take_append_drop]
      have e3 : (l.flatMap encI)[(i + 1) * 1 + j]? = some u := by
        have e4 := flat_take_len encI 1 encI_len (l := l) (i := i + 1) (by omega)
        rw [e2, List.getElem?_append_right (by omega), e4, Nat.add_sub_cancel_left]; exact hu
      have := hR.flat encI_len (by omega) e3
      simpa using this) (by omega)
  have e0 : i + (l.length - (i + 1)) = l.length - 1 := by omega
  rw [e0] at hr hO1
  obtain ⟨w2, hcl, hO2, hk2⟩ := run_clear_row (P := Try.prog) encI_len (by omega) w1 37 0 3 _ Try.underlying37 Try.zeroValue3 rfl (by intro u hu; simp [Value.cells] at hu; first | (rcases hu with rfl | rfl <;> rfl) | (subst hu; rfl)) hO1 (l.length - 1) 1 (c - (l.length - 1)) (by omega)
  rw [List.take_left' hlen'] at hO2
  try rw [Nat.mul_one] at hcl
  have hkk : Kp (One g) w w2 := ((Kp.drew (Kp.refl _ _)).trans hk1).trans hk2
  have HO := Lib.hid hO2
  have HR := Lib.hid hr
  clear hO1 hO2 hk1 hk2 hr
  have e1 : ((i : Int) + 1).toNat = i + 1 := by omega
  have b0 : ((i : Int) == (i : Int) + 1) = false := by simp; omega
  have g1 : (i : Int) ≤ (i : Int) + 1 := by omega
  have g2 : (0 : Int) ≤ (i : Int) + 1 := by omega
  have g3 : (i : Int) + 1 ≤ (l.length : Nat) := by omega
  have g4 : ¬ c = i := by omega
  have g5 : (i : Int) ≤ (l.length : Nat) := by omega
  have g6 : (i : Int) ≤ c := by omega
  have g7 : ¬ c = l.length - 1 := by omega
  have g8 : (i : Int) + 1 ≤ c := by omega
  have g9 : l.length - (l.length - 1) = 1 := by omega
  have g10 : l.length - 1 ≤ l.length := by omega
  have hw1 : IntKind.i64.wrap ((i : Int) + 1) = (i : Int) + 1 := by rw [IntKind.wrap_i64]; omega
  by_cases hci : c = i + 1
  · have HI := Lib.hid hci
    have hr := HR.out
    rw [if_pos hci] at hr
    have hd : (c = i + 1) = True := eq_true hci
    have HR := Lib.hid hr
    clear hci hr
    go_enter Try.func108, Try.ntmps108
    go_wp2_with fail
    refine wp_region_chain [0,0,0,0,0,0,2,2] (by kernel_rfl) (by kernel_rfl) (fun _ => True) trivial ?_
    repeat (first | (with_reducible refine pure_skip ?_) | ((with_reducible refine pure_k rfl ?_); intro K hK; apply Exists.intro; refine ⟨fun w' hC => ?_, ?_⟩; (go_simp; rfl); go_simp; refine hK _ ?_; clear hK K))
    with_reducible refine pure_nil ?_
    repeat (with_reducible refine chain_skip0 ?_)
    with_reducible refine chain_step rfl fun K hK => ?_
    refine wp_append_of _ _ 37 rfl _ _ rfl rfl (R := fun v' w' => v' = .slice (some ⟨g, 0, none⟩) (l.length - 1) c ∧ w' = w1) ⟨_, _, HR.out, rfl, rfl⟩ ?_
    rintro v' w' ⟨rfl, rfl⟩
    go_simp
    refine hK _ _ (fun h => by cases h) ?_
    clear hK K
    repeat (with_reducible refine chain_skip0 ?_)
    with_reducible refine chain_step rfl fun K hK => ?_
    go_simp
    refine hK _ _ (fun h => by cases h) ?_
    clear hK K
    with_reducible refine chain_nil ?_
    go_wp2_with fail
    go_ret
    exact ⟨by rw [hlen']; rfl, by rw [hlen']; exact HO.out, hkk⟩
  · have hr := HR.out
    rw [if_neg hci] at hr
    have HR := Lib.hid hr
    clear hr
    go_enter Try.func108, Try.ntmps108
    go_wp2_with fail
    refine wp_region_chain [0,0,0,0,0,0,2,2] (by kernel_rfl) (by kernel_rfl) (fun _ => True) trivial ?_
    repeat (first | (with_reducible refine pure_skip ?_) | ((with_reducible refine pure_k rfl ?_); intro K hK; apply Exists.intro; refine ⟨fun w' hC => ?_, ?_⟩; (go_simp; rfl); go_simp; refine hK _ ?_; clear hK K))
    with_reducible refine pure_nil ?_
    repeat (with_reducible refine chain_skip0 ?_)
    with_reducible refine chain_step rfl fun K hK => ?_
    refine wp_append_of _ _ 37 rfl _ _ rfl rfl (R := fun v' w' => v' = .slice (some ⟨g, 0, none⟩) (l.length - 1) c ∧ w' = w1) ⟨_, _, HR.out, rfl, rfl⟩ ?_
    rintro v' w' ⟨rfl, rfl⟩
    go_simp
    refine hK _ _ (fun h => by cases h) ?_
    clear hK K
    repeat (with_reducible refine chain_skip0 ?_)
    with_reducible refine chain_step rfl fun K hK => ?_
    go_simp
    refine hK _ _ (fun h => by cases h) ?_
    clear hK K
    with_reducible refine chain_nil ?_
    go_wp2_with fail
    go_ret
    exact ⟨by rw [hlen']; rfl, by rw [hlen']; exact HO.out, hkk⟩
theorem deleteI_at (g n c : Nat) (l : List Int) (base i : Nat) (w : World) (h : OwnI w base (some ⟨g, 0, none⟩) n c l) (hi : i < n) (z1 z2 : Int) (h1 : z1 = (i : Nat)) (h2 : z2 = (i : Int) + 1) :
    Calls Try.prog 108 #[.slice (some ⟨g, 0, none⟩) n c, .int .i64 z1, .int .i64 z2] w (DelOut encI 1 3 base g c (l.take i ++ l.drop (i + 1)) w) := by
  subst h1 h2
  exact deleteI_calls g n c l base i w h hi
end Go.Proofs.Ytdijaillcajpaaa
