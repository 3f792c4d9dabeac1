/-
  slices.Insert of one element into a row of the call's own: at spans, numbers and texts. (Printed by gen_ins.py.)
-/
import Derived.Test.YtdijaillcajpaaaC0
import Derived.Laws.Externs
namespace Go.Proofs.Ytdijaillcajpaaa
open Go.RowKit

/-- What an insertion leaves. -/
def InsOut {α : Type} (enc : α → List Value) (k : Nat) (e : TypeId) (base : Nat) (a : Option Addr) (l : List α) (w : World) (r : Ending) (w' : World) : Prop :=
  ∃ a' c', r = .returned (.slice a' l.length c') ∧ OwnR enc k w' base e a' l.length c' l ∧ Kp (Blk a) w w' ∧ (a' = a ∨ ∃ g, a' = some ⟨g, 0, none⟩ ∧ w.heap.size ≤ g)
theorem ins_set {α : Type} {l : List α} {i : Nat} (hi : i < l.length) (x : α) : (l.take (i + 1) ++ l.drop i).set i x = l.take i ++ [x] ++ l.drop i := by
  rw [List.take_succ_eq_append_getElem hi, List.append_assoc, List.set_append_right _ _ (by simp [Nat.min_eq_left (Nat.le_of_lt hi)]), List.length_take, Nat.min_eq_left (Nat.le_of_lt hi), Nat.sub_self]
  simp
theorem rep_set {α : Type} {l : List α} {i m : Nat} (hi : i ≤ l.length) (zx x : α) : (l.take i ++ List.replicate (m + 1) zx).set i x = l.take i ++ [x] ++ List.replicate m zx := by
  rw [List.set_append_right _ _ (by rw [List.length_take, Nat.min_eq_left hi]; exact Nat.le_refl _), List.length_take, Nat.min_eq_left hi, Nat.sub_self]
  simp [List.replicate_succ]
section
variable {α : Type} {enc : α → List Value} {k : Nat} {w : World} {base g : Nat} {e : TypeId} {n c : Nat} {l : List α}
/-- What comes behind is laid over a row's last places. -/
theorem OwnR.over {l2 : List α} (h : OwnR enc k w base e (some ⟨g, 0, none⟩) n c (l ++ l2)) (hk : ∀ x, (enc x).length = k) (h0 : 0 < k) (l3 : List α) (h3 : l3.length = l2.length) : OwnR enc k (w.setCells g (l.length * k) (l3.flatMap enc)) base e (some ⟨g, 0, none⟩) n c (l ++ l3) := by
  have hl := h.len hk h0
  rw [List.length_append] at hl
  have hnc := (h.reads hk h0).cap
  have hl3 := flat_len enc k hk l3
  have e1 : l.length * k + l3.length * k = n * k := by rw [← Nat.add_mul, h3, hl]
  have e2 : n * k ≤ c * k := Nat.mul_le_mul_right k hnc
  refine h.setCells _ _ (by omega) hnc (by rw [flat_len enc k hk, List.length_append, h3, hl]) fun cs hcs ht => ?_
  rw [List.flatMap_append] at ht ⊢
  unfold lay
  have e4 : cs.take (l.length * k) = l.flatMap enc := by
    have := congrArg (List.take (l.length * k)) ht
    rw [List.take_take, Nat.min_eq_left (by omega), List.take_left' (flat_len enc k hk l)] at this
    exact this
  rw [e4, List.take_left' (by rw [List.length_append, flat_len enc k hk, hl3, ← e1])]
end

set_option maxRecDepth 100000 in
set_option maxHeartbeats 1000000 in
theorem insertS_calls (a : Option Addr) (n c : Nat) (l : List Sp) (base i vb : Nat) (x : Sp) (w : World) (h : OwnS w base a n c l) (hi : i ≤ n) (hn : n ≤ 1000000000000)
    (hv : Spans w (some ⟨vb, 0, none⟩) 1 1 [x]) (hvb : ∀ j, Blk a j → vb ≠ j) (cv : Array Value) (ev : TypeId) (hbox : w.heap[vb]? = some (.cells cv ev (0, 0))) (hbase : base ≤ w.heap.size) :
    Calls Try.prog 93 #[.slice a n c, .int .i64 (i : Nat), .slice (some ⟨vb, 0, none⟩) 1 1] w (InsOut encS 2 36 base a (l.take i ++ [x] ++ l.drop i) w) := by
  obtain rfl := h.len encS_len (by omega)
  obtain ⟨i0, hi0, hz0, hz1, hz2⟩ := info_parts infoS
  have hR := h.reads encS_len (by omega)
  have hcap := hR.cap
  have hmax := hR.max
  have hsz : (Try.prog.info? 36).map (·.size) = some 2 := by rw [hi0]; simp [hz1]
  have hlen' : (l.take i ++ [x] ++ l.drop i).length = l.length + 1 := by simp; omega
  by_cases hend : i = l.length
  · subst hend
    rw [List.take_of_length_le (Nat.le_refl _), List.drop_of_length_le (Nat.le_refl _), List.append_nil] at hlen' ⊢
    have hb0 : ((l.length : Int) == (l.length : Int)) = true := by simp
    cases a with
    | none =>
      have h0 := hR.nil rfl
      subst h0
      obtain rfl : l = [] := List.eq_nil_of_length_eq_zero (by omega)
      go_enter Try.func93, Try.ntmps93
      go_wp2_with (at_builtin; refine wpList_append_row rfl _ _ 54 rfl base 36 i0 _ 16 Try.underlying54 hi0 hz0 hz1 hz2 rfl (by decide) encS_len encS_one none 0 0 [] rfl h _ 1 1 [x] rfl hv (by omega) (by omega) hbase ?_; intro a5 c5 w5 hO5 hk5 hb5)
      go_ret
      exact ⟨a5, c5, rfl, hO5, hk5, hb5.imp id fun q => ⟨_, q, Nat.le_refl _⟩⟩
    | some ad =>
      obtain ⟨ab, ao, asp⟩ := ad
      go_enter Try.func93, Try.ntmps93
      go_wp2_with (at_builtin; refine wpList_append_row rfl _ _ 54 rfl base 36 i0 _ 16 Try.underlying54 hi0 hz0 hz1 hz2 rfl (by decide) encS_len encS_one (some ⟨ab, ao, asp⟩) l.length c l rfl h _ 1 1 [x] rfl hv (by omega) (by omega) hbase ?_; intro a5 c5 w5 hO5 hk5 hb5)
      all_goals
        go_ret
        rw [← hlen'] at hO5
        exact ⟨a5, c5, by rw [hlen']; rfl, hO5, hk5, hb5.imp id fun q => ⟨_, q, Nat.le_refl _⟩⟩
  · have hlt : i < l.length := by omega
    have hend2 : ((i : Int) == (l.length : Int)) = false := by simp; omega
    obtain ⟨g, o, rfl⟩ := hR.there (by omega)
    rcases h.lie with ⟨h1, _⟩ | ⟨g', cur, h1, h2⟩
    · cases h1
    cases h1
    clear h2
    have g1 : (i : Int) ≤ (l.length : Nat) := by omega
    have g2 : ¬ c = i := by omega
    have ⟨hblt, hbg⟩ := (And.intro (heap_lt hbox) (h.blk g ⟨_, rfl, rfl⟩).2)
    have hvg := hvb g ⟨_, rfl, rfl⟩
    have g9 : i ≤ c := by omega
    by_cases hroom : l.length + 1 ≤ c
    · have hov : ∀ lb cb, (callFunc 103 #[.slice (some ⟨vb, 0, none⟩) 1 1, .slice (some ⟨g, (i + 1) * 2, none⟩) lb cb]).run Try.prog w = .ok (.value (.bool false)) w := fun lb cb => by
        rw [run_callFunc_extern Try.func103 (by kernel_rfl) (by kernel_rfl) (by kernel_rfl) (e := Extern.SlicesOverlaps.overlaps #[54, 54] #[4]) (by kernel_rfl),
          Lib.run_overlaps_apart w 54 4 36 Try.underlying54 2 Try.sizeOf36 ⟨vb, 0, none⟩ ⟨g, (i + 1) * 2, none⟩ 1 1 lb cb hvg ev 36 cv.size (c * 2) (by simp [World.shape?, hbox]) h.shape (by omega) (by simp [World.frozen?, hbox]) (by simp [World.frozen?, hbox])]
        rfl
      have e1 : ((i : Int) + 1).toNat = i + 1 := by omega
      have hw1 : IntKind.i64.wrap ((i : Int) + 1) = (i : Int) + 1 := by rw [IntKind.wrap_i64]; omega
      have g3 : ¬ c = i + 1 := by omega
      have g4 : (i : Int) + 1 ≤ (l.length : Nat) + 1 := by omega
      have g5 : (i : Int) ≤ (l.length : Nat) + 1 := by omega
      have g6 : (l.length : Int) + 1 ≤ c := by omega
      have g7 : (0 : Int) ≤ (i : Int) + 1 := by omega
      go_enter Try.func93, Try.ntmps93
      have hdl : (l.drop i).length = l.length - i := List.length_drop
      have hO1 := h.drewR.shift encS_len (by omega) hlt hroom
      have hk1 : Kp (One g) w (w.drew.setCells g ((i + 1) * 2) ((l.drop i).flatMap encS)) := Kp.setCells (S := One g) (.inl rfl) _ _ (Kp.drew (Kp.refl _ _))
      have hcp1 : ∀ ty dc sc, (Builtin.copy_ #[54, 54] ty #[.slice (some ⟨g, (i + 1) * 2, none⟩) (l.length - i) dc, .slice (some ⟨g, i * 2, none⟩) (l.length + 1 - i) sc]).run Try.prog w.drew = .ok (goInt (l.drop i).length) (w.drew.setCells g ((i + 1) * 2) ((l.drop i).flatMap encS)) := fun ty dc sc =>
        run_copy_row encS_len encS_one w.drew _ _ ty 36 Try.underlying54 hsz g ((i + 1) * 2) _ dc g (i * 2) _ sc (l.drop i) (by rw [hdl]; show _ = min _ _; omega)
          (fun j v hj => by
            have e2 : l.flatMap encS = (l.take i).flatMap encS ++ (l.drop i).flatMap encS := by rw [← List.flatMap_append, List.take_append_drop]
            have e3 : (l.flatMap encS)[i * 2 + j]? = some v := by
              have e4 := flat_take_len encS 2 encS_len (l := l) (i := i) (by omega)
              rw [e2, List.getElem?_append_right (by omega), e4, Nat.add_sub_cancel_left]; exact hj
            have := hR.flat encS_len (by omega) e3
            simpa using this)
          (fun j hj => by
            have := h.isSome' (o := i + 1) (m := l.length - i) (by omega) j (by rw [hdl] at hj; exact hj)
            simpa using this) (fun j => h.fz rfl j)
      try simp only [Nat.mul_one] at hO1
      generalize hW : w.drew.setCells g ((i + 1) * 2) ((l.drop i).flatMap encS) = W at *
      have hv1 := hv.kp hk1 (fun j hj => by obtain ⟨ad, e9, rfl⟩ := hj; cases e9; exact hvg)
      have hcp2 : ∀ ty dc, (Builtin.copy_ #[54, 54] ty #[.slice (some ⟨g, i * 2, none⟩) (l.length + 1 - i) dc, .slice (some ⟨vb, 0, none⟩) 1 1]).run Try.prog W = .ok (goInt 1) (W.setCells g (i * 2) ([x].flatMap encS)) := fun ty dc =>
        run_copy_row encS_len encS_one W _ _ ty 36 Try.underlying54 hsz g (i * 2) _ dc vb 0 _ 1 [x] (by show 1 = min _ _; omega)
          (fun j v hj => hv1.flat encS_len (by omega) hj)
          (fun j hj => by
            have := hO1.isSome' (o := i) (m := 1) (by omega) j (by simpa using hj)
            simpa using this) (fun j => hO1.fz rfl j)
      have hO2 := hO1.setElem encS_len (by omega) (i := i) (by simp; omega) x
      rw [ins_set hlt] at hO2
      have hk2 : Kp (One g) w (W.setCells g (i * 2) ([x].flatMap encS)) := Kp.setCells (S := One g) (.inl rfl) _ _ hk1
      have e7 : W.setCells g (i * 2) ([x].flatMap encS) = W.setCells g (i * 2) (encS x) := by simp
      rw [e7] at hk2
      have hk9 : Kp (Blk (some ⟨g, 0, none⟩)) w (W.setCells g (i * 2) (encS x)) := hk2.mono fun j _ q => ⟨_, rfl, (show j = g from q).symm⟩
      have HO2 := Lib.hid hO2
      have HCP := Lib.hid hcp2
      clear e7 hO1 hO2 hv1 hW
      go_wp2_with (simp only [hov])
      refine wp_region_chain [0,0,0,0,0,0,0,0,2] (by kernel_rfl) (by kernel_rfl) (fun _ => True) trivial ?_
      repeat (first | (with_reducible refine pure_skip ?_) | ((with_reducible refine pure_k rfl ?_); intro K hK; apply Exists.intro; refine ⟨fun w' hC => ?_, ?_⟩; (go_simp; rfl); go_simp; refine hK _ ?_; clear hK K))
      with_reducible refine pure_nil ?_
      repeat (with_reducible refine chain_skip0 ?_)
      with_reducible refine chain_step rfl fun K hK => ?_
      refine wp_copy_of _ _ 54 54 rfl _ _ rfl rfl (hcp1 _ _ _) ?_
      refine hK _ _ (fun h => by cases h) ?_
      clear hK K hcp1
      with_reducible refine chain_nil ?_
      go_wp2_with (at_builtin; refine wpList_copy_of rfl _ _ 54 54 rfl _ _ rfl rfl (HCP.out _ _) ?_)
      go_ret
      exact ⟨_, c, by rw [hlen']; rfl, by rw [hlen']; simpa using HO2.out, by simpa using hk9, .inl rfl⟩
    · obtain ⟨m, hm⟩ : ∃ m, l.length = i + m + 1 := ⟨l.length - i - 1, by omega⟩
      obtain ⟨G, w1, hr, hO1, hk1⟩ := OwnR.zeros (P := Try.prog) hR encS_len 54 3 54 i0 _ ((0, 0) : Sp) rfl 16 Try.underlying54 Try.underlying3 hi0 hz0 hz1 hz2 (by omega) i (l.length + 1 - i) (by omega) (by omega) (by omega) (by omega) (by omega)
      have e0 : i + (l.length + 1 - i) = l.length + 1 := by omega
      have e00 : (l.length : Int) + 1 - (i : Int) = ((l.length + 1 - i : Nat) : Int) := by omega
      rw [e0] at hr hO1
      have hR1 := hO1.reads encS_len (by omega)
      have hG := hR1.cap
      have hGm := hR1.max
      have hgg := (hO1.blk w.heap.size ⟨_, rfl, rfl⟩).2
      have hv1 := hv.non hk1
      have hRg := hR.non hk1
      have e01 : l.length + 1 - i = m + 1 + 1 := by omega
      have hO1' := hO1
      rw [e01] at hO1'
      -- the copy of v
      have hcpA : ∀ ty dc, (Builtin.copy_ #[54, 54] ty #[.slice (some ⟨w.heap.size, i * 2, none⟩) (l.length + 1 - i) dc, .slice (some ⟨vb, 0, none⟩) 1 1]).run Try.prog w1 = .ok (goInt 1) (w1.setCells w.heap.size (i * 2) ([x].flatMap encS)) := fun ty dc =>
        run_copy_row encS_len encS_one w1 _ _ ty 36 Try.underlying54 hsz w.heap.size (i * 2) _ dc vb 0 _ 1 [x] (by show 1 = min _ _; omega)
          (fun j v hj => hv1.flat encS_len (by omega) hj)
          (fun j hj => by
            have := hO1.isSome' (o := i) (m := 1) (by omega) j (by simpa using hj)
            simpa using this) (fun j => hO1.fz rfl j)
      have hO2 := hO1'.setElem encS_len (by omega) (i := i) (by simp; omega) x
      rw [rep_set (by omega)] at hO2
      have e7 : w1.setCells w.heap.size (i * 2) ([x].flatMap encS) = w1.setCells w.heap.size (i * 2) (encS x) := by simp
      rw [← e7] at hO2
      have hk2 : Kp Non w (w1.setCells w.heap.size (i * 2) ([x].flatMap encS)) := Kp.setCells (S := Non) (.inr (Nat.le_refl _)) _ _ hk1
      generalize hW2 : w1.setCells w.heap.size (i * 2) ([x].flatMap encS) = W2 at *
      clear hW2 e7
      have hdl : (l.drop i).length = m + 1 := by rw [List.length_drop]; omega
      have hR2g := hR.non hk2
      have hcpB : ∀ ty dc sc, (Builtin.copy_ #[54, 54] ty #[.slice (some ⟨w.heap.size, (i + 1) * 2, none⟩) (l.length - i) dc, .slice (some ⟨g, i * 2, none⟩) (l.length - i) sc]).run Try.prog W2.drew = .ok (goInt (l.drop i).length) (W2.drew.setCells w.heap.size ((i + 1) * 2) ((l.drop i).flatMap encS)) := fun ty dc sc =>
        run_copy_row encS_len encS_one W2.drew _ _ ty 36 Try.underlying54 hsz w.heap.size ((i + 1) * 2) _ dc g (i * 2) _ sc (l.drop i) (by rw [hdl]; show _ = min _ _; omega)
          (fun j v hj => by
            have e2 : l.flatMap encS = (l.take i).flatMap encS ++ (l.drop i).flatMap encS := by rw [← List.flatMap_append, List.take_append_drop]
            have e3 : (l.flatMap encS)[i * 2 + j]? = some v := by
              have e4 := flat_take_len encS 2 encS_len (l := l) (i := i) (by omega)
              rw [e2, List.getElem?_append_right (by omega), e4, Nat.add_sub_cancel_left]; exact hj
            have := hR2g.flat encS_len (by omega) e3
            simpa using this)
          (fun j hj => by
            have := hO2.isSome' (o := i + 1) (m := m + 1) (by omega) j (by rw [hdl] at hj; exact hj)
            simpa using this) (fun j => hO2.fz rfl j)
      have hO3 := hO2.drewR.over encS_len (by omega) (l.drop i) (by rw [hdl]; simp)
      have e8 : (l.take i ++ [x]).length = i + 1 := by simp; omega
      rw [e8] at hO3
      have hk3 : Kp Non w (W2.drew.setCells w.heap.size ((i + 1) * 2) ((l.drop i).flatMap encS)) := Kp.setCells (S := Non) (.inr (Nat.le_refl _)) _ _ hk2.drew
      have e9 : W2.drew.setCells w.heap.size ((i + 1) * 2) ((l.drop i).flatMap encS) = W2.drew.setCells w.heap.size ((i + 1) * 2) ((l.drop i).flatMap encS) := by simp
      rw [← e9] at hO3
      have HO3 := Lib.hid hO3
      generalize hW3 : W2.drew.setCells w.heap.size ((i + 1) * 2) ((l.drop i).flatMap encS) = W3 at *
      clear hO3 hW3 hO2 hO1 hO1' hv1 hRg hR1 e9 hk1 hk2 hR2g
      have e1 : ((i : Int) + 1).toNat = i + 1 := by omega
      have hw1 : IntKind.i64.wrap ((i : Int) + 1) = (i : Int) + 1 := by rw [IntKind.wrap_i64]; omega
      have g3 : ¬ G = i + 1 := by omega
      have g4 : (i : Int) + 1 ≤ (l.length : Nat) + 1 := by omega
      have g5 : (i : Int) ≤ (l.length : Nat) + 1 := by omega
      have g6 : (c : Int) < (l.length : Nat) + 1 := by omega
      have g7 : (0 : Int) ≤ (i : Int) + 1 := by omega
      have g8 : ¬ G = i := by omega
      have HB := Lib.hid hcpB
      clear hcpB hm e01
      go_enter Try.func93, Try.ntmps93
      go_wp2_with (at_builtin; first | (refine Lib.wpList_append_run _ rfl _ _ 54 3 rfl _ _ rfl rfl _ _ hr ?_) | (refine wpList_copy_of rfl _ _ 54 54 rfl _ _ rfl rfl (hcpA _ _) ?_))
      refine wp_region_chain [0,0,0,0,0,0,0,0,2] (by kernel_rfl) (by kernel_rfl) (fun _ => True) trivial ?_
      repeat (first | (with_reducible refine pure_skip ?_) | ((with_reducible refine pure_k rfl ?_); intro K hK; apply Exists.intro; refine ⟨fun w' hC => ?_, ?_⟩; (go_simp; rfl); go_simp; refine hK _ ?_; clear hK K))
      with_reducible refine pure_nil ?_
      repeat (with_reducible refine chain_skip0 ?_)
      with_reducible refine chain_step rfl fun K hK => ?_
      refine wp_copy_of _ _ 54 54 rfl _ _ rfl rfl (HB.out _ _ _) ?_
      refine hK _ _ (fun h => by cases h) ?_
      clear hK K
      with_reducible refine chain_nil ?_
      go_wp2_with fail
      go_ret
      exact ⟨some ⟨w.heap.size, 0, none⟩, G, by rw [hlen']; rfl, by rw [hlen']; exact HO3.out.lower hbase, hk3.non, .inr ⟨_, rfl, Nat.le_refl _⟩⟩

set_option maxRecDepth 100000 in
set_option maxHeartbeats 1000000 in
theorem insertI_calls (a : Option Addr) (n c : Nat) (l : List Int) (base i vb : Nat) (x : Int) (w : World) (h : OwnI w base a n c l) (hi : i ≤ n) (hn : n ≤ 1000000000000)
    (hv : Ints w (some ⟨vb, 0, none⟩) 1 1 [x]) (hvb : ∀ j, Blk a j → vb ≠ j) (cv : Array Value) (ev : TypeId) (hbox : w.heap[vb]? = some (.cells cv ev (0, 0))) (hbase : base ≤ w.heap.size) :
    Calls Try.prog 94 #[.slice a n c, .int .i64 (i : Nat), .slice (some ⟨vb, 0, none⟩) 1 1] w (InsOut encI 1 3 base a (l.take i ++ [x] ++ l.drop i) w) := by
  obtain rfl := h.len encI_len (by omega)
  obtain ⟨i0, hi0, hz0, hz1, hz2⟩ := info_parts infoI
  have hR := h.reads encI_len (by omega)
  have hcap := hR.cap
  have hmax := hR.max
  have hsz : (Try.prog.info? 3).map (·.size) = some 1 := by rw [hi0]; simp [hz1]
  have hlen' : (l.take i ++ [x] ++ l.drop i).length = l.length + 1 := by simp; omega
  by_cases hend : i = l.length
  · subst hend
    rw [List.take_of_length_le (Nat.le_refl _), List.drop_of_length_le (Nat.le_refl _), List.append_nil] at hlen' ⊢
    have hb0 : ((l.length : Int) == (l.length : Int)) = true := by simp
    cases a with
    | none =>
      have h0 := hR.nil rfl
      subst h0
      obtain rfl : l = [] := List.eq_nil_of_length_eq_zero (by omega)
      go_enter Try.func94, Try.ntmps94
      go_wp2_with (at_builtin; refine wpList_append_row rfl _ _ 37 rfl base 3 i0 _ 8 Try.underlying37 hi0 hz0 hz1 hz2 rfl (by decide) encI_len encI_one none 0 0 [] rfl h _ 1 1 [x] rfl hv (by omega) (by omega) hbase ?_; intro a5 c5 w5 hO5 hk5 hb5)
      go_ret
      exact ⟨a5, c5, rfl, hO5, hk5, hb5.imp id fun q => ⟨_, q, Nat.le_refl _⟩⟩
    | some ad =>
      obtain ⟨ab, ao, asp⟩ := ad
      go_enter Try.func94, Try.ntmps94
      go_wp2_with (at_builtin; refine wpList_append_row rfl _ _ 37 rfl base 3 i0 _ 8 Try.underlying37 hi0 hz0 hz1 hz2 rfl (by decide) encI_len encI_one (some ⟨ab, ao, asp⟩) l.length c l rfl h _ 1 1 [x] rfl hv (by omega) (by omega) hbase ?_; intro a5 c5 w5 hO5 hk5 hb5)
      all_goals
        go_ret
        rw [← hlen'] at hO5
        exact ⟨a5, c5, by rw [hlen']; rfl, hO5, hk5, hb5.imp id fun q => ⟨_, q, Nat.le_refl _⟩⟩
  · have hlt : i < l.length := by omega
    have hend2 : ((i : Int) == (l.length : Int)) = false := by simp; omega
    obtain ⟨g, o, rfl⟩ := hR.there (by omega)
    rcases h.lie with ⟨h1, _⟩ | ⟨g', cur, h1, h2⟩
    · cases h1
    cases h1
    clear h2
    have g1 : (i : Int) ≤ (l.length : Nat) := by omega
    have g2 : ¬ c = i := by omega
    have ⟨hblt, hbg⟩ := (And.intro (heap_lt hbox) (h.blk g ⟨_, rfl, rfl⟩).2)
    have hvg := hvb g ⟨_, rfl, rfl⟩
    have g9 : i ≤ c := by omega
    by_cases hroom : l.length + 1 ≤ c
    · have hov : ∀ lb cb, (callFunc 105 #[.slice (some ⟨vb, 0, none⟩) 1 1, .slice (some ⟨g, i + 1, none⟩) lb cb]).run Try.prog w = .ok (.value (.bool false)) w := fun lb cb => by
        rw [run_callFunc_extern Try.func105 (by kernel_rfl) (by kernel_rfl) (by kernel_rfl) (e := Extern.SlicesOverlaps.overlaps #[37, 37] #[4]) (by kernel_rfl),
          Lib.run_overlaps_apart w 37 4 3 Try.underlying37 1 Try.sizeOf3 ⟨vb, 0, none⟩ ⟨g, i + 1, none⟩ 1 1 lb cb hvg ev 3 cv.size (c * 1) (by simp [World.shape?, hbox]) h.shape (by omega) (by simp [World.frozen?, hbox]) (by simp [World.frozen?, hbox])]
        rfl
      have e1 : ((i : Int) + 1).toNat = i + 1 := by omega
      have hw1 : IntKind.i64.wrap ((i : Int) + 1) = (i : Int) + 1 := by rw [IntKind.wrap_i64]; omega
      have g3 : ¬ c = i + 1 := by omega
      have g4 : (i : Int) + 1 ≤ (l.length : Nat) + 1 := by omega
      have g5 : (i : Int) ≤ (l.length : Nat) + 1 := by omega
      have g6 : (l.length : Int) + 1 ≤ c := by omega
      have g7 : (0 : Int) ≤ (i : Int) + 1 := by omega
      go_enter Try.func94, Try.ntmps94
      have hdl : (l.drop i).length = l.length - i := List.length_drop
      have hO1 := h.drewR.shift encI_len (by omega) hlt hroom
      have hk1 : Kp (One g) w (w.drew.setCells g (i + 1) ((l.drop i).flatMap encI)) := Kp.setCells (S := One g) (.inl rfl) _ _ (Kp.drew (Kp.refl _ _))
      have hcp1 : ∀ ty dc sc, (Builtin.copy_ #[37, 37] ty #[.slice (some ⟨g, i + 1, none⟩) (l.length - i) dc, .slice (some ⟨g, i, none⟩) (l.length + 1 - i) sc]).run Try.prog w.drew = .ok (goInt (l.drop i).length) (w.drew.setCells g (i + 1) ((l.drop i).flatMap encI)) := fun ty dc sc =>
        run_copy_row encI_len encI_one w.drew _ _ ty 3 Try.underlying37 hsz g (i + 1) _ dc g (i) _ sc (l.drop i) (by rw [hdl]; show _ = min _ _; omega)
          (fun j v hj => by
            have e2 : l.flatMap encI = (l.take i).flatMap encI ++ (l.drop i).flatMap encI := by rw [← List.flatMap_append, List.take_append_drop]
            have e3 : (l.flatMap encI)[i * 1 + j]? = some v := by
              have e4 := flat_take_len encI 1 encI_len (l := l) (i := i) (by omega)
              rw [e2, List.getElem?_append_right (by omega), e4, Nat.add_sub_cancel_left]; exact hj
            have := hR.flat encI_len (by omega) e3
            simpa using this)
          (fun j hj => by
            have := h.isSome' (o := i + 1) (m := l.length - i) (by omega) j (by rw [hdl] at hj; exact hj)
            simpa using this) (fun j => h.fz rfl j)
      try simp only [Nat.mul_one] at hO1
      generalize hW : w.drew.setCells g (i + 1) ((l.drop i).flatMap encI) = W at *
      have hv1 := hv.kp hk1 (fun j hj => by obtain ⟨ad, e9, rfl⟩ := hj; cases e9; exact hvg)
      have hcp2 : ∀ ty dc, (Builtin.copy_ #[37, 37] ty #[.slice (some ⟨g, i, none⟩) (l.length + 1 - i) dc, .slice (some ⟨vb, 0, none⟩) 1 1]).run Try.prog W = .ok (goInt 1) (W.setCells g (i) ([x].flatMap encI)) := fun ty dc =>
        run_copy_row encI_len encI_one W _ _ ty 3 Try.underlying37 hsz g (i) _ dc vb 0 _ 1 [x] (by show 1 = min _ _; omega)
          (fun j v hj => hv1.flat encI_len (by omega) hj)
          (fun j hj => by
            have := hO1.isSome' (o := i) (m := 1) (by omega) j (by simpa using hj)
            simpa using this) (fun j => hO1.fz rfl j)
      have hO2 := hO1.setElem encI_len (by omega) (i := i) (by simp; omega) x
      rw [ins_set hlt] at hO2
      have hk2 : Kp (One g) w (W.setCells g (i) ([x].flatMap encI)) := Kp.setCells (S := One g) (.inl rfl) _ _ hk1
      have e7 : W.setCells g (i) ([x].flatMap encI) = W.setCells g (i * 1) (encI x) := by simp
      rw [e7] at hk2
      have hk9 : Kp (Blk (some ⟨g, 0, none⟩)) w (W.setCells g (i * 1) (encI x)) := hk2.mono fun j _ q => ⟨_, rfl, (show j = g from q).symm⟩
      have HO2 := Lib.hid hO2
      have HCP := Lib.hid hcp2
      clear e7 hO1 hO2 hv1 hW
      go_wp2_with (simp only [hov])
      refine wp_region_chain [0,0,0,0,0,0,0,0,2] (by kernel_rfl) (by kernel_rfl) (fun _ => True) trivial ?_
      repeat (first | (with_reducible refine pure_skip ?_) | ((with_reducible refine pure_k rfl ?_); intro K hK; apply Exists.intro; refine ⟨fun w' hC => ?_, ?_⟩; (go_simp; rfl); go_simp; refine hK _ ?_; clear hK K))
      with_reducible refine pure_nil ?_
      repeat (with_reducible refine chain_skip0 ?_)
      with_reducible refine chain_step rfl fun K hK => ?_
      refine wp_copy_of _ _ 37 37 rfl _ _ rfl rfl (hcp1 _ _ _) ?_
      refine hK _ _ (fun h => by cases h) ?_
      clear hK K hcp1
      with_reducible refine chain_nil ?_
      go_wp2_with (at_builtin; refine wpList_copy_of rfl _ _ 37 37 rfl _ _ rfl rfl (HCP.out _ _) ?_)
      go_ret
      exact ⟨_, c, by rw [hlen']; rfl, by rw [hlen']; simpa using HO2.out, by simpa using hk9, .inl rfl⟩
    · obtain ⟨m, hm⟩ : ∃ m, l.length = i + m + 1 := ⟨l.length - i - 1, by omega⟩
      obtain ⟨G, w1, hr, hO1, hk1⟩ := OwnR.zeros (P := Try.prog) hR encI_len 37 3 37 i0 _ (0 : Int) rfl 8 Try.underlying37 Try.underlying3 hi0 hz0 hz1 hz2 (by omega) i (l.length + 1 - i) (by omega) (by omega) (by omega) (by omega) (by omega)
      have e0 : i + (l.length + 1 - i) = l.length + 1 := by omega
      have e00 : (l.length : Int) + 1 - (i : Int) = ((l.length + 1 - i : Nat) : Int) := by omega
      rw [e0] at hr hO1
      have hR1 := hO1.reads encI_len (by omega)
      have hG := hR1.cap
      have hGm := hR1.max
      have hgg := (hO1.blk w.heap.size ⟨_, rfl, rfl⟩).2
      have hv1 := hv.non hk1
      have hRg := hR.non hk1
      have e01 : l.length + 1 - i = m + 1 + 1 := by omega
      have hO1' := hO1
      rw [e01] at hO1'
      -- the copy of v
      have hcpA : ∀ ty dc, (Builtin.copy_ #[37, 37] ty #[.slice (some ⟨w.heap.size, i, none⟩) (l.length + 1 - i) dc, .slice (some ⟨vb, 0, none⟩) 1 1]).run Try.prog w1 = .ok (goInt 1) (w1.setCells w.heap.size (i) ([x].flatMap encI)) := fun ty dc =>
        run_copy_row encI_len encI_one w1 _ _ ty 3 Try.underlying37 hsz w.heap.size (i) _ dc vb 0 _ 1 [x] (by show 1 = min _ _; omega)
          (fun j v hj => hv1.flat encI_len (by omega) hj)
          (fun j hj => by
            have := hO1.isSome' (o := i) (m := 1) (by omega) j (by simpa using hj)
            simpa using this) (fun j => hO1.fz rfl j)
      have hO2 := hO1'.setElem encI_len (by omega) (i := i) (by simp; omega) x
      rw [rep_set (by omega)] at hO2
      have e7 : w1.setCells w.heap.size (i) ([x].flatMap encI) = w1.setCells w.heap.size (i * 1) (encI x) := by simp
      rw [← e7] at hO2
      have hk2 : Kp Non w (w1.setCells w.heap.size (i) ([x].flatMap encI)) := Kp.setCells (S := Non) (.inr (Nat.le_refl _)) _ _ hk1
      generalize hW2 : w1.setCells w.heap.size (i) ([x].flatMap encI) = W2 at *
      clear hW2 e7
      have hdl : (l.drop i).length = m + 1 := by rw [List.length_drop]; omega
      have hR2g := hR.non hk2
      have hcpB : ∀ ty dc sc, (Builtin.copy_ #[37, 37] ty #[.slice (some ⟨w.heap.size, i + 1, none⟩) (l.length - i) dc, .slice (some ⟨g, i, none⟩) (l.length - i) sc]).run Try.prog W2.drew = .ok (goInt (l.drop i).length) (W2.drew.setCells w.heap.size (i + 1) ((l.drop i).flatMap encI)) := fun ty dc sc =>
        run_copy_row encI_len encI_one W2.drew _ _ ty 3 Try.underlying37 hsz w.heap.size (i + 1) _ dc g (i) _ sc (l.drop i) (by rw [hdl]; show _ = min _ _; omega)
          (fun j v hj => by
            have e2 : l.flatMap encI = (l.take i).flatMap encI ++ (l.drop i).flatMap encI := by rw [← List.flatMap_append, List.take_append_drop]
            have e3 : (l.flatMap encI)[i * 1 + j]? = some v := by
              have e4 := flat_take_len encI 1 encI_len (l := l) (i := i) (by omega)
              rw [e2, List.getElem?_append_right (by omega), e4, Nat.add_sub_cancel_left]; exact hj
            have := hR2g.flat encI_len (by omega) e3
            simpa using this)
          (fun j hj => by
            have := hO2.isSome' (o := i + 1) (m := m + 1) (by omega) j (by rw [hdl] at hj; exact hj)
            simpa using this) (fun j => hO2.fz rfl j)
      have hO3 := hO2.drewR.over encI_len (by omega) (l.drop i) (by rw [hdl]; simp)
      have e8 : (l.take i ++ [x]).length = i + 1 := by simp; omega
      rw [e8] at hO3
      have hk3 : Kp Non w (W2.drew.setCells w.heap.size (i + 1) ((l.drop i).flatMap encI)) := Kp.setCells (S := Non) (.inr (Nat.le_refl _)) _ _ hk2.drew
      have e9 : W2.drew.setCells w.heap.size (i + 1) ((l.drop i).flatMap encI) = W2.drew.setCells w.heap.size ((i + 1) * 1) ((l.drop i).flatMap encI) := by simp
      rw [← e9] at hO3
      have HO3 := Lib.hid hO3
      generalize hW3 : W2.drew.setCells w.heap.size (i + 1) ((l.drop i).flatMap encI) = W3 at *
      clear hO3 hW3 hO2 hO1 hO1' hv1 hRg hR1 e9 hk1 hk2 hR2g
      have e1 : ((i : Int) + 1).toNat = i + 1 := by omega
      have hw1 : IntKind.i64.wrap ((i : Int) + 1) = (i : Int) + 1 := by rw [IntKind.wrap_i64]; omega
      have g3 : ¬ G = i + 1 := by omega
      have g4 : (i : Int) + 1 ≤ (l.length : Nat) + 1 := by omega
      have g5 : (i : Int) ≤ (l.length : Nat) + 1 := by omega
      have g6 : (c : Int) < (l.length : Nat) + 1 := by omega
      have g7 : (0 : Int) ≤ (i : Int) + 1 := by omega
      have g8 : ¬ G = i := by omega
      have HB := Lib.hid hcpB
      clear hcpB hm e01
      go_enter Try.func94, Try.ntmps94
      go_wp2_with (at_builtin; first | (refine Lib.wpList_append_run _ rfl _ _ 37 3 rfl _ _ rfl rfl _ _ hr ?_) | (refine wpList_copy_of rfl _ _ 37 37 rfl _ _ rfl rfl (hcpA _ _) ?_))
      refine wp_region_chain [0,0,0,0,0,0,0,0,2] (by kernel_rfl) (by kernel_rfl) (fun _ => True) trivial ?_
      repeat (first | (with_reducible refine pure_skip ?_) | ((with_reducible refine pure_k rfl ?_); intro K hK; apply Exists.intro; refine ⟨fun w' hC => ?_, ?_⟩; (go_simp; rfl); go_simp; refine hK _ ?_; clear hK K))
      with_reducible refine pure_nil ?_
      repeat (with_reducible refine chain_skip0 ?_)
      with_reducible refine chain_step rfl fun K hK => ?_
      refine wp_copy_of _ _ 37 37 rfl _ _ rfl rfl (HB.out _ _ _) ?_
      refine hK _ _ (fun h => by cases h) ?_
      clear hK K
      with_reducible refine chain_nil ?_
      go_wp2_with fail
      go_ret
      exact ⟨some ⟨w.heap.size, 0, none⟩, G, by rw [hlen']; rfl, by rw [hlen']; exact HO3.out.lower hbase, hk3.non, .inr ⟨_, rfl, Nat.le_refl _⟩⟩
end Go.Proofs.Ytdijaillcajpaaa
