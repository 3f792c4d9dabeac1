/-
  span.Norm.
-/
import Derived.Test.YtdijaillcajpaaaB4
import Derived.Test.YtdijaillcajpaaaR0
namespace Go.Proofs.Ytdijaillcajpaaa
open Go.RowKit

/-- What a call that makes a row leaves. -/
def SpansOut (l : List Sp) (w : World) (e : Ending) (w' : World) : Prop := RowOf encS 2 36 l w e w'

theorem nstep_len (out : List Sp) (s : Sp) : (nstep out s).length ≤ out.length + 1 := by
  rcases List.eq_nil_or_concat out with rfl | ⟨o, t, rfl⟩
  · simp [nstep]
  · rw [List.concat_eq_append]
    by_cases hc : s.1 ≤ t.2
    · rw [nstep_join hc]; simp
    · rw [nstep_more (by omega)]; simp
theorem nfold_len (l : List Sp) (out : List Sp) : (l.foldl nstep out).length ≤ out.length + l.length := by
  induction l generalizing out with
  | nil => simp
  | cons s l ih => have := ih (nstep out s); have := nstep_len out s; simp only [List.foldl_cons, List.length_cons]; omega
theorem fold_snoc {d : List Sp} {k : Nat} (h : k < d.length) : (d.take (k + 1)).foldl nstep [] = nstep ((d.take k).foldl nstep []) d[k] := by
  rw [List.take_succ_eq_append_getElem h, List.foldl_append]; rfl

theorem flat_to (o : List Sp) (t : Sp) (x : Int) : ((o ++ [t]).flatMap encS).set (o.length * 2 + 1) (.int .i64 x) = (o ++ [(t.1, x)]).flatMap encS := by
  have hl := flat_len encS 2 encS_len o
  simp only [List.flatMap_append, List.flatMap_cons, List.flatMap_nil, List.append_nil]
  rw [List.set_append_right _ _ (by omega), hl]
  have : o.length * 2 + 1 - o.length * 2 = 1 := by omega
  rw [this]
  rfl

set_option maxRecDepth 100000 in
set_option maxHeartbeats 1000000 in
theorem norm_calls (a : Option Addr) (n c : Nat) (l : List Sp) (w : World) (h : Spans w a n c l) (hn : n ≤ 1000000000000) : Calls Try.prog 92 #[.slice a n c] w (SpansOut (norm l) w) := by
  obtain rfl := h.len
  obtain ⟨i0, hi0, hz0, hz1, hz2⟩ := info_parts infoS
  go_enter Try.func92, Try.ntmps92
  go_wp2_with fail
  refine (cloneS_calls a l.length c l w h hn).mono ?_
  rintro e w1 ⟨a1, c1, rfl, hO1, hk1⟩
  go_wp2_with fail
  refine (deleteEmpty_calls a1 l.length c1 l w.heap.size w1 hO1).mono ?_
  rintro e w2 ⟨c2, rfl, hO2, hk2⟩
  have hkp2 : Kp Non w w2 := hk1.comp hk2 (fun _ _ f => f) (fun i hi q => by have := (hO1.blk i q).1; omega)
  clear hk1 hk2
  have hfl : (l.filter full).length ≤ l.length := List.length_filter_le _ _
  go_wp2_with fail
  refine (sort_calls a1 (l.filter full).length c2 (l.filter full) w.heap.size w2 hO2 (by omega)).mono ?_
  rintro e w3 ⟨rfl, d, hO3, hp, hu, hk3⟩
  have hkp3 : Kp Non w w3 := hkp2.comp hk3 (fun _ _ f => f) (fun i hi q => by have := (hO2.blk i q).1; omega)
  have hN : Hid (d.foldl nstep [] = norm l) := Lib.hid (norm_of (fun s => hp.mem_iff) hu)
  have hdl := hp.length_eq
  rw [← hdl] at hO3 hfl
  have hR3 := hO3.reads encS_len (by omega)
  have hcap := hR3.cap
  have hmax := hR3.max
  have hblk3 := fun i q => (hO3.blk i q).2
  rw [← hdl]
  clear hO1 hO2 hk3 hkp2 hp hu hdl hO3 h
  go_wp2_with fail
  go_loopw [4, 15] (fun v4 v15 wr => ∃ (k : Nat) (a4 : Option Addr) (c4 : Nat), k ≤ d.length ∧ v4 = .slice a4 ((d.take k).foldl nstep []).length c4 ∧ v15 = .int .i64 k ∧ OwnS wr w3.heap.size a4 ((d.take k).foldl nstep []).length c4 ((d.take k).foldl nstep []) ∧ Kp Non w3 wr) (fun _ v15 _ => d.length - (intOf v15).toNat)
  case atStart => exact ⟨0, none, 0, by omega, by simp, rfl, OwnR.nil _ _ _, Kp.refl _ _⟩
  case round =>
    obtain ⟨k, a4, c4, hk, rfl, rfl, hO, hkr⟩ := hrel
    have hlo : ((d.take k).foldl nstep []).length ≤ d.length := by have := nfold_len (d.take k) []; simp at this; omega
    by_cases hlt : k < d.length
    · have g : (k : Int) < (d.length : Nat) := by omega
      obtain ⟨b, o, rfl⟩ := hR3.there (by omega)
      have hRr := hR3.non hkr
      have c0 := Spans.c0 hRr hlt
      have c1 := Spans.c1 hRr hlt
      have HF := Lib.hid (fold_snoc hlt)
      have HR := Lib.hid hRr
      clear hRr
      generalize d[k] = s at *
      generalize hout : (d.take k).foldl nstep [] = out at *
      clear hout
      rcases List.eq_nil_or_concat out with rfl | ⟨ot, t, rfl⟩
      · rw [show ([] : List Sp).length = 0 from rfl] at *
        go_wp2_with fail
        go_quiet (fail)
        go_wp2_with (at_builtin; refine wpList_append_row rfl _ _ 54 rfl w3.heap.size 36 i0 _ 16 Try.underlying54 hi0 hz0 hz1 hz2 rfl (by decide) encS_len encS_one a4 0 c4 [] rfl (hO.non ?_) _ 1 1 [s] rfl (Reads.new (by simp) rfl) (by omega) (by omega) ?_ ?_; exact Kp.alloc (Kp.drewN (Kp.alloc (Kp.refl _ _) _) _) _; simp; exact Nat.le_trans hkr.size (by omega); intro a5 c5 w5 hO5 hk5 hb5)
        go_roundw
        case rel =>
          have e5 := HF.out
          rw [nstep_nil] at e5
          refine ⟨k + 1, a5, c5, by omega, by rw [e5]; rfl, by go_num, by rw [e5]; simpa using hO5, (hkr.trans (Kp.alloc (Kp.drewN (Kp.alloc (Kp.refl _ _) _) _) _)).comp hk5 (fun _ _ f => f) (fun i hi q => ?_)⟩
          have := (hO.blk i q).1; omega
        case measure => simp [intOf]; omega
      · rw [List.concat_eq_append] at *
        have ho : (ot ++ [t]).length = ot.length + 1 := by simp
        rw [ho] at hO hlo ⊢
        have hRo := hO.reads encS_len (by omega)
        rcases hO.lie with ⟨h1, h2, _⟩ | ⟨gg, cur, rfl, hgg, _⟩
        · omega
        have y1 := Spans.c1 hRo (j := ot.length) (by omega)
        simp only [List.getElem_append_right (Nat.le_refl _), Nat.sub_self, List.getElem_cons_zero, Nat.zero_add] at y1
        have f1 := hO.fz rfl (ot.length * 2 + 1)
        have HO := Lib.hid hO
        have hgl := (hO.blk gg ⟨_, rfl, rfl⟩).2
        have hoc := hRo.cap
        clear hO hRo
        by_cases hle : s.1 ≤ t.2
        · go_wp2_with fail
          go_quiet (fail)
          go_wp2_with fail
          obtain ⟨W, hW⟩ : ∃ W, (wr.alloc (.cells #[.int .i64 s.1, .int .i64 s.2] 36)).drewN nq = W := ⟨_, rfl⟩
          have hkW : Kp Non wr W := by rw [← hW]; exact Kp.drewN (Kp.alloc (Kp.refl _ _) _) _
          have z1 : W.cell? ⟨wr.heap.size, 1, none⟩ = some (.int .i64 s.2) := by rw [← hW]; exact World.cell?_alloc_new wr _ _ 1
          have z2 : W.cell? ⟨gg, ot.length * 2 + 1, none⟩ = some (.int .i64 t.2) := hkW.cell y1 (fun f => f)
          have f2 : W.frozen? ⟨gg, ot.length * 2 + 1, none⟩ = false := hkW.fr hgl f1 (fun f => f)
          rw [hW]
          have hMX : Hid (nstep (ot ++ [t]) s = ot ++ [(t.1, if t.2 < s.2 then s.2 else t.2)]) := Lib.hid (nstep_join hle)
          clear hW f1 y1 c0 c1
          have gI : (ot.length : Int) < (ot.length : Int) + 1 := by omega
          have hmx : (t.2 < s.2 ∧ (if t.2 < s.2 then s.2 else t.2) = s.2 ∧ max t.2 s.2 = s.2) ∨ (s.2 ≤ t.2 ∧ (if t.2 < s.2 then s.2 else t.2) = t.2 ∧ max t.2 s.2 = t.2) := by
            by_cases q : t.2 < s.2
            · exact .inl ⟨q, if_pos q, by omega⟩
            · exact .inr ⟨by omega, if_neg q, by omega⟩
          have hst := fun v => ((HO.out.non hkW).set (ot.length * 2 + 1) (.int .i64 v) (flat_to ot t v)).drewR
          generalize (if t.2 < s.2 then s.2 else t.2) = mx at *
          have HS := Lib.hid hst
          clear hst
          rcases hmx with ⟨hmx, rfl, hm2⟩ | ⟨hmx, rfl, hm2⟩
          all_goals
            refine wp_region_chain [0,0,0,0,0,0,0,0,0,0,0,0,2] (by kernel_rfl) (by kernel_rfl) (fun w' => w'.cell? ⟨wr.heap.size, 1, none⟩ = some (.int .i64 s.2) ∧ w'.cell? ⟨gg, ot.length * 2 + 1, none⟩ = some (.int .i64 t.2)) ⟨z1, z2⟩ ?_
            repeat (first | (with_reducible refine pure_skip ?_) | ((with_reducible refine pure_k rfl ?_); intro K hK; apply Exists.intro; refine ⟨fun w' hC => ?_, ?_⟩; (obtain ⟨g1, g2⟩ := hC; go_simp; rfl); go_simp; refine hK _ ?_; clear hK K))
            with_reducible refine pure_nil ?_
            repeat (with_reducible refine chain_skip0 ?_)
            with_reducible refine chain_step rfl fun K hK => ?_
            go_simp
            refine hK _ _ (fun h => by cases h) ?_
            clear hK K
            with_reducible refine chain_nil ?_
            go_wp2_with fail
            go_roundw
            case rel =>
              have e5 := HF.out
              rw [hMX.out] at e5
              refine ⟨k + 1, some ⟨gg, 0, none⟩, c4, by omega, by rw [e5]; simp, by go_num, by rw [e5]; simpa using HS.out _, (hkr.trans hkW).comp (Kp.drew (Kp.setCell (S := One gg) (Kp.refl _ _) (p := ⟨gg, ot.length * 2 + 1, none⟩) (.inl rfl) _)) (fun _ _ f => f) (fun i hi q => ?_)⟩
              have h7 := (HO.out.blk gg ⟨_, rfl, rfl⟩).1
              have q : i = gg := q
              omega
            case measure => simp [intOf]; omega
        · go_wp2_with fail
          go_quiet (fail)
          go_wp2_with (at_builtin; refine wpList_append_row rfl _ _ 54 rfl w3.heap.size 36 i0 _ 16 Try.underlying54 hi0 hz0 hz1 hz2 rfl (by decide) encS_len encS_one (some ⟨gg, 0, none⟩) (ot.length + 1) c4 (ot ++ [t]) rfl (HO.out.non ?_) _ 1 1 [s] rfl (Reads.new (by simp) rfl) (by omega) (by omega) ?_ ?_; exact Kp.alloc (Kp.drewN (Kp.alloc (Kp.refl _ _) _) _) _; simp; exact Nat.le_trans hkr.size (by omega); intro a5 c5 w5 hO5 hk5 hb5)
          go_roundw
          case rel =>
            have e5 := HF.out
            rw [nstep_more (by omega)] at e5
            refine ⟨k + 1, a5, c5, by omega, by rw [e5]; simp, by go_num, by rw [e5]; simpa using hO5, (hkr.trans (Kp.alloc (Kp.drewN (Kp.alloc (Kp.refl _ _) _) _) _)).comp hk5 (fun _ _ f => f) (fun i hi q => ?_)⟩
            have := (HO.out.blk i q).1; omega
          case measure => simp [intOf]; omega
    · obtain rfl : k = d.length := by omega
      rw [List.take_of_length_le (Nat.le_refl _)] at hO ⊢
      have HN2 := Lib.hid hO
      clear hO hlo
      generalize hD : d.foldl nstep [] = D at *
      clear hD
      go_wp2_with fail
      go_ret
      rw [← hN.out]
      exact ⟨a4, c4, rfl, HN2.out.lower hkp3.size, hkp3.trans hkr⟩
end Go.Proofs.Ytdijaillcajpaaa
