/-
  (*Map).glue. (Printed by gen_map.py.)
-/
import Derived.Test.YtdijaillcajpaaaM0A
import Derived.Lib.SlicesS
namespace Go.Proofs.Ytdijaillcajpaaa
open Go.RowKit
variable {U : MapU}

theorem glueAt_yesA {M : List (Sp × Int)} {j : Nat} (h : j + 1 < M.length) (hq : M[j].1.2 = M[j + 1].1.1 ∧ M[j].2 = M[j + 1].2) : glueAt M (j + 1) = M.take j ++ ((M[j].1.1, M[j + 1].1.2), M[j].2) :: M.drop (j + 2) := by
  unfold glueAt
  rw [List.take_succ_eq_append_getElem (by omega), List.drop_eq_getElem_cons h]
  exact glu_yes _ _ _ _ hq
theorem glueAt_noA {M : List (Sp × Int)} {j : Nat} (h : j + 1 < M.length) (hq : ¬ (M[j].1.2 = M[j + 1].1.1 ∧ M[j].2 = M[j + 1].2)) : glueAt M (j + 1) = M := by
  unfold glueAt
  rw [List.take_succ_eq_append_getElem (by omega), List.drop_eq_getElem_cons h, glu_no _ _ _ _ hq]
  have e1 : M = M.take j ++ (M[j] :: M[j + 1] :: M.drop (j + 2)) := by
    rw [← List.drop_eq_getElem_cons h, ← List.drop_eq_getElem_cons (by omega : j < M.length), List.take_append_drop]
  conv => rhs; rw [e1]
theorem flat_at_toA (l : List Sp) (j : Nat) (hj : j < l.length) (x : Int) : (l.flatMap encS).set (j * 2 + 1) (.int .i64 x) = (l.set j (l[j].1, x)).flatMap encS := by
  have e2 : l = l.take j ++ [l[j]] ++ l.drop (j + 1) := by rw [← List.take_succ_eq_append_getElem hj, List.take_append_drop]
  have e1 : l.set j (l[j].1, x) = l.take j ++ [(l[j].1, x)] ++ l.drop (j + 1) := by
    rw [List.set_eq_take_append_cons_drop, if_pos hj]; simp
  have hl := flat_take_len encS 2 encS_len (l := l) (i := j) (by omega)
  rw [e1]
  conv => lhs; rw [e2]
  simp only [List.flatMap_append, List.flatMap_cons, List.flatMap_nil, List.append_nil]
  rw [List.append_assoc, List.set_append_right _ _ (by omega), hl, List.append_assoc]
  have : j * 2 + 1 - j * 2 = 1 := by omega
  rw [this]
  rfl
theorem glue_spansA (M : List (Sp × Int)) (j : Nat) (h : j + 1 < M.length) (x : Int) : ((M.map (·.1)).set j (M[j].1.1, x)).take (j + 1) ++ ((M.map (·.1)).set j (M[j].1.1, x)).drop (j + 1 + 1) = (M.take j ++ ((M[j].1.1, x), M[j].2) :: M.drop (j + 2)).map (·.1) := by
  rw [List.set_eq_take_append_cons_drop, if_pos (by simp; omega)]
  have e4 : (M.map (·.1)).take j ++ (M[j].1.1, x) :: (M.map (·.1)).drop (j + 1) = ((M.map (·.1)).take j ++ [(M[j].1.1, x)]) ++ (M.map (·.1)).drop (j + 1) := by simp
  have e1 : ((M.map (·.1)).take j ++ [(M[j].1.1, x)]).length = j + 1 := by
    rw [List.length_append, List.length_take, List.length_map, Nat.min_eq_left (by omega)]; rfl
  rw [e4, List.take_left' e1, List.drop_append, e1, List.drop_of_length_le (by omega), List.drop_drop, List.nil_append]
  simp
theorem glue_valsA (M : List (Sp × Int)) (j : Nat) (h : j + 1 < M.length) (x : Sp) : (M.map (·.2)).take (j + 1) ++ (M.map (·.2)).drop (j + 1 + 1) = (M.take j ++ (x, M[j].2) :: M.drop (j + 2)).map (·.2) := by
  rw [List.take_succ_eq_append_getElem (by simp; omega)]
  simp

set_option maxRecDepth 100000 in
set_option maxHeartbeats 2000000 in
theorem glueA_calls (m : Nat) (M : List (Sp × Int)) (al : Option Addr) (cl : Nat) (av : Option Addr) (cv : Nat) (z : Int) (i : Nat) (hz : z = (i : Nat)) (w : World) (hM : MapA U w m M al cl av cv) (hl : M.length ≤ 100000000) (hi : i ≤ 100000000) :
    Calls Try.prog 95 #[.pointer (some ⟨m, 4, none⟩), .int .i64 z] w (MapOutA U m (glueAt M i) al av w) := by
  subst hz
  have m0 := hM.c0
  have m1 := hM.c1
  cases i with
  | zero =>
    have e0 : glueAt M 0 = M := by simp [glueAt, glu_nil_left]
    rw [e0]
    go_enter Try.func95, Try.ntmps95
    go_wp2_with fail
    go_quiet (fail)
    go_wp2_with fail
    go_end0
    exact ⟨rfl, al, cl, av, cv, hM.non ((Kp.refl _ _).drewN _), Kp.drewN (Kp.refl _ _) _, fun _ q => .inl q⟩
  | succ j =>
    by_cases hlen : M.length ≤ j + 1
    · have e0 : glueAt M (j + 1) = M := by unfold glueAt; rw [List.take_of_length_le hlen, List.drop_of_length_le hlen, glu_nil_right]
      rw [e0]
      have g1 : (M.length : Int) ≤ (j : Int) + 1 := by omega
      have g2 : ¬ (j : Int) + 1 < 1 := by omega
      have g3 : ((j + 1 : Nat) : Int) = (j : Int) + 1 := by omega
      have d2 : decide ((j : Int) + 1 < 1) = false := by simp; omega
      rw [g3]
      clear g3
      go_enter Try.func95, Try.ntmps95
      go_wp2_with fail
      go_quiet (fail)
      go_wp2_with fail
      go_end0
      exact ⟨rfl, al, cl, av, cv, hM.non ((Kp.refl _ _).drewN _), Kp.drewN (Kp.refl _ _) _, fun _ q => .inl q⟩
    · have hlt : j + 1 < M.length := by omega
      have hRS := hM.spans.reads encS_len (by omega)
      have hRV := hM.vals.reads encI_len (by omega)
      obtain ⟨gl, ol, rfl⟩ := hRS.there (by omega)
      obtain ⟨gv, ov, rfl⟩ := hRV.there (by omega)
      have ho1 : ol = 0 := by
        rcases hM.spans.lie with ⟨h1, _⟩ | ⟨g', cur, h1, _⟩
        · cases h1
        · cases h1; rfl
      have ho2 : ov = 0 := by
        rcases hM.vals.lie with ⟨h1, _⟩ | ⟨g', cur, h1, _⟩
        · cases h1
        · cases h1; rfl
      subst ho1 ho2
      have c0 := Spans.c1 hRS (j := j) (by simp; omega)
      have c1 := Spans.c0 hRS (j := j + 1) (by simp; omega)
      have c2 := Spans.c1 hRS (j := j + 1) (by simp; omega)
      have d0 := Ints.c hRV (j := j) (by simp; omega)
      have d1 := Ints.c hRV (j := j + 1) (by simp; omega)
      simp only [List.getElem_map, Nat.zero_add] at c0 c1 c2 d0 d1
      have HY := Lib.hid (fun hq => glueAt_yesA hlt hq)
      have HN := Lib.hid (fun hq => glueAt_noA hlt hq)
      have hcS := hRS.cap
      have hmS := hRS.max
      have hcV := hRV.cap
      have hmV := hRV.max
      have g1 : ¬ (M.length : Int) ≤ (j : Int) + 1 := by omega
      have g2 : ¬ (j : Int) + 1 < 1 := by omega
      have g3 : ((j + 1 : Nat) : Int) = (j : Int) + 1 := by omega
      have d2 : decide ((j : Int) + 1 < 1) = false := by simp; omega
      have d3 : decide ((M.length : Int) ≤ (j : Int) + 1) = false := by simp; omega
      have g4 : (j : Int) < (M.length : Nat) := by omega
      have g5 : (j : Int) + 1 < (M.length : Nat) := by omega
      have g6 : IntKind.i64.wrap ((j : Int) + 1 - 1) = j := by rw [IntKind.wrap_i64]; omega
      have g6' : IntKind.i64.wrap (j : Int) = j := by rw [IntKind.wrap_i64]; omega
      have g7 : ((j : Int) + 1).toNat = j + 1 := by omega
      have g8 : (0 : Int) ≤ (j : Int) + 1 := by omega
      rw [g3]
      clear g3
      by_cases hq1 : M[j].1.2 = M[j + 1].1.1
      · by_cases hq2 : M[j].2 = M[j + 1].2
        · have e0 := HY.out ⟨hq1, hq2⟩
          rw [e0]
          have b1 : (M[j].1.2 != M[j + 1].1.1) = false := by simp; exact hq1
          have b2 : (M[j].2 != M[j + 1].2) = false := by simp; exact hq2
          have GS := Lib.hid (glue_spansA M j hlt M[j + 1].1.2)
          have GV := Lib.hid (glue_valsA M j hlt (M[j].1.1, M[j + 1].1.2))
          have hf0 := hM.spans.fz rfl (j * 2 + 1)
          have hO1 := hM.spans.set (j * 2 + 1) (.int .i64 M[j + 1].1.2) (flat_at_toA (M.map (·.1)) j (by simp; omega) M[j + 1].1.2)
          simp only [List.getElem_map] at hO1
          have hMl : (M.take j ++ ((M[j].1.1, M[j + 1].1.2), M[j].2) :: M.drop (j + 2)).length = M.length - 1 := by
            rw [List.length_append, List.length_take, List.length_cons, List.length_drop]; omega
          clear HN HY e0 hq1 hq2
          have hjl : j < M.length := by omega
          generalize hN : M.take j ++ ((M[j].1.1, M[j + 1].1.2), M[j].2) :: M.drop (j + 2) = N at *
          clear hN
          generalize M[j] = p at *
          generalize M[j + 1] = q at *
          go_enter Try.func95, Try.ntmps95
          go_wp2_with fail
          go_quiet (fail)
          go_wp2_with fail
          obtain ⟨W, hW⟩ : ∃ W, w.drewN nq = W := ⟨_, rfl⟩
          have hkW : Kp Non w W := by rw [← hW]; exact Kp.drewN (Kp.refl _ _) _
          have hMW := hM.non hkW
          have hO1W : OwnS (W.setCell ⟨gl, j * 2 + 1, none⟩ (.int .i64 q.1.2)) 0 (some ⟨gl, 0, none⟩) M.length cl ((M.map (·.1)).set j (p.1.1, q.1.2)) := by rw [← hW]; exact hO1
          have z1 := hkW.cell c0 (fun f => f)
          have z2 := hkW.cell c2 (fun f => f)
          have z3 := hMW.c0
          have f1 := hkW.fr (hM.spans.blk gl ⟨_, rfl, rfl⟩).2 hf0 (fun f => f)
          rw [hW]
          have hneq : ¬ (j + 1) * 2 + 1 = j * 2 + 1 := by omega
          have hOd := Lib.hid hO1W.drewR
          have hkS : Kp (One gl) W (W.setCell ⟨gl, j * 2 + 1, none⟩ (.int .i64 q.1.2)).drew := Kp.drew (Kp.setCell (S := One gl) (Kp.refl _ _) (p := ⟨gl, j * 2 + 1, none⟩) (.inl rfl) _)
          have hgm : ¬ One gl m := fun e => hM.ml gl ⟨_, rfl, rfl⟩ (show m = gl from e).symm
          have hgv : ∀ i, Blk (some (⟨gv, 0, none⟩ : Addr)) i → ¬ One gl i := fun i q e => hM.lv gl ⟨_, rfl, rfl⟩ ((show i = gl from e) ▸ q)
          have hbox1 := Lib.hid (hkS.heap hMW.box hgm)
          have hV1 := Lib.hid (hMW.vals.kp hkS hgv)
          have hml := hMW.ml
          have hlv := hMW.lv
          have hmv := hMW.mv
          clear hW hO1W hO1 c0 c1 c2 d0 d1 b1 b2 hf0 m0 m1 hRS hRV
          refine wp_region_chain [0,0,0,0,0,0,0,0,0,0,0,0,0,0,0,0,2] (by kernel_rfl) (by kernel_rfl) (fun w' => w'.cell? ⟨m, 4, none⟩ = some (.slice (some ⟨gl, 0, none⟩) M.length cl) ∧ w'.cell? ⟨gl, (j + 1) * 2 + 1, none⟩ = some (.int .i64 q.1.2) ∧ w'.cell? ⟨gl, j * 2 + 1, none⟩ = some (.int .i64 p.1.2)) ⟨z3, z2, z1⟩ ?_
          repeat (first | (with_reducible refine pure_skip ?_) | ((with_reducible refine pure_k rfl ?_); intro K hK; apply Exists.intro; refine ⟨fun w' hC => ?_, ?_⟩; (obtain ⟨y1, y2, y3⟩ := hC; go_simp; rfl); go_simp; refine hK _ ?_; clear hK K))
          with_reducible refine pure_nil ?_
          repeat (with_reducible refine chain_skip0 ?_)
          with_reducible refine chain_step rfl fun K hK => ?_
          go_simp
          refine hK _ _ (fun h => by cases h) ?_
          clear hK K
          with_reducible refine chain_nil ?_
          generalize (W.setCell ⟨gl, j * 2 + 1, none⟩ (.int .i64 q.1.2)).drew = W1 at *
          have x0 : W1.cell? ⟨m, 4, none⟩ = some (.slice (some ⟨gl, 0, none⟩) M.length cl) := (cell_of_row W1 m 4 _ _ _ hbox1.out).trans rfl
          have hkW1 := hkW.comp hkS (U := One gl) (fun _ _ f => f.elim) (fun _ _ q => q)
          clear hkW hkS z1 z2 z3 f1 hMW
          go_wp2_with fail
          refine (deleteS_at gl M.length cl _ 0 (j + 1) W1 hOd.out hlt _ _ (by omega) (by omega)).mono ?_
          rw [GS.out]
          rintro e W2 ⟨rfl, hO2, hk2⟩
          have hNl : (N.map (·.1)).length = M.length - 1 := by rw [List.length_map]; exact hMl
          have hNl2 : (N.map (·.2)).length = M.length - 1 := by rw [List.length_map]; exact hMl
          rw [hNl] at hO2 ⊢
          have hbox2 := hk2.heap hbox1.out hgm
          have hV2 := Lib.hid (hV1.out.kp hk2 hgv)
          have hkW2 := hkW1.trans hk2
          have x0 : W2.cell? ⟨m, 4, none⟩ = some (.slice (some ⟨gl, 0, none⟩) M.length cl) := (cell_of_row W2 m 4 _ _ _ hbox2).trans rfl
          have xf : W2.frozen? ⟨m, 4, none⟩ = false := by simp [World.frozen?, hbox2]
          have xf1 : W2.frozen? ⟨m, 5, none⟩ = false := by simp [World.frozen?, hbox2]
          have hbox3 := heap_setCell_same W2 m 4 _ _ (.slice (some ⟨gl, 0, none⟩) (M.length - 1) cl) hbox2
          have hk3 : Kp (One m) W2 (W2.setCell ⟨m, 4, none⟩ (.slice (some ⟨gl, 0, none⟩) (M.length - 1) cl)) := Kp.setCell (S := One m) (Kp.refl _ _) (p := ⟨m, 4, none⟩) (.inl rfl) _
          have hO3 := Lib.hid (hO2.kp hk3 (fun i q e => hml i q e))
          have hV3 := Lib.hid (hV2.out.kp hk3 (fun i q e => hmv i q e))
          have x1 : (W2.setCell ⟨m, 4, none⟩ (.slice (some ⟨gl, 0, none⟩) (M.length - 1) cl)).cell? ⟨m, 5, none⟩ = some (.slice (some ⟨gv, 0, none⟩) M.length cv) := (cell_of_row _ m 5 _ _ _ hbox3).trans rfl
          have hb3 := Lib.hid hbox3
          have hkW3 := hkW2.comp hk3 (U := fun i => i = m ∨ i = gl) (fun _ _ q => .inr q) (fun _ _ q => .inl q)
          clear hbox3 hbox2 hbox1 hOd hO2 hV1 hV2 hk2 hk3 hkW1 hkW2
          go_wp2_with fail
          refine (deleteI_at gv M.length cv _ 0 (j + 1) _ hV3.out hlt _ _ (by omega) (by omega)).mono ?_
          rw [GV.out]
          rintro e W4 ⟨rfl, hO4, hk4⟩
          rw [hNl2] at hO4 ⊢
          have hgm4 : ¬ One gv m := fun e => hmv gv ⟨_, rfl, rfl⟩ (show m = gv from e).symm
          have hgl4 : ∀ i, Blk (some (⟨gl, 0, none⟩ : Addr)) i → ¬ One gv i := fun i q e => hlv i q ((show i = gv from e) ▸ ⟨_, rfl, rfl⟩)
          have hbox4 := hk4.heap hb3.out hgm4
          have hO5 := hO3.out.kp hk4 hgl4
          have y1 : W4.cell? ⟨m, 5, none⟩ = some (.slice (some ⟨gv, 0, none⟩) M.length cv) := (cell_of_row W4 m 5 _ _ _ hbox4).trans rfl
          have yf : W4.frozen? ⟨m, 5, none⟩ = false := by simp [World.frozen?, hbox4]
          have hbox5 := heap_setCell_same W4 m 5 _ _ (.slice (some ⟨gv, 0, none⟩) (M.length - 1) cv) hbox4
          have hk5 : Kp (One m) W4 (W4.setCell ⟨m, 5, none⟩ (.slice (some ⟨gv, 0, none⟩) (M.length - 1) cv)) := Kp.setCell (S := One m) (Kp.refl _ _) (p := ⟨m, 5, none⟩) (.inl rfl) _
          have hout : MapA U (W4.setCell ⟨m, 5, none⟩ (.slice (some ⟨gv, 0, none⟩) (M.length - 1) cv)) m N (some ⟨gl, 0, none⟩) cl (some ⟨gv, 0, none⟩) cv :=
            ⟨by rw [hMl]; exact hbox5, by rw [hMl]; exact hO5.kp hk5 (fun i q e => hml i q e), by rw [hMl]; exact hO4.kp hk5 (fun i q e => hmv i q e)⟩
          have hkall := (hkW3.comp hk4 (U := MSA m (some ⟨gl, 0, none⟩) (some ⟨gv, 0, none⟩)) (fun i _ q => by
            rcases q with q | q
            · exact .inl q
            · exact .inr (.inl ⟨_, rfl, q.symm⟩)) (fun i _ q => .inr (.inr ⟨_, rfl, (show i = gv from q).symm⟩))).comp hk5 (U := MSA m (some ⟨gl, 0, none⟩) (some ⟨gv, 0, none⟩)) (fun _ _ q => q) (fun _ _ q => .inl q)
          have HOut := Lib.hid hout
          clear hbox4 hbox5 hO5 hO4 hk4 hk5 hkW3 hb3 hO3 hV3 x1 hout
          go_wp2_with fail
          go_end0
          exact ⟨rfl, _, cl, _, cv, HOut.out, hkall, fun _ q => .inl q⟩
        · have e0 := HN.out (fun q => hq2 q.2)
          rw [e0]
          have b1 : (M[j].1.2 != M[j + 1].1.1) = false := by simp; exact hq1
          have b2 : (M[j].2 != M[j + 1].2) = true := by simp; exact hq2
          clear HN HY e0 hq1 hq2
          generalize M[j] = p at *
          generalize M[j + 1] = q at *
          go_enter Try.func95, Try.ntmps95
          go_wp2_with fail
          go_quiet (fail)
          go_wp2_with fail
          go_end0
          exact ⟨rfl, _, cl, _, cv, hM.non ((Kp.refl _ _).drewN _), Kp.drewN (Kp.refl _ _) _, fun _ q => .inl q⟩
      · have e0 := HN.out (fun q => hq1 q.1)
        rw [e0]
        have b1 : (M[j].1.2 != M[j + 1].1.1) = true := by simp; exact hq1
        clear HN HY e0 hq1
        generalize M[j] = p at *
        generalize M[j + 1] = q at *
        go_enter Try.func95, Try.ntmps95
        go_wp2_with fail
        go_quiet (fail)
        go_wp2_with fail
        go_end0
        exact ⟨rfl, _, cl, _, cv, hM.non ((Kp.refl _ _).drewN _), Kp.drewN (Kp.refl _ _) _, fun _ q => .inl q⟩
end Go.Proofs.Ytdijaillcajpaaa
