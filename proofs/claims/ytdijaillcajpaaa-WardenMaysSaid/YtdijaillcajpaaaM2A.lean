/-
  (*Map).Put. (Printed by gen_map.py.)
-/
import Derived.Test.YtdijaillcajpaaaM1A
namespace Go.Proofs.Ytdijaillcajpaaa
open Go.RowKit
variable {U : MapU}

theorem before_takeA {s : Sp} {D : List (Sp × Int)} {k : Nat} (hk : k ≤ D.length) (h1 : ∀ p ∈ D.take k, p.1.1 < s.1) (h2 : k = D.length ∨ ∃ h : k < D.length, s.1 ≤ D[k].1.1) : before s D = D.take k ∧ behind s D = D.drop k := by
  induction D generalizing k with
  | nil => simp [before, behind]
  | cons p D ih =>
    cases k with
    | zero =>
      have hp : ¬ p.1.1 < s.1 := by
        rcases h2 with h2 | ⟨_, h2⟩
        · simp at h2
        · simp at h2; omega
      simp [before, behind, hp]
    | succ k =>
      have hp : p.1.1 < s.1 := h1 p (by simp)
      have := ih (k := k) (by simpa using hk) (fun q hq => h1 q (by simp [hq])) (by
        rcases h2 with h2 | ⟨h, h2⟩
        · left; simpa using h2
        · right; exact ⟨by simpa using h, by simpa using h2⟩)
      simp [before, behind, hp, this.1, this.2]

/-- A world goes on: only blocks in S and new ones differ; what may be changed next lies there or is new. -/
structure GrowA (w : World) (S : Nat → Prop) (w' : World) (S' : Nat → Prop) : Prop where
  kp : Kp S w w'
  fp : ∀ i, S' i → S i ∨ w.heap.size ≤ i
theorem GrowA.trans {w w' w'' : World} {S S' S'' : Nat → Prop} (h : GrowA w S w' S') (k : GrowA w' S' w'' S'') : GrowA w S w'' S'' :=
  ⟨h.kp.comp k.kp (fun _ _ q => q) (fun i hi q => by
    rcases h.fp i q with q | q
    · exact q
    · omega), fun i q => by
    rcases k.fp i q with q | q
    · exact h.fp i q
    · have := h.kp.size; exact .inr (by omega)⟩
theorem GrowA.non {w w' : World} {S : Nat → Prop} (h : Kp Non w w') : GrowA w S w' S := ⟨h.non, fun _ q => .inl q⟩
theorem ins_mapA (D : List (Sp × Int)) (k : Nat) (s : Sp) (v : Int) : (D.map (·.1)).take k ++ [s] ++ (D.map (·.1)).drop k = (D.take k ++ (s, v) :: D.drop k).map (·.1) ∧ (D.map (·.2)).take k ++ [v] ++ (D.map (·.2)).drop k = (D.take k ++ (s, v) :: D.drop k).map (·.2) := by
  constructor <;> simp

theorem glueAt_lenA (M : List (Sp × Int)) (i : Nat) : (glueAt M i).length ≤ M.length := by
  unfold glueAt
  have h0 : (M.take i).length + (M.drop i).length = M.length := by rw [← List.length_append, List.take_append_drop]
  generalize M.take i = A at *
  generalize M.drop i = B at *
  rcases List.eq_nil_or_concat A with rfl | ⟨A', p, rfl⟩
  · rw [glu_nil_left]; simp at h0; omega
  · rw [List.concat_eq_append] at *
    cases B with
    | nil => rw [glu_nil_right]; simp at h0 ⊢; omega
    | cons q B =>
      by_cases hc : p.1.2 = q.1.1 ∧ p.2 = q.2
      · rw [glu_yes A' B p q hc]; simp at h0 ⊢; omega
      · rw [glu_no A' B p q hc]; simp at h0 ⊢; omega

set_option maxRecDepth 100000 in
theorem putA_nil (s : Sp) (v : Int) (w : World) : Calls Try.prog 72 #[.pointer none, valS s, .int .i64 v] w (NilA w) := by
  go_enter Try.func72, Try.ntmps72
  go_wp2_with fail
  go_end0
  exact ⟨rfl, (Kp.refl _ _).alloc _⟩

set_option maxRecDepth 100000 in
theorem putA_none (m : Nat) (s : Sp) (v : Int) (hs : s.2 ≤ s.1) (w : World) : Calls Try.prog 72 #[.pointer (some ⟨m, 4, none⟩), valS s, .int .i64 v] w (NilA w) := by
  have HE := Lib.hid (fun W => empty_calls s W)
  rw [full_no hs] at HE
  go_enter Try.func72, Try.ntmps72
  go_wp2_with fail
  refine (HE.out _).mono ?_
  rintro e w1 ⟨rfl, hk1⟩
  go_wp2_with fail
  go_end0
  exact ⟨rfl, ((Kp.refl _ _).alloc _).trans hk1⟩

set_option maxRecDepth 100000 in
set_option maxHeartbeats 1000000 in
theorem putA_calls (m : Nat) (M : List (Sp × Int)) (al : Option Addr) (cl : Nat) (av : Option Addr) (cv : Nat) (s : Sp) (v : Int) (w : World) (hM : MapA U w m M al cl av cv) (hs : s.1 < s.2) (hl : M.length ≤ 1000000) :
    Calls Try.prog 72 #[.pointer (some ⟨m, 4, none⟩), valS s, .int .i64 v] w (MapOutA U m (putC M s v) al av w) := by
  have HE := Lib.hid (fun W => empty_calls s W)
  rw [full_yes hs] at HE
  go_enter Try.func72, Try.ntmps72
  go_wp2_with fail
  refine (HE.out _).mono ?_
  rintro e w1 ⟨rfl, hk1⟩
  have hkb : Kp Non w w1 := ((Kp.refl _ _).alloc _).trans hk1
  have hM1 := hM.non hkb
  have hbs := (BoxS.new w s).non hk1
  have b0 := hbs.c0
  have b1 := hbs.c1
  have hold1 := hM.old
  clear hk1 HE
  generalize hbz : w.heap.size = bs at *
  have hbsM : ¬ MSA m al av bs := fun q => by have := hold1 bs q; omega
  have HBZ := Lib.hid hbz
  clear hbz
  go_wp2_with fail
  refine (dropA_calls m M al cl av cv s w1 hM1 hs hl).mono ?_
  rintro e w2 ⟨rfl, al2, cl2, av2, cv2, hM2, hk2, hnew2⟩
  have hbs2 := hbs.kp hk2 hbsM
  have hDl := drp_lenA M s
  have hk02 := hkb.comp hk2 (U := MSA m al av) (fun _ _ f => f.elim) (fun _ _ q => q)
  have hnb2 : ¬ MSA m al2 av2 bs := fun q => by
    rcases hnew2 bs q with q | q
    · exact hbsM q
    · have := hbs.lt; omega
  have hfr2 : ∀ i, i < w.heap.size → MSA m al2 av2 i → MSA m al av i := fun i hi q => by
    rcases hnew2 i q with q | q
    · exact q
    · have := hkb.size; omega
  have hG02 : GrowA w (MSA m al av) w2 (MSA m al2 av2) := ⟨hk02, fun i q => (hnew2 i q).imp id fun q => Nat.le_trans hkb.size q⟩
  have HPC : Hid (putC M s v = glueAt (glueAt (before s (drp M s) ++ (s, v) :: behind s (drp M s)) ((before s (drp M s)).length + 1)) (before s (drp M s)).length) := Lib.hid rfl
  clear hM1 hk2 hnew2 hbs b0 b1
  generalize drp M s = D at *
  have hRS := hM2.spans.reads encS_len (by omega)
  have hcS := hRS.cap
  have hmS := hRS.max
  have hDm : (D.map (·.1)).length = D.length := by simp
  go_wp2_with fail
  go_loopw [6] (fun v6 wr => ∃ k : Nat, k ≤ D.length ∧ v6 = .int .i64 k ∧ (∀ p ∈ D.take k, p.1.1 < s.1) ∧ Kp Non w2 wr) (fun v6 _ => D.length - (intOf v6).toNat)
  case atStart => exact ⟨0, by omega, rfl, (by simp), Kp.refl _ _⟩
  case round =>
    obtain ⟨k, hk, rfl, hall, hkr⟩ := hrel
    have HA := Lib.hid hall
    clear hall
    have hMr := hM2.non hkr
    have m0 := hMr.c0
    have hbr := hbs2.non hkr
    have b0 := hbr.c0
    have b1 := hbr.c1
    have HMr := Lib.hid hMr
    have HBr := Lib.hid hbr
    have HRr := Lib.hid (hRS.non hkr)
    clear hMr hbr
    by_cases hstop : k = D.length ∨ ∃ h : k < D.length, s.1 ≤ D[k].1.1
    · obtain ⟨hbt1, hbt2⟩ := before_takeA hk HA.out hstop
      have hPC := HPC.out
      rw [hbt1, hbt2, List.length_take, Nat.min_eq_left hk] at hPC
      have HPD := Lib.hid hPC
      clear hPC hbt1 hbt2 HPC
      rcases hstop with rfl | ⟨hlt, hge⟩
      · go_wp2_with fail
        go_quiet (fail)
        go_wp2_with fail
        have hkW : Kp Non wr (wr.drewN nq) := Kp.drewN (Kp.refl _ _) _
        have hMW := HMr.out.non hkW
        have hbW := HBr.out.non hkW
        have hGW := (hG02.trans (GrowA.non (hkr.trans hkW)))
        clear m0 b0 b1 HMr HBr HRr hkr hkW
        generalize wr.drewN nq = W at *
        have m0 := hMW.c0
        have b0 := hbW.c0
        have b1 := hbW.c1
        have hWl := hMW.old
        have hkY : Kp Non W (W.alloc (Obj.cells #[.int .i64 s.1, .int .i64 s.2] 36 (0, 0))).drew := Kp.drew (Kp.alloc (Kp.refl Non W) _)
        have hMY := hMW.non hkY
        have hbxY : (W.alloc (Obj.cells #[.int .i64 s.1, .int .i64 s.2] 36 (0, 0))).drew.heap[W.heap.size]? = some (.cells #[.int .i64 s.1, .int .i64 s.2] 36 (0, 0)) := heap_alloc_new W _
        have hIns := insertS_calls al2 D.length cl2 (D.map (·.1)) 0 D.length W.heap.size s (W.alloc (Obj.cells #[.int .i64 s.1, .int .i64 s.2] 36 (0, 0))).drew hMY.spans hk (by omega) (Reads.non (Reads.new rfl rfl) (Kp.drew (Kp.refl _ _)))
          (fun j q => by have := hWl j (.inr (.inl q)); omega) _ _ hbxY (Nat.zero_le _)
        rw [(ins_mapA D D.length s v).1] at hIns
        have HIns := Lib.hid hIns
        have hIl : (D.take D.length ++ (s, v) :: D.drop D.length).length = D.length + 1 := by rw [List.length_append, List.length_take, List.length_cons, List.length_drop]; omega
        have HMV := Lib.hid hMW
        have hmW := hMW.ml
        clear hIns hMW
        refine wp_region_chain [0,0,0,0,0,0,0,1,1,0,0,2] (by kernel_rfl) (by kernel_rfl) (fun w' => w'.cell? ⟨m, 4, none⟩ = some (.slice al2 D.length cl2) ∧ w'.cell? ⟨bs, 0, none⟩ = some (.int .i64 s.1) ∧ w'.cell? ⟨bs, 1, none⟩ = some (.int .i64 s.2)) ⟨m0, b0, b1⟩ ?_
        repeat (first | (with_reducible refine pure_skip ?_) | ((with_reducible refine pure_k rfl ?_); intro K hK; apply Exists.intro; refine ⟨fun w' hC => ?_, ?_⟩; (obtain ⟨g1, g2, g3⟩ := hC; go_simp; rfl); go_simp; refine hK _ ?_; clear hK K))
        with_reducible refine pure_nil ?_
        repeat (with_reducible refine chain_skip0 ?_)
        with_reducible refine chain_step rfl fun K hK => ?_
        go_simp
        refine hK _ _ (fun _ => ⟨hkY.cell m0 (fun f => f), hkY.cell b0 (fun f => f), hkY.cell b1 (fun f => f)⟩) ?_
        clear hK K
        repeat (with_reducible refine chain_skip0 ?_)
        with_reducible refine chain_step rfl fun K hK => ?_
        go_simp
        refine HIns.out.mono ?_
        rintro e W2 ⟨a3, c3, rfl, hO3, hk3, hb3⟩
        have hI := ins_mapA D D.length s v
        have hI1 : ((D.take D.length ++ (s, v) :: D.drop D.length).map (·.1)).length = D.length + 1 := (List.length_map ..).trans hIl
        have hI2 : ((D.take D.length ++ (s, v) :: D.drop D.length).map (·.2)).length = D.length + 1 := (List.length_map ..).trans hIl
        rw [hI1] at hO3 ⊢
        have hmn : ¬ Blk al2 m := fun q => hmW m q rfl
        have hbn : ¬ Blk al2 bs := fun q => hnb2 (.inr (.inl q))
        have box2 := hk3.heap (hkY.heap HMV.out.box (fun f => f)) hmn
        have y0 := hk3.cell (hkY.cell m0 (fun f => f)) hmn
        have y1 := hk3.cell (hkY.cell b0 (fun f => f)) hbn
        have y2 := hk3.cell (hkY.cell b1 (fun f => f)) hbn
        have xf : W2.frozen? ⟨m, 4, none⟩ = false := by simp [World.frozen?, box2]
        refine hK _ _ (fun _ => ⟨y0, y1, y2⟩) ?_
        clear hK K
        repeat (with_reducible refine chain_skip0 ?_)
        with_reducible refine chain_step rfl fun K hK => ?_
        go_simp
        refine hK _ _ (fun h => by cases h) ?_
        clear hK K
        with_reducible refine chain_nil ?_
        have hG2 : GrowA w (MSA m al av) W2 (MSA m a3 av2) := hGW.trans ⟨hkY.comp hk3 (fun _ _ f => f.elim) (fun _ _ q => .inr (.inl q)), fun i q => by
          rcases q with q | q | q
          · exact .inl (.inl q)
          · rcases hb3 with rfl | ⟨n3, rfl, hn3⟩
            · exact .inl (.inr (.inl q))
            · obtain ⟨ad, z1, rfl⟩ := q
              cases z1
              have := hkY.size
              exact .inr (Nat.le_trans this hn3)
          · exact .inl (.inr (.inr q))⟩
        have hm3 : ∀ i, Blk a3 i → ¬ One m i := fun i q q' => by
          obtain ⟨cs, e1⟩ := hO3.tag i q
          rw [show i = m from q', box2] at e1
          simp at e1
        have hV2 := (HMV.out.vals.non hkY).kp hk3 (fun i q q' => HMV.out.lv i q' q)
        have box3 := heap_setCell_same W2 m 4 _ _ (.slice a3 (D.length + 1) c3) box2
        have hks : Kp (One m) W2 (W2.setCell ⟨m, 4, none⟩ (.slice a3 (D.length + 1) c3)) := Kp.setCell (S := One m) (Kp.refl _ _) (p := ⟨m, 4, none⟩) (.inl rfl) _
        have hV3 := hV2.kp hks (fun i q q' => HMV.out.mv i q q')
        have hO3' := hO3.kp hks hm3
        have hG3 : GrowA w (MSA m al av) (W2.setCell ⟨m, 4, none⟩ (.slice a3 (D.length + 1) c3)) (MSA m a3 av2) := hG2.trans ⟨hks.mono (fun i _ q => .inl q), fun _ q => .inl q⟩
        have hvm := HMV.out.mv
        clear y0 y1 y2 xf box2 hks hV2 hO3 hG2 hk3 hb3 hGW hkY hMY hbxY HMV HIns m0 b0 b1 hWl hm3
        generalize W2.setCell ⟨m, 4, none⟩ (.slice a3 (D.length + 1) c3) = W3 at *
        have x1 : W3.cell? ⟨m, 5, none⟩ = some (.slice av2 D.length cv2) := (cell_of_row W3 m 5 _ _ _ box3).trans rfl
        have hkV : Kp Non W3 (W3.alloc (Obj.cells #[.int .i64 v] 3 (0, 0))) := Kp.alloc (Kp.refl Non W3) _
        have hIns2 := insertI_calls av2 D.length cv2 (D.map (·.2)) 0 D.length W3.heap.size v (W3.alloc (Obj.cells #[.int .i64 v] 3 (0, 0))) (hV3.non hkV) hk (by omega) (Reads.new rfl rfl)
          (fun j q => by have := (hV3.blk j q).2; omega) _ _ (heap_alloc_new W3 _) (Nat.zero_le _)
        rw [hI.2] at hIns2
        have HIns2 := Lib.hid hIns2
        have HO3 := Lib.hid hO3'
        have HV3 := Lib.hid hV3
        clear hIns2 hO3' hV3
        go_wp2_with fail
        refine HIns2.out.mono ?_
        rintro e W4 ⟨a4, c4, rfl, hO4, hk4, hb4⟩
        rw [hI2] at hO4 ⊢
        have hmn4 : ¬ Blk av2 m := fun q => hvm m q rfl
        have box4 := hk4.heap (hkV.heap box3 (fun f => f)) hmn4
        have hS4 := (HO3.out.non hkV).kp hk4 (fun i q q' => by
          obtain ⟨cs, e1⟩ := HO3.out.tag i q
          obtain ⟨cs', e2⟩ := HV3.out.tag i q'
          rw [e2] at e1
          simp at e1)
        have xf4 : W4.frozen? ⟨m, 5, none⟩ = false := by simp [World.frozen?, box4]
        have x4 : W4.cell? ⟨m, 5, none⟩ = some (.slice av2 D.length cv2) := (cell_of_row W4 m 5 _ _ _ box4).trans rfl
        have box5 := heap_setCell_same W4 m 5 _ _ (.slice a4 (D.length + 1) c4) box4
        have hks : Kp (One m) W4 (W4.setCell ⟨m, 5, none⟩ (.slice a4 (D.length + 1) c4)) := Kp.setCell (S := One m) (Kp.refl _ _) (p := ⟨m, 5, none⟩) (.inl rfl) _
        have hM5 : MapA U (W4.setCell ⟨m, 5, none⟩ (.slice a4 (D.length + 1) c4)) m (D.take D.length ++ (s, v) :: D.drop D.length) a3 c3 a4 c4 := by
          have t1 : ∀ i, Blk a3 i → ¬ One m i := fun i q q' => by
            obtain ⟨cs, e1⟩ := hS4.tag i q
            rw [show i = m from q', box4] at e1
            simp at e1
          have t2 : ∀ i, Blk a4 i → ¬ One m i := fun i q q' => by
            obtain ⟨cs, e1⟩ := hO4.tag i q
            rw [show i = m from q', box4] at e1
            simp at e1
          exact ⟨by rw [hIl]; exact box5, by rw [hIl]; exact hS4.kp hks t1, by rw [hIl]; exact hO4.kp hks t2⟩
        have hG4 : GrowA w (MSA m al av) W4 (MSA m a3 a4) := hG3.trans ⟨hkV.comp hk4 (fun _ _ f => f.elim) (fun _ _ q => .inr (.inr q)), fun i q => by
          rcases q with q | q | q
          · exact .inl (.inl q)
          · exact .inl (.inr (.inl q))
          · rcases hb4 with rfl | ⟨n4, rfl, hn4⟩
            · exact .inl (.inr (.inr q))
            · obtain ⟨ad, z1, rfl⟩ := q
              cases z1
              have := hkV.size
              exact .inr (Nat.le_trans this hn4)⟩
        have hG5 : GrowA w (MSA m al av) (W4.setCell ⟨m, 5, none⟩ (.slice a4 (D.length + 1) c4)) (MSA m a3 a4) := hG4.trans ⟨hks.mono (fun i _ q => .inl q), fun _ q => .inl q⟩
        have HM5 := Lib.hid hM5
        clear box3 box4 box5 hS4 hO4 hks hG4 hG3 hk4 hb4 hkV HIns2 HO3 HV3 x1 hM5
        go_wp2_with fail
        refine (glueA_calls m _ a3 c3 a4 c4 _ (D.length + 1) (by omega) _ HM5.out (by rw [hIl]; omega) (by omega)).mono ?_
        rintro e W6 ⟨rfl, a5, c5, a6, c6, hM6, hk6, hn6⟩
        have hG6 := hG5.trans ⟨hk6, hn6⟩
        have hl6 := glueAt_lenA (D.take D.length ++ (s, v) :: D.drop D.length) (D.length + 1)
        rw [hIl] at hl6
        have HM6 := Lib.hid hM6
        clear HM5 hG5 hk6 hn6 hM6
        go_wp2_with fail
        refine (glueA_calls m _ a5 c5 a6 c6 _ D.length rfl W6 HM6.out (by omega) (by omega)).mono ?_
        rintro e W7 ⟨rfl, a7, c7, a8, c8, hM7, hk7, hn7⟩
        have hG7 := hG6.trans ⟨hk7, hn7⟩
        go_wp2_with fail
        go_end0
        rw [HPD.out]
        exact ⟨rfl, a7, c7, a8, c8, hM7, hG7.kp, hG7.fp⟩
      · have gk : (k : Int) < (D.length : Nat) := by omega
        obtain ⟨gl, ol, hgl⟩ := hRS.there (by omega)
        have hr := HRr.out
        rw [hgl] at hr
        have c0 := Spans.c0 hr (j := k) (by rw [hDm]; exact hlt)
        simp only [List.getElem_map] at c0
        clear hr
        subst hgl
        generalize D[k] = p at *
        go_wp2_with fail
        go_quiet (fail)
        go_wp2_with fail
        clear c0 hge gk
        have hkW : Kp Non wr (wr.drewN nq) := Kp.drewN (Kp.refl _ _) _
        have hMW := HMr.out.non hkW
        have hbW := HBr.out.non hkW
        have hGW := (hG02.trans (GrowA.non (hkr.trans hkW)))
        clear m0 b0 b1 HMr HBr HRr hkr hkW
        generalize wr.drewN nq = W at *
        have m0 := hMW.c0
        have b0 := hbW.c0
        have b1 := hbW.c1
        have hWl := hMW.old
        have hkY : Kp Non W (W.alloc (Obj.cells #[.int .i64 s.1, .int .i64 s.2] 36 (0, 0))).drew := Kp.drew (Kp.alloc (Kp.refl Non W) _)
        have hMY := hMW.non hkY
        have hbxY : (W.alloc (Obj.cells #[.int .i64 s.1, .int .i64 s.2] 36 (0, 0))).drew.heap[W.heap.size]? = some (.cells #[.int .i64 s.1, .int .i64 s.2] 36 (0, 0)) := heap_alloc_new W _
        have hIns := insertS_calls (some ⟨gl, ol, none⟩) D.length cl2 (D.map (·.1)) 0 k W.heap.size s (W.alloc (Obj.cells #[.int .i64 s.1, .int .i64 s.2] 36 (0, 0))).drew hMY.spans hk (by omega) (Reads.non (Reads.new rfl rfl) (Kp.drew (Kp.refl _ _)))
          (fun j q => by have := hWl j (.inr (.inl q)); omega) _ _ hbxY (Nat.zero_le _)
        rw [(ins_mapA D k s v).1] at hIns
        have HIns := Lib.hid hIns
        have hIl : (D.take k ++ (s, v) :: D.drop k).length = D.length + 1 := by rw [List.length_append, List.length_take, List.length_cons, List.length_drop]; omega
        have HMV := Lib.hid hMW
        have hmW := hMW.ml
        clear hIns hMW
        refine wp_region_chain [0,0,0,0,0,0,0,1,1,0,0,2] (by kernel_rfl) (by kernel_rfl) (fun w' => w'.cell? ⟨m, 4, none⟩ = some (.slice (some ⟨gl, ol, none⟩) D.length cl2) ∧ w'.cell? ⟨bs, 0, none⟩ = some (.int .i64 s.1) ∧ w'.cell? ⟨bs, 1, none⟩ = some (.int .i64 s.2)) ⟨m0, b0, b1⟩ ?_
        repeat (first | (with_reducible refine pure_skip ?_) | ((with_reducible refine pure_k rfl ?_); intro K hK; apply Exists.intro; refine ⟨fun w' hC => ?_, ?_⟩; (obtain ⟨g1, g2, g3⟩ := hC; go_simp; rfl); go_simp; refine hK _ ?_; clear hK K))
        with_reducible refine pure_nil ?_
        repeat (with_reducible refine chain_skip0 ?_)
        with_reducible refine chain_step rfl fun K hK => ?_
        go_simp
        refine hK _ _ (fun _ => ⟨hkY.cell m0 (fun f => f), hkY.cell b0 (fun f => f), hkY.cell b1 (fun f => f)⟩) ?_
        clear hK K
        repeat (with_reducible refine chain_skip0 ?_)
        with_reducible refine chain_step rfl fun K hK => ?_
        go_simp
        refine HIns.out.mono ?_
        rintro e W2 ⟨a3, c3, rfl, hO3, hk3, hb3⟩
        have hI := ins_mapA D k s v
        have hI1 : ((D.take k ++ (s, v) :: D.drop k).map (·.1)).length = D.length + 1 := (List.length_map ..).trans hIl
        have hI2 : ((D.take k ++ (s, v) :: D.drop k).map (·.2)).length = D.length + 1 := (List.length_map ..).trans hIl
        rw [hI1] at hO3 ⊢
        have hmn : ¬ Blk (some ⟨gl, ol, none⟩) m := fun q => hmW m q rfl
        have hbn : ¬ Blk (some ⟨gl, ol, none⟩) bs := fun q => hnb2 (.inr (.inl q))
        have box2 := hk3.heap (hkY.heap HMV.out.box (fun f => f)) hmn
        have y0 := hk3.cell (hkY.cell m0 (fun f => f)) hmn
        have y1 := hk3.cell (hkY.cell b0 (fun f => f)) hbn
        have y2 := hk3.cell (hkY.cell b1 (fun f => f)) hbn
        have xf : W2.frozen? ⟨m, 4, none⟩ = false := by simp [World.frozen?, box2]
        refine hK _ _ (fun _ => ⟨y0, y1, y2⟩) ?_
        clear hK K
        repeat (with_reducible refine chain_skip0 ?_)
        with_reducible refine chain_step rfl fun K hK => ?_
        go_simp
        refine hK _ _ (fun h => by cases h) ?_
        clear hK K
        with_reducible refine chain_nil ?_
        have hG2 : GrowA w (MSA m al av) W2 (MSA m a3 av2) := hGW.trans ⟨hkY.comp hk3 (fun _ _ f => f.elim) (fun _ _ q => .inr (.inl q)), fun i q => by
          rcases q with q | q | q
          · exact .inl (.inl q)
          · rcases hb3 with rfl | ⟨n3, rfl, hn3⟩
            · exact .inl (.inr (.inl q))
            · obtain ⟨ad, z1, rfl⟩ := q
              cases z1
              have := hkY.size
              exact .inr (Nat.le_trans this hn3)
          · exact .inl (.inr (.inr q))⟩
        have hm3 : ∀ i, Blk a3 i → ¬ One m i := fun i q q' => by
          obtain ⟨cs, e1⟩ := hO3.tag i q
          rw [show i = m from q', box2] at e1
          simp at e1
        have hV2 := (HMV.out.vals.non hkY).kp hk3 (fun i q q' => HMV.out.lv i q' q)
        have box3 := heap_setCell_same W2 m 4 _ _ (.slice a3 (D.length + 1) c3) box2
        have hks : Kp (One m) W2 (W2.setCell ⟨m, 4, none⟩ (.slice a3 (D.length + 1) c3)) := Kp.setCell (S := One m) (Kp.refl _ _) (p := ⟨m, 4, none⟩) (.inl rfl) _
        have hV3 := hV2.kp hks (fun i q q' => HMV.out.mv i q q')
        have hO3' := hO3.kp hks hm3
        have hG3 : GrowA w (MSA m al av) (W2.setCell ⟨m, 4, none⟩ (.slice a3 (D.length + 1) c3)) (MSA m a3 av2) := hG2.trans ⟨hks.mono (fun i _ q => .inl q), fun _ q => .inl q⟩
        have hvm := HMV.out.mv
        clear y0 y1 y2 xf box2 hks hV2 hO3 hG2 hk3 hb3 hGW hkY hMY hbxY HMV HIns m0 b0 b1 hWl hm3
        generalize W2.setCell ⟨m, 4, none⟩ (.slice a3 (D.length + 1) c3) = W3 at *
        have x1 : W3.cell? ⟨m, 5, none⟩ = some (.slice av2 D.length cv2) := (cell_of_row W3 m 5 _ _ _ box3).trans rfl
        have hkV : Kp Non W3 (W3.alloc (Obj.cells #[.int .i64 v] 3 (0, 0))) := Kp.alloc (Kp.refl Non W3) _
        have hIns2 := insertI_calls av2 D.length cv2 (D.map (·.2)) 0 k W3.heap.size v (W3.alloc (Obj.cells #[.int .i64 v] 3 (0, 0))) (hV3.non hkV) hk (by omega) (Reads.new rfl rfl)
          (fun j q => by have := (hV3.blk j q).2; omega) _ _ (heap_alloc_new W3 _) (Nat.zero_le _)
        rw [hI.2] at hIns2
        have HIns2 := Lib.hid hIns2
        have HO3 := Lib.hid hO3'
        have HV3 := Lib.hid hV3
        clear hIns2 hO3' hV3
        go_wp2_with fail
        refine HIns2.out.mono ?_
        rintro e W4 ⟨a4, c4, rfl, hO4, hk4, hb4⟩
        rw [hI2] at hO4 ⊢
        have hmn4 : ¬ Blk av2 m := fun q => hvm m q rfl
        have box4 := hk4.heap (hkV.heap box3 (fun f => f)) hmn4
        have hS4 := (HO3.out.non hkV).kp hk4 (fun i q q' => by
          obtain ⟨cs, e1⟩ := HO3.out.tag i q
          obtain ⟨cs', e2⟩ := HV3.out.tag i q'
          rw [e2] at e1
          simp at e1)
        have xf4 : W4.frozen? ⟨m, 5, none⟩ = false := by simp [World.frozen?, box4]
        have x4 : W4.cell? ⟨m, 5, none⟩ = some (.slice av2 D.length cv2) := (cell_of_row W4 m 5 _ _ _ box4).trans rfl
        have box5 := heap_setCell_same W4 m 5 _ _ (.slice a4 (D.length + 1) c4) box4
        have hks : Kp (One m) W4 (W4.setCell ⟨m, 5, none⟩ (.slice a4 (D.length + 1) c4)) := Kp.setCell (S := One m) (Kp.refl _ _) (p := ⟨m, 5, none⟩) (.inl rfl) _
        have hM5 : MapA U (W4.setCell ⟨m, 5, none⟩ (.slice a4 (D.length + 1) c4)) m (D.take k ++ (s, v) :: D.drop k) a3 c3 a4 c4 := by
          have t1 : ∀ i, Blk a3 i → ¬ One m i := fun i q q' => by
            obtain ⟨cs, e1⟩ := hS4.tag i q
            rw [show i = m from q', box4] at e1
            simp at e1
          have t2 : ∀ i, Blk a4 i → ¬ One m i := fun i q q' => by
            obtain ⟨cs, e1⟩ := hO4.tag i q
            rw [show i = m from q', box4] at e1
            simp at e1
          exact ⟨by rw [hIl]; exact box5, by rw [hIl]; exact hS4.kp hks t1, by rw [hIl]; exact hO4.kp hks t2⟩
        have hG4 : GrowA w (MSA m al av) W4 (MSA m a3 a4) := hG3.trans ⟨hkV.comp hk4 (fun _ _ f => f.elim) (fun _ _ q => .inr (.inr q)), fun i q => by
          rcases q with q | q | q
          · exact .inl (.inl q)
          · exact .inl (.inr (.inl q))
          · rcases hb4 with rfl | ⟨n4, rfl, hn4⟩
            · exact .inl (.inr (.inr q))
            · obtain ⟨ad, z1, rfl⟩ := q
              cases z1
              have := hkV.size
              exact .inr (Nat.le_trans this hn4)⟩
        have hG5 : GrowA w (MSA m al av) (W4.setCell ⟨m, 5, none⟩ (.slice a4 (D.length + 1) c4)) (MSA m a3 a4) := hG4.trans ⟨hks.mono (fun i _ q => .inl q), fun _ q => .inl q⟩
        have HM5 := Lib.hid hM5
        clear box3 box4 box5 hS4 hO4 hks hG4 hG3 hk4 hb4 hkV HIns2 HO3 HV3 x1 hM5
        go_wp2_with fail
        refine (glueA_calls m _ a3 c3 a4 c4 _ (k + 1) (by omega) _ HM5.out (by rw [hIl]; omega) (by omega)).mono ?_
        rintro e W6 ⟨rfl, a5, c5, a6, c6, hM6, hk6, hn6⟩
        have hG6 := hG5.trans ⟨hk6, hn6⟩
        have hl6 := glueAt_lenA (D.take k ++ (s, v) :: D.drop k) (k + 1)
        rw [hIl] at hl6
        have HM6 := Lib.hid hM6
        clear HM5 hG5 hk6 hn6 hM6
        go_wp2_with fail
        refine (glueA_calls m _ a5 c5 a6 c6 _ k rfl W6 HM6.out (by omega) (by omega)).mono ?_
        rintro e W7 ⟨rfl, a7, c7, a8, c8, hM7, hk7, hn7⟩
        have hG7 := hG6.trans ⟨hk7, hn7⟩
        go_wp2_with fail
        go_end0
        rw [HPD.out]
        exact ⟨rfl, a7, c7, a8, c8, hM7, hG7.kp, hG7.fp⟩
    · have hlt : k < D.length := by
        rcases Nat.lt_or_ge k D.length with h1 | h1
        · exact h1
        · exact absurd (.inl (by omega)) hstop
      have hle : D[k].1.1 < s.1 := by
        rcases Int.lt_or_le D[k].1.1 s.1 with h1 | h1
        · exact h1
        · exact absurd (.inr ⟨hlt, h1⟩) hstop
      clear hstop
      have gk : (k : Int) < (D.length : Nat) := by omega
      obtain ⟨gl, ol, rfl⟩ := hRS.there (by omega)
      have c0 := Spans.c0 HRr.out (j := k) (by rw [hDm]; exact hlt)
      simp only [List.getElem_map] at c0
      have HT := Lib.hid (List.take_succ_eq_append_getElem hlt)
      generalize D[k] = p at *
      go_wp2_with fail
      go_quiet (fail)
      go_wp2_with fail
      go_roundw
      case rel =>
        refine ⟨k + 1, by omega, by go_num, ?_, hkr.drewN _⟩
        rw [HT.out]
        intro q hq
        rcases List.mem_append.1 hq with hq | hq
        · exact HA.out q hq
        · simp at hq; subst hq; exact hle
      case measure => simp [intOf]; omega
end Go.Proofs.Ytdijaillcajpaaa
