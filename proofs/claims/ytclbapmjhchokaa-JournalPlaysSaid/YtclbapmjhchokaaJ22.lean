/-
  The document's journal: Add, Save.
-/
import Derived.Test.YtclbapmjhchokaaJ21
namespace Go.Proofs.Ytclbapmjhchokaa
open Go.RowKit
section
variable {b0 : Nat} {w w' : World} {x d : Nat} {s s' : St} {J : JSt} {ra : Option Addr}

set_option maxRecDepth 100000 in
set_option maxHeartbeats 2000000 in
theorem radd_calls (h : RJou b0 w x d s J ra) (hok : s.ok) (a : Option Addr) (n c : Nat) (r : List UInt8) (hb : Bytes w a n c r) (hn : n ≤ 1048576) (hcnt : J.recs.length ≤ 1000000000) (hbw : b0 ≤ w.heap.size) :
    Calls Try.prog 56 #[.pointer (some ⟨x, 0, none⟩), .slice a n c] w (RJPost b0 x d ra (jadd s J r) w) := by
  have H := h
  have hold := H.old
  obtain ⟨rc, ia, ic, vs, h⟩ := h
  have c0 := h.c0
  have c3 := h.c3
  have HO := Lib.hid hok
  have HN := Lib.hid hb.len
  obtain ⟨i1, hi1, hy0, hy1, hy2⟩ := info_parts' info22
  have hzc : (Value.slice none 0 0).cells = #[Value.slice none 0 0] := rfl
  clear hok
  by_cases hJ : J.down = true
  · have HQ := Lib.hid (show jadd s J r = (7, s, J) by unfold jadd; rw [if_pos hJ])
    rw [hJ] at c3
    generalize jadd s J r = Q at *
    clear hJ
    go_enter Try.func56, Try.ntmps56
    go_wp2_with fail
    go_ret
    rw [HQ.out]
    exact ⟨rfl, ra, fun _ h => .inl h, H, Kp.refl _ _⟩
  · have hJ' : J.down = false := by simpa using hJ
    have HQ := Lib.hid (show jadd s J r = ((s.append (frame r)).1, (s.append (frame r)).2, if (s.append (frame r)).1 = 0 then { J with recs := J.recs ++ [r] } else tell J (s.append (frame r)).1) by
      unfold jadd japp
      have := HN.out
      rw [if_neg hJ, if_neg (by omega)])
    rw [hJ'] at c3
    generalize jadd s J r = Q at *
    clear hJ hJ'
    go_enter Try.func56, Try.ntmps56
    go_wp2_with fail
    have hkD : Kp Non w w.drew := (Kp.refl _ _).drew
    refine wp_region_chain [0,0,0,0,0,1,1,2] (by kernel_rfl) (by kernel_rfl) (fun w' => w'.cell? ⟨x, 0, none⟩ = some (.pointer (some ⟨d, 0, none⟩))) c0 ?_
    refine PB.out ?_
    repeat (first | (with_reducible refine pb_skip ?_) | ((with_reducible refine pb_k rfl ?_); intro K hK; apply Exists.intro; refine ⟨fun w' hC => ?_, ?_⟩; (go_simp; rfl); go_simp; refine hK _ ?_; clear hK K))
    with_reducible refine pb_nil ?_
    refine CB.out ?_
    repeat (with_reducible refine cb_skip ?_)
    with_reducible refine cb_step rfl fun K hK => ?_
    go_simp
    refine (refframe_calls a n c r w.drew (hb.non hkD) hn).mono ?_
    rintro e w1 ⟨fa, fc, rfl, hOf, hk1⟩
    have hk01 := hkD.trans hk1
    have z0 := hk01.cell c0 (fun f => f)
    go_simp
    refine hK _ _ (fun _ => z0) ?_
    clear hK K
    repeat (with_reducible refine cb_skip ?_)
    with_reducible refine cb_step rfl fun K hK => ?_
    go_simp
    have h1 := h.non hk01
    have hfl := frame_len r
    have hBf : Bytes w1 fa (r.length + 8) fc (frame r) := hOf.bytes
    refine (refappend_calls d s fa (r.length + 8) fc (frame r) w1 h1.dev HO.out hBf (by have := HN.out; omega)).mono ?_
    rintro e w2 ⟨rfl, hd2, hk2⟩
    have h2 := h1.step hk2 hd2
    have hb2 := (hb.non hk01).nob hk2 h1.dev.noB
    have hk02 : Kp (JS d x ra) w w2 := hk01.comp hk2 (fun _ _ f => f.elim) (fun _ _ h => .inl h)
    generalize hq : s.append (frame r) = q at *
    obtain ⟨qe, qs⟩ := q
    go_simp
    refine hK _ _ (fun _ => h2.c0) ?_
    clear hK K
    repeat (with_reducible refine cb_skip ?_)
    with_reducible refine cb_step rfl fun K hK => ?_
    go_simp
    refine hK _ _ (fun h => by cases h) ?_
    clear hK K
    with_reducible refine cb_nil ?_
    have H2 : RJou b0 w2 x d qs J ra := ⟨_, _, _, _, h2⟩
    have c32 := h2.c3
    have f32 := h2.f 3
    have c22 := h2.c2
    have f22 := h2.f 2
    have hjd : J.down = false := by
      have q1 := hk02
      have q2 := h2.c3
      have q3 := (hk01.comp hk2 (fun _ _ f => f.elim) (fun _ _ h => h) : Kp (One d) w w2).cell c3 h.jd
      rw [q2] at q3
      simpa using q3
    rw [hjd] at c32
    by_cases h6 : qe = 6
    · subst h6
      go_wp2_with fail
      go_ret
      rw [HQ.out]
      exact RJPost.of6 rfl H2 hk02
    · have e6 : (qe == 6) = false := by simp [h6]
      by_cases h0 : qe = 0
      · subst h0
        have hkA : Kp Non w2 (w2.alloc (.cells #[.slice a n c] 22)) := (Kp.refl _ _).alloc _
        have hcA := cell_of_row _ _ 0 _ _ _ (heap_alloc_new w2 (Obj.cells #[.slice a n c] 22))
        have h3 := h2.non hkA
        have hS3 := h3.rows
        have hrj := h3.rj
        have hrow3 := h3.row
        have hs2 : w.heap.size ≤ w2.heap.size := hk02.size
        go_wp2_with ((at_builtin; refine wpList_append_srow rfl _ _ 59 rfl 22 i1 (.slice none 0 0) 24 Try.underlying59 hi1 hy0 hy1 hy2 hzc (NB.slice _ _ _) ra J.recs.length rc vs rfl hS3 ⟨w2.heap.size, 0, none⟩ 1 (.slice a n c) rfl hcA rfl (NB.slice _ _ _) (by omega) (by omega) ?_; intro a4 c4 w4 hS4 hk4 ha4; have row4 := hk4.heap hrow3 hrj; have p2 : w4.cell? ⟨x, 2, none⟩ = some (.slice ra J.recs.length rc) := cell_of_row w4 x 2 _ _ _ row4; have z2 : w4.frozen? ⟨x, 2, none⟩ = false := (by simp only [World.frozen?, row4]; simp)))
        go_ret
        rw [HQ.out]
        generalize hv2 : Value.slice a4 (J.recs.length + 1) c4 = v2 at *
        have k45 : Kp (One x) w4 (w4.setCell ⟨x, 2, none⟩ v2) := (Kp.refl (One x) w4).set1 2 _
        have row5 := heap_setCell_row row4 2 v2
        generalize w4.setCell ⟨x, 2, none⟩ v2 = w5 at *
        have k35 : Kp (JS x x ra) (w2.alloc (.cells #[.slice a n c] 22)) w5 := hk4.comp k45 (fun _ _ h => .inr (.inr h)) (fun _ _ h => .inl h)
        have hlen1 : (J.recs ++ [r]).length = J.recs.length + 1 := by simp
        have hnew : ∀ k, Blk a4 k → Blk ra k ∨ w.heap.size ≤ k := by
          intro k hk
          rcases ha4 with rfl | rfl
          · exact .inl hk
          · obtain ⟨_, q1, q2⟩ := hk
            cases q1
            have q2 : (w2.alloc (.cells #[.slice a n c] 22)).heap.size = k := q2
            have := hkA.size
            right
            omega
        have hb3 := hb2.non hkA
        have hNo := HN.out
        subst hNo
        simp only [if_true]
        refine ⟨rfl, a4, hnew, ⟨c4, ia, ic, vs ++ [Value.slice a r.length c], h3.set k35 ?_ (h3.image.nob k35 h3.xnoB) ?_ ?_ ?_⟩, ?_⟩
        · rw [row5, ← hv2]
          unfold RRow
          simp [hlen1]
        · simp only [hlen1]
          exact hS4.kp k45 (fun i hi e => by
            obtain ⟨cs, fr, q⟩ := hS4.tag i hi
            rw [show i = x from e, row4] at q
            cases q)
        · exact (h3.recs.kp k35 h3.xnoB).add (hb3.nob k35 h3.xnoB) (fun _ _ _ f => f)
        · intro k hk
          rcases hnew k hk with q | q
          · exact (hold k (.inr (.inr q))).1
          · omega
        · exact (hk02.trans hkA.non).comp k35 (fun _ _ h => h) (fun _ _ q => by
            rcases q with q | q | q
            · exact .inr (.inl q)
            · exact .inr (.inl q)
            · exact .inr (.inr q))
      · have e0 : (qe == 0) = false := by simp [h0]
        go_wp2_with fail
        go_ret
        rw [HQ.out, if_neg h0]
        exact RJPost.of rfl H2 hk02 h6

set_option maxRecDepth 100000 in
set_option maxHeartbeats 2000000 in
theorem rsave_calls (h : RJou b0 w x d s J ra) (hok : s.ok) (a : Option Addr) (n c : Nat) (r : List UInt8) (hb : Bytes w a n c r) (hn : n ≤ 1048576) :
    Calls Try.prog 55 #[.pointer (some ⟨x, 0, none⟩), .slice a n c] w (RJPost b0 x d ra (jsave s J r) w) := by
  have H := h
  obtain ⟨rc, ia, ic, vs, h⟩ := h
  have c0 := h.c0
  have c3 := h.c3
  have HO := Lib.hid hok
  have HN := Lib.hid hb.len
  clear hok
  by_cases hJ : J.down = true
  · have HQ := Lib.hid (show jsave s J r = (7, s, J) by unfold jsave; rw [if_pos hJ])
    rw [hJ] at c3
    generalize jsave s J r = Q at *
    clear hJ
    go_enter Try.func55, Try.ntmps55
    go_wp2_with fail
    go_ret
    rw [HQ.out]
    exact ⟨rfl, ra, fun _ h => .inl h, H, Kp.refl _ _⟩
  · have hJ' : J.down = false := by simpa using hJ
    have HQ := Lib.hid (show jsave s J r = ((jswap s r).1, (jswap s r).2, if (jswap s r).1 = 0 then ⟨r, [], false⟩ else tell J (jswap s r).1) by
      unfold jsave
      rw [if_neg hJ])
    have HW := Lib.hid (show jswap s r = if (s.putStage (frame r)).1 ≠ 0 then s.putStage (frame r) else (s.putStage (frame r)).2.commit by
      unfold jswap
      have := HN.out
      rw [if_neg (by omega)])
    rw [hJ'] at c3
    generalize jsave s J r = Q at *
    clear hJ hJ'
    go_enter Try.func55, Try.ntmps55
    go_wp2_with fail
    have hkD : Kp Non w w.drew := (Kp.refl _ _).drew
    refine wp_region_chain [0,0,0,0,0,1,1,2] (by kernel_rfl) (by kernel_rfl) (fun w' => w'.cell? ⟨x, 0, none⟩ = some (.pointer (some ⟨d, 0, none⟩))) c0 ?_
    refine PB.out ?_
    repeat (first | (with_reducible refine pb_skip ?_) | ((with_reducible refine pb_k rfl ?_); intro K hK; apply Exists.intro; refine ⟨fun w' hC => ?_, ?_⟩; (go_simp; rfl); go_simp; refine hK _ ?_; clear hK K))
    with_reducible refine pb_nil ?_
    refine CB.out ?_
    repeat (with_reducible refine cb_skip ?_)
    with_reducible refine cb_step rfl fun K hK => ?_
    go_simp
    refine (refframe_calls a n c r w.drew (hb.non hkD) hn).mono ?_
    rintro e w1 ⟨fa, fc, rfl, hOf, hk1⟩
    have hk01 := hkD.trans hk1
    have z0 := hk01.cell c0 (fun f => f)
    go_simp
    refine hK _ _ (fun _ => z0) ?_
    clear hK K
    repeat (with_reducible refine cb_skip ?_)
    with_reducible refine cb_step rfl fun K hK => ?_
    go_simp
    have h1 := h.non hk01
    have hfl := frame_len r
    have hBf : Bytes w1 fa (r.length + 8) fc (frame r) := hOf.bytes
    refine (refstage_calls d s fa (r.length + 8) fc (frame r) w1 h1.dev HO.out hBf (by have := HN.out; omega)).mono ?_
    rintro e w2 ⟨rfl, hd2, hk2⟩
    have h2 := h1.step hk2 hd2
    have hb2 := (hb.non hk01).nob hk2 h1.dev.noB
    have hk02 : Kp (JS d x ra) w w2 := hk01.comp hk2 (fun _ _ f => f.elim) (fun _ _ h => .inl h)
    have hok2 := HO.out.putStage (frame r)
    generalize hq : s.putStage (frame r) = q at *
    obtain ⟨qe, qs⟩ := q
    go_simp
    refine hK _ _ (fun _ => h2.c0) ?_
    clear hK K
    repeat (with_reducible refine cb_skip ?_)
    with_reducible refine cb_step rfl fun K hK => ?_
    go_simp
    refine hK _ _ (fun h => by cases h) ?_
    clear hK K
    with_reducible refine cb_nil ?_
    have H2 : RJou b0 w2 x d qs J ra := ⟨_, _, _, _, h2⟩
    have c32 := h2.c3
    have f32 := h2.f 3
    have c22 := h2.c2
    have f22 := h2.f 2
    have hjd : J.down = false := by
      have q1 := hk02
      have q2 := h2.c3
      have q3 := (hk01.comp hk2 (fun _ _ f => f.elim) (fun _ _ h => h) : Kp (One d) w w2).cell c3 h.jd
      rw [q2] at q3
      simpa using q3
    rw [hjd] at c32
    have f12 := h2.f 1
    have c12 := h2.c1
    have c02 := h2.c0
    have HK := Lib.hid hok2
    clear hok2
    by_cases h0 : qe = 0
    · subst h0
      go_wp2_with fail
      refine (refcommit_calls d qs w2 h2.dev HK.out).mono ?_
      rintro e w3 ⟨rfl, hd3, hk3⟩
      have h3 := h2.step hk3 hd3
      have hb3 := hb2.nob hk3 h2.dev.noB
      have hk03 : Kp (JS d x ra) w w3 := hk02.comp hk3 (fun _ _ h => h) (fun _ _ h => .inl h)
      have H3 : RJou b0 w3 x d qs.commit.2 J ra := ⟨_, _, _, _, h3⟩
      have c13 := h3.c1
      have c23 := h3.c2
      have c33 := h3.c3
      have f13 := h3.f 1
      have f23 := h3.f 2
      have f33 := h3.f 3
      have HW2 := HW.out
      rw [if_neg (fun h => h rfl)] at HW2
      have HX := Lib.hid HW2
      clear HW2 c12 f12 c22 f22 c32 f32
      generalize qs.commit = p at *
      obtain ⟨pe, ps⟩ := p
      by_cases h6 : pe = 6
      · subst h6
        go_wp2_with fail
        go_ret
        rw [HQ.out, HX.out]
        exact RJPost.of6 rfl H3 hk03
      · have e6 : (pe == 6) = false := by simp [h6]
        by_cases hp0 : pe = 0
        · subst hp0
          go_wp2_with fail
          go_ret
          have k34 : Kp (One x) w3 ((w3.setCell ⟨x, 1, none⟩ (.slice a n c)).setCell ⟨x, 2, none⟩ (.slice none 0 0)) := ((Kp.refl (One x) w3).set1 1 _).set1 2 _
          have row4 := heap_setCell_row (heap_setCell_row h3.row 1 (.slice a n c)) 2 (.slice none 0 0)
          have hjd2 := hjd
          rw [HQ.out, HX.out]
          have hNo := HN.out
          subst hNo
          refine ⟨rfl, none, (fun k hk => by obtain ⟨_, q, _⟩ := hk; cases q), ⟨0, a, c, [], h3.set (k34.mono fun _ _ h => .inl h) ?_ (hb3.nob k34 h3.jnoB) (SRow.nil _ _) (Recs.nil _) (fun k hk => by obtain ⟨_, q, _⟩ := hk; cases q)⟩, hk03.comp k34 (fun _ _ h => h) (fun _ _ h => .inr (.inl h))⟩
          rw [row4]
          unfold RRow
          rw [hjd2]
          rfl
        · have e0 : (pe == 0) = false := by simp [hp0]
          go_wp2_with fail
          go_ret
          rw [HQ.out, HX.out, if_neg hp0]
          exact RJPost.of rfl H3 hk03 h6
    · have e0 : (qe == 0) = false := by simp [h0]
      have HW2 := HW.out
      rw [if_pos h0] at HW2
      have HX := Lib.hid HW2
      clear HW2
      by_cases h6 : qe = 6
      · subst h6
        go_wp2_with fail
        go_ret
        rw [HQ.out, HX.out]
        exact RJPost.of6 rfl H2 hk02
      · have e6 : (qe == 6) = false := by simp [h6]
        go_wp2_with fail
        go_ret
        rw [HQ.out, HX.out, if_neg h0]
        exact RJPost.of rfl H2 hk02 h6
end
end Go.Proofs.Ytclbapmjhchokaa
