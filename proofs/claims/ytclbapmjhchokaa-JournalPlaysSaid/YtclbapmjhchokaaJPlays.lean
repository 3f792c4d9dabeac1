/-
  JournalPlays: a journal under any calls, powers that go, crashes and openings does what the document says. For every input.
-/
import Derived.Test.YtclbapmjhchokaaPL3
namespace Go.Proofs.Ytclbapmjhchokaa
open Go.RowKit

set_option maxRecDepth 100000 in
set_option maxHeartbeats 16000000 in
theorem jplays_walk (room : Int) (l0 : Option Addr) (ln lc0 : Nat) (ll : List JOp) (w : World) (hr0 : 0 ≤ room) (hr1 : room ≤ 18446744073709551615) (hl : JOps w l0 ln lc0 ll) :
    Calls Try.prog 17 #[.int .u64 room, .slice l0 ln lc0] w (TruePost w) := by
  have HL := Lib.hid (fun W => jlives_true W)
  have hnotb := notB
  have HN := Lib.hid hl.len
  have hlcap := hl.cap
  have hlmax := hl.max
  obtain ⟨k, hk⟩ : ∃ k : Int, 3 + room % 30 = k := ⟨_, rfl⟩
  have hk0 : 3 ≤ k := by omega
  have hk1 : k ≤ 32 := by omega
  have w0 : IntKind.i64.wrap (room % 30) = room % 30 := IntWalk.i64_in _ (by omega)
  have w1 : IntKind.i64.wrap (3 + room % 30) = k := by rw [hk]; exact IntWalk.i64_in _ (by omega)
  have hPS := pst0_up (k := k) (by omega) (by omega)
  have hjs : jsave (St.new k) ⟨[], [], false⟩ [] = (0, pst0 k, ⟨[], [], false⟩) := by
    unfold jsave
    rw [if_neg (by simp), pst0_new (by omega)]
    rfl
  have HJS := Lib.hid hjs
  have HP0 := Lib.hid hPS
  have HW := Lib.hid (pst0_new (k := k) (by omega))
  clear hjs hPS
  go_enter Try.func17, Try.ntmps17
  go_wp2_with fail
  refine (new_calls k w (by omega) (by omega)).mono ?_
  rintro e w2 ⟨rfl, hd2, hk2⟩
  generalize hgd : w.heap.size = d at *
  have hdw : w.heap.size ≤ d := by omega
  go_wp2_with fail
  refine (format_calls w.heap.size d (St.new k) none 0 0 [] w2 hd2 (St.new_ok k (by omega) (by omega)) (Bytes.empty _) (by omega) (fun f => f) hdw hk2.size).mono ?_
  rw [HW.out]
  rintro e w3 ⟨hd3, hk3, hf⟩
  rw [if_pos rfl] at hf
  obtain ⟨j, rfl, hJ3, _⟩ := hf
  have q3 := Kp.dev hk2 hdw hk3
  replace hJ3 : Jou Non w.heap.size w3 j d (pst0 k) ⟨[], [], false⟩ none := hJ3
  clear hd2 hd3 hk2 hk3 hgd
  go_wp2_with fail
  refine (refnew_calls k w3).mono ?_
  rintro e w4 ⟨rfl, hx4, hk4⟩
  have hxw : w.heap.size ≤ w3.heap.size := q3.size
  generalize w3.heap.size = xd at *
  have hkA : Kp Non w4 (w4.alloc (.cells #[.pointer (some ⟨xd, 0, none⟩), .slice none 0 0, .slice none 0 0, .bool false] 78)) := (Kp.refl _ _).alloc _
  have q4 := (q3.trans hk4)
  have hR0 : PRel w (w4.alloc (.cells #[.pointer (some ⟨xd, 0, none⟩), .slice none 0 0, .slice none 0 0, .bool false] 78)) d j w4.heap.size xd (pst0 k) ⟨[], [], false⟩ (St.new k) ⟨[], [], false⟩ none none := by
    refine ⟨(hJ3.non hk4).non hkA, ⟨0, none, 0, [], heap_alloc_new w4 _, hx4.non hkA, Bytes.empty _, SRow.nil _ _, Recs.nil _, hxw, q4.size, ?_⟩, ?_, q4.trans hkA⟩
    · rintro y ⟨_, q, _⟩; cases q
    · rintro y ⟨_, q, _⟩; cases q
  clear hJ3 hx4 q3 hk4 hkA q4
  go_wp2_with fail
  generalize w4.alloc (.cells #[.pointer (some ⟨xd, 0, none⟩), .slice none 0 0, .slice none 0 0, .bool false] 78) = w5 at *
  generalize w4.heap.size = x at *
  refine (rsave_calls hR0.rjou (St.new_ok k (by omega) (by omega)) none 0 0 [] (Bytes.empty _) (by omega)).mono ?_
  rw [HJS.out]
  rintro e w6 hp
  obtain ⟨he, xa6, hR6, _⟩ := hR0.rcall hp
  subst he
  replace hR6 : PRel w w6 d j x xd (pst0 k) ⟨[], [], false⟩ (pst0 k) ⟨[], [], false⟩ none xa6 := hR6
  clear hp hR0
  go_wp2_with fail
  go_loopw [8, 45] (fun v8 v45 wr => ∃ (i j : Nat) (s : St) (J : JSt) (ra xa : Option Addr), i ≤ ln ∧ i ≤ 60 ∧ v45 = .int .i64 i ∧ v8 = .pointer (some ⟨j, 0, none⟩) ∧ PRel w wr d j x xd s J s J ra xa ∧ PSt i s J) (fun _ v45 _ => ln - (intOf v45).toNat)
  case atStart => exact ⟨0, j, _, _, none, xa6, Nat.zero_le _, Nat.zero_le _, rfl, rfl, hR6, HP0.out⟩
  case round =>
    obtain ⟨i, j, s, J, ra, xa, hi, hi60, rfl, rfl, hR, hPS⟩ := hrel
    clear hR6 HP0
    by_cases hlt : i < ln
    · have g1 : (i : Int) < (ln : Int) := by omega
      have g2 : (0 : Int) ≤ (i : Int) := by omega
      have v6 : IntKind.i64.wrap ((i : Int) + 1) = (i : Int) + 1 := IntWalk.i64_in _ (by omega)
      have hx0' : i < ll.length := by have := HN.out; omega
      obtain ⟨b, o, pa, pc, rfl, hA⟩ := (hl.non hR.kp).at_ i ll[i] (List.getElem?_eq_getElem hx0')
      generalize ll[i] = q at hA
      have c0 := hA.c0
      have c1 := hA.c1
      have c2 := hA.c2
      have hkW : Kp Non wr (wr.alloc (.cells #[.int .i64 q.kind, .int .i64 q.n, .slice pa q.b.length pc] 71)) := (Kp.refl _ _).alloc _
      have hRA := hR.non hkW
      have hbA := hA.bytes.non hkW
      have hqok := hA.ok
      have hB := heap_alloc_new wr (Obj.cells #[.int .i64 q.kind, .int .i64 q.n, .slice pa q.b.length pc] 71)
      have y0 : (wr.alloc (.cells #[.int .i64 q.kind, .int .i64 q.n, .slice pa q.b.length pc] 71)).cell? ⟨wr.heap.size, 0, none⟩ = some (.int .i64 q.kind) := cell_of_row _ _ 0 _ _ _ hB
      have y1 : (wr.alloc (.cells #[.int .i64 q.kind, .int .i64 q.n, .slice pa q.b.length pc] 71)).cell? ⟨wr.heap.size, 1, none⟩ = some (.int .i64 q.n) := cell_of_row _ _ 1 _ _ _ hB
      have y2 : (wr.alloc (.cells #[.int .i64 q.kind, .int .i64 q.n, .slice pa q.b.length pc] 71)).cell? ⟨wr.heap.size, 2, none⟩ = some (.slice pa q.b.length pc) := cell_of_row _ _ 2 _ _ _ hB
      have hjb : ∀ y, JS d j ra y → y ≠ wr.heap.size := fun y hy e => by have := (hR.jou.old y hy).2; omega
      have hxb : ∀ y, JS xd x xa y → y ≠ wr.heap.size := fun y hy e => by have := (hR.rjou.old y hy).2; omega
      clear hB hA
      by_cases hi6 : i = 60
      · subst hi6
        have g3 : (60 : Int) ≤ ((60 : Nat) : Int) := by omega
        go_wp2_with fail
        refine (HL.out _).mono ?_
        rintro e w9 ⟨rfl, hk9⟩
        go_wp2_with fail
        go_ret
        exact ⟨rfl, hRA.kp.trans hk9⟩
      · have g3 : decide ((60 : Int) ≤ (i : Int)) = false := by simp; omega
        have g4 : ¬ 60 ≤ i := by omega
        have hbs := hbA.small
        have hsl := sm_len q.b
        have hmn : min q.b.length 3000 = (sm q.b).length := hbs.len
        rw [hmn] at hbs
        have hok := hPS.ok
        have hrs := hPS.rs
        have hil := hPS.il
        have hcn := sizes_count J.recs
        clear hR
        rcases (show q.kind = 1 ∨ q.kind = 2 ∨ q.kind = 3 ∨ q.kind = 4 ∨ q.kind = 5 ∨ (q.kind ≠ 1 ∧ q.kind ≠ 2 ∧ q.kind ≠ 3 ∧ q.kind ≠ 4 ∧ q.kind ≠ 5) by omega) with hk | hk | hk | hk | hk | ⟨hk, hk2, hk3, hk4, hk5⟩
        · have t1 : (q.kind == 1) = true := by simp [hk]
          have HQ := Lib.hid (hPS.add hsl)
          clear hk
          go_wp2_with fail
          generalize wr.alloc (.cells #[.int .i64 q.kind, .int .i64 q.n, .slice pa q.b.length pc] 71) = wq at *
          refine wp_region_pieces [(10, [0,0,0,1,1,0,0,0,1,1,9,9], (fun w' => w'.cell? ⟨wr.heap.size, 2, none⟩ = some (.slice pa q.b.length pc))), (12, [9,9,9,9,9,9,9,9,9,9,0,0], (fun _ => True))] (by kernel_rfl) (by kernel_rfl) ?_
          have hkD : Kp Non wq wq.drew := (Kp.refl _ _).drew
          have hRD := hRA.non hkD
          have hbD := hbA.non hkD
          have hsD := hbs.non hkD
          have yD : wq.drew.cell? ⟨wr.heap.size, 2, none⟩ = some (.slice pa q.b.length pc) := y2
          refine (And.intro ?_ ?_ : _ ∧ _)
          · exact yD
          refine PB.out ?_
          repeat (first | (with_reducible refine pb_skip ?_) | ((with_reducible refine pb_k rfl ?_); intro K hK; apply Exists.intro; refine ⟨fun w' hC => ?_, ?_⟩; (go_simp; rfl); go_simp; refine hK _ ?_; clear hK K))
          with_reducible refine pb_nil ?_
          simp only [List.take_succ_cons, List.take_zero, List.drop_zero]
          refine CB.out ?_
          repeat (with_reducible refine cb_skip ?_)
          with_reducible refine cb_step rfl fun K hK => ?_
          go_simp
          refine (small_calls pa q.b.length pc q.b wq.drew hbD).mono ?_
          rintro e w7 ⟨rfl, he7⟩
          subst he7
          rw [hmn]
          go_simp
          refine hK _ _ (fun _ => yD) ?_
          clear hK K
          with_reducible refine cb_step rfl fun K hK => ?_
          go_simp
          refine (jadd_calls hRD.jou hok pa _ pc (sm q.b) hsD (by omega)).mono ?_
          rintro e w8 hp
          have k8 := hp.2
          obtain ⟨_, _, _, k8⟩ := k8
          obtain ⟨he, ra8, hR8, hB8⟩ := hRD.call hp
          subst he
          have y8 : w8.cell? ⟨wr.heap.size, 2, none⟩ = _ := k8.cell yD (fun qq => hjb _ qq rfl)
          have hb8 := hB8 _ _ _ _ hbD
          have hs8 := hB8 _ _ _ _ hsD
          go_simp
          refine hK _ _ (fun _ => y8) ?_
          clear hK K
          repeat (with_reducible refine cb_skip ?_)
          with_reducible refine cb_step rfl fun K hK => ?_
          go_simp
          refine (small_calls pa q.b.length pc q.b w8 hb8).mono ?_
          rintro e w9 ⟨rfl, he9⟩
          subst he9
          rw [hmn]
          go_simp
          refine hK _ _ (fun _ => y8) ?_
          clear hK K
          with_reducible refine cb_step rfl fun K hK => ?_
          go_simp
          refine (radd_calls hR8.rjou hok pa _ pc (sm q.b) hs8 (by omega) (by omega) hR8.kp.size).mono ?_
          rintro e wA hp2
          have kA := hp2.2
          obtain ⟨_, _, _, kA⟩ := kA
          obtain ⟨he, xaA, hRR, _⟩ := hR8.rcall hp2
          subst he
          have yA : wA.cell? ⟨wr.heap.size, 2, none⟩ = _ := kA.cell y8 (fun qq => hxb _ qq rfl)
          generalize jadd s J (sm q.b) = Q at *
          obtain ⟨qe, qs, qJ⟩ := Q
          go_simp
          refine hK _ _ (fun _ => yA) ?_
          clear hK K
          with_reducible refine cb_nil ?_
          refine (And.intro ?_ ?_ : _ ∧ _)
          · trivial
          refine PB.out ?_
          repeat (first | (with_reducible refine pb_skip ?_) | ((with_reducible refine pb_k rfl ?_); intro K hK; apply Exists.intro; refine ⟨fun w' hC => ?_, ?_⟩; (go_simp; rfl); go_simp; refine hK _ ?_; clear hK K))
          with_reducible refine pb_nil ?_
          simp only [List.take_succ_cons, List.take_zero, List.drop_succ_cons, List.drop_zero]
          refine CB.out ?_
          repeat (with_reducible refine cb_skip ?_)
          with_reducible refine cb_nil ?_
          simp only [Then, wpPieces]
          have hQ := HQ.out
          have e0 : (qe != qe) = false := by simp
          have hal := alike_calls hRR.jou hRR.rjou (by have := hQ.rs; omega) (by have := hQ.il; omega)
          have HRR := Lib.hid hRR
          clear hp hp2 hR8 hRR hRD
          go_wp2_with fail
          refine hal.mono ?_
          rintro e wB ⟨rfl, hkB⟩
          go_wp2_with fail
          exact ⟨⟨i + 1, j, _, _, ra8, xaA, by omega, by omega, by go_num, rfl, HRR.out.non hkB, hQ⟩, by simp [intOf]; omega⟩
        · have t1 : (q.kind == 1) = false := by simp [hk]
          have t2 : (q.kind == 2) = true := by simp [hk]
          have HQ := Lib.hid hPS.sync
          clear hk
          go_wp2_with fail
          generalize wr.alloc (.cells #[.int .i64 q.kind, .int .i64 q.n, .slice pa q.b.length pc] 71) = wq at *
          refine (jsync_calls hRA.jou hok).mono ?_
          rintro e w7 hp
          obtain ⟨he, ra7, hR7, _⟩ := hRA.call hp
          subst he
          go_wp2_with fail
          refine (rsync_calls hR7.rjou hok).mono ?_
          rintro e w8 hp
          obtain ⟨he, xa8, hR8, _⟩ := hR7.rcall hp
          subst he
          generalize jsync s J = Q at *
          obtain ⟨qe, qs, qJ⟩ := Q
          have hQ := HQ.out
          have e0 : (qe != qe) = false := by simp
          have hal := alike_calls hR8.jou hR8.rjou (by have := hQ.rs; omega) (by have := hQ.il; omega)
          have HR8 := Lib.hid hR8
          clear hp hR7 hR8
          go_wp2_with fail
          refine hal.mono ?_
          rintro e w9 ⟨rfl, hk9⟩
          go_wp2_with fail
          exact ⟨⟨i + 1, j, _, _, ra7, xa8, by omega, by omega, by go_num, rfl, HR8.out.non hk9, hQ⟩, by simp [intOf]; omega⟩
        · have t1 : (q.kind == 1) = false := by simp [hk]
          have t2 : (q.kind == 2) = false := by simp [hk]
          have t3 : (q.kind == 3) = true := by simp [hk]
          have HQ := Lib.hid (hPS.save hsl)
          clear hk
          go_wp2_with fail
          generalize wr.alloc (.cells #[.int .i64 q.kind, .int .i64 q.n, .slice pa q.b.length pc] 71) = wq at *
          refine wp_region_pieces [(10, [0,0,0,1,1,0,0,0,1,1,9,9], (fun w' => w'.cell? ⟨wr.heap.size, 2, none⟩ = some (.slice pa q.b.length pc))), (12, [9,9,9,9,9,9,9,9,9,9,0,0], (fun _ => True))] (by kernel_rfl) (by kernel_rfl) ?_
          have hkD : Kp Non wq wq.drew := (Kp.refl _ _).drew
          have hRD := hRA.non hkD
          have hbD := hbA.non hkD
          have hsD := hbs.non hkD
          have yD : wq.drew.cell? ⟨wr.heap.size, 2, none⟩ = some (.slice pa q.b.length pc) := y2
          refine (And.intro ?_ ?_ : _ ∧ _)
          · exact yD
          refine PB.out ?_
          repeat (first | (with_reducible refine pb_skip ?_) | ((with_reducible refine pb_k rfl ?_); intro K hK; apply Exists.intro; refine ⟨fun w' hC => ?_, ?_⟩; (go_simp; rfl); go_simp; refine hK _ ?_; clear hK K))
          with_reducible refine pb_nil ?_
          simp only [List.take_succ_cons, List.take_zero, List.drop_zero]
          refine CB.out ?_
          repeat (with_reducible refine cb_skip ?_)
          with_reducible refine cb_step rfl fun K hK => ?_
          go_simp
          refine (small_calls pa q.b.length pc q.b wq.drew hbD).mono ?_
          rintro e w7 ⟨rfl, he7⟩
          subst he7
          rw [hmn]
          go_simp
          refine hK _ _ (fun _ => yD) ?_
          clear hK K
          with_reducible refine cb_step rfl fun K hK => ?_
          go_simp
          refine (jsave_calls hRD.jou hok pa _ pc (sm q.b) hsD (by omega)).mono ?_
          rintro e w8 hp
          have k8 := hp.2
          obtain ⟨_, _, _, k8⟩ := k8
          obtain ⟨he, ra8, hR8, hB8⟩ := hRD.call hp
          subst he
          have y8 : w8.cell? ⟨wr.heap.size, 2, none⟩ = _ := k8.cell yD (fun qq => hjb _ qq rfl)
          have hb8 := hB8 _ _ _ _ hbD
          have hs8 := hB8 _ _ _ _ hsD
          go_simp
          refine hK _ _ (fun _ => y8) ?_
          clear hK K
          repeat (with_reducible refine cb_skip ?_)
          with_reducible refine cb_step rfl fun K hK => ?_
          go_simp
          refine (small_calls pa q.b.length pc q.b w8 hb8).mono ?_
          rintro e w9 ⟨rfl, he9⟩
          subst he9
          rw [hmn]
          go_simp
          refine hK _ _ (fun _ => y8) ?_
          clear hK K
          with_reducible refine cb_step rfl fun K hK => ?_
          go_simp
          refine (rsave_calls hR8.rjou hok pa _ pc (sm q.b) hs8 (by omega)).mono ?_
          rintro e wA hp2
          have kA := hp2.2
          obtain ⟨_, _, _, kA⟩ := kA
          obtain ⟨he, xaA, hRR, _⟩ := hR8.rcall hp2
          subst he
          have yA : wA.cell? ⟨wr.heap.size, 2, none⟩ = _ := kA.cell y8 (fun qq => hxb _ qq rfl)
          generalize jsave s J (sm q.b) = Q at *
          obtain ⟨qe, qs, qJ⟩ := Q
          go_simp
          refine hK _ _ (fun _ => yA) ?_
          clear hK K
          with_reducible refine cb_nil ?_
          refine (And.intro ?_ ?_ : _ ∧ _)
          · trivial
          refine PB.out ?_
          repeat (first | (with_reducible refine pb_skip ?_) | ((with_reducible refine pb_k rfl ?_); intro K hK; apply Exists.intro; refine ⟨fun w' hC => ?_, ?_⟩; (go_simp; rfl); go_simp; refine hK _ ?_; clear hK K))
          with_reducible refine pb_nil ?_
          simp only [List.take_succ_cons, List.take_zero, List.drop_succ_cons, List.drop_zero]
          refine CB.out ?_
          repeat (with_reducible refine cb_skip ?_)
          with_reducible refine cb_nil ?_
          simp only [Then, wpPieces]
          have hQ := HQ.out
          have e0 : (qe != qe) = false := by simp
          have hal := alike_calls hRR.jou hRR.rjou (by have := hQ.rs; omega) (by have := hQ.il; omega)
          have HRR := Lib.hid hRR
          clear hp hp2 hR8 hRR hRD
          go_wp2_with fail
          refine hal.mono ?_
          rintro e wB ⟨rfl, hkB⟩
          go_wp2_with fail
          exact ⟨⟨i + 1, j, _, _, ra8, xaA, by omega, by omega, by go_num, rfl, HRR.out.non hkB, hQ⟩, by simp [intOf]; omega⟩
        · have t1 : (q.kind == 1) = false := by simp [hk]
          have t2 : (q.kind == 2) = false := by simp [hk]
          have t3 : (q.kind == 3) = false := by simp [hk]
          have t4 : (q.kind == 4) = true := by simp [hk]
          have HQ := Lib.hid (hPS.stop q.n hqok.n1)
          clear hk
          go_wp2_with fail
          generalize wr.alloc (.cells #[.int .i64 q.kind, .int .i64 q.n, .slice pa q.b.length pc] 71) = wq at *
          refine (stop_calls d s q.n wq hRA.jou.dev).mono ?_
          rintro e w7 ⟨rfl, hd7, hk7⟩
          obtain ⟨ra7, hR7, _⟩ := hRA.dev hk7 hd7
          have y7 : w7.cell? ⟨wr.heap.size, 1, none⟩ = _ := hk7.cell y1 (fun qq => hjb _ (.inl rfl) (show wr.heap.size = d from qq).symm)
          go_wp2_with fail
          obtain ⟨rc7, ia7, ic7, vs7, hX7⟩ := hR7.rjou
          have x0 := hX7.c0
          refine wp_region_chain [0,0,0,0,0,0,1] (by kernel_rfl) (by kernel_rfl) (fun w' => w'.cell? ⟨x, 0, none⟩ = some (.pointer (some ⟨xd, 0, none⟩)) ∧ w'.cell? ⟨wr.heap.size, 1, none⟩ = some (.int .i64 q.n)) ⟨x0, y7⟩ ?_
          refine PB.out ?_
          repeat (first | (with_reducible refine pb_skip ?_) | ((with_reducible refine pb_k rfl ?_); intro K hK; apply Exists.intro; refine ⟨fun w' hC => ?_, ?_⟩; (obtain ⟨g1', g2'⟩ := hC; go_simp; rfl); go_simp; refine hK _ ?_; clear hK K))
          with_reducible refine pb_nil ?_
          refine CB.out ?_
          repeat (with_reducible refine cb_skip ?_)
          with_reducible refine cb_step rfl fun K hK => ?_
          go_simp
          have hkD : Kp Non w7 w7.drew := (Kp.refl _ _).drew
          have hRD := hR7.non hkD
          refine (refstop_calls xd s q.n w7.drew hRD.rjou.dev).mono ?_
          rintro e w8 ⟨rfl, hx8, hk8⟩
          obtain ⟨xa8, hR8, _⟩ := hRD.ref hk8 hx8
          have x08 : w8.cell? ⟨x, 0, none⟩ = _ := hk8.cell (show w7.drew.cell? ⟨x, 0, none⟩ = _ from x0) hX7.jd
          have y8 : w8.cell? ⟨wr.heap.size, 1, none⟩ = _ := hk8.cell (show w7.drew.cell? ⟨wr.heap.size, 1, none⟩ = _ from y7) (fun qq => hxb _ (.inl rfl) (show wr.heap.size = xd from qq).symm)
          go_simp
          refine hK _ _ (fun _ => ⟨x08, y8⟩) ?_
          clear hK K
          with_reducible refine cb_nil ?_
          have hQ := HQ.out
          have hal := alike_calls hR8.jou hR8.rjou (by have := hQ.rs; omega) (by have := hQ.il; omega)
          have HR8 := Lib.hid hR8
          clear hRD hR7 hR8
          go_wp2_with fail
          refine hal.mono ?_
          rintro e wB ⟨rfl, hkB⟩
          go_wp2_with fail
          exact ⟨⟨i + 1, j, _, _, ra7, xa8, by omega, by omega, by go_num, rfl, HR8.out.non hkB, hQ⟩, by simp [intOf]; omega⟩
        · have t1 : (q.kind == 1) = false := by simp [hk]
          have t2 : (q.kind == 2) = false := by simp [hk]
          have t3 : (q.kind == 3) = false := by simp [hk]
          have t4 : (q.kind == 4) = false := by simp [hk]
          have t5 : (q.kind == 5) = true := by simp [hk]
          obtain ⟨sN, JN, r1, r2, r3, r4, r5, r6, r7⟩ := hPS.reopens q.n
          have HQ := Lib.hid r7
          have H1 := Lib.hid r1
          have H2 := Lib.hid r2
          have H3 := Lib.hid r3
          have H4 := Lib.hid r4
          have H6 := Lib.hid r6
          have hb0 := (hRA.jou.old d (.inl rfl)).1
          clear hk r1 r2 r3 r4 r6 r7
          go_wp2_with fail
          generalize wr.alloc (.cells #[.int .i64 q.kind, .int .i64 q.n, .slice pa q.b.length pc] 71) = wq at *
          refine (crash_calls d s q.n wq hRA.jou.dev hok).mono ?_
          rintro e w7 ⟨rfl, hd7, hk7⟩
          obtain ⟨ra7, hR7, _⟩ := hRA.dev hk7 hd7
          have y7 : w7.cell? ⟨wr.heap.size, 1, none⟩ = _ := hk7.cell y1 (fun qq => hjb _ (.inl rfl) (show wr.heap.size = d from qq).symm)
          go_wp2_with fail
          obtain ⟨rc7, ia7, ic7, vs7, hX7⟩ := hR7.rjou
          have x0 := hX7.c0
          refine wp_region_chain [0,0,0,0,0,0,1] (by kernel_rfl) (by kernel_rfl) (fun w' => w'.cell? ⟨x, 0, none⟩ = some (.pointer (some ⟨xd, 0, none⟩)) ∧ w'.cell? ⟨wr.heap.size, 1, none⟩ = some (.int .i64 q.n)) ⟨x0, y7⟩ ?_
          refine PB.out ?_
          repeat (first | (with_reducible refine pb_skip ?_) | ((with_reducible refine pb_k rfl ?_); intro K hK; apply Exists.intro; refine ⟨fun w' hC => ?_, ?_⟩; (obtain ⟨g1', g2'⟩ := hC; go_simp; rfl); go_simp; refine hK _ ?_; clear hK K))
          with_reducible refine pb_nil ?_
          refine CB.out ?_
          repeat (with_reducible refine cb_skip ?_)
          with_reducible refine cb_step rfl fun K hK => ?_
          go_simp
          have hkD : Kp Non w7 w7.drew := (Kp.refl _ _).drew
          have hRD := hR7.non hkD
          refine (refcrash_calls xd s q.n w7.drew hRD.rjou.dev hok).mono ?_
          rintro e w8 ⟨rfl, hx8, hk8⟩
          obtain ⟨xa8, hR8, _⟩ := hRD.ref hk8 hx8
          have x08 : w8.cell? ⟨x, 0, none⟩ = _ := hk8.cell (show w7.drew.cell? ⟨x, 0, none⟩ = _ from x0) hX7.jd
          have y8 : w8.cell? ⟨wr.heap.size, 1, none⟩ = _ := hk8.cell (show w7.drew.cell? ⟨wr.heap.size, 1, none⟩ = _ from y7) (fun qq => hxb _ (.inl rfl) (show wr.heap.size = xd from qq).symm)
          go_simp
          refine hK _ _ (fun _ => ⟨x08, y8⟩) ?_
          clear hK K
          with_reducible refine cb_nil ?_
          have hsz8 := hR8.kp.size
          go_wp2_with fail
          refine (open2_calls hR8.jou.dev hR8.rjou H6.out hb0 hsz8 hsz8 H1.out (by omega) H2.out H3.out H4.out).mono ?_
          rintro e w9 hp
          obtain ⟨j9, ra9, xa9, he, hR9⟩ := hR8.open2 hp
          subst he
          have hQ := HQ.out
          have hal := alike_calls hR9.jou hR9.rjou (by have := hQ.rs; omega) (by have := hQ.il; omega)
          have HR9 := Lib.hid hR9
          clear hRD hR7 hR8 hR9 hp
          go_wp2_with fail
          refine hal.mono ?_
          rintro e wB ⟨rfl, hkB⟩
          go_wp2_with fail
          exact ⟨⟨i + 1, j9, _, _, ra9, xa9, by omega, by omega, by go_num, rfl, HR9.out.non hkB, hQ⟩, by simp [intOf]; omega⟩
        · have t1 : (q.kind == 1) = false := by simp [hk]
          have t2 : (q.kind == 2) = false := by simp [hk2]
          have t3 : (q.kind == 3) = false := by simp [hk3]
          have t4 : (q.kind == 4) = false := by simp [hk4]
          have t5 : (q.kind == 5) = false := by simp [hk5]
          have hal := alike_calls hRA.jou hRA.rjou (by omega) (by omega)
          clear hk hk2 hk3 hk4 hk5
          go_wp2_with fail
          generalize wr.alloc (.cells #[.int .i64 q.kind, .int .i64 q.n, .slice pa q.b.length pc] 71) = wq at *
          refine hal.mono ?_
          rintro e w9 ⟨rfl, hk9⟩
          go_wp2_with fail
          exact ⟨⟨i + 1, j, _, _, ra, xa, by omega, by omega, by go_num, rfl, hRA.non hk9, hPS.next⟩, by simp [intOf]; omega⟩
    · have g1 : ¬ (i : Int) < (ln : Int) := by omega
      go_wp2_with fail
      refine (HL.out _).mono ?_
      rintro e w9 ⟨rfl, hk9⟩
      go_wp2_with fail
      go_ret
      exact ⟨rfl, hR.kp.trans hk9⟩

open Go.ChangeShapes Go.WideShapes Go.ChangeAt
set_option maxRecDepth 100000 in
theorem journal_plays_lifted (os : Os) (started : os.Started) (H : Type) (enc : TypeId × Value → H) :
    ReturnsInHanded {} Try.checked os 17 .any (Rows.journalPlaysSpec.pre6 enc Try.prog Try.f17 Rows.journalPlaysRow.domain false) (Rows.journalPlaysSpec.post enc Try.prog Try.f17 false true false false) := by
  refine returnsInHanded_of_change_sized (C := Try.checked) own started (by kernel_rfl) Try.func17
    (ChangeSpec.witness6 (enc := enc) (C := Try.checked) false ⟨#[], #[.int .u64 0, .slice none 0 0], []⟩ 8 (by kernel_rfl) (by kernel_rfl) (by kernel_rfl) (by kernel_rfl)) ?_
  intro W base args ds gs before hval0 hW hcnd hsz0 _
  have hval : ∀ (j : Nat) t v, Try.f17.params[j]? = some t → args[j]? = some v → Value.okWide Try.prog W .any base t v := hval0
  have hsz : (DataW.weightsEach Try.prog (Try.f17.params.toList ++ Rows.journalPlaysSpec.plain.varTypes Try.prog) (ds ++ gs)).all (· ≤ reachBytes) = true := hsz0
  have hW' := hW
  obtain ⟨p, q, hA0, hV, rfl, hfz, hnd⟩ := hW
  have hA : DataW.TrodAll enc Try.prog W 0 (fun _ => true) true Try.f17.params.toList args.toList ds p := hA0
  rw [Try.params17] at hA hval hsz
  obtain ⟨v0, vs0, d0, ds0, p0, q0, hargs, rfl, rfl, h0, r0⟩ := trodAll_cons hA
  obtain ⟨v1, vs1, d1, ds1, p1, q1, rfl, rfl, rfl, h1, r1⟩ := trodAll_cons r0
  obtain ⟨rfl, rfl, rfl⟩ := trodAll_nil r1
  obtain rfl : args = #[v0, v1] := by cases args; simp_all
  obtain ⟨rfl, rfl⟩ := trodVars_none hV
  have lt0 : ∀ x ∈ p0, x.block < W.heap.size := by obtain ⟨m, hm⟩ := h0; exact DataW.trod_lt m _ _ _ hm
  have k0 := h0
  obtain ⟨a0, rfl, _, _, w0⟩ := open_int Try.underlying40 (hval 0 40 v0 rfl rfl) h0
  simp only [Lit.wf, Bool.and_eq_true, decide_eq_true_eq] at w0
  have lt1 : ∀ x ∈ p1, x.block < W.heap.size := by obtain ⟨m, hm⟩ := h1; exact DataW.trod_lt m _ _ _ hm
  have k1 := h1
  obtain ⟨a1, n1, c1, rfl⟩ := okWide_slice Try.underlying68 (hval 1 68 v1 rfl rfl)
  obtain ⟨l1, b1⟩ := jops_in h1 (fun x hx => by
    have := List.all_eq_true.1 hsz x (DataW.weights_mem_each (j := 1) (t := 68) (d := d1) rfl rfl x hx)
    simpa using this)
  clear hA0 hval0 hsz0
  refine (jplays_walk a0 a1 n1 c1 l1 W w0.1 w0.2 b1).mono fun e W' ⟨he, hk⟩ => ?_
  have bel := hk.below
  subst he
  exact ⟨_, rfl, _, _, _, [], _, [], hW', trodAll_mk1 (shut_bool Try.underlying4 _), (trodAll_cons_mk (Below.trod laidOut (by kernel_rfl) (of_decide_eq_true (by kernel_rfl)) k0 bel lt0)
    (trodAll_cons_mk (Below.trod laidOut (by kernel_rfl) (of_decide_eq_true (by kernel_rfl)) k1 bel lt1)
    trodAll_mk0)), rfl, bel.frame _, fun h => by cases h⟩

theorem journal_plays : Rows.JournalPlaysSaid :=
  OpenClaim.holds_of_wide 17 Try.f17 rfl rfl rfl rfl rfl rfl rfl ⟨rfl, rfl, rfl, rfl, rfl⟩ rfl rfl rfl rfl rfl (by kernel_rfl) Try.func17 (by kernel_rfl)
    (of_decide_eq_true (by kernel_rfl)) (by unfold Func.isWrapper; first | (rw [if_pos (by decide +kernel)]; kernel_rfl) | (rw [if_neg (by decide +kernel)]; exact ⟨rfl, rfl⟩))
    (fun os started H enc _ => journal_plays_lifted os started H enc)
#print axioms journal_plays
end Go.Proofs.Ytclbapmjhchokaa
