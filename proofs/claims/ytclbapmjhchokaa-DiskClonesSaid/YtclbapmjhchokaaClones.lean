/-
  DiskClones: a clone and its original go on apart, each as if there were no other. For every input.
-/
import Derived.Test.YtclbapmjhchokaaS6
import Derived.Test.YtclbapmjhchokaaG1
import Derived.Test.YtclbapmjhchokaaR3
namespace Go.Proofs.Ytclbapmjhchokaa
open Go.RowKit

theorem Ref.other {w w' : World} {x y : Nat} {s s' : St} (h : Ref w y s) (h' : Ref w x s') (hne : y ≠ x) (k : Kp (One x) w w') : Ref w' y s := by
  obtain ⟨_, _, _, _, _, _, h⟩ := h
  obtain ⟨_, _, _, _, _, _, h'⟩ := h'
  exact ⟨_, _, _, _, _, _, h.one h' hne k⟩
theorem Dev.other {F : Nat → Prop} {w w' : World} {c d : Nat} {s s' : St} (h : Dev F w c s) (h' : Dev F w d s') (hne : c ≠ d) (k : Kp (One d) w w') : Dev F w' c s := by
  obtain ⟨_, _, _, _, _, _, h⟩ := h
  obtain ⟨_, _, _, _, _, _, h'⟩ := h'
  exact ⟨_, _, _, _, _, _, h.one h' hne k⟩

open Lib in
set_option maxRecDepth 100000 in
set_option maxHeartbeats 4000000 in
theorem clones_long (la : Option Addr) (ln lc : Nat) (aa : Option Addr) (an ac : Nat) (ba : Option Addr) (bn bc : Nat) (w : World) (h : 50 < ln ∨ 50 < an ∨ 50 < bn) :
    Calls Try.prog 10 #[.slice la ln lc, .slice aa an ac, .slice ba bn bc] w (TruePost w) := by
  have HL := Lib.hid (fun W => lives_true W)
  by_cases h1 : 50 < ln
  · have g1 : (50 : Int) < ln := by omega
    clear h h1
    go_enter Try.func10, Try.ntmps10
    go_wp2_with fail
    refine (HL.out _).mono ?_
    rintro e w1 ⟨rfl, hk⟩
    go_wp2_with fail
    go_ret
    exact ⟨rfl, hk⟩
  · have g1 : decide ((50 : Int) < ln) = false := by simp; omega
    by_cases h2 : 50 < an
    · have g2 : (50 : Int) < an := by omega
      clear h h1 h2
      go_enter Try.func10, Try.ntmps10
      go_wp2_with fail
      refine (HL.out _).mono ?_
      rintro e w1 ⟨rfl, hk⟩
      go_wp2_with fail
      go_ret
      exact ⟨rfl, hk⟩
    · have g2 : decide ((50 : Int) < an) = false := by simp; omega
      have g3 : (50 : Int) < bn := by omega
      clear h h1 h2
      go_enter Try.func10, Try.ntmps10
      go_wp2_with fail
      refine (HL.out _).mono ?_
      rintro e w1 ⟨rfl, hk⟩
      go_wp2_with fail
      go_ret
      exact ⟨rfl, hk⟩

set_option maxRecDepth 100000 in
set_option maxHeartbeats 32000000 in
theorem clones_short (l0 : Option Addr) (ln lc : Nat) (ll : List OpD) (aa : Option Addr) (an ac : Nat) (la : List OpD) (ba : Option Addr) (bn bc : Nat) (lb : List OpD) (w : World)
    (h1 : ln ≤ 50) (h2 : an ≤ 50) (h3 : bn ≤ 50) (hll : Ops w l0 ln lc ll) (hla : Ops w aa an ac la) (hlb : Ops w ba bn bc lb) :
    Calls Try.prog 10 #[.slice l0 ln lc, .slice aa an ac, .slice ba bn bc] w (TruePost w) := by
  have HL := Lib.hid (fun W => lives_true W)
  have hnot := notB
  have q1 : decide ((50 : Int) < ln) = false := by simp; omega
  have q2 : decide ((50 : Int) < an) = false := by simp; omega
  have q3 : decide ((50 : Int) < bn) = false := by simp; omega
  go_enter Try.func10, Try.ntmps10
  go_wp2_with fail
  refine (new_calls 20 _ (by omega) (by omega)).mono ?_
  rintro e w1 ⟨rfl, hd1, hk1⟩
  have hdw : w.heap.size ≤ w.heap.size := Nat.le_refl _
  generalize hd : w.heap.size = d at hd1
  replace hdw : w.heap.size ≤ d := by omega
  clear hd
  go_wp2_with fail
  refine (refnew_calls 20 _).mono ?_
  rintro e w2 ⟨rfl, hx2, hk2⟩
  have hxw : w.heap.size ≤ w1.heap.size := hk1.size
  have hd2 := hd1.non hk2
  replace hk2 := hk1.trans hk2
  generalize hx : w1.heap.size = x at *
  clear hd1 hk1 hx
  go_wp2_with fail
  refine (refnew_calls 20 _).mono ?_
  rintro e w3 ⟨rfl, hy3, hk3⟩
  have hyw : w.heap.size ≤ w2.heap.size := hk2.size
  have hyx : w2.heap.size ≠ x := by have := hx2.lt; omega
  have hd3 := hd2.non hk3
  have hx3 := hx2.non hk3
  replace hk3 := hk2.trans hk3
  generalize hy : w2.heap.size = y at *
  clear hd2 hx2 hk2 hy
  have HI := Lib.hid (St.new_ok 20 (by omega) (by omega))
  go_wp2_with fail
  go_loopw [39] (fun v39 wr => ∃ (i : Nat) (s : St), i ≤ ln ∧ v39 = .int .i64 i ∧ Dev Non wr d s ∧ Ref wr x s ∧ Ref wr y s ∧ s.ok ∧ Kp Non w wr) (fun v39 _ => ln - (intOf v39).toNat)
  case atStart => exact ⟨0, _, Nat.zero_le _, rfl, hd3, hx3, hy3, HI.out, hk3⟩
  case round =>
    obtain ⟨i, s, hi, rfl, hD, hX, hY, hok, hK⟩ := hrel
    have HS := Lib.hid hok
    clear hok hd3 hx3 hy3 hk3 HI
    by_cases hlt : i < ln
    · have hx0 : i < ll.length := by have := hll.len; omega
      obtain ⟨b, o, pa, pc, rfl, hA⟩ := (hll.non hK).at_ i ll[i] (List.getElem?_eq_getElem hx0)
      generalize ll[i] = q at hA
      have c0 := hA.c0
      have c1 := hA.c1
      have c2 := hA.c2
      have c3 := hA.c3
      have g0 : (0 : Int) ≤ (i : Int) := by omega
      have g1 : (i : Int) < (ln : Int) := by omega
      have hkW : Kp Non wr (wr.alloc (.cells (q.cells pa pc) 42)) := (Kp.refl Non wr).alloc _
      have hkA : Kp Non w (wr.alloc (.cells (q.cells pa pc) 42)) := hK.alloc _
      have hDA := hD.non hkW
      have hXA := hX.non hkW
      have hYA := hY.non hkW
      have hbA := hA.bytes.non hkW
      have hB : (wr.alloc (.cells (q.cells pa pc) 42)).heap[wr.heap.size]? = some (.cells (q.cells pa pc) 42 (0, 0)) := heap_alloc_new wr _
      have hBd : ¬ wr.heap.size = d := by have := hD.lt; omega
      have hBx : ¬ wr.heap.size = x := by have := hX.lt; omega
      have hqok := hA.ok
      have hrok := q.run_ok hqok HS.out
      clear hA hkW
      unfold OpD.cells at *
      go_wp2_with fail
      refine (do_calls d s q pa pc _ hDA HS.out hbA hqok).mono ?_
      rintro e w5 ⟨rfl, hd5, hk5⟩
      have hx5 := hXA.one hDA hk5
      have hy5 := hYA.one hDA hk5
      have hb5 := hbA.one hDA hk5
      have hB5 := hk5.heap hB hBd
      replace hk5 := Kp.dev hkA hdw hk5
      have x0 : w5.cell? ⟨wr.heap.size, 0, none⟩ = some (.int .i64 q.kind) := cell_of_row _ _ 0 _ _ _ hB5
      have x1 : w5.cell? ⟨wr.heap.size, 1, none⟩ = some (.int .i64 q.n) := cell_of_row _ _ 1 _ _ _ hB5
      have x2 : w5.cell? ⟨wr.heap.size, 2, none⟩ = some (.slice pa q.b.length pc) := cell_of_row _ _ 2 _ _ _ hB5
      have x3 : w5.cell? ⟨wr.heap.size, 3, none⟩ = some (.int .u64 q.times) := cell_of_row _ _ 3 _ _ _ hB5
      clear c0 c1 c2 c3
      go_wp2_with fail
      refine (tell_calls x s q pa pc _ hx5 HS.out hb5 hqok).mono ?_
      rintro e w6 ⟨rfl, hx6, hk6⟩
      have hd6 := hd5.ref hx5 hk6
      have hy6 := hy5.other hx5 hyx hk6
      have hb6 := hb5.ref hx5 hk6
      have hB6 := hk6.heap hB5 hBx
      replace hk6 := Kp.dev hk5 hxw hk6
      have u0 : w6.cell? ⟨wr.heap.size, 0, none⟩ = some (.int .i64 q.kind) := cell_of_row _ _ 0 _ _ _ hB6
      have u1 : w6.cell? ⟨wr.heap.size, 1, none⟩ = some (.int .i64 q.n) := cell_of_row _ _ 1 _ _ _ hB6
      have u2 : w6.cell? ⟨wr.heap.size, 2, none⟩ = some (.slice pa q.b.length pc) := cell_of_row _ _ 2 _ _ _ hB6
      have u3 : w6.cell? ⟨wr.heap.size, 3, none⟩ = some (.int .u64 q.times) := cell_of_row _ _ 3 _ _ _ hB6
      clear x0 x1 x2 x3
      go_wp2_with fail
      refine (tell_calls y s q pa pc _ hy6 HS.out hb6 hqok).mono ?_
      rintro e w7 ⟨rfl, hy7, hk7⟩
      have hd7 := hd6.ref hy6 hk7
      have hx7 := hx6.other hy6 (fun e => hyx e.symm) hk7
      replace hk7 := Kp.dev hk6 hyw hk7
      generalize (q.run s).2 = s' at *
      clear u0 u1 u2 u3
      go_wp2_with fail
      exact ⟨⟨i + 1, s', by omega, by go_num, hd7, hx7, hy7, hrok, hk7⟩, by simp [intOf]; omega⟩
    · have g1 : ¬ (i : Int) < (ln : Int) := by omega
      go_wp2_with fail
      refine (clone_calls d s _ hD HS.out).mono ?_
      rintro e w4 ⟨c, rfl, hcc, hC4, hk4⟩
      have hcd : c ≠ d := by have := hD.lt; omega
      have hcw : w.heap.size ≤ c := by have := hK.size; omega
      have hd4 := hD.non hk4
      have hx4 := hX.non hk4
      have hy4 := hY.non hk4
      replace hk4 := hK.trans hk4
      clear hD hX hY hK g1 hlt hi
      go_wp2_with fail
      go_loopw [14] (fun v14 wr => ∃ (i : Nat) (s1 s2 : St), i ≤ 50 ∧ v14 = .int .i64 i ∧ Dev Non wr d s1 ∧ Ref wr x s1 ∧ Dev Non wr c s2 ∧ Ref wr y s2 ∧ s1.ok ∧ s2.ok ∧ Kp Non w wr) (fun v14 _ => 50 - (intOf v14).toNat)
      case atStart => exact ⟨0, _, _, by omega, rfl, hd4, hx4, hC4, hy4, HS.out, HS.out, hk4⟩
      case round =>
        obtain ⟨i, s1, s2, hi, rfl, hDd, hRx, hDc, hRy, hok1, hok2, hKw⟩ := hrel
        clear hd4 hx4 hC4 hy4 HS hk4
        have HS1 := Lib.hid hok1
        have HS2 := Lib.hid hok2
        clear hok1 hok2
        rcases (show (i < an ∧ i < bn) ∨ (i < an ∧ ¬ i < bn) ∨ (¬ i < an ∧ i < bn) ∨ (¬ i < an ∧ ¬ i < bn) by omega) with ⟨hia, hib⟩ | ⟨hia, hib⟩ | ⟨hia, hib⟩ | ⟨hia, hib⟩
        · have ga : (i : Int) < (an : Int) := by omega
          have gb : (i : Int) < (bn : Int) := by omega
          have g0 : (0 : Int) ≤ (i : Int) := by omega
          have hxa : i < la.length := by have := hla.len; omega
          obtain ⟨ab, ao, pa, pc, rfl, hPa⟩ := hla.at_ i la[i] (List.getElem?_eq_getElem hxa)
          generalize la[i] = ya at hPa
          have yaok := hPa.ok
          have hxb : i < lb.length := by have := hlb.len; omega
          obtain ⟨bb, bo, pb, qc, rfl, hPb⟩ := hlb.at_ i lb[i] (List.getElem?_eq_getElem hxb)
          generalize lb[i] = yb at hPb
          have ybok := hPb.ok
          go_wp2_with fail
          replace hKw := hKw.drew
          replace hDd := hDd.non (Kp.refl Non wr).drew
          replace hDc := hDc.non (Kp.refl Non wr).drew
          replace hRx := hRx.non (Kp.refl Non wr).drew
          replace hRy := hRy.non (Kp.refl Non wr).drew
          refine wp_region_chain2 20 [0,0,0,0,0,0,0,0,0,0,1,0,0,0,0,0,1,2,2,2,9,9,9,9,9,9,9,9,9,9,9,9,9,9,9,9,9,9,9,9] [9,9,9,9,9,9,9,9,9,9,9,9,9,9,9,9,9,9,9,9,0,0,0,0,0,0,0,0,0,0,1,0,0,0,0,0,1,2,2,2] (by kernel_rfl) (by kernel_rfl) (by kernel_rfl) (by kernel_rfl) (fun w' => w'.cell? ⟨ab, ao + i * 4, none⟩ = some (.int .i64 ya.kind) ∧ w'.cell? ⟨ab, ao + i * 4 + 1, none⟩ = some (.int .i64 ya.n) ∧ w'.cell? ⟨ab, ao + i * 4 + 2, none⟩ = some (.slice pa ya.b.length pc) ∧ w'.cell? ⟨ab, ao + i * 4 + 3, none⟩ = some (.int .u64 ya.times)) (fun w' => w'.cell? ⟨bb, bo + i * 4, none⟩ = some (.int .i64 yb.kind) ∧ w'.cell? ⟨bb, bo + i * 4 + 1, none⟩ = some (.int .i64 yb.n) ∧ w'.cell? ⟨bb, bo + i * 4 + 2, none⟩ = some (.slice pb yb.b.length qc) ∧ w'.cell? ⟨bb, bo + i * 4 + 3, none⟩ = some (.int .u64 yb.times)) ⟨(hPa.non hKw).c0, (hPa.non hKw).c1, (hPa.non hKw).c2, (hPa.non hKw).c3⟩ ?_
          refine PB.out ?_
          repeat (first | (with_reducible refine pb_skip ?_) | ((with_reducible refine pb_k rfl ?_); intro K hK; apply Exists.intro; refine ⟨fun w' hC => ?_, ?_⟩; (obtain ⟨g1, g2, g3, g4⟩ := hC; go_simp; rfl); go_simp; refine hK _ ?_; clear hK K) | ((refine pb_ky (by rfl) ?_); intro K hK; apply Exists.intro; refine ⟨fun w' hC => ?_, ?_⟩; (obtain ⟨g1, g2, g3, g4⟩ := hC; go_simp; rfl); go_simp; refine hK _ ?_; clear hK K))
          with_reducible refine pb_nil ?_
          simp only [List.take_succ_cons, List.take_zero]
          refine CB.out ?_
          repeat (with_reducible refine cb_skip ?_)
          refine cb_ky (by rfl) fun K hK => ?_
          go_simp
          refine (do_calls d s1 ya pa pc _ hDd HS1.out (hPa.non hKw).bytes yaok).mono ?_
          rintro e wD ⟨rfl, hDn, hkD⟩
          replace hRx := hRx.one hDd hkD
          replace hRy := hRy.one hDd hkD
          replace hDc := hDc.other hDd hcd hkD
          replace hKw := Kp.dev hKw hdw hkD
          have hop := hPa.non hKw
          have z0 := hop.c0
          have z1 := hop.c1
          have z2 := hop.c2
          have z3 := hop.c3
          go_simp
          refine hK _ _ (fun _ => ⟨z0, z1, z2, z3⟩) ?_
          clear hK K z0 z1 z2 z3
          repeat (with_reducible refine cb_skip ?_)
          refine cb_ky (by rfl) fun K hK => ?_
          go_simp
          refine (tell_calls x s1 ya pa pc _ hRx HS1.out hop.bytes yaok).mono ?_
          rintro e wT ⟨rfl, hRn, hkT⟩
          replace hDd := hDn.ref hRx hkT
          replace hDc := hDc.ref hRx hkT
          replace hRy := hRy.other hRx hyx hkT
          replace hRx := hRn
          replace hKw := Kp.dev hKw hxw hkT
          replace hop := hPa.non hKw
          have z0 := hop.c0
          have z1 := hop.c1
          have z2 := hop.c2
          have z3 := hop.c3
          go_simp
          refine hK _ _ (fun _ => ⟨z0, z1, z2, z3⟩) ?_
          clear hK K z0 z1 z2 z3
          have oka := ya.run_ok yaok HS1.out
          clear HS1
          have HS1 := Lib.hid oka
          clear hop hkD hkT hDn hRn oka
          generalize (ya.run s1).1 = ra at *
          generalize (ya.run s1).2 = s1' at *
          repeat (with_reducible refine cb_skip ?_)
          refine cb_ky (by rfl) fun K hK => ?_
          go_simp
          refine hK _ _ (fun h => by cases h) ?_
          clear hK K
          with_reducible refine cb_step rfl fun K hK => ?_
          go_simp
          refine hK _ _ (fun h => by cases h) ?_
          clear hK K
          with_reducible refine cb_step rfl fun K hK => ?_
          go_simp
          refine hK _ _ (fun h => by cases h) ?_
          clear hK K
          with_reducible refine cb_nil ?_
          refine (And.intro ?_ ?_ : _ ∧ _)
          · exact ⟨(hPb.non hKw).c0, (hPb.non hKw).c1, (hPb.non hKw).c2, (hPb.non hKw).c3⟩
          refine PB.out ?_
          repeat (first | (with_reducible refine pb_skip ?_) | ((with_reducible refine pb_k rfl ?_); intro K hK; apply Exists.intro; refine ⟨fun w' hC => ?_, ?_⟩; (obtain ⟨g1, g2, g3, g4⟩ := hC; go_simp; rfl); go_simp; refine hK _ ?_; clear hK K) | ((refine pb_ky (by rfl) ?_); intro K hK; apply Exists.intro; refine ⟨fun w' hC => ?_, ?_⟩; (obtain ⟨g1, g2, g3, g4⟩ := hC; go_simp; rfl); go_simp; refine hK _ ?_; clear hK K))
          with_reducible refine pb_nil ?_
          simp only [List.drop_succ_cons, List.drop_zero]
          refine CB.out ?_
          repeat (with_reducible refine cb_skip ?_)
          refine cb_ky (by rfl) fun K hK => ?_
          go_simp
          refine (do_calls c s2 yb pb qc _ hDc HS2.out (hPb.non hKw).bytes ybok).mono ?_
          rintro e wD ⟨rfl, hDn, hkD⟩
          replace hRx := hRx.one hDc hkD
          replace hRy := hRy.one hDc hkD
          replace hDd := hDd.other hDc (fun e => hcd e.symm) hkD
          replace hKw := Kp.dev hKw hcw hkD
          have hop := hPb.non hKw
          have z0 := hop.c0
          have z1 := hop.c1
          have z2 := hop.c2
          have z3 := hop.c3
          go_simp
          refine hK _ _ (fun _ => ⟨z0, z1, z2, z3⟩) ?_
          clear hK K z0 z1 z2 z3
          repeat (with_reducible refine cb_skip ?_)
          refine cb_ky (by rfl) fun K hK => ?_
          go_simp
          refine (tell_calls y s2 yb pb qc _ hRy HS2.out hop.bytes ybok).mono ?_
          rintro e wT ⟨rfl, hRn, hkT⟩
          replace hDc := hDn.ref hRy hkT
          replace hDd := hDd.ref hRy hkT
          replace hRx := hRx.other hRy (fun e => hyx e.symm) hkT
          replace hRy := hRn
          replace hKw := Kp.dev hKw hyw hkT
          replace hop := hPb.non hKw
          have z0 := hop.c0
          have z1 := hop.c1
          have z2 := hop.c2
          have z3 := hop.c3
          go_simp
          refine hK _ _ (fun _ => ⟨z0, z1, z2, z3⟩) ?_
          clear hK K z0 z1 z2 z3
          have okb := yb.run_ok ybok HS2.out
          clear HS2
          have HS2 := Lib.hid okb
          clear hop hkD hkT hDn hRn okb
          generalize (yb.run s2).1 = rb at *
          generalize (yb.run s2).2 = s2' at *
          repeat (with_reducible refine cb_skip ?_)
          refine cb_ky (by rfl) fun K hK => ?_
          go_simp
          refine hK _ _ (fun h => by cases h) ?_
          clear hK K
          refine cb_ky (by rfl) fun K hK => ?_
          go_simp
          refine hK _ _ (fun h => by cases h) ?_
          clear hK K
          with_reducible refine cb_step rfl fun K hK => ?_
          go_simp
          refine hK _ _ (fun h => by cases h) ?_
          clear hK K
          with_reducible refine cb_nil ?_
          go_wp2_with fail
          exact ⟨⟨i + 1, s1', s2', by omega, by go_num, hDd, hRx, hDc, hRy, HS1.out, HS2.out, hKw⟩, by simp [intOf]; omega⟩
        · have ga : (i : Int) < (an : Int) := by omega
          have gb : ¬ (i : Int) < (bn : Int) := by omega
          have g0 : (0 : Int) ≤ (i : Int) := by omega
          have hxa : i < la.length := by have := hla.len; omega
          obtain ⟨ab, ao, pa, pc, rfl, hPa⟩ := hla.at_ i la[i] (List.getElem?_eq_getElem hxa)
          generalize la[i] = ya at hPa
          have yaok := hPa.ok
          go_wp2_with fail
          replace hKw := hKw.drew
          replace hDd := hDd.non (Kp.refl Non wr).drew
          replace hDc := hDc.non (Kp.refl Non wr).drew
          replace hRx := hRx.non (Kp.refl Non wr).drew
          replace hRy := hRy.non (Kp.refl Non wr).drew
          refine wp_region_chain2 20 [0,0,0,0,0,0,0,0,0,0,1,0,0,0,0,0,1,2,2,2,9,9,9,9,9,9,9,9,9,9,9,9,9,9,9,9,9,9,9,9] [9,9,9,9,9,9,9,9,9,9,9,9,9,9,9,9,9,9,9,9,0,0,0,0,0,0,0,0,0,0,1,0,0,0,0,0,1,2,2,2] (by kernel_rfl) (by kernel_rfl) (by kernel_rfl) (by kernel_rfl) (fun w' => w'.cell? ⟨ab, ao + i * 4, none⟩ = some (.int .i64 ya.kind) ∧ w'.cell? ⟨ab, ao + i * 4 + 1, none⟩ = some (.int .i64 ya.n) ∧ w'.cell? ⟨ab, ao + i * 4 + 2, none⟩ = some (.slice pa ya.b.length pc) ∧ w'.cell? ⟨ab, ao + i * 4 + 3, none⟩ = some (.int .u64 ya.times)) (fun _ => True) ⟨(hPa.non hKw).c0, (hPa.non hKw).c1, (hPa.non hKw).c2, (hPa.non hKw).c3⟩ ?_
          refine PB.out ?_
          repeat (first | (with_reducible refine pb_skip ?_) | ((with_reducible refine pb_k rfl ?_); intro K hK; apply Exists.intro; refine ⟨fun w' hC => ?_, ?_⟩; (obtain ⟨g1, g2, g3, g4⟩ := hC; go_simp; rfl); go_simp; refine hK _ ?_; clear hK K) | ((refine pb_ky (by rfl) ?_); intro K hK; apply Exists.intro; refine ⟨fun w' hC => ?_, ?_⟩; (obtain ⟨g1, g2, g3, g4⟩ := hC; go_simp; rfl); go_simp; refine hK _ ?_; clear hK K))
          with_reducible refine pb_nil ?_
          simp only [List.take_succ_cons, List.take_zero]
          refine CB.out ?_
          repeat (with_reducible refine cb_skip ?_)
          refine cb_ky (by rfl) fun K hK => ?_
          go_simp
          refine (do_calls d s1 ya pa pc _ hDd HS1.out (hPa.non hKw).bytes yaok).mono ?_
          rintro e wD ⟨rfl, hDn, hkD⟩
          replace hRx := hRx.one hDd hkD
          replace hRy := hRy.one hDd hkD
          replace hDc := hDc.other hDd hcd hkD
          replace hKw := Kp.dev hKw hdw hkD
          have hop := hPa.non hKw
          have z0 := hop.c0
          have z1 := hop.c1
          have z2 := hop.c2
          have z3 := hop.c3
          go_simp
          refine hK _ _ (fun _ => ⟨z0, z1, z2, z3⟩) ?_
          clear hK K z0 z1 z2 z3
          repeat (with_reducible refine cb_skip ?_)
          refine cb_ky (by rfl) fun K hK => ?_
          go_simp
          refine (tell_calls x s1 ya pa pc _ hRx HS1.out hop.bytes yaok).mono ?_
          rintro e wT ⟨rfl, hRn, hkT⟩
          replace hDd := hDn.ref hRx hkT
          replace hDc := hDc.ref hRx hkT
          replace hRy := hRy.other hRx hyx hkT
          replace hRx := hRn
          replace hKw := Kp.dev hKw hxw hkT
          replace hop := hPa.non hKw
          have z0 := hop.c0
          have z1 := hop.c1
          have z2 := hop.c2
          have z3 := hop.c3
          go_simp
          refine hK _ _ (fun _ => ⟨z0, z1, z2, z3⟩) ?_
          clear hK K z0 z1 z2 z3
          have oka := ya.run_ok yaok HS1.out
          clear HS1
          have HS1 := Lib.hid oka
          clear hop hkD hkT hDn hRn oka
          generalize (ya.run s1).1 = ra at *
          generalize (ya.run s1).2 = s1' at *
          repeat (with_reducible refine cb_skip ?_)
          refine cb_ky (by rfl) fun K hK => ?_
          go_simp
          refine hK _ _ (fun h => by cases h) ?_
          clear hK K
          with_reducible refine cb_step rfl fun K hK => ?_
          go_simp
          refine hK _ _ (fun h => by cases h) ?_
          clear hK K
          with_reducible refine cb_step rfl fun K hK => ?_
          go_simp
          refine hK _ _ (fun h => by cases h) ?_
          clear hK K
          with_reducible refine cb_nil ?_
          refine (And.intro ?_ ?_ : _ ∧ _)
          · exact trivial
          refine PB.out ?_
          repeat (with_reducible refine pb_skip ?_)
          iterate 5 ((refine pb_ky (by rfl) ?_); intro K hK; apply Exists.intro; refine ⟨fun w' hC => ?_, ?_⟩; (go_simp; rfl); go_simp; refine hK _ ?_; clear hK K)
          repeat (first | (with_reducible refine pb_skip ?_) | ((refine pb_kn (by rfl) ?_); intro K hK; go_simp; refine hK _ ?_; clear hK K))
          with_reducible refine pb_nil ?_
          simp only [List.drop_succ_cons, List.drop_zero]
          refine CB.out ?_
          repeat (with_reducible refine cb_skip ?_)
          refine cb_kn (by rfl) fun K hK => ?_
          go_simp
          refine hK _ _ ?_
          clear hK K
          repeat (with_reducible refine cb_skip ?_)
          refine cb_kn (by rfl) fun K hK => ?_
          go_simp
          refine hK _ _ ?_
          clear hK K
          repeat (with_reducible refine cb_skip ?_)
          refine cb_kn (by rfl) fun K hK => ?_
          go_simp
          refine hK _ _ ?_
          clear hK K
          refine cb_ky (by rfl) fun K hK => ?_
          go_simp
          refine hK _ _ (fun h => by cases h) ?_
          clear hK K
          with_reducible refine cb_step rfl fun K hK => ?_
          go_simp
          refine hK _ _ (fun h => by cases h) ?_
          clear hK K
          with_reducible refine cb_nil ?_
          go_wp2_with fail
          exact ⟨⟨i + 1, s1', s2, by omega, by go_num, hDd, hRx, hDc, hRy, HS1.out, HS2.out, hKw⟩, by simp [intOf]; omega⟩
        · have ga : ¬ (i : Int) < (an : Int) := by omega
          have gb : (i : Int) < (bn : Int) := by omega
          have g0 : (0 : Int) ≤ (i : Int) := by omega
          have hxb : i < lb.length := by have := hlb.len; omega
          obtain ⟨bb, bo, pb, qc, rfl, hPb⟩ := hlb.at_ i lb[i] (List.getElem?_eq_getElem hxb)
          generalize lb[i] = yb at hPb
          have ybok := hPb.ok
          go_wp2_with fail
          replace hKw := hKw.drew
          replace hDd := hDd.non (Kp.refl Non wr).drew
          replace hDc := hDc.non (Kp.refl Non wr).drew
          replace hRx := hRx.non (Kp.refl Non wr).drew
          replace hRy := hRy.non (Kp.refl Non wr).drew
          refine wp_region_chain2 20 [0,0,0,0,0,0,0,0,0,0,1,0,0,0,0,0,1,2,2,2,9,9,9,9,9,9,9,9,9,9,9,9,9,9,9,9,9,9,9,9] [9,9,9,9,9,9,9,9,9,9,9,9,9,9,9,9,9,9,9,9,0,0,0,0,0,0,0,0,0,0,1,0,0,0,0,0,1,2,2,2] (by kernel_rfl) (by kernel_rfl) (by kernel_rfl) (by kernel_rfl) (fun _ => True) (fun w' => w'.cell? ⟨bb, bo + i * 4, none⟩ = some (.int .i64 yb.kind) ∧ w'.cell? ⟨bb, bo + i * 4 + 1, none⟩ = some (.int .i64 yb.n) ∧ w'.cell? ⟨bb, bo + i * 4 + 2, none⟩ = some (.slice pb yb.b.length qc) ∧ w'.cell? ⟨bb, bo + i * 4 + 3, none⟩ = some (.int .u64 yb.times)) trivial ?_
          refine PB.out ?_
          repeat (first | (with_reducible refine pb_skip ?_) | ((with_reducible refine pb_k rfl ?_); intro K hK; apply Exists.intro; refine ⟨fun w' hC => ?_, ?_⟩; (go_simp; rfl); go_simp; refine hK _ ?_; clear hK K))
          repeat (first | (with_reducible refine pb_skip ?_) | ((refine pb_kn (by rfl) ?_); intro K hK; go_simp; refine hK _ ?_; clear hK K))
          with_reducible refine pb_nil ?_
          simp only [List.take_succ_cons, List.take_zero]
          refine CB.out ?_
          repeat (with_reducible refine cb_skip ?_)
          refine cb_kn (by rfl) fun K hK => ?_
          go_simp
          refine hK _ _ ?_
          clear hK K
          repeat (with_reducible refine cb_skip ?_)
          refine cb_kn (by rfl) fun K hK => ?_
          go_simp
          refine hK _ _ ?_
          clear hK K
          repeat (with_reducible refine cb_skip ?_)
          refine cb_kn (by rfl) fun K hK => ?_
          go_simp
          refine hK _ _ ?_
          clear hK K
          with_reducible refine cb_step rfl fun K hK => ?_
          go_simp
          refine hK _ _ (fun h => by cases h) ?_
          clear hK K
          with_reducible refine cb_step rfl fun K hK => ?_
          go_simp
          refine hK _ _ (fun h => by cases h) ?_
          clear hK K
          with_reducible refine cb_nil ?_
          refine (And.intro ?_ ?_ : _ ∧ _)
          · exact ⟨(hPb.non hKw).c0, (hPb.non hKw).c1, (hPb.non hKw).c2, (hPb.non hKw).c3⟩
          refine PB.out ?_
          repeat (first | (with_reducible refine pb_skip ?_) | ((with_reducible refine pb_k rfl ?_); intro K hK; apply Exists.intro; refine ⟨fun w' hC => ?_, ?_⟩; (obtain ⟨g1, g2, g3, g4⟩ := hC; go_simp; rfl); go_simp; refine hK _ ?_; clear hK K) | ((refine pb_ky (by rfl) ?_); intro K hK; apply Exists.intro; refine ⟨fun w' hC => ?_, ?_⟩; (obtain ⟨g1, g2, g3, g4⟩ := hC; go_simp; rfl); go_simp; refine hK _ ?_; clear hK K))
          with_reducible refine pb_nil ?_
          simp only [List.drop_succ_cons, List.drop_zero]
          refine CB.out ?_
          repeat (with_reducible refine cb_skip ?_)
          refine cb_ky (by rfl) fun K hK => ?_
          go_simp
          refine (do_calls c s2 yb pb qc _ hDc HS2.out (hPb.non hKw).bytes ybok).mono ?_
          rintro e wD ⟨rfl, hDn, hkD⟩
          replace hRx := hRx.one hDc hkD
          replace hRy := hRy.one hDc hkD
          replace hDd := hDd.other hDc (fun e => hcd e.symm) hkD
          replace hKw := Kp.dev hKw hcw hkD
          have hop := hPb.non hKw
          have z0 := hop.c0
          have z1 := hop.c1
          have z2 := hop.c2
          have z3 := hop.c3
          go_simp
          refine hK _ _ (fun _ => ⟨z0, z1, z2, z3⟩) ?_
          clear hK K z0 z1 z2 z3
          repeat (with_reducible refine cb_skip ?_)
          refine cb_ky (by rfl) fun K hK => ?_
          go_simp
          refine (tell_calls y s2 yb pb qc _ hRy HS2.out hop.bytes ybok).mono ?_
          rintro e wT ⟨rfl, hRn, hkT⟩
          replace hDc := hDn.ref hRy hkT
          replace hDd := hDd.ref hRy hkT
          replace hRx := hRx.other hRy (fun e => hyx e.symm) hkT
          replace hRy := hRn
          replace hKw := Kp.dev hKw hyw hkT
          replace hop := hPb.non hKw
          have z0 := hop.c0
          have z1 := hop.c1
          have z2 := hop.c2
          have z3 := hop.c3
          go_simp
          refine hK _ _ (fun _ => ⟨z0, z1, z2, z3⟩) ?_
          clear hK K z0 z1 z2 z3
          have okb := yb.run_ok ybok HS2.out
          clear HS2
          have HS2 := Lib.hid okb
          clear hop hkD hkT hDn hRn okb
          generalize (yb.run s2).1 = rb at *
          generalize (yb.run s2).2 = s2' at *
          repeat (with_reducible refine cb_skip ?_)
          refine cb_ky (by rfl) fun K hK => ?_
          go_simp
          refine hK _ _ (fun h => by cases h) ?_
          clear hK K
          refine cb_ky (by rfl) fun K hK => ?_
          go_simp
          refine hK _ _ (fun h => by cases h) ?_
          clear hK K
          with_reducible refine cb_step rfl fun K hK => ?_
          go_simp
          refine hK _ _ (fun h => by cases h) ?_
          clear hK K
          with_reducible refine cb_nil ?_
          go_wp2_with fail
          exact ⟨⟨i + 1, s1, s2', by omega, by go_num, hDd, hRx, hDc, hRy, HS1.out, HS2.out, hKw⟩, by simp [intOf]; omega⟩
        · have ga : ¬ (i : Int) < (an : Int) := by omega
          have gb : ¬ (i : Int) < (bn : Int) := by omega
          go_wp2_with fail
          refine (same_calls d x s1 _ hDd hRx HS1.out).mono ?_
          rintro e w5 ⟨rfl, hk5⟩
          go_wp2_with fail
          refine (same_calls c y s2 _ (hDc.non hk5) (hRy.non hk5) HS2.out).mono ?_
          rintro e w6 ⟨rfl, hk6⟩
          go_wp2_with fail
          refine (HL.out _).mono ?_
          rintro e w7 ⟨rfl, hk7⟩
          go_wp2_with fail
          go_ret
          exact ⟨rfl, ((hKw.trans hk5).trans hk6).trans hk7⟩

theorem clones_walk (l0 : Option Addr) (ln lc : Nat) (ll : List OpD) (aa : Option Addr) (an ac : Nat) (la : List OpD) (ba : Option Addr) (bn bc : Nat) (lb : List OpD) (w : World)
    (hll : Ops w l0 ln lc ll) (hla : Ops w aa an ac la) (hlb : Ops w ba bn bc lb) :
    Calls Try.prog 10 #[.slice l0 ln lc, .slice aa an ac, .slice ba bn bc] w (TruePost w) := by
  by_cases h : 50 < ln ∨ 50 < an ∨ 50 < bn
  · exact clones_long l0 ln lc aa an ac ba bn bc w h
  · exact clones_short l0 ln lc ll aa an ac la ba bn bc lb w (by omega) (by omega) (by omega) hll hla hlb

open Go.ChangeShapes Go.WideShapes Go.ChangeAt
set_option maxRecDepth 100000 in
theorem disk_clones_lifted (os : Os) (started : os.Started) (H : Type) (enc : TypeId × Value → H) :
    ReturnsInHanded {} Try.checked os 10 .any (Rows.diskClonesSpec.pre6 enc Try.prog Try.f10 Rows.diskClonesRow.domain false) (Rows.diskClonesSpec.post enc Try.prog Try.f10 false true false false) := by
  refine returnsInHanded_of_change_sized (C := Try.checked) own started (by kernel_rfl) Try.func10
    (ChangeSpec.witness6 (enc := enc) (C := Try.checked) false ⟨#[], #[.slice none 0 0, .slice none 0 0, .slice none 0 0], []⟩ 8 (by kernel_rfl) (by kernel_rfl) (by kernel_rfl) (by kernel_rfl)) ?_
  intro W base args ds gs before hval0 hW hcnd hsz0 _
  have hval : ∀ (j : Nat) t v, Try.f10.params[j]? = some t → args[j]? = some v → Value.okWide Try.prog W .any base t v := hval0
  have hsz : (DataW.weightsEach Try.prog (Try.f10.params.toList ++ Rows.diskClonesSpec.plain.varTypes Try.prog) (ds ++ gs)).all (· ≤ reachBytes) = true := hsz0
  have hW' := hW
  obtain ⟨p, q, hA0, hV, rfl, hfz, hnd⟩ := hW
  have hA : DataW.TrodAll enc Try.prog W 0 (fun _ => true) true Try.f10.params.toList args.toList ds p := hA0
  rw [Try.params10] at hA hval hsz
  obtain ⟨v0, vs0, d0, ds0, p0, q0, hargs, rfl, rfl, h0, r0⟩ := trodAll_cons hA
  obtain ⟨v1, vs1, d1, ds1, p1, q1, rfl, rfl, rfl, h1, r1⟩ := trodAll_cons r0
  obtain ⟨v2, vs2, d2, ds2, p2, q2, rfl, rfl, rfl, h2, r2⟩ := trodAll_cons r1
  obtain ⟨rfl, rfl, rfl⟩ := trodAll_nil r2
  obtain rfl : args = #[v0, v1, v2] := by cases args; simp_all
  obtain ⟨rfl, rfl⟩ := trodVars_none hV
  have lt0 : ∀ x ∈ p0, x.block < W.heap.size := by obtain ⟨m, hm⟩ := h0; exact DataW.trod_lt m _ _ _ hm
  have k0 := h0
  obtain ⟨a0, n0, c0, rfl⟩ := okWide_slice Try.underlying39 (hval 0 39 v0 rfl rfl)
  obtain ⟨l0, b0⟩ := ops_in h0 (fun x hx => by
    have := List.all_eq_true.1 hsz x (DataW.weights_mem_each (j := 0) (t := 39) (d := d0) rfl rfl x hx)
    simpa using this)
  have lt1 : ∀ x ∈ p1, x.block < W.heap.size := by obtain ⟨m, hm⟩ := h1; exact DataW.trod_lt m _ _ _ hm
  have k1 := h1
  obtain ⟨a1, n1, c1, rfl⟩ := okWide_slice Try.underlying39 (hval 1 39 v1 rfl rfl)
  obtain ⟨l1, b1⟩ := ops_in h1 (fun x hx => by
    have := List.all_eq_true.1 hsz x (DataW.weights_mem_each (j := 1) (t := 39) (d := d1) rfl rfl x hx)
    simpa using this)
  have lt2 : ∀ x ∈ p2, x.block < W.heap.size := by obtain ⟨m, hm⟩ := h2; exact DataW.trod_lt m _ _ _ hm
  have k2 := h2
  obtain ⟨a2, n2, c2, rfl⟩ := okWide_slice Try.underlying39 (hval 2 39 v2 rfl rfl)
  obtain ⟨l2, b2⟩ := ops_in h2 (fun x hx => by
    have := List.all_eq_true.1 hsz x (DataW.weights_mem_each (j := 2) (t := 39) (d := d2) rfl rfl x hx)
    simpa using this)
  clear hA0 hval0 hsz0
  refine (clones_walk a0 n0 c0 l0 a1 n1 c1 l1 a2 n2 c2 l2 W b0 b1 b2).mono fun e W' ⟨he, hk⟩ => ?_
  have bel := hk.below
  subst he
  exact ⟨_, rfl, _, _, _, [], _, [], hW', trodAll_mk1 (shut_bool Try.underlying4 _), (trodAll_cons_mk (Below.trod laidOut (by kernel_rfl) (of_decide_eq_true (by kernel_rfl)) k0 bel lt0)
    (trodAll_cons_mk (Below.trod laidOut (by kernel_rfl) (of_decide_eq_true (by kernel_rfl)) k1 bel lt1)
    (trodAll_cons_mk (Below.trod laidOut (by kernel_rfl) (of_decide_eq_true (by kernel_rfl)) k2 bel lt2)
    trodAll_mk0))), rfl, bel.frame _, fun h => by cases h⟩

theorem disk_clones : Rows.DiskClonesSaid :=
  OpenClaim.holds_of_wide 10 Try.f10 rfl rfl rfl rfl rfl rfl rfl ⟨rfl, rfl, rfl, rfl, rfl⟩ rfl rfl rfl rfl rfl (by kernel_rfl) Try.func10 (by kernel_rfl)
    (of_decide_eq_true (by kernel_rfl)) (by unfold Func.isWrapper; first | (rw [if_pos (by decide +kernel)]; kernel_rfl) | (rw [if_neg (by decide +kernel)]; exact ⟨rfl, rfl⟩))
    (fun os started H enc _ => disk_clones_lifted os started H enc)
#print axioms disk_clones
end Go.Proofs.Ytclbapmjhchokaa
