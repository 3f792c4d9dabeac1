/-
  DiskPlays: any calls on any device do what the document says. For every input.
-/
import Derived.Test.YtclbapmjhchokaaS6
import Derived.Test.YtclbapmjhchokaaG1
import Derived.Test.YtclbapmjhchokaaR1
namespace Go.Proofs.Ytclbapmjhchokaa
open Go.RowKit

namespace Plays
def roomOf (n : Int) : Int := 1 + n % 40
theorem roomfn_calls (n : Int) (w : World) (_h : 0 ≤ n) : Calls Try.prog 34 #[.int .u64 n] w fun e w' => e = .returned (.int .i64 (roomOf n)) ∧ w' = w := by
  go_enter Try.func34, Try.ntmps34
  go_wp2
  go_ret
  exact ⟨rfl, rfl⟩
theorem roomOf_bd (n : Int) : 1 ≤ roomOf n ∧ roomOf n ≤ 65536 := by unfold roomOf; omega
end Plays

open Plays in
set_option maxRecDepth 100000 in
set_option maxHeartbeats 16000000 in
theorem plays_walk (m : Int) (a : Option Addr) (n c : Nat) (l : List OpD) (w : World) (hl : Ops w a n c l) (hm : 0 ≤ m) :
    Calls Try.prog 7 #[.int .u64 m, .slice a n c] w (TruePost w) := by
  have HL := Lib.hid (fun W => lives_true W)
  have hnot := notB
  obtain ⟨hr1, hr2⟩ := roomOf_bd m
  have HRR := Lib.hid (fun W => roomfn_calls m W hm)
  go_enter Try.func7, Try.ntmps7
  go_wp2_with fail
  refine (HRR.out _).mono ?_
  rintro e w0 ⟨rfl, rfl⟩
  generalize roomOf m = r at *
  go_wp2_with fail
  refine (new_calls r _ hr1 hr2).mono ?_
  rintro e w1 ⟨rfl, hd1, hk1⟩
  have hdw : w0.heap.size ≤ w0.heap.size := Nat.le_refl _
  generalize hd : w0.heap.size = d at hd1
  have hdw' : w0.heap.size ≤ d := by omega
  clear hd hdw
  go_wp2_with fail
  refine (HRR.out _).mono ?_
  rintro e w2 ⟨rfl, rfl⟩
  go_wp2_with fail
  refine (refnew_calls r _).mono ?_
  rintro e w3 ⟨rfl, hx3, hk3⟩
  have hxw' : w0.heap.size ≤ w2.heap.size := hk1.size
  generalize hx : w2.heap.size = x at *
  have hd3 := hd1.non hk3
  replace hk3 := hk1.trans hk3
  clear hd1 hk1 hx
  have HI := Lib.hid (St.new_ok r (by omega) hr2)
  go_wp2_with fail
  go_loopw [23] (fun v23 wr => ∃ (i : Nat) (s : St), i ≤ n ∧ i ≤ 100 ∧ v23 = .int .i64 i ∧ Dev Non wr d s ∧ Ref wr x s ∧ s.ok ∧ Kp Non w0 wr) (fun v23 _ => n - (intOf v23).toNat)
  case atStart => exact ⟨0, _, Nat.zero_le _, by omega, rfl, hd3, hx3, HI.out, hk3⟩
  case round =>
    obtain ⟨i, s, hi, h100, rfl, hD, hX, hok, hK⟩ := hrel
    have HS := Lib.hid hok
    clear hok hd3 hx3 hk3 HI
    by_cases hlt : i < n
    · have hx0 : i < l.length := by have := hl.len; omega
      obtain ⟨b, o, ba, bc, rfl, hA⟩ := (hl.non hK).at_ i l[i] (List.getElem?_eq_getElem hx0)
      generalize l[i] = y at hA
      have c0 := hA.c0
      have c1 := hA.c1
      have c2 := hA.c2
      have c3 := hA.c3
      have g0 : (0 : Int) ≤ (i : Int) := by omega
      have g1 : (i : Int) < (n : Int) := by omega
      have hkW : Kp Non wr (wr.alloc (.cells (y.cells ba bc) 42)) := (Kp.refl Non wr).alloc _
      have hkA : Kp Non w0 (wr.alloc (.cells (y.cells ba bc) 42)) := hK.alloc _
      have hDA := hD.non hkW
      have hXA := hX.non hkW
      have hbA := hA.bytes.non hkW
      have hY : (wr.alloc (.cells (y.cells ba bc) 42)).heap[wr.heap.size]? = some (.cells (y.cells ba bc) 42 (0, 0)) := heap_alloc_new wr _
      have hYd : ¬ wr.heap.size = d := by have := hD.lt; omega
      have hYx : ¬ wr.heap.size = x := by have := hX.lt; omega
      have hyok := hA.ok
      clear hA hkW
      by_cases h50' : i = 100
      · have g2 : (100 : Int) ≤ (i : Int) := by omega
        clear h50'
        unfold OpD.cells at *
        go_wp2_with fail
        refine (HL.out _).mono ?_
        rintro e w6 ⟨rfl, hk6⟩
        go_wp2_with fail
        go_ret
        exact ⟨rfl, hkA.trans hk6⟩
      · have g2 : ¬ (100 : Int) ≤ (i : Int) := by omega
        clear h50'
        have hrok := y.run_ok hyok HS.out
        unfold OpD.cells at *
        go_wp2_with fail
        clear c0 c1 c2 c3
        generalize wr.alloc _ = wA at *
        have x0 : wA.cell? ⟨wr.heap.size, 0, none⟩ = some (.int .i64 y.kind) := cell_of_row _ _ 0 _ _ _ hY
        have x1 : wA.cell? ⟨wr.heap.size, 1, none⟩ = some (.int .i64 y.n) := cell_of_row _ _ 1 _ _ _ hY
        have x2 : wA.cell? ⟨wr.heap.size, 2, none⟩ = some (.slice ba y.b.length bc) := cell_of_row _ _ 2 _ _ _ hY
        have x3 : wA.cell? ⟨wr.heap.size, 3, none⟩ = some (.int .u64 y.times) := cell_of_row _ _ 3 _ _ _ hY
        refine wp_region_chain2 8 [0,0,1,0,0,1,2,2,9,9,9,9,9] [9,9,9,9,9,9,9,9,0,0,1,2,2] (by kernel_rfl) (by kernel_rfl) (by kernel_rfl) (by kernel_rfl) (fun w' => w'.cell? ⟨wr.heap.size, 0, none⟩ = some (.int .i64 y.kind) ∧ w'.cell? ⟨wr.heap.size, 1, none⟩ = some (.int .i64 y.n) ∧ w'.cell? ⟨wr.heap.size, 2, none⟩ = some (.slice ba y.b.length bc) ∧ w'.cell? ⟨wr.heap.size, 3, none⟩ = some (.int .u64 y.times)) (fun _ => True) ⟨x0, x1, x2, x3⟩ ?_
        repeat (first | (with_reducible refine pure_skip ?_) | ((first | (with_reducible refine pure_k rfl ?_) | (refine pure_ky (by rfl) ?_)); intro K hK; apply Exists.intro; refine ⟨fun w' hC => ?_, ?_⟩; (obtain ⟨g1, g2, g3, g4⟩ := hC; go_simp; rfl); go_simp; refine hK _ ?_; clear hK K))
        with_reducible refine pure_nil ?_
        simp only [List.take_succ_cons, List.take_zero]
        repeat (with_reducible refine chain_skip0 ?_)
        with_reducible refine chain_step rfl fun K hK => ?_
        go_simp
        refine (do_calls d s y ba bc _ (hDA.non (Kp.refl Non _).drew) HS.out (hbA.non (Kp.refl Non _).drew) hyok).mono ?_
        rintro e w5 ⟨rfl, hd5, hk5⟩
        have hxA' := hXA.non (Kp.refl Non wA).drew
        have hx5 := hxA'.one (hDA.non (Kp.refl Non _).drew) hk5
        have hb5 := (hbA.non (Kp.refl Non wA).drew).one (hDA.non (Kp.refl Non _).drew) hk5
        have hY5 := hk5.heap (k := wr.heap.size) hY hYd
        replace hk5 := Kp.dev hkA.drew hdw' hk5
        have x0' : w5.cell? ⟨wr.heap.size, 0, none⟩ = some (.int .i64 y.kind) := cell_of_row _ _ 0 _ _ _ hY5
        have x1' : w5.cell? ⟨wr.heap.size, 1, none⟩ = some (.int .i64 y.n) := cell_of_row _ _ 1 _ _ _ hY5
        have x2' : w5.cell? ⟨wr.heap.size, 2, none⟩ = some (.slice ba y.b.length bc) := cell_of_row _ _ 2 _ _ _ hY5
        have x3' : w5.cell? ⟨wr.heap.size, 3, none⟩ = some (.int .u64 y.times) := cell_of_row _ _ 3 _ _ _ hY5
        clear x0 x1 x2 x3
        go_simp
        refine hK _ _ (fun _ => ⟨x0', x1', x2', x3'⟩) ?_
        clear hK K
        repeat (with_reducible refine chain_skip0 ?_)
        with_reducible refine chain_step rfl fun K hK => ?_
        go_simp
        refine (tell_calls x s y ba bc _ hx5 HS.out hb5 hyok).mono ?_
        rintro e w6 ⟨rfl, hx6, hk6⟩
        have hd6 := hd5.ref hx5 hk6
        have hY6 := hk6.heap (k := wr.heap.size) hY5 hYx
        replace hk6 := Kp.dev hk5 hxw' hk6
        have x0 : w6.cell? ⟨wr.heap.size, 0, none⟩ = some (.int .i64 y.kind) := cell_of_row _ _ 0 _ _ _ hY6
        have x1 : w6.cell? ⟨wr.heap.size, 1, none⟩ = some (.int .i64 y.n) := cell_of_row _ _ 1 _ _ _ hY6
        have x2 : w6.cell? ⟨wr.heap.size, 2, none⟩ = some (.slice ba y.b.length bc) := cell_of_row _ _ 2 _ _ _ hY6
        have x3 : w6.cell? ⟨wr.heap.size, 3, none⟩ = some (.int .u64 y.times) := cell_of_row _ _ 3 _ _ _ hY6
        go_simp
        refine hK _ _ (fun _ => ⟨x0, x1, x2, x3⟩) ?_
        clear hK K x0 x1 x2 x3 x0' x1' x2' x3'
        generalize (y.run s).1 = rr at *
        generalize (y.run s).2 = s' at *
        repeat (with_reducible refine chain_skip0 ?_)
        with_reducible refine chain_step rfl fun K hK => ?_
        go_simp
        refine hK _ _ (fun h => by cases h) ?_
        clear hK K
        with_reducible refine chain_step rfl fun K hK => ?_
        go_simp
        refine hK _ _ (fun h => by cases h) ?_
        clear hK K
        with_reducible refine chain_nil ?_
        refine (And.intro trivial ?_ : _ ∧ _)
        repeat (first | (with_reducible refine pure_skip ?_) | ((first | (with_reducible refine pure_k rfl ?_) | (refine pure_ky (by rfl) ?_)); intro K hK; apply Exists.intro; refine ⟨fun w' _ => ?_, ?_⟩; (go_simp; rfl); go_simp; refine hK _ ?_; clear hK K))
        with_reducible refine pure_nil ?_
        simp only [List.drop_succ_cons, List.drop_zero]
        repeat (with_reducible refine chain_skip0 ?_)
        refine chain_ky (by rfl) fun K hK => ?_
        go_simp
        refine (same_calls d x s' _ hd6 hx6 hrok).mono ?_
        rintro e w7 ⟨rfl, hk7⟩
        go_simp
        refine hK _ _ (fun _ => trivial) ?_
        clear hK K
        refine chain_ky (by rfl) fun K hK => ?_
        go_simp
        refine hK _ _ (fun h => by cases h) ?_
        clear hK K
        with_reducible refine chain_step rfl fun K hK => ?_
        go_simp
        refine hK _ _ (fun h => by cases h) ?_
        clear hK K
        with_reducible refine chain_nil ?_
        go_wp2_with fail
        exact ⟨⟨i + 1, s', by omega, by omega, by go_num, hd6.non hk7, hx6.non hk7, hrok, hk6.trans hk7⟩, by simp [intOf]; omega⟩
    · have g1 : ¬ (i : Int) < (n : Int) := by omega
      go_wp2_with fail
      refine (HL.out _).mono ?_
      rintro e w6 ⟨rfl, hk6⟩
      go_wp2_with fail
      go_ret
      exact ⟨rfl, hK.trans hk6⟩

open Go.ChangeShapes Go.WideShapes Go.ChangeAt
set_option maxRecDepth 100000 in
theorem disk_plays_lifted (os : Os) (started : os.Started) (H : Type) (enc : TypeId × Value → H) :
    ReturnsInHanded {} Try.checked os 7 .any (Rows.diskPlaysSpec.pre6 enc Try.prog Try.f7 Rows.diskPlaysRow.domain false) (Rows.diskPlaysSpec.post enc Try.prog Try.f7 false true false false) := by
  refine returnsInHanded_of_change_sized (C := Try.checked) own started (by kernel_rfl) Try.func7
    (ChangeSpec.witness6 (enc := enc) (C := Try.checked) false ⟨#[], #[.int .u64 0, .slice none 0 0], []⟩ 8 (by kernel_rfl) (by kernel_rfl) (by kernel_rfl) (by kernel_rfl)) ?_
  intro W base args ds gs before hval0 hW hcnd hsz0 _
  have hval : ∀ (j : Nat) t v, Try.f7.params[j]? = some t → args[j]? = some v → Value.okWide Try.prog W .any base t v := hval0
  have hsz : (DataW.weightsEach Try.prog (Try.f7.params.toList ++ Rows.diskPlaysSpec.plain.varTypes Try.prog) (ds ++ gs)).all (· ≤ reachBytes) = true := hsz0
  have hW' := hW
  obtain ⟨p, q, hA0, hV, rfl, hfz, hnd⟩ := hW
  have hA : DataW.TrodAll enc Try.prog W 0 (fun _ => true) true Try.f7.params.toList args.toList ds p := hA0
  rw [Try.params7] at hA hval hsz
  obtain ⟨v0, vs0, d0, ds0, p0, q0, hargs, rfl, rfl, h0, r0⟩ := trodAll_cons hA
  obtain ⟨v1, vs1, d1, ds1, p1, q1, rfl, rfl, rfl, h1, r1⟩ := trodAll_cons r0
  obtain ⟨rfl, rfl, rfl⟩ := trodAll_nil r1
  obtain rfl : args = #[v0, v1] := by cases args; simp_all
  obtain ⟨rfl, rfl⟩ := trodVars_none hV
  have lt0 : ∀ x ∈ p0, x.block < W.heap.size := by obtain ⟨m, hm⟩ := h0; exact DataW.trod_lt m _ _ _ hm
  have k0 := h0
  obtain ⟨a0, rfl, _, _, w0⟩ := open_int Try.underlying40 (hval 0 40 v0 rfl rfl) h0
  simp only [Lit.wf, Bool.and_eq_true, decide_eq_true_eq] at w0
  have lt1 : ∀ x ∈ p1, x.block < W.heap.size := by obtain ⟨m, hm⟩ := h1; exact DataW.trod_lt m _ _ _ hm
  have k1 := h1
  obtain ⟨a1, n1, c1, rfl⟩ := okWide_slice Try.underlying39 (hval 1 39 v1 rfl rfl)
  obtain ⟨l1, b1⟩ := ops_in h1 (fun x hx => by
    have := List.all_eq_true.1 hsz x (DataW.weights_mem_each (j := 1) (t := 39) (d := d1) rfl rfl x hx)
    simpa using this)
  clear hA0 hval0 hsz0
  refine (plays_walk a0 a1 n1 c1 l1 W b1 w0.1).mono fun e W' ⟨he, hk⟩ => ?_
  have bel := hk.below
  subst he
  exact ⟨_, rfl, _, _, _, [], _, [], hW', trodAll_mk1 (shut_bool Try.underlying4 _), (trodAll_cons_mk (Below.trod laidOut (by kernel_rfl) (of_decide_eq_true (by kernel_rfl)) k0 bel lt0)
    (trodAll_cons_mk (Below.trod laidOut (by kernel_rfl) (of_decide_eq_true (by kernel_rfl)) k1 bel lt1)
    trodAll_mk0)), rfl, bel.frame _, fun h => by cases h⟩

theorem disk_plays : Rows.DiskPlaysSaid :=
  OpenClaim.holds_of_wide 7 Try.f7 rfl rfl rfl rfl rfl rfl rfl ⟨rfl, rfl, rfl, rfl, rfl⟩ rfl rfl rfl rfl rfl (by kernel_rfl) Try.func7 (by kernel_rfl)
    (of_decide_eq_true (by kernel_rfl)) (by unfold Func.isWrapper; first | (rw [if_pos (by decide +kernel)]; kernel_rfl) | (rw [if_neg (by decide +kernel)]; exact ⟨rfl, rfl⟩))
    (fun os started H enc _ => disk_plays_lifted os started H enc)
#print axioms disk_plays
end Go.Proofs.Ytclbapmjhchokaa
