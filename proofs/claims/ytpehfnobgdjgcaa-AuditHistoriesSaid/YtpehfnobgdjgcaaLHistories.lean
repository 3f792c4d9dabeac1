/-
  AuditHistories: the puts of any block in any lives, and those that took effect. For every input. (The frame: sframe.py.)
-/
import Derived.Test.YtpehfnobgdjgcaaH1
import Derived.Test.YtpehfnobgdjgcaaO0
namespace Go.Proofs.Ytpehfnobgdjgcaa
open Go.RowKit

theorem eq_putSelf (x : PutV) (w : World) : (Op.equal 41 (.agg #[.int .i64 x.sh, .int .i64 x.cl, .int .i64 x.sq, .int .i64 x.ref.1, .int .i64 x.ref.2, .string x.tx]) (.agg #[.int .i64 x.sh, .int .i64 x.cl, .int .i64 x.sq, .int .i64 x.ref.1, .int .i64 x.ref.2, .string x.tx])).run Try.prog w = .ok true w := by
  have hS : Try.prog.underlying 41 = some (.struct (Try.prog.fieldsOf 41)) := by kernel_rfl
  have hp : Try.prog.stoodInHeld 41 = false := by kernel_rfl
  show (Op.equalIn 10000 41 _ _).run Try.prog w = _
  rw [show (10000 : Nat) = 9999 + 1 from rfl, run_equalIn_agg w 9999 41 _ _ hS hp]
  simp only [Program.fieldsOf, Try.underlying41]
  go_simp
@[go_sem high] theorem run_neqPutSelf (x : PutV) (w : World) : (binOp .neq 41 (.agg #[.int .i64 x.sh, .int .i64 x.cl, .int .i64 x.sq, .int .i64 x.ref.1, .int .i64 x.ref.2, .string x.tx]) (.agg #[.int .i64 x.sh, .int .i64 x.cl, .int .i64 x.sq, .int .i64 x.ref.1, .int .i64 x.ref.2, .string x.tx])).run Try.prog w = .ok (.bool false) w := by
  have h : (Op.equalIn 10000 41 _ _).run Try.prog w = _ := eq_putSelf x w
  rw [run_neq_struct, h]
  rfl
@[go_sem] theorem guardPut : Try.prog.eqGuardType Try.prog.depth 41 = false := by kernel_rfl

structure RP (b o b' o' k : Nat) (x : PutV) (W : World) : Prop where
  p0 : W.cell? ⟨b, o + k * 6, none⟩ = some (.int .i64 x.sh)
  p1 : W.cell? ⟨b, o + k * 6 + 1, none⟩ = some (.int .i64 x.cl)
  p2 : W.cell? ⟨b, o + k * 6 + 2, none⟩ = some (.int .i64 x.sq)
  p3 : W.cell? ⟨b, o + k * 6 + 3, none⟩ = some (.int .i64 x.ref.1)
  p4 : W.cell? ⟨b, o + k * 6 + 4, none⟩ = some (.int .i64 x.ref.2)
  p5 : W.cell? ⟨b, o + k * 6 + 5, none⟩ = some (.string x.tx)
  q0 : W.cell? ⟨b', o' + k * 6, none⟩ = some (.int .i64 x.sh)
  q1 : W.cell? ⟨b', o' + k * 6 + 1, none⟩ = some (.int .i64 x.cl)
  q2 : W.cell? ⟨b', o' + k * 6 + 2, none⟩ = some (.int .i64 x.sq)
  q3 : W.cell? ⟨b', o' + k * 6 + 3, none⟩ = some (.int .i64 x.ref.1)
  q4 : W.cell? ⟨b', o' + k * 6 + 4, none⟩ = some (.int .i64 x.ref.2)
  q5 : W.cell? ⟨b', o' + k * 6 + 5, none⟩ = some (.string x.tx)

set_option maxRecDepth 100000 in
set_option maxHeartbeats 1000000 in
theorem histories_walk (a : Option Addr) (n c : Nat) (l : List LifeV) (block : Int) (w : World) (h : Lives w a n c l) : Calls Try.prog 4 #[.slice a n c, .int .i64 block] w (BoolOut true w) := by
  obtain rfl := h.reads.len
  have HC := Lib.hid (light_calls none a 0 c [] l w ⟨Reads.empty _, fun x hx => by cases hx⟩ h)
  go_enter Try.func4, Try.ntmps4
  go_wp2_with fail
  refine HC.out.mono ?_
  rintro e w1 ⟨b, rfl, hk1, hb⟩
  clear HC
  rcases b with _ | _
  · go_wp2_with fail
    refine (alives_calls w1).mono ?_
    rintro e w2 ⟨rfl, hk2⟩
    go_wp2_with fail
    go_ret
    exact ⟨rfl, hk1.trans hk2⟩
  have hl := (hb rfl).lives
  have hlog : ∀ y ∈ l, y.log.l.length ≤ 1000 := fun y hy => by have := (hb rfl).logs y hy; omega
  have HLen := Lib.hid fun all (q : histL l block = some all) => histL_len q (by omega) hlog
  have H1 := Lib.hid fun W (k : Kp Non w W) => history_calls a c l block W (h.non k) (by omega) hlog
  have H2 := Lib.hid fun W (k : Kp Non w W) => rHistory_calls a c l block W (h.non k) (by omega) hlog
  have hL : Hid (((histL l block).getD []).length ≤ 12000) := Lib.hid (by cases q : histL l block with | none => simp | some all => exact HLen.out all q)
  clear hb hl hlog HLen h
  generalize histL l block = r at *
  generalize hq : r.isSome = q at *
  have hqq : (q != q) = false := by simp
  go_wp2_with fail
  refine (H1.out _ hk1).mono ?_
  rintro e w2 ⟨ga, gn, gc, rfl, hO2, hk2⟩
  have hk2 := hk1.trans hk2
  go_wp2_with fail
  refine (H2.out _ hk2).mono ?_
  rintro e w3 ⟨ra, rn, rc, rfl, hO3, hk3⟩
  have hG := (hO2.reads encPut_len (by omega)).non hk3
  have hW := hO3.reads encPut_len (by omega)
  have hgn := hG.len
  have hrn := hW.len
  rw [hq]
  clear hq H1 H2 hO2 hO3
  generalize r.getD [] = L at *
  subst hgn hrn
  have hk3 := hk2.trans hk3
  clear hk1 hk2 r
  have hcg := hG.cap
  have hcr := hW.cap
  have hmg := hG.max
  have hmr := hW.max
  have e0 : ((L.length : Int) != (L.length : Nat)) = false := by simp
  have HKw := Lib.hid hk3
  have HG := Lib.hid fun W' (k : Kp Non w3 W') => hG.non k
  have HW := Lib.hid fun W' (k : Kp Non w3 W') => hW.non k
  clear hG hW
  go_wp2_with fail
  go_loopw [41] (fun v41 wr => ∃ k : Nat, k ≤ L.length ∧ v41 = .int .i64 k ∧ Kp Non w3 wr) (fun v41 _ => L.length - (intOf v41).toNat)
  case atStart => exact ⟨0, by omega, rfl, Kp.refl _ _⟩
  case round =>
    obtain ⟨k, hk', rfl, hkr⟩ := hrel
    by_cases hlt : k < L.length
    · have g : (k : Int) < (L.length : Nat) := by omega
      obtain ⟨b, o, rfl⟩ := (HG.out _ hkr).there (by omega)
      obtain ⟨b', o', rfl⟩ := (HW.out _ hkr).there (by omega)
      have HC : Hid (∀ W, Kp Non wr W → RP b o b' o' k L[k] W) := Lib.hid fun W r => by
        obtain ⟨p0, p1, p2, p3, p4, p5⟩ := Puts_.cells (HG.out _ (hkr.trans r)) hlt
        obtain ⟨q0, q1, q2, q3, q4, q5⟩ := Puts_.cells (HW.out _ (hkr.trans r)) hlt
        exact ⟨p0, p1, p2, p3, p4, p5, q0, q1, q2, q3, q4, q5⟩
      generalize L[k] = x at *
      go_upto_region 10 with (fail)
      refine wp_region_pieces [(9, [0,0,0,0,0,0,0,0,0], RP b o b' o' k x)] (by kernel_rfl) (by kernel_rfl) ?_
      refine (And.intro ?_ ?_ : _ ∧ _)
      · exact HC.out _ (Kp.refl _ _).drew
      refine PB.out ?_
      repeat (first | (with_reducible refine pb_skip ?_) | ((first | (with_reducible refine pb_k rfl ?_) | ((with_reducible refine pb_ky ?hg ?_); (case hg => simp [Region.wanted, yielded]; done))); intro K hK; apply Exists.intro; refine ⟨fun w' hC => ?_, ?_⟩; (obtain ⟨p0, p1, p2, p3, p4, p5, q0, q1, q2, q3, q4, q5⟩ := hC; go_simp; rfl); go_simp; refine hK _ ?_; clear hK K) | ((with_reducible refine pb_kn ?hg ?_); (case hg => simp [Region.wanted, yielded]; done); intro K hK; go_simp; refine hK _ ?_; clear hK K))
      with_reducible refine pb_nil ?_
      simp only [List.take_succ_cons, List.take_zero, List.drop_zero]
      refine CB.out ?_
      repeat (with_reducible refine cb_skip ?_)
      with_reducible refine cb_nil ?_
      simp only [Then, wpPieces]
      go_wp2_with fail
      go_roundw
      case rel => exact ⟨k + 1, by omega, by go_num, hkr.drewN _⟩
      case measure => simp [intOf]; omega
    · obtain rfl : k = L.length := by omega
      have H1 := Lib.hid (effects_calls ga gc L wr (HG.out _ hkr) (by have := hL.out; omega))
      have H2 := Lib.hid fun W' (r : Kp Non wr W') => rEffects_calls ra rc L W' (HW.out _ (hkr.trans r)) (by have := hL.out; omega)
      have hML := Lib.hid (effL_len L)
      generalize effL L = M at *
      have kwr := Lib.hid (HKw.out.trans hkr)
      clear HG HW hcg hcr hmg hmr e0 hkr hk3
      go_wp2_with fail
      refine H1.out.mono ?_
      rintro e w4 ⟨ea, en, ec, rfl, hO4, hk4⟩
      go_wp2_with fail
      refine (H2.out _ hk4).mono ?_
      rintro e w5 ⟨fa, fn, fc, rfl, hO5, hk5⟩
      have hG := (hO4.reads encPut_len (by omega)).non hk5
      have hW := hO5.reads encPut_len (by omega)
      have hgn := hG.len
      have hrn := hW.len
      have HKw := Lib.hid (kwr.out.trans (hk4.trans hk5))
      clear hO4 hO5 H1 H2 kwr hk4 hk5
      subst hgn hrn
      have hcg := hG.cap
      have hcr := hW.cap
      have hmg := hG.max
      have hmr := hW.max
      have e0 : ((M.length : Int) != (M.length : Nat)) = false := by simp
      have HG := Lib.hid fun W' (k : Kp Non w5 W') => hG.non k
      have HW := Lib.hid fun W' (k : Kp Non w5 W') => hW.non k
      clear hG hW hL hML
      go_wp2_with fail
      go_loopw [65] (fun v65 wr => ∃ k : Nat, k ≤ M.length ∧ v65 = .int .i64 k ∧ Kp Non w5 wr) (fun v65 _ => M.length - (intOf v65).toNat)
      case atStart => exact ⟨0, by omega, rfl, Kp.refl _ _⟩
      case round =>
        obtain ⟨k, hk', rfl, hkr⟩ := hrel
        by_cases hlt : k < M.length
        · have g : (k : Int) < (M.length : Nat) := by omega
          obtain ⟨b, o, rfl⟩ := (HG.out _ hkr).there (by omega)
          obtain ⟨b', o', rfl⟩ := (HW.out _ hkr).there (by omega)
          have HC : Hid (∀ W, Kp Non wr W → RP b o b' o' k M[k] W) := Lib.hid fun W r => by
            obtain ⟨p0, p1, p2, p3, p4, p5⟩ := Puts_.cells (HG.out _ (hkr.trans r)) hlt
            obtain ⟨q0, q1, q2, q3, q4, q5⟩ := Puts_.cells (HW.out _ (hkr.trans r)) hlt
            exact ⟨p0, p1, p2, p3, p4, p5, q0, q1, q2, q3, q4, q5⟩
          generalize M[k] = x at *
          go_upto_region 19 with (fail)
          refine wp_region_pieces [(9, [0,0,0,0,0,0,0,0,0], RP b o b' o' k x)] (by kernel_rfl) (by kernel_rfl) ?_
          refine (And.intro ?_ ?_ : _ ∧ _)
          · exact HC.out _ (Kp.refl _ _).drew
          refine PB.out ?_
          repeat (first | (with_reducible refine pb_skip ?_) | ((first | (with_reducible refine pb_k rfl ?_) | ((with_reducible refine pb_ky ?hg ?_); (case hg => simp [Region.wanted, yielded]; done))); intro K hK; apply Exists.intro; refine ⟨fun w' hC => ?_, ?_⟩; (obtain ⟨p0, p1, p2, p3, p4, p5, q0, q1, q2, q3, q4, q5⟩ := hC; go_simp; rfl); go_simp; refine hK _ ?_; clear hK K) | ((with_reducible refine pb_kn ?hg ?_); (case hg => simp [Region.wanted, yielded]; done); intro K hK; go_simp; refine hK _ ?_; clear hK K))
          with_reducible refine pb_nil ?_
          simp only [List.take_succ_cons, List.take_zero, List.drop_zero]
          refine CB.out ?_
          repeat (with_reducible refine cb_skip ?_)
          with_reducible refine cb_nil ?_
          simp only [Then, wpPieces]
          go_wp2_with fail
          go_roundw
          case rel => exact ⟨k + 1, by omega, by go_num, hkr.drewN _⟩
          case measure => simp [intOf]; omega
        · obtain rfl : k = M.length := by omega
          have kwr := HKw.out.trans hkr
          clear HG HW
          go_wp2_with fail
          refine (alives_calls wr).mono ?_
          rintro e w6 ⟨rfl, hk6⟩
          go_wp2_with fail
          go_ret
          exact ⟨rfl, kwr.trans hk6⟩
open Go.ChangeShapes Go.WideShapes Go.ChangeAt
set_option maxRecDepth 100000 in
theorem audit_histories_lifted (os : Os) (started : os.Started) (H : Type) (enc : TypeId × Value → H) :
    ReturnsInHanded {} Try.checked os 4 .any (Rows.auditHistoriesSpec.pre6 enc Try.prog Try.f4 Rows.auditHistoriesRow.domain false) (Rows.auditHistoriesSpec.post enc Try.prog Try.f4 false true false false) := by
  refine returnsInHanded_of_change_sized (C := Try.checked) own started (by kernel_rfl) Try.func4
    (ChangeSpec.witness6 (enc := enc) (C := Try.checked) false ⟨#[], #[.slice none 0 0, .int .i64 0], []⟩ 8 (by kernel_rfl) (by kernel_rfl) (by kernel_rfl) (by kernel_rfl)) ?_
  intro W base args ds gs before hval0 hW hcnd _ _
  have hval : ∀ (j : Nat) t v, Try.f4.params[j]? = some t → args[j]? = some v → Value.okWide Try.prog W .any base t v := hval0
  have hW' := hW
  obtain ⟨p, q, hA0, hV, rfl, hfz, hnd⟩ := hW
  have hA : DataW.TrodAll enc Try.prog W 0 (fun _ => true) true Try.f4.params.toList args.toList ds p := hA0
  rw [Try.params4] at hA hval
  obtain ⟨v0, vs0, d0, ds0, p0, q0, hargs, rfl, rfl, h0, r0⟩ := trodAll_cons hA
  obtain ⟨v1, vs1, d1, ds1, p1, q1, rfl, rfl, rfl, h1, r1⟩ := trodAll_cons r0
  obtain ⟨rfl, rfl, rfl⟩ := trodAll_nil r1
  obtain rfl : args = #[v0, v1] := by cases args; simp_all
  obtain ⟨rfl, rfl⟩ := trodVars_none hV
  have lt0 : ∀ x ∈ p0, x.block < W.heap.size := by obtain ⟨m, hm⟩ := h0; exact DataW.trod_lt m _ _ _ hm
  have k0 := h0
  obtain ⟨a0, n0, c0, rfl⟩ := okWide_slice Try.underlying23 (hval 0 23 v0 rfl rfl)
  obtain ⟨l0, b0, i0⟩ := lives_in h0
  have lt1 : ∀ x ∈ p1, x.block < W.heap.size := by obtain ⟨m, hm⟩ := h1; exact DataW.trod_lt m _ _ _ hm
  have k1 := h1
  obtain ⟨a1, rfl, _, _, w1⟩ := open_int Try.underlying3 (hval 1 3 v1 rfl rfl) h1
  simp only [Lit.wf, Bool.and_eq_true, decide_eq_true_eq] at w1
  clear hA0 hval0
  refine (histories_walk a0 n0 c0 l0 a1 W ⟨b0, i0⟩).mono fun e W' ⟨he, hk⟩ => ?_
  have bel := hk.below
  subst he
  exact ⟨_, rfl, _, _, _, [], _, [], hW', trodAll_mk1 (shut_bool Try.underlying4 _), (trodAll_cons_mk (Below.trod laidOut (by kernel_rfl) (of_decide_eq_true (by kernel_rfl)) k0 bel lt0)
    (trodAll_cons_mk (Below.trod laidOut (by kernel_rfl) (of_decide_eq_true (by kernel_rfl)) k1 bel lt1)
    trodAll_mk0)), rfl, bel.frame _, fun h => by cases h⟩

theorem audit_histories : Rows.AuditHistoriesSaid :=
  OpenClaim.holds_of_wide 4 Try.f4 rfl rfl rfl rfl rfl rfl rfl ⟨rfl, rfl, rfl, rfl, rfl⟩ rfl rfl rfl rfl rfl (by kernel_rfl) Try.func4 (by kernel_rfl)
    (of_decide_eq_true (by kernel_rfl)) (by unfold Func.isWrapper; first | (rw [if_pos (by decide +kernel)]; kernel_rfl) | (rw [if_neg (by decide +kernel)]; exact ⟨rfl, rfl⟩))
    (fun os started H enc _ => audit_histories_lifted os started H enc)
#print axioms audit_histories
end Go.Proofs.Ytpehfnobgdjgcaa
