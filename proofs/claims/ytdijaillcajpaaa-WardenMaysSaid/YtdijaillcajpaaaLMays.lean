/-
  WardenMays: which rules there may be. For every input. (The frame: sframe.py.)
-/
import Derived.Test.YtdijaillcajpaaaV6
import Derived.Test.YtdijaillcajpaaaO0
namespace Go.Proofs.Ytdijaillcajpaaa
open Go.RowKit

set_option maxRecDepth 100000 in
set_option maxHeartbeats 1000000 in
theorem decide_nil (R : RulV) (w : World) : Calls Try.prog 32 #[.pointer none, valRul R, .slice none 0 0, .slice none 0 0] w (ValOut (.tuple #[valChg zeroC, .bool false]) w) := by
  obtain ⟨V, hV, hB, hk0⟩ : ∃ V, (w.alloc (.cells #[.int .i64 R.hot, .int .i64 R.cold, .int .i64 R.long, .int .i64 R.mute, .int .i64 R.cap] 64)).alloc (.cells #[.int .i64 0, .int .i64 0, .int .i64 0, .int .i64 0, .int .i64 0, .int .i64 0] 32) = V ∧ Bx V (w.heap.size + 1) 32 (encChg zeroC) ∧ Kp Non w V :=
    ⟨_, rfl, by rw [← World.size_alloc w]; exact Bx.new _ _ (encChg zeroC), ((Kp.refl _ _).alloc _).alloc _⟩
  go_enter Try.func32, Try.ntmps32
  go_wp2_with fail
  clear hV
  refine wp_region_calm (by kernel_rfl) (by kernel_rfl) (fun W' => Kp Non V W') (Kp.drew (Kp.refl _ _)) (KB.out ?_)
  repeat (first | ((first | (with_reducible refine kb_k rfl ?_) | ((with_reducible refine kb_ky ?hg ?_); (case hg => simp [Region.wanted, yielded]; done))); intro K hK; apply Exists.intro; refine ⟨fun w' hC => ?_, ?_⟩; (go_simp; first | (with_reducible exact ⟨hC, rfl⟩) | (with_reducible rfl) | (with_reducible exact hC)); go_simp; refine hK _ ?_; clear hK K) | ((with_reducible refine kb_kn ?hg ?_); (case hg => simp [Region.wanted, yielded]; done); intro K hK; go_simp; refine hK _ ?_; clear hK K))
  with_reducible refine kb_nil ?_
  intro W1 hW1
  have hbN := hB.non hW1
  obtain ⟨f0, f1, f2, f3, f4, f5⟩ := hbN.frChg
  obtain ⟨y0, y1, y2, y3, y4, y5⟩ := hbN.chg
  have HKK := Lib.hid hW1
  clear hW1
  go_wp2_with fail
  obtain ⟨W', hW', hB', hk'⟩ := hbN.setChg zeroC
  have hW' : _ = W' := hW'
  exact ⟨rfl, _, results_cell_chg (b := w.heap.size + 1) (x := zeroC) rfl _ _ rfl rfl (hW' ▸ hB'), rfl, Kp.comp (hk0.trans HKK.out) (hW' ▸ hk') (fun _ _ f => f) (fun i hi e => by have e : i = w.heap.size + 1 := e; omega)⟩
structure CMay (b0 b1 : Nat) (R : RulV) (w' : World) : Prop where
  r : CD b0 R w'
  c0 : w'.cell? ⟨b1, 0, none⟩ = some (.int .i64 0)
  c1 : w'.cell? ⟨b1, 1, none⟩ = some (.int .i64 0)
  c2 : w'.cell? ⟨b1, 2, none⟩ = some (.int .i64 0)
  c3 : w'.cell? ⟨b1, 3, none⟩ = some (.int .i64 0)
  c4 : w'.cell? ⟨b1, 4, none⟩ = some (.int .i64 0)
  c5 : w'.cell? ⟨b1, 5, none⟩ = some (.int .i64 0)
set_option maxRecDepth 100000 in
set_option maxHeartbeats 1000000 in
theorem mays_walk (R : RulV) (w : World) : Calls Try.prog 9 #[valRul R] w (BoolOut true w) := by
  go_enter Try.func9, Try.ntmps9
  obtain ⟨V, hV, hR, hk0⟩ : ∃ V, w.alloc (.cells #[.int .i64 R.hot, .int .i64 R.cold, .int .i64 R.long, .int .i64 R.mute, .int .i64 R.cap] 64) = V ∧ Bx V w.heap.size 64 [.int .i64 R.hot, .int .i64 R.cold, .int .i64 R.long, .int .i64 R.mute, .int .i64 R.cap] ∧ Kp Non w V :=
    ⟨_, rfl, Bx.new w _ [.int .i64 R.hot, .int .i64 R.cold, .int .i64 R.long, .int .i64 R.mute, .int .i64 R.cap], (Kp.refl _ _).alloc _⟩
  obtain ⟨r0, r1, r2, r3, r4⟩ := hR.rul
  go_wp2_with fail
  clear hV r0 r1 r2 r3 r4
  refine (decide_nil R V).mono ?_
  rintro e W1 ⟨rfl, hk1⟩
  go_wp2_with fail
  obtain ⟨U, hU, hB, hkU⟩ : ∃ U, W1.alloc (.cells #[.int .i64 zeroC.ki, .int .i64 zeroC.sh, .int .i64 zeroC.ot, .int .i64 zeroC.at_, .int .i64 zeroC.out, .int .i64 zeroC.inn] 32) = U ∧ Bx U W1.heap.size 32 (encChg zeroC) ∧ Kp Non W1 U := ⟨_, rfl, Bx.new _ _ (encChg zeroC), (Kp.refl _ _).alloc _⟩
  rw [hU]
  clear hU
  have hRU := (hR.non hk1).non hkU
  have HC := Lib.hid (fun W' (q : Kp Non U W') => (⟨(hRU.non q).rul, (hB.non q).chg.1, (hB.non q).chg.2.1, (hB.non q).chg.2.2.1, (hB.non q).chg.2.2.2.1, (hB.non q).chg.2.2.2.2.1, (hB.non q).chg.2.2.2.2.2⟩ : CMay w.heap.size W1.heap.size R W'))
  have HM := Lib.hid (fun W' => wMay_calls R W')
  have HN := Lib.hid (fun W' => rMay_calls R W')
  have HL := Lib.hid (fun W' => lives12_calls W')
  have heq : (mayB R == mayB R) = true := beq_self_eq_true _
  refine wp_region_calm (by kernel_rfl) (by kernel_rfl) (fun W' => Kp Non U W') (Kp.drew (Kp.refl _ _)) (KB.out ?_)
  repeat (first | ((first | (with_reducible refine kb_k rfl ?_) | ((with_reducible refine kb_ky ?hg ?_); (case hg => simp [Region.wanted, yielded]; done))); intro K hK; apply Exists.intro; refine ⟨fun w' hC => ?_, ?_⟩; (obtain ⟨⟨r0, r1, r2, r3, r4⟩, c0, c1, c2, c3, c4, c5⟩ := HC.out w' hC; go_simp; first | (with_reducible exact ⟨hC, rfl⟩) | (with_reducible rfl) | (with_reducible exact hC) | ((with_reducible refine Calls.mono (HM.out w') ?_); exact fun _ _ h => ⟨h.1, hC.trans h.2⟩) | ((with_reducible refine Calls.mono (HN.out w') ?_); exact fun _ _ h => ⟨h.1, hC.trans h.2⟩) | ((with_reducible refine Calls.mono (HL.out w') ?_); exact fun _ _ h => ⟨h.1, hC.trans h.2⟩)); go_simp; refine hK _ ?_; clear hK K) | ((with_reducible refine kb_kn ?hg ?_); (case hg => simp [Region.wanted, yielded]; done); intro K hK; go_simp; refine hK _ ?_; clear hK K))
  with_reducible refine kb_nil ?_
  intro W2 hW2
  have hfin := ((hk0.trans hk1).trans hkU).trans hW2
  go_wp2_with fail
  go_ret
  exact ⟨rfl, hfin⟩
open Go.ChangeShapes Go.WideShapes Go.ChangeAt
set_option maxRecDepth 100000 in
theorem warden_mays_lifted (os : Os) (started : os.Started) (H : Type) (enc : TypeId × Value → H) :
    ReturnsInHanded {} Try.checked os 9 .any (Rows.wardenMaysSpec.pre6 enc Try.prog Try.f9 Rows.wardenMaysRow.domain false) (Rows.wardenMaysSpec.post enc Try.prog Try.f9 false true false false) := by
  refine returnsInHanded_of_change_sized (C := Try.checked) own started (by kernel_rfl) Try.func9
    (ChangeSpec.witness6 (enc := enc) (C := Try.checked) false ⟨#[], #[.agg #[.int .i64 0, .int .i64 0, .int .i64 0, .int .i64 0, .int .i64 0]], []⟩ 8 (by kernel_rfl) (by kernel_rfl) (by kernel_rfl) (by kernel_rfl)) ?_
  intro W base args ds gs before hval0 hW hcnd _ _
  have hval : ∀ (j : Nat) t v, Try.f9.params[j]? = some t → args[j]? = some v → Value.okWide Try.prog W .any base t v := hval0
  have hW' := hW
  obtain ⟨p, q, hA0, hV, rfl, hfz, hnd⟩ := hW
  have hA : DataW.TrodAll enc Try.prog W 0 (fun _ => true) true Try.f9.params.toList args.toList ds p := hA0
  rw [Try.params9] at hA hval
  obtain ⟨v0, vs0, d0, ds0, p0, q0, hargs, rfl, rfl, h0, r0⟩ := trodAll_cons hA
  obtain ⟨rfl, rfl, rfl⟩ := trodAll_nil r0
  obtain rfl : args = #[v0] := by cases args; simp_all
  obtain ⟨rfl, rfl⟩ := trodVars_none hV
  have lt0 : ∀ x ∈ p0, x.block < W.heap.size := by obtain ⟨m, hm⟩ := h0; exact DataW.trod_lt m _ _ _ hm
  have k0 := h0
  obtain ⟨x0, rfl, i0⟩ := rul_in (hval 0 64 v0 rfl rfl) h0
  clear hA0 hval0
  refine (mays_walk x0 W).mono fun e W' ⟨he, hk⟩ => ?_
  have bel := hk.below
  subst he
  exact ⟨_, rfl, _, _, _, [], _, [], hW', trodAll_mk1 (shut_bool Try.underlying4 _), (trodAll_cons_mk (Below.trod laidOut (by kernel_rfl) (of_decide_eq_true (by kernel_rfl)) k0 bel lt0)
    trodAll_mk0), rfl, bel.frame _, fun h => by cases h⟩

theorem warden_mays : Rows.WardenMaysSaid :=
  OpenClaim.holds_of_wide 9 Try.f9 rfl rfl rfl rfl rfl rfl rfl ⟨rfl, rfl, rfl, rfl, rfl⟩ rfl rfl rfl rfl rfl (by kernel_rfl) Try.func9 (by kernel_rfl)
    (of_decide_eq_true (by kernel_rfl)) (by unfold Func.isWrapper; first | (rw [if_pos (by decide +kernel)]; kernel_rfl) | (rw [if_neg (by decide +kernel)]; exact ⟨rfl, rfl⟩))
    (fun os started H enc _ => warden_mays_lifted os started H enc)
#print axioms warden_mays
end Go.Proofs.Ytdijaillcajpaaa
