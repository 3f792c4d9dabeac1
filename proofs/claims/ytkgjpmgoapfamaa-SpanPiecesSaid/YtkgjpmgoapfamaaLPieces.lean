/-
  SpanPieces: any span in pieces of any number of blocks. For every input. (The frame: sframe.py.)
-/
import Derived.Test.YtkgjpmgoapfamaaE12
import Derived.Test.YtkgjpmgoapfamaaL0
namespace Go.Proofs.Ytkgjpmgoapfamaa
open Go.RowKit

theorem pn_eq {s : Sp} {m : Int} (hm : 1 ≤ m) (hs : s.1 < s.2) : (pn s m : Int) = (s.2 - s.1) / m + if (s.2 - s.1) % m = 0 then 0 else 1 := by
  have h0 : 0 ≤ (s.2 - s.1) / m := Int.ediv_nonneg (by omega) (by omega)
  unfold pn
  split <;> omega
theorem cp_width {s : Sp} {m : Int} (hm : 1 ≤ m) (hs : s.1 < s.2) {k : Nat} (h : k < pn s m) : cp s m (k + 1) - cp s m k ≤ m := by
  rw [cp_step hm hs h]
  split <;> omega
theorem cp_full {s : Sp} {m : Int} (hm : 1 ≤ m) (hs : s.1 < s.2) {k : Nat} (h : k + 1 < pn s m) : cp s m (k + 1) - cp s m k = m := by
  rw [cp_in hm hs h, cp_in hm hs (by omega)]
  have e : ((k + 1 : Nat) : Int) * m = k * m + m := by rw [Int.natCast_add, Int.add_mul]; simp
  omega
theorem pcs_at (s : Sp) (m : Int) (K : Nat) {k : Nat} (h : k < (pcs s m K).length) : (pcs s m K)[k] = (cp s m k, cp s m (k + 1)) := by simp [pcs]

set_option maxRecDepth 100000 in
set_option maxHeartbeats 1000000 in
theorem pieces_walk (s : Sp) (m : Int) (w : World) (hs1 : -9223372036854775808 ≤ s.1) (hs2 : s.2 ≤ 9223372036854775807) (hm2 : m ≤ 9223372036854775807) : Calls Try.prog 12 #[valS s, .int .i64 m] w (BoolOut true w) := by
  have hb0 := BoxS.new w s
  have hkb : Kp Non w (w.alloc (.cells #[.int .i64 s.1, .int .i64 s.2] 30)) := (Kp.refl _ _).alloc _
  have hlt := hb0.lt
  have HP := Lib.hid (fun W => pieces_calls s m W hs1 hs2 hm2)
  go_enter Try.func12, Try.ntmps12
  go_wp2_with fail
  generalize hW0 : (w.alloc (.cells #[.int .i64 s.1, .int .i64 s.2] 30)) = W0 at *
  generalize w.heap.size = bs at *
  have x0 := hb0.c0
  have x1 := hb0.c1
  refine (HP.out _).mono ?_
  rintro e w1 ⟨aL, cL, rfl, hO1, hk1⟩
  have hkw := hkb.trans hk1
  have hb1 := hb0.non hk1
  have y0 := hb1.c0
  have y1 := hb1.c1
  clear hW0 hb0 x0 x1
  have hb0 := hb1
  by_cases hm : m < 1
  · have HE : Hid (piecesL s m = []) := Lib.hid (if_pos hm)
    have hd : decide (m < 1) = true := decide_eq_true hm
    rw [HE.out] at hO1 ⊢
    go_wp2_with fail
    refine (lives_true w1).mono ?_
    rintro e w2 ⟨rfl, hk2⟩
    go_wp2_with fail
    go_ret
    exact ⟨rfl, hkw.trans hk2⟩
  · have hd : decide (m < 1) = false := decide_eq_false hm
    by_cases hs : s.2 ≤ s.1
    · have HE : Hid (piecesL s m = []) := Lib.hid (by unfold piecesL; rw [if_neg hm, if_pos hs])
      rw [HE.out] at hO1 ⊢
      go_wp2_with fail
      refine (lives_true w1).mono ?_
      rintro e w2 ⟨rfl, hk2⟩
      go_wp2_with fail
      go_ret
      exact ⟨rfl, hkw.trans hk2⟩
    · have hm1 : 1 ≤ m := by omega
      have hss : s.1 < s.2 := by omega
      have hpn := pn_eq hm1 hss
      have HL : Hid (piecesL s m = if pn s m ≤ 4096 then pcs s m (pn s m) else []) := Lib.hid (by unfold piecesL; rw [if_neg hm, if_neg hs])
      have hw1 : IntKind.u64.wrap (IntKind.u64.wrap s.2 - IntKind.u64.wrap s.1) = s.2 - s.1 := by simp only [IntKind.wrap_u64]; omega
      have hw2 : IntKind.u64.wrap m = m := by rw [IntKind.wrap_u64]; omega
      have hq : (s.2 - s.1).tdiv m = (s.2 - s.1) / m := Int.tdiv_eq_ediv_of_nonneg (by omega)
      have hr : (s.2 - s.1).tmod m = (s.2 - s.1) % m := Int.tmod_eq_emod_of_nonneg (by omega)
      have hq0 : 0 ≤ (s.2 - s.1) / m := Int.ediv_nonneg (by omega) (by omega)
      have hr0 := Int.emod_nonneg (s.2 - s.1) (show m ≠ 0 by omega)
      have hqr := Int.mul_ediv_add_emod (s.2 - s.1) m
      have hqm : (s.2 - s.1) / m ≤ m * ((s.2 - s.1) / m) := by
        have := Int.mul_le_mul_of_nonneg_right hm1 hq0
        rw [Int.one_mul] at this
        exact this
      have HZ := Lib.hid (cp_zero hss m)
      have HEn := Lib.hid (cp_end (s := s) hm1 hss (Nat.le_refl (pn s m)))
      have HLt := Lib.hid (fun i (h : i < pn s m) => (cp_lt (s := s) hm1 hss h).2.2)
      have HWi := Lib.hid (fun i (h : i < pn s m) => cp_width (s := s) hm1 hss h)
      have HFu := Lib.hid (fun i (h : i + 1 < pn s m) => cp_full (s := s) hm1 hss h)
      have HBd := Lib.hid (fun i => cp_le s m i)
      have HLo := Lib.hid (fun i (h : i < pn s m) => (cp_lt (s := s) hm1 hss h).2.1)
      have hpl := pcs_len s m (pn s m)
      generalize (s.2 - s.1) % m = r at *
      generalize (s.2 - s.1) / m = q at *
      have hdn : decide (s.2 ≤ s.1) = false := decide_eq_false hs
      clear hm
      by_cases hr1 : r = 0
      · rw [if_pos hr1] at hpn
        have hp1 : q = (pn s m : Int) := by omega
        have hp2 : (pn s m : Int) < 18446744073709551616 := by omega
        have hwq : IntKind.u64.wrap (pn s m : Int) = (pn s m : Int) := by rw [IntKind.wrap_u64]; omega
        subst hr1
        subst hp1
        clear hpn hqr hqm hq0
        by_cases hbig : 4096 < (pn s m : Int)
        · have HE : Hid (piecesL s m = []) := Lib.hid (by rw [HL.out, if_neg (by omega)])
          rw [HE.out] at hO1 ⊢
          go_wp2_with fail
          refine (lives_true w1).mono ?_
          rintro e w2 ⟨rfl, hk2⟩
          go_wp2_with fail
          go_ret
          exact ⟨rfl, hkw.trans hk2⟩
        · have hle : pn s m ≤ 4096 := by omega
          have hdb : decide (4096 < (pn s m : Int)) = false := decide_eq_false hbig
          have HE : Hid (piecesL s m = pcs s m (pn s m)) := Lib.hid (by rw [HL.out, if_pos hle])
          rw [HE.out] at hO1 ⊢
          have hR := hO1.reads encS_len (by omega)
          have hcR := hR.cap
          have hmR := hR.max
          have HAt := Lib.hid (fun k (h : k < (pcs s m (pn s m)).length) => pcs_at s m (pn s m) h)
          generalize pcs s m (pn s m) = L at *
          generalize pn s m = K at *
          obtain rfl := hpl
          have hbig : ¬ (4096 < (L.length : Int)) := hbig
          clear HL HP hO1 hk1 hb1 HE
          have HR := Lib.hid hR
          clear hR
          have hne : ((L.length : Int) != (L.length : Int)) = false := by simp
          go_wp2_with fail
          go_loopw [8, 65] (fun v8 v65 wr => ∃ k : Nat, k ≤ L.length ∧ v65 = .int .i64 k ∧ v8 = .int .i64 (cp s m k) ∧ Kp Non w1 wr) (fun _ v65 _ => L.length - (intOf v65).toNat)
          case atStart => exact ⟨0, by omega, rfl, by rw [HZ.out], Kp.refl _ _⟩
          case round =>
            obtain ⟨k, hk, rfl, rfl, hkr⟩ := hrel
            by_cases hlt2 : k < L.length
            · have g : (k : Int) < (L.length : Nat) := by omega
              have hRr := HR.out.non hkr
              have hat := HAt.out k hlt2
              obtain ⟨b, o, rfl⟩ := hRr.there (by omega)
              have c0 := Spans.c0 hRr hlt2
              have c1 := Spans.c1 hRr hlt2
              rw [hat] at c0 c1
              have hB0 := HLo.out k hlt2
              have hB1 := HLt.out k hlt2
              have hB2 := HWi.out k hlt2
              have hB3 := HBd.out (k + 1)
              have hB4 := HFu.out k
              have hkN : Kp Non w1 (wr.alloc (.cells #[.int .i64 (cp s m k), .int .i64 (cp s m (k + 1))] 30)) := hkr.alloc _
              have hwk : IntKind.i64.wrap ((k : Int) + 1) = (k : Int) + 1 := by rw [IntKind.wrap_i64]; omega
              have HC : Hid (cp s m (k + 1) = cp s m (k + 1)) := Lib.hid rfl
              clear hat hRr
              generalize cp s m k = c at *
              generalize hc' : cp s m (k + 1) = c' at *
              have hw5 : IntKind.u64.wrap (IntKind.u64.wrap c' - IntKind.u64.wrap c) = c' - c := by simp only [IntKind.wrap_u64]; omega
              have hd1 : decide (c' ≤ c) = false := by simp; omega
              have hd2 : decide (m < c' - c) = false := by simp; omega
              have HC := Lib.hid hc'
              clear hc'
              by_cases hlast : k + 1 < L.length
              · have hd3 : decide ((k : Int) + 1 < (L.length : Int)) = true := by simp; omega
                have hd4 : (c' - c != m) = false := by simp; exact hB4 hlast
                clear hB0 hB1 hB2 hB3 hB4 hlast
                go_wp2_with fail
                go_roundw
                case rel => exact ⟨k + 1, by omega, by go_num, by rw [HC.out], hkN⟩
                case measure => simp [intOf]; omega
              · have hd3 : decide ((k : Int) + 1 < (L.length : Int)) = false := by simp; omega
                clear hB0 hB1 hB2 hB3 hB4 hlast
                go_wp2_with fail
                go_roundw
                case rel => exact ⟨k + 1, by omega, by go_num, by rw [HC.out], hkN⟩
                case measure => simp [intOf]; omega
            · obtain rfl : k = L.length := by omega
              have hE := HEn.out
              have hbr := hb0.non hkr
              have z0 := hbr.c0
              have z1 := hbr.c1
              rw [hE]
              have hse : (s.2 == s.2) = true := beq_self_eq_true _
              clear hE hbr
              go_wp2_with fail
              refine (lives_true wr).mono ?_
              rintro e w2 ⟨rfl, hk2⟩
              go_wp2_with fail
              go_ret
              exact ⟨rfl, hkw.trans (hkr.trans hk2)⟩
      · rw [if_neg hr1] at hpn
        have hqq : q < 18446744073709551615 := by
          by_cases h2 : q = 0
          · omega
          · by_cases h3 : m = 1
            · subst h3; omega
            · have := Int.mul_le_mul_of_nonneg_right (show 2 ≤ m by omega) hq0
              omega
        have hwq : IntKind.u64.wrap (pn s m : Int) = (pn s m : Int) := by rw [IntKind.wrap_u64]; omega
        have hrn : (r != 0) = true := by simp; exact hr1
        have hwr : IntKind.u64.wrap r = r := by rw [IntKind.wrap_u64]; omega
        have hw3 : IntKind.u64.wrap q = q := by rw [IntKind.wrap_u64]; omega
        have hw4 : IntKind.u64.wrap (q + 1) = (pn s m : Int) := by rw [hpn, IntKind.wrap_u64]; omega
        clear hpn hqr hqm hq0 hr1
        by_cases hbig : 4096 < (pn s m : Int)
        · have HE : Hid (piecesL s m = []) := Lib.hid (by rw [HL.out, if_neg (by omega)])
          rw [HE.out] at hO1 ⊢
          go_wp2_with fail
          refine (lives_true w1).mono ?_
          rintro e w2 ⟨rfl, hk2⟩
          go_wp2_with fail
          go_ret
          exact ⟨rfl, hkw.trans hk2⟩
        · have hle : pn s m ≤ 4096 := by omega
          have hdb : decide (4096 < (pn s m : Int)) = false := decide_eq_false hbig
          have HE : Hid (piecesL s m = pcs s m (pn s m)) := Lib.hid (by rw [HL.out, if_pos hle])
          rw [HE.out] at hO1 ⊢
          have hR := hO1.reads encS_len (by omega)
          have hcR := hR.cap
          have hmR := hR.max
          have HAt := Lib.hid (fun k (h : k < (pcs s m (pn s m)).length) => pcs_at s m (pn s m) h)
          generalize pcs s m (pn s m) = L at *
          generalize pn s m = K at *
          obtain rfl := hpl
          have hbig : ¬ (4096 < (L.length : Int)) := hbig
          clear HL HP hO1 hk1 hb1 HE
          have HR := Lib.hid hR
          clear hR
          have hne : ((L.length : Int) != (L.length : Int)) = false := by simp
          go_wp2_with fail
          go_loopw [8, 65] (fun v8 v65 wr => ∃ k : Nat, k ≤ L.length ∧ v65 = .int .i64 k ∧ v8 = .int .i64 (cp s m k) ∧ Kp Non w1 wr) (fun _ v65 _ => L.length - (intOf v65).toNat)
          case atStart => exact ⟨0, by omega, rfl, by rw [HZ.out], Kp.refl _ _⟩
          case round =>
            obtain ⟨k, hk, rfl, rfl, hkr⟩ := hrel
            by_cases hlt2 : k < L.length
            · have g : (k : Int) < (L.length : Nat) := by omega
              have hRr := HR.out.non hkr
              have hat := HAt.out k hlt2
              obtain ⟨b, o, rfl⟩ := hRr.there (by omega)
              have c0 := Spans.c0 hRr hlt2
              have c1 := Spans.c1 hRr hlt2
              rw [hat] at c0 c1
              have hB0 := HLo.out k hlt2
              have hB1 := HLt.out k hlt2
              have hB2 := HWi.out k hlt2
              have hB3 := HBd.out (k + 1)
              have hB4 := HFu.out k
              have hkN : Kp Non w1 (wr.alloc (.cells #[.int .i64 (cp s m k), .int .i64 (cp s m (k + 1))] 30)) := hkr.alloc _
              have hwk : IntKind.i64.wrap ((k : Int) + 1) = (k : Int) + 1 := by rw [IntKind.wrap_i64]; omega
              have HC : Hid (cp s m (k + 1) = cp s m (k + 1)) := Lib.hid rfl
              clear hat hRr
              generalize cp s m k = c at *
              generalize hc' : cp s m (k + 1) = c' at *
              have hw5 : IntKind.u64.wrap (IntKind.u64.wrap c' - IntKind.u64.wrap c) = c' - c := by simp only [IntKind.wrap_u64]; omega
              have hd1 : decide (c' ≤ c) = false := by simp; omega
              have hd2 : decide (m < c' - c) = false := by simp; omega
              have HC := Lib.hid hc'
              clear hc'
              by_cases hlast : k + 1 < L.length
              · have hd3 : decide ((k : Int) + 1 < (L.length : Int)) = true := by simp; omega
                have hd4 : (c' - c != m) = false := by simp; exact hB4 hlast
                clear hB0 hB1 hB2 hB3 hB4 hlast
                go_wp2_with fail
                go_roundw
                case rel => exact ⟨k + 1, by omega, by go_num, by rw [HC.out], hkN⟩
                case measure => simp [intOf]; omega
              · have hd3 : decide ((k : Int) + 1 < (L.length : Int)) = false := by simp; omega
                clear hB0 hB1 hB2 hB3 hB4 hlast
                go_wp2_with fail
                go_roundw
                case rel => exact ⟨k + 1, by omega, by go_num, by rw [HC.out], hkN⟩
                case measure => simp [intOf]; omega
            · obtain rfl : k = L.length := by omega
              have hE := HEn.out
              have hbr := hb0.non hkr
              have z0 := hbr.c0
              have z1 := hbr.c1
              rw [hE]
              have hse : (s.2 == s.2) = true := beq_self_eq_true _
              clear hE hbr
              go_wp2_with fail
              refine (lives_true wr).mono ?_
              rintro e w2 ⟨rfl, hk2⟩
              go_wp2_with fail
              go_ret
              exact ⟨rfl, hkw.trans (hkr.trans hk2)⟩
open Go.ChangeShapes Go.WideShapes Go.ChangeAt
set_option maxRecDepth 100000 in
theorem span_pieces_lifted (os : Os) (started : os.Started) (H : Type) (enc : TypeId × Value → H) :
    ReturnsInHanded {} Try.checked os 12 .any (Rows.spanPiecesSpec.pre6 enc Try.prog Try.f12 Rows.spanPiecesRow.domain false) (Rows.spanPiecesSpec.post enc Try.prog Try.f12 false true false false) := by
  refine returnsInHanded_of_change_sized (C := Try.checked) own started (by kernel_rfl) Try.func12
    (ChangeSpec.witness6 (enc := enc) (C := Try.checked) false ⟨#[], #[.agg #[.int .i64 0, .int .i64 0], .int .i64 0], []⟩ 8 (by kernel_rfl) (by kernel_rfl) (by kernel_rfl) (by kernel_rfl)) ?_
  intro W base args ds gs before hval0 hW hcnd _ _
  have hval : ∀ (j : Nat) t v, Try.f12.params[j]? = some t → args[j]? = some v → Value.okWide Try.prog W .any base t v := hval0
  have hW' := hW
  obtain ⟨p, q, hA0, hV, rfl, hfz, hnd⟩ := hW
  have hA : DataW.TrodAll enc Try.prog W 0 (fun _ => true) true Try.f12.params.toList args.toList ds p := hA0
  rw [Try.params12] at hA hval
  obtain ⟨v0, vs0, d0, ds0, p0, q0, hargs, rfl, rfl, h0, r0⟩ := trodAll_cons hA
  obtain ⟨v1, vs1, d1, ds1, p1, q1, rfl, rfl, rfl, h1, r1⟩ := trodAll_cons r0
  obtain ⟨rfl, rfl, rfl⟩ := trodAll_nil r1
  obtain rfl : args = #[v0, v1] := by cases args; simp_all
  obtain ⟨rfl, rfl⟩ := trodVars_none hV
  have lt0 : ∀ x ∈ p0, x.block < W.heap.size := by obtain ⟨m, hm⟩ := h0; exact DataW.trod_lt m _ _ _ hm
  have k0 := h0
  obtain ⟨s0, rfl, i0⟩ := span_in (hval 0 30 v0 rfl rfl) h0
  have lt1 : ∀ x ∈ p1, x.block < W.heap.size := by obtain ⟨m, hm⟩ := h1; exact DataW.trod_lt m _ _ _ hm
  have k1 := h1
  obtain ⟨a1, rfl, _, _, w1⟩ := open_int Try.underlying3 (hval 1 3 v1 rfl rfl) h1
  simp only [Lit.wf, Bool.and_eq_true, decide_eq_true_eq] at w1
  clear hA0 hval0
  refine (pieces_walk s0 a1 W (by have := i0.1; unfold I64 at this; omega) (by have := i0.2; unfold I64 at this; omega) (by rw [show IntKind.i64.max = 9223372036854775807 by kernel_rfl] at w1; exact w1.2)).mono fun e W' ⟨he, hk⟩ => ?_
  have bel := hk.below
  subst he
  exact ⟨_, rfl, _, _, _, [], _, [], hW', trodAll_mk1 (shut_bool Try.underlying4 _), (trodAll_cons_mk (Below.trod laidOut (by kernel_rfl) (of_decide_eq_true (by kernel_rfl)) k0 bel lt0)
    (trodAll_cons_mk (Below.trod laidOut (by kernel_rfl) (of_decide_eq_true (by kernel_rfl)) k1 bel lt1)
    trodAll_mk0)), rfl, bel.frame _, fun h => by cases h⟩

theorem span_pieces : Rows.SpanPiecesSaid :=
  OpenClaim.holds_of_wide 12 Try.f12 rfl rfl rfl rfl rfl rfl rfl ⟨rfl, rfl, rfl, rfl, rfl⟩ rfl rfl rfl rfl rfl (by kernel_rfl) Try.func12 (by kernel_rfl)
    (of_decide_eq_true (by kernel_rfl)) (by unfold Func.isWrapper; first | (rw [if_pos (by decide +kernel)]; kernel_rfl) | (rw [if_neg (by decide +kernel)]; exact ⟨rfl, rfl⟩))
    (fun os started H enc _ => span_pieces_lifted os started H enc)
#print axioms span_pieces
end Go.Proofs.Ytkgjpmgoapfamaa
