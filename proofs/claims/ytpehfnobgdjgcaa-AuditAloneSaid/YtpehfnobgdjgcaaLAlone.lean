/-
  AuditAlone: what one client does alone goes together; and still does, when reads, or deeds that aren't done, are left out. For every input. (The frame: sframe.py.)
-/
import Derived.Test.YtpehfnobgdjgcaaW4
import Derived.Test.YtpehfnobgdjgcaaO1
namespace Go.Proofs.Ytpehfnobgdjgcaa
open Go.RowKit

theorem OwnR.addr {α : Type} {enc : α → List Value} {k : Nat} {w : World} {base n c : Nat} {e : TypeId} {a : Option Addr} {l : List α} (h : OwnR enc k w base e a n c l) (hn : 0 < n) : ∃ g, a = some ⟨g, 0, none⟩ ∧ base ≤ g := by
  rcases OwnR.lie h with ⟨_, h0, _⟩ | ⟨g, cur, e, hb, _⟩
  · omega
  · exact ⟨g, e, hb⟩
theorem zeroT_mem {es : List DeedV} {z k : Nat} {e : DeedV} (h : e ∈ zeroT es z k) : ∃ x ∈ es, e.da = x.da ∧ e.re = x.re := by
  unfold zeroT at h
  split at h
  · split at h
    · rename_i y hy
      split at h
      · rcases List.mem_or_eq_of_mem_set h with h | rfl
        · exact ⟨e, h, rfl, rfl⟩
        · exact ⟨y, List.mem_of_getElem? hy, rfl, rfl⟩
      · exact ⟨e, h, rfl, rfl⟩
    · exact ⟨e, h, rfl, rfl⟩
  · exact ⟨e, h, rfl, rfl⟩
theorem AloneSt.deedsR {W : World} {base n : Nat} {ds : List DeedV} {da : Option Addr} {dc lb : Nat} {la : Option Addr} {lc : Nat} (h : AloneSt W base n ds da dc lb la lc) {W' : World} (r : Kp Non W W') : Deeds W' da ds.length dc ds :=
  ⟨(OwnR.non h.deeds r).reads encDeed_len (by omega), fun d hd => ⟨(OwnR.non (h.texts d hd).1 r).reads encT_len (by omega), (OwnR.non (h.texts d hd).2 r).reads encT_len (by omega)⟩⟩
theorem AloneSt.livesR {W : World} {base n : Nat} {ds : List DeedV} {da : Option Addr} {dc lb : Nat} {la : Option Addr} {lc : Nat} (h : AloneSt W base n ds da dc lb la lc) {W' : World} (r : Kp Non W W') : Lives W' (some ⟨lb, 0, none⟩) 1 1 [⟨0, 1, ⟨la, ds.length, lc, ds.map ranD⟩⟩] :=
  ⟨(OwnR.non h.lives r).reads encLife_len (by omega), fun y hy => by
    obtain rfl := List.mem_singleton.1 hy
    refine ⟨(OwnR.non h.log r).reads encRan_len (by omega), fun q hq => ?_⟩
    obtain ⟨d, hd, rfl⟩ := List.mem_map.1 hq
    exact ⟨(OwnR.non (h.texts d hd).1 r).reads encT_len (by omega), (OwnR.non (h.texts d hd).2 r).reads encT_len (by omega)⟩⟩
/-- What region 10 reads. -/
structure A14 (b : Nat) (d : DeedV) (W : World) : Prop where
  d2 : W.cell? ⟨b, 2, none⟩ = some (.int .i64 d.op)
set_option maxRecDepth 100000 in
set_option maxHeartbeats 1000000 in
theorem alone_walk (a : Option Addr) (ln c : Nat) (l : List DoV) (x z : Int) (hx : 0 ≤ x ∧ x ≤ 18446744073709551615) (hz : 0 ≤ z ∧ z ≤ 18446744073709551615) (w : World) (hl : Reads encDo 4 w a ln c l) : Calls Try.prog 6 #[.slice a ln c, .int .u64 x, .int .u64 z] w (BoolOut true w) := by
  obtain rfl := hl.len
  obtain ⟨n, hn⟩ : ∃ n : Nat, 1 + x % 12 = n := Int.eq_ofNat_of_zero_le (by omega)
  obtain ⟨zn, hzn⟩ : ∃ m : Nat, z % 20 = m := Int.eq_ofNat_of_zero_le (by omega)
  have hnb : 1 ≤ n ∧ n ≤ 12 := by omega
  obtain ⟨iD, hiD, hzD, hsD, hbD⟩ := info_parts infoDeed
  have HA := Lib.hid (aalone_calls a c l n hnb w hl)
  have HNB := Lib.hid hnb
  go_enter Try.func6, Try.ntmps6
  go_wp2_with fail
  clear hn
  refine HA.out.mono ?_
  rintro e w1 ⟨ds, da, dc, lb, la, lc, rfl, hN, hS, hk1⟩
  have hd20 : ds.length ≤ 20 := by omega
  have HS := Lib.hid hS
  have HDe := Lib.hid fun W (r : Kp Non w1 W) => hS.deedsR r
  have HLi := Lib.hid fun W (r : Kp Non w1 W) => hS.livesR r
  have hcd := (hS.deedsR (Kp.refl _ _)).reads.cap
  have hmd := (hS.deedsR (Kp.refl _ _)).reads.max
  have HTx := Lib.hid hS.texts
  have HC := Lib.hid fun (W : World) (ea : Option Addr) (ec : Nat) (es : List DeedV) (r : Kp Non w1 W) (he : Deeds W ea es.length ec es) (h20 : es.length ≤ 20) (hf : ∀ b, Few ds es b) => by
    have := check_calls n ea ec es (some ⟨lb, 0, none⟩) 1 [⟨0, 1, ⟨la, ds.length, lc, ds.map ranD⟩⟩] W he (HLi.out W r) h20 (show 1 ≤ 12 by decide) (fun y hy => by obtain rfl := List.mem_singleton.1 hy; show (ds.map ranD).length ≤ 1000; rw [List.length_map]; omega)
    rw [few_check HS.out.al HNB.out.2 hf] at this
    exact this
  have HAl := Lib.hid hS.al
  clear hS HA hN HNB hnb
  have HC1 := Lib.hid (HC.out w1 da dc ds (Kp.refl _ _) (HDe.out _ (Kp.refl _ _)) hd20 fun b => Few.refl HAl.out b)
  go_wp2_with fail
  refine HC1.out.mono ?_
  rintro e w2 ⟨rfl, hk2⟩
  clear HC1
  go_wp2_with fail
  go_loopw [12, 41] (fun v12 v41 wr => ∃ k : Nat, k ≤ ds.length ∧ v41 = .int .i64 k ∧ (∃ fa m fc, v12 = .slice fa m fc ∧ Hid (m = (keepT ds zn k).length) ∧ OwnDs wr w1.heap.size fa m fc (keepT ds zn k)) ∧ Kp Non w1 wr) (fun _ v41 _ => ds.length - (intOf v41).toNat)
  case atStart => exact ⟨0, by omega, rfl, ⟨none, 0, 0, rfl, Lib.hid rfl, OwnR.nil _ _ _⟩, hk2⟩
  case round =>
    clear hk2
    obtain ⟨k, hk', rfl, ⟨fa, m, fc, rfl, hm, hO⟩, hkr⟩ := hrel
    have hml := keepT_len ds zn k
    rw [← hm.out] at hml
    by_cases hlt : k < ds.length
    · have g : (k : Int) < (ds.length : Nat) := by omega
      obtain ⟨db, dof, rfl⟩ := (HDe.out _ hkr).reads.there (by omega)
      obtain ⟨c0, c1, c2, c3, c4, c5, c6, c7, c8⟩ := (HDe.out _ hkr).cells hlt
      have HX := Lib.hid (List.getElem?_eq_getElem hlt)
      have HN := Lib.hid (BxD.new2 wr ds[k])
      generalize ds[k] = d at *
      go_upto_region 10 with (fail)
      obtain ⟨V, eV, hN, kV⟩ := HN.out
      rw [eV]
      have hkV := hkr.trans kV
      have hO := OwnR.non hO kV
      have HB := Lib.hid hN
      have wk : IntKind.u64.wrap (k : Int) = k := IntWalk.u64_in _ (by omega)
      clear eV HN hN c0 c1 c2 c3 c4 c5 c6 c7 c8 kV
      generalize wr.heap.size = b14 at *
      obtain ⟨n0, n1, n2, n3, n4, n5, n6, n7, n8⟩ := BxD.cells HB.out
      have hzV : b14 < V.heap.size := HB.out.lt
      have HK1 : Hid (d.op ≠ 1 ∨ k ≠ zn → keepT ds zn (k + 1) = keepT ds zn k ++ [d]) := Lib.hid fun h => by rw [keepT, HX.out]; exact if_pos h
      have HK2 : Hid (¬ (d.op ≠ 1 ∨ k ≠ zn) → keepT ds zn (k + 1) = keepT ds zn k) := Lib.hid fun h => by rw [keepT, HX.out]; exact if_neg h
      by_cases h1 : d.op = 1
      · have e1 : (d.op != 1) = false := by simp [h1]
        by_cases h2 : k = zn
        · have e2 : ((k : Int) != (zn : Int)) = false := by simp [h2]
          have HE := Lib.hid (HK2.out (by intro h; rcases h with h | h; exact h h1; exact h h2))
          clear h1 h2 HK1 HK2
          rw [← HE.out] at hO hm
          go_wp2_with fail
          go_roundw
          case rel => exact ⟨k + 1, by omega, by go_num, ⟨fa, m, fc, rfl, hm, hO⟩, hkV⟩
          case measure => simp [intOf]; omega
        · have e2 : ((k : Int) != (zn : Int)) = true := by simp; omega
          have HE := Lib.hid (HK1.out (.inr h2))
          clear h1 h2 HK1 HK2
          go_wp2_with (at_builtin; refine wpList_append_row (P := Try.prog) (enc := encDeed) rfl _ _ 22 rfl w1.heap.size 28 iD _ 104 Try.underlying22 hiD hzD hsD hbD rfl (by decide) encDeed_len encDeed_one fa m fc (keepT ds zn k) rfl (OwnR.non hO ((Kp.refl Non V).alloc _)) _ 1 1 [d] rfl (Reads.new (x := d) rfl rfl) (by omega) (by omega) (Nat.le_trans hkV.size ((Kp.refl Non V).alloc _).size) ?_; intro a3 c3 w3 hO3 hk3 _)
          have k3 : Kp Non w1 w3 := (hkV.alloc _).newer hk3 fun i hi => (hO.blk i hi).1
          rw [← HE.out] at hO3
          have hm3 : Hid (m + 1 = (keepT ds zn (k + 1)).length) := Lib.hid (by rw [HE.out, List.length_append, ← hm.out]; rfl)
          go_roundw
          case rel => exact ⟨k + 1, by omega, by go_num, ⟨a3, m + 1, c3, rfl, hm3, hO3⟩, k3⟩
          case measure => simp [intOf]; omega
      · have e1 : (d.op != 1) = true := by simp [h1]
        have HE := Lib.hid (HK1.out (.inl h1))
        clear h1 HK1 HK2
        go_wp2_with (at_builtin; refine wpList_append_row (P := Try.prog) (enc := encDeed) rfl _ _ 22 rfl w1.heap.size 28 iD _ 104 Try.underlying22 hiD hzD hsD hbD rfl (by decide) encDeed_len encDeed_one fa m fc (keepT ds zn k) rfl (OwnR.non hO ((Kp.refl Non V).alloc _)) _ 1 1 [d] rfl (Reads.new (x := d) rfl rfl) (by omega) (by omega) (Nat.le_trans hkV.size ((Kp.refl Non V).alloc _).size) ?_; intro a3 c3 w3 hO3 hk3 _)
        have k3 : Kp Non w1 w3 := (hkV.alloc _).newer hk3 fun i hi => (hO.blk i hi).1
        rw [← HE.out] at hO3
        have hm3 : Hid (m + 1 = (keepT ds zn (k + 1)).length) := Lib.hid (by rw [HE.out, List.length_append, ← hm.out]; rfl)
        go_roundw
        case rel => exact ⟨k + 1, by omega, by go_num, ⟨a3, m + 1, c3, rfl, hm3, hO3⟩, k3⟩
        case measure => simp [intOf]; omega
    · obtain rfl : k = ds.length := by omega
      obtain ⟨es, hes⟩ : ∃ es, keepT ds zn ds.length = es := ⟨_, rfl⟩
      have hfw := fun b => Few.keep HAl.out zn b
      rw [hes] at hO hm hfw
      obtain rfl : m = es.length := hm.out
      have HMe : Hid (∀ e ∈ es, e ∈ ds) := Lib.hid fun e he => by
        rw [← hes] at he
        obtain ⟨i, _, hi⟩ := keepT_mem ds.length e he
        exact List.mem_of_getElem? hi
      have HFw := Lib.hid hfw
      have h20 : es.length ≤ 20 := by omega
      have HDs : Hid (∀ (W : World) (zs : List DeedV), Kp Non w1 W → OwnDs W w1.heap.size fa es.length fc zs → zs.length = es.length → (∀ e ∈ zs, ∃ x ∈ es, e.da = x.da ∧ e.re = x.re) → Deeds W fa zs.length fc zs) := Lib.hid fun W zs r hO hl hz => ⟨by rw [hl]; exact hO.reads encDeed_len (by omega), fun e he => by
        obtain ⟨q, hq, e1, e2⟩ := hz e he
        have := HTx.out q (HMe.out q hq)
        exact ⟨by rw [e1]; exact (OwnR.non this.1 r).reads encT_len (by omega), by rw [e2]; exact (OwnR.non this.2 r).reads encT_len (by omega)⟩⟩
      have HC2 := Lib.hid (HC.out wr fa fc es hkr (HDs.out wr es hkr hO rfl fun e he => ⟨e, he, rfl, rfl⟩) h20 hfw)
      have hcf := (hO.reads encDeed_len (by omega)).cap
      have hmf := (hO.reads encDeed_len (by omega)).max
      have HO := Lib.hid hO
      clear hO hm hml hes hfw
      go_wp2_with fail
      refine HC2.out.mono ?_
      rintro e w3 ⟨rfl, hk3⟩
      have hO3 := OwnR.non HO.out hk3
      have hk3 := hkr.trans hk3
      clear HC2 HO
      go_wp2_with fail
      clear hkr
      go_loopw [72] (fun v72 wr => ∃ k : Nat, k ≤ es.length ∧ v72 = .int .i64 k ∧ Hid (OwnDs wr w1.heap.size fa es.length fc (zeroT es zn k)) ∧ Kp Non w1 wr) (fun v72 _ => es.length - (intOf v72).toNat)
      case atStart => exact ⟨0, by omega, rfl, Lib.hid (by rw [zeroT_get (fun h => by omega)]; exact hO3), hk3⟩
      case round =>
        clear hk3 hO3
        obtain ⟨k, hk', rfl, hO, hkr⟩ := hrel
        by_cases hlt : k < es.length
        · have g : (k : Int) < (es.length : Nat) := by omega
          obtain ⟨fb, rfl, hfb⟩ := hO.out.addr (by omega)
          have HX := Lib.hid (List.getElem?_eq_getElem hlt)
          have hz := zeroT_here (z := zn) HX.out
          generalize es[k] = d at *
          have c2 : wr.cell? ⟨fb, k * 9 + 2, none⟩ = some (.int .i64 d.op) := by have := (hO.out.reads encDeed_len (by omega)).get (i := 2) hz rfl; rw [Nat.zero_add] at this; exact this
          have c7 : wr.cell? ⟨fb, k * 9 + 7, none⟩ = some (.int .i64 d.en) := by have := (hO.out.reads encDeed_len (by omega)).get (i := 7) hz rfl; rw [Nat.zero_add] at this; exact this
          have f7 := hO.out.fz rfl (k * 9 + 7)
          have wk : IntKind.u64.wrap (k : Int) = k := IntWalk.u64_in _ (by omega)
          by_cases h1 : d.op = 1
          · have e1 : (d.op != 1) = false := by simp [h1]
            have HE := Lib.hid (zeroT_stay (z := zn) HX.out (.inl h1))
            clear h1 hz
            have hO := Lib.hid hO.out
            rw [← HE.out] at hO
            go_wp2_with fail
            go_roundw
            case rel => exact ⟨k + 1, by omega, by go_num, hO, hkr⟩
            case measure => simp [intOf]; omega
          · have e1 : (d.op != 1) = true := by simp [h1]
            by_cases h2 : k = zn
            · have e2 : ((k : Int) == (zn : Int)) = true := by simp [h2]
              have hza := zeroT_at HX.out h1 h2
              have hst := OwnR.set hO.out (k * 9 + 7) (.int .i64 0) (flat_set encDeed_len (j := 7) (x := d) (y := undone d) (v := .int .i64 0) (by omega) rfl _ k hz)
              have HE : Hid (OwnDs (wr.setCell ⟨fb, k * 9 + 7, none⟩ (.int .i64 0)) w1.heap.size (some ⟨fb, 0, none⟩) es.length fc (zeroT es zn (k + 1))) := Lib.hid (by rw [hza.2]; rw [hza.1] at hst; exact hst)
              have k9 : Kp Non w1 (wr.setCell ⟨fb, k * 9 + 7, none⟩ (.int .i64 0)) := hkr.setCell (p := ⟨fb, k * 9 + 7, none⟩) (.inr hfb) _
              clear h1 h2 hza hst hz hO
              go_wp2_with fail
              go_roundw
              case rel => exact ⟨k + 1, by omega, by go_num, HE, k9⟩
              case measure => simp [intOf]; omega
            · have e2 : ((k : Int) == (zn : Int)) = false := by simp; omega
              have HE := Lib.hid (zeroT_stay (z := zn) HX.out (.inr h2))
              clear h1 h2 hz
              have hO := Lib.hid hO.out
              rw [← HE.out] at hO
              go_wp2_with fail
              go_roundw
              case rel => exact ⟨k + 1, by omega, by go_num, hO, hkr⟩
              case measure => simp [intOf]; omega
        · obtain rfl : k = es.length := by omega
          have hlz := zeroT_len es zn es.length
          have hDz := HDs.out wr (zeroT es zn es.length) hkr hO.out hlz fun e he => zeroT_mem he
          have HC3 := HC.out wr fa fc (zeroT es zn es.length) hkr hDz (by rw [hlz]; exact h20) fun b => (HFw.out b).zero zn _
          rw [hlz] at HC3
          have HC3 := Lib.hid HC3
          clear hlz hDz hO
          go_wp2_with fail
          refine HC3.out.mono ?_
          rintro e w4 ⟨rfl, hk4⟩
          have hk4 := hk1.trans (hkr.trans hk4)
          clear HC3
          go_wp2_with fail
          refine (alives_calls w4).mono ?_
          rintro e w5 ⟨rfl, hk5⟩
          go_wp2_with fail
          go_ret
          exact ⟨rfl, hk4.trans hk5⟩
open Go.ChangeShapes Go.WideShapes Go.ChangeAt
set_option maxRecDepth 100000 in
theorem audit_alone_lifted (os : Os) (started : os.Started) (H : Type) (enc : TypeId × Value → H) :
    ReturnsInHanded {} Try.checked os 6 .any (Rows.auditAloneSpec.pre6 enc Try.prog Try.f6 Rows.auditAloneRow.domain false) (Rows.auditAloneSpec.post enc Try.prog Try.f6 false true false false) := by
  refine returnsInHanded_of_change_sized (C := Try.checked) own started (by kernel_rfl) Try.func6
    (ChangeSpec.witness6 (enc := enc) (C := Try.checked) false ⟨#[], #[.slice none 0 0, .int .u64 0, .int .u64 0], []⟩ 8 (by kernel_rfl) (by kernel_rfl) (by kernel_rfl) (by kernel_rfl)) ?_
  intro W base args ds gs before hval0 hW hcnd _ _
  have hval : ∀ (j : Nat) t v, Try.f6.params[j]? = some t → args[j]? = some v → Value.okWide Try.prog W .any base t v := hval0
  have hW' := hW
  obtain ⟨p, q, hA0, hV, rfl, hfz, hnd⟩ := hW
  have hA : DataW.TrodAll enc Try.prog W 0 (fun _ => true) true Try.f6.params.toList args.toList ds p := hA0
  rw [Try.params6] at hA hval
  obtain ⟨v0, vs0, d0, ds0, p0, q0, hargs, rfl, rfl, h0, r0⟩ := trodAll_cons hA
  obtain ⟨v1, vs1, d1, ds1, p1, q1, rfl, rfl, rfl, h1, r1⟩ := trodAll_cons r0
  obtain ⟨v2, vs2, d2, ds2, p2, q2, rfl, rfl, rfl, h2, r2⟩ := trodAll_cons r1
  obtain ⟨rfl, rfl, rfl⟩ := trodAll_nil r2
  obtain rfl : args = #[v0, v1, v2] := by cases args; simp_all
  obtain ⟨rfl, rfl⟩ := trodVars_none hV
  have lt0 : ∀ x ∈ p0, x.block < W.heap.size := by obtain ⟨m, hm⟩ := h0; exact DataW.trod_lt m _ _ _ hm
  have k0 := h0
  obtain ⟨a0, n0, c0, rfl⟩ := okWide_slice Try.underlying50 (hval 0 50 v0 rfl rfl)
  obtain ⟨l0, b0, i0⟩ := dos_in h0
  have lt1 : ∀ x ∈ p1, x.block < W.heap.size := by obtain ⟨m, hm⟩ := h1; exact DataW.trod_lt m _ _ _ hm
  have k1 := h1
  obtain ⟨a1, rfl, _, _, w1⟩ := open_int Try.underlying51 (hval 1 51 v1 rfl rfl) h1
  simp only [Lit.wf, Bool.and_eq_true, decide_eq_true_eq] at w1
  have lt2 : ∀ x ∈ p2, x.block < W.heap.size := by obtain ⟨m, hm⟩ := h2; exact DataW.trod_lt m _ _ _ hm
  have k2 := h2
  obtain ⟨a2, rfl, _, _, w2⟩ := open_int Try.underlying51 (hval 2 51 v2 rfl rfl) h2
  simp only [Lit.wf, Bool.and_eq_true, decide_eq_true_eq] at w2
  clear hA0 hval0
  refine (alone_walk a0 n0 c0 l0 a1 a2 w1 w2 W b0).mono fun e W' ⟨he, hk⟩ => ?_
  have bel := hk.below
  subst he
  exact ⟨_, rfl, _, _, _, [], _, [], hW', trodAll_mk1 (shut_bool Try.underlying4 _), (trodAll_cons_mk (Below.trod laidOut (by kernel_rfl) (of_decide_eq_true (by kernel_rfl)) k0 bel lt0)
    (trodAll_cons_mk (Below.trod laidOut (by kernel_rfl) (of_decide_eq_true (by kernel_rfl)) k1 bel lt1)
    (trodAll_cons_mk (Below.trod laidOut (by kernel_rfl) (of_decide_eq_true (by kernel_rfl)) k2 bel lt2)
    trodAll_mk0))), rfl, bel.frame _, fun h => by cases h⟩

theorem audit_alone : Rows.AuditAloneSaid :=
  OpenClaim.holds_of_wide 6 Try.f6 rfl rfl rfl rfl rfl rfl rfl ⟨rfl, rfl, rfl, rfl, rfl⟩ rfl rfl rfl rfl rfl (by kernel_rfl) Try.func6 (by kernel_rfl)
    (of_decide_eq_true (by kernel_rfl)) (by unfold Func.isWrapper; first | (rw [if_pos (by decide +kernel)]; kernel_rfl) | (rw [if_neg (by decide +kernel)]; exact ⟨rfl, rfl⟩))
    (fun os started H enc _ => audit_alone_lifted os started H enc)
#print axioms audit_alone
end Go.Proofs.Ytpehfnobgdjgcaa
