/-
  Are two shards to be merged? (cold)
-/
import Derived.Test.YtdijaillcajpaaaV3
import Derived.Test.YtdijaillcajpaaaE3
import Derived.Test.YtdijaillcajpaaaRC
namespace Go.Proofs.Ytdijaillcajpaaa
open Go.RowKit

def ColdP (R : RulV) (sh : List Shd) (c : Chg) (ok : Bool) : Prop := (ok = true → R.cold ≠ 0 ∧ ∃ (i : Nat) (hi : i + 1 < sh.length), c = ⟨2, sh[i].id, sh[i + 1].id, 0, 0, 0⟩) ∧ (ok = false → c = zeroC)
structure C6 (v bs bo : Nat) (cold : Int) (x y : ShdV) (w' : World) : Prop where
  v2 : w'.cell? ⟨v, 2, none⟩ = some (.int .i64 cold)
  s0 : w'.cell? ⟨bs, 0, none⟩ = some (.int .i64 x.id)
  s3 : w'.cell? ⟨bs, 3, none⟩ = some (.slice x.me.a x.me.n x.me.c)
  o0 : w'.cell? ⟨bo, 0, none⟩ = some (.int .i64 y.id)
  o3 : w'.cell? ⟨bo, 3, none⟩ = some (.slice y.me.a y.me.n y.me.c)
@[go_sem high] theorem field_ld1 (x : LoadV) (w : World) : (Instr.field 129 (valLd x) 1).run Try.prog w = .ok (.int .i64 x.co) w := by
  obtain ⟨a, b, c, d⟩ := x
  kernel_rfl
section
variable {v : Nat} {R : RulV} {sh : List Shd} {a : Option Addr} {c : Nat} {L : List ShdV} {la : Option Addr} {lc : Nat} {ll : List LoadV} {va : Option Addr} {vc : Nat} {vl : List Int} {w : World}
set_option maxRecDepth 100000 in
set_option maxHeartbeats 2000000 in
theorem vcold_calls (h : ViewAt w v R sh a c L la lc ll va vc vl) (hl256 : sh.length ≤ 1000000) (hR : 0 ≤ R.cold ∧ R.cold ≤ 1073741824) : Calls Try.prog 66 #[.pointer (some ⟨v, 0, none⟩)] w (DecOut (ColdP R sh) w) := by
  have hmax := h.row.max
  have hcap := h.row.cap
  have hLl := h.len
  obtain ⟨V, hV, hB0, hk0⟩ : ∃ V, w.alloc (.cells #[.int .i64 0, .int .i64 0, .int .i64 0, .int .i64 0, .int .i64 0, .int .i64 0] 32) = V ∧ Bx V w.heap.size 32 (encChg zeroC) ∧ Kp Non w V := ⟨_, rfl, Bx.new w _ (encChg zeroC), (Kp.refl _ _).alloc _⟩
  have hVV := h.non hk0
  obtain ⟨v0, v1, v2, v3, v4, v5, v6, v7⟩ := hVV.cells
  go_enter Try.func66, Try.ntmps66
  go_wp2_with fail
  clear hV v0 v1 v2 v3 v4 v5 v6 v7
  go_loopw [12] (fun v12 wr => ∃ k : Nat, k ≤ sh.length ∧ v12 = .int .i64 k ∧ Kp Non V wr) (fun v12 _ => sh.length - (intOf v12).toNat)
  case atStart => exact ⟨0, by omega, rfl, Kp.refl _ _⟩
  case round =>
    obtain ⟨k, hk, rfl, hkr⟩ := hrel
    have hB := hB0.non hkr
    have hVr := hVV.non hkr
    by_cases hlt : k < sh.length
    · have hkL : k < L.length := by omega
      have g : (k : Int) < (sh.length : Nat) := by omega
      obtain ⟨bl, ol, rfl⟩ := h.row.there (by omega)
      have hR5 := hVr.row
      have c0 := hR5.get (i := 0) (List.getElem?_eq_getElem hkL) rfl
      have c1 := hR5.get (i := 1) (List.getElem?_eq_getElem hkL) rfl
      have c2 := hR5.get (i := 2) (List.getElem?_eq_getElem hkL) rfl
      have c3 := hR5.get (i := 3) (List.getElem?_eq_getElem hkL) rfl
      have c4 := hR5.get (i := 4) (List.getElem?_eq_getElem hkL) rfl
      rw [Nat.add_zero] at c0
      have hx : sh[k] = L[k].pl := by
        have := congrArg (fun l => l[k]?) h.pl
        simp only [List.getElem?_map, List.getElem?_eq_getElem hkL, List.getElem?_eq_getElem hlt, Option.map_some, Option.some.injEq] at this
        exact this.symm
      have hxt := hVr.each _ (List.getElem_mem hkL)
      have HX := Lib.hid hx
      generalize L[k] = x at *
      clear hx
      obtain ⟨W, hW, hbx, hkW⟩ : ∃ W, wr.alloc (.cells #[.int .i64 x.id, .int .i64 x.fr, .int .i64 x.to, .slice x.me.a x.me.n x.me.c, .slice x.pa.a x.pa.n x.pa.c] 40) = W ∧ Bx W wr.heap.size 40 [.int .i64 x.id, .int .i64 x.fr, .int .i64 x.to, .slice x.me.a x.me.n x.me.c, .slice x.pa.a x.pa.n x.pa.c] ∧ Kp Non wr W := ⟨_, rfl, Bx.new wr _ [.int .i64 x.id, .int .i64 x.fr, .int .i64 x.to, .slice x.me.a x.me.n x.me.c, .slice x.pa.a x.pa.n x.pa.c], (Kp.refl _ _).alloc _⟩
      have hVW := hVr.non hkW
      obtain ⟨v0, v1, v2, v3, v4, v5, v6, v7⟩ := hVW.cells
      have HK := Lib.hid (hkr.trans hkW)
      have ek : IntKind.i64.wrap ((k : Int) + 1) = (k : Int) + 1 := by rw [IntKind.wrap_i64] <;> omega
      by_cases q0 : R.cold = 0
      · have e0 : (R.cold == 0) = true := by simpa using q0
        go_wp2_with fail
        go_roundw
        case rel => exact ⟨k + 1, by omega, by go_num, HK.out⟩
        case measure => simp [intOf]; omega
      · have e0 : (R.cold == 0) = false := by simpa using q0
        by_cases q1 : k + 1 = sh.length
        · have e1 : ((k : Int) + 1 == (sh.length : Int)) = true := by simp; omega
          have HQ := Lib.hid q1
          clear q1
          go_wp2_with fail
          go_roundw
          case rel => exact ⟨k + 1, by omega, by go_num, HK.out⟩
          case measure => simp [intOf]; omega
        · have e1 : ((k : Int) + 1 == (sh.length : Int)) = false := by simp; omega
          have hlt2 : k + 1 < sh.length := by omega
          have hkL2 : k + 1 < L.length := by omega
          have hR6 := hVW.row
          have b0 := hR6.get (i := 0) (List.getElem?_eq_getElem hkL2) rfl
          have b1 := hR6.get (i := 1) (List.getElem?_eq_getElem hkL2) rfl
          have b2 := hR6.get (i := 2) (List.getElem?_eq_getElem hkL2) rfl
          have b3 := hR6.get (i := 3) (List.getElem?_eq_getElem hkL2) rfl
          have b4 := hR6.get (i := 4) (List.getElem?_eq_getElem hkL2) rfl
          rw [Nat.add_zero] at b0
          have hy : sh[k + 1] = L[k + 1].pl := by
            have := congrArg (fun l => l[k + 1]?) h.pl
            simp only [List.getElem?_map, List.getElem?_eq_getElem hkL2, List.getElem?_eq_getElem hlt2, Option.map_some, Option.some.injEq] at this
            exact this.symm
          have hyt := hVW.each _ (List.getElem_mem hkL2)
          have HY := Lib.hid hy
          generalize L[k + 1] = y at *
          clear hy q1
          obtain ⟨U, hU, hby, hkU⟩ : ∃ U, W.alloc (.cells #[.int .i64 y.id, .int .i64 y.fr, .int .i64 y.to, .slice y.me.a y.me.n y.me.c, .slice y.pa.a y.pa.n y.pa.c] 40) = U ∧ Bx U W.heap.size 40 [.int .i64 y.id, .int .i64 y.fr, .int .i64 y.to, .slice y.me.a y.me.n y.me.c, .slice y.pa.a y.pa.n y.pa.c] ∧ Kp Non W U := ⟨_, rfl, Bx.new W _ [.int .i64 y.id, .int .i64 y.fr, .int .i64 y.to, .slice y.me.a y.me.n y.me.c, .slice y.pa.a y.pa.n y.pa.c], (Kp.refl _ _).alloc _⟩
          have e2 : ((k : Int) + 1).toNat = k + 1 := by omega
          have g2 : (k : Int) + 1 < (sh.length : Nat) := by omega
          have g3 : (0 : Int) ≤ (k : Int) + 1 := by omega
          have hVU := hVW.non hkU
          have hbU := hbx.non hkU
          have HC := Lib.hid (fun W' (q : Kp Non U W') => (⟨(hVU.non q).cells.2.2.1, (hbU.non q).shd.1, (hbU.non q).shd.2.2.2.1, (hby.non q).shd.1, (hby.non q).shd.2.2.2.1⟩ : C6 v wr.heap.size W.heap.size R.cold x y W'))
          have HE := Lib.hid (fun W' (q : Kp Non U W') => equalI_calls x.me.a x.me.n x.me.c x.me.l y.me.a y.me.n y.me.c y.me.l W' (((hxt.non hkW).non hkU).non q).1 ((hyt.non hkU).non q).1)
          have HLx := Lib.hid (fun W' (q : Kp Non U W') => vload_calls v x.id la lc ll W' (hVU.non q).cells.2.2.2.2.2.2.1 (hVU.non q).loads)
          have HLy := Lib.hid (fun W' (q : Kp Non U W') => vload_calls v y.id la lc ll W' (hVU.non q).cells.2.2.2.2.2.2.1 (hVU.non q).loads)
          have HF := Lib.hid (fun p q W' => few_calls p q R.cold hR W')
          go_wp2_with fail
          clear hU hW b0 b1 b2 b3 b4 c0 c1 c2 c3 c4 hR5 hR6 v0 v1 v2 v3 v4 v5 v6 v7 ek e2 g2 g3
          have hkUU := hkr.trans (hkW.trans hkU)
          have hBU := hB.non (hkW.trans hkU)
          obtain ⟨eb, heb⟩ : ∃ eb, decide (x.me.l = y.me.l) = eb := ⟨_, rfl⟩
          obtain ⟨fb, hfb⟩ : ∃ fb, fewB (loadOf ll x.id).co (loadOf ll y.id).co R.cold = fb := ⟨_, rfl⟩
          rw [heb] at HE
          have HF := Lib.hid (fun W' => HF.out (loadOf ll x.id).co (loadOf ll y.id).co W')
          rw [hfb] at HF
          generalize loadOf ll x.id = lx at *
          generalize loadOf ll y.id = ly at *
          clear heb hfb
          cases eb with
          | false =>
            refine wp_region_calm (by kernel_rfl) (by kernel_rfl) (fun W' => Kp Non U W') (Kp.drew (Kp.refl _ _)) (KB.out ?_)
            repeat (first | ((first | (with_reducible refine kb_k rfl ?_) | ((with_reducible refine kb_ky ?hg ?_); (case hg => simp [Region.wanted, yielded]; done))); intro K hK; apply Exists.intro; refine ⟨fun w' hC => ?_, ?_⟩; (obtain ⟨j1, j2, j3, j4, j5⟩ := HC.out w' hC; go_simp; first | (with_reducible exact ⟨hC, rfl⟩) | (with_reducible rfl) | (with_reducible exact hC) | ((with_reducible refine Calls.mono (HE.out w' hC) ?_); exact fun _ _ h => ⟨h.1, hC.trans h.2⟩) | ((with_reducible refine Calls.mono (HLx.out w' hC) ?_); exact fun _ _ h => ⟨h.1, hC.trans h.2⟩) | ((with_reducible refine Calls.mono (HLy.out w' hC) ?_); exact fun _ _ h => ⟨h.1, hC.trans h.2⟩) | ((with_reducible refine Calls.mono (HF.out w') ?_); exact fun _ _ h => ⟨h.1, hC.trans h.2⟩)); go_simp; refine hK _ ?_; clear hK K) | ((with_reducible refine kb_kn ?hg ?_); (case hg => simp [Region.wanted, yielded]; done); intro K hK; go_simp; refine hK _ ?_; clear hK K))
            with_reducible refine kb_nil ?_
            intro W1 hW1
            have HKK := Lib.hid (hkUU.trans hW1)
            clear HE HLx HLy HF
            go_wp2_with fail
            go_roundw
            case rel => exact ⟨k + 1, by omega, by go_num, HKK.out⟩
            case measure => simp [intOf]; omega
          | true =>
            cases fb with
            | false =>
              refine wp_region_calm (by kernel_rfl) (by kernel_rfl) (fun W' => Kp Non U W') (Kp.drew (Kp.refl _ _)) (KB.out ?_)
              repeat (first | ((first | (with_reducible refine kb_k rfl ?_) | ((with_reducible refine kb_ky ?hg ?_); (case hg => simp [Region.wanted, yielded]; done))); intro K hK; apply Exists.intro; refine ⟨fun w' hC => ?_, ?_⟩; (obtain ⟨j1, j2, j3, j4, j5⟩ := HC.out w' hC; go_simp; first | (with_reducible exact ⟨hC, rfl⟩) | (with_reducible rfl) | (with_reducible exact hC) | ((with_reducible refine Calls.mono (HE.out w' hC) ?_); exact fun _ _ h => ⟨h.1, hC.trans h.2⟩) | ((with_reducible refine Calls.mono (HLx.out w' hC) ?_); exact fun _ _ h => ⟨h.1, hC.trans h.2⟩) | ((with_reducible refine Calls.mono (HLy.out w' hC) ?_); exact fun _ _ h => ⟨h.1, hC.trans h.2⟩) | ((with_reducible refine Calls.mono (HF.out w') ?_); exact fun _ _ h => ⟨h.1, hC.trans h.2⟩)); go_simp; refine hK _ ?_; clear hK K) | ((with_reducible refine kb_kn ?hg ?_); (case hg => simp [Region.wanted, yielded]; done); intro K hK; go_simp; refine hK _ ?_; clear hK K))
              with_reducible refine kb_nil ?_
              intro W1 hW1
              have HKK := Lib.hid (hkUU.trans hW1)
              clear HE HLx HLy HF
              go_wp2_with fail
              go_roundw
              case rel => exact ⟨k + 1, by omega, by go_num, HKK.out⟩
              case measure => simp [intOf]; omega
            | true =>
              refine wp_region_calm (by kernel_rfl) (by kernel_rfl) (fun W' => Kp Non U W') (Kp.drew (Kp.refl _ _)) (KB.out ?_)
              repeat (first | ((first | (with_reducible refine kb_k rfl ?_) | ((with_reducible refine kb_ky ?hg ?_); (case hg => simp [Region.wanted, yielded]; done))); intro K hK; apply Exists.intro; refine ⟨fun w' hC => ?_, ?_⟩; (obtain ⟨j1, j2, j3, j4, j5⟩ := HC.out w' hC; go_simp; first | (with_reducible exact ⟨hC, rfl⟩) | (with_reducible rfl) | (with_reducible exact hC) | ((with_reducible refine Calls.mono (HE.out w' hC) ?_); exact fun _ _ h => ⟨h.1, hC.trans h.2⟩) | ((with_reducible refine Calls.mono (HLx.out w' hC) ?_); exact fun _ _ h => ⟨h.1, hC.trans h.2⟩) | ((with_reducible refine Calls.mono (HLy.out w' hC) ?_); exact fun _ _ h => ⟨h.1, hC.trans h.2⟩) | ((with_reducible refine Calls.mono (HF.out w') ?_); exact fun _ _ h => ⟨h.1, hC.trans h.2⟩)); go_simp; refine hK _ ?_; clear hK K) | ((with_reducible refine kb_kn ?hg ?_); (case hg => simp [Region.wanted, yielded]; done); intro K hK; go_simp; refine hK _ ?_; clear hK K))
              with_reducible refine kb_nil ?_
              intro W1 hW1
              have HK0 := Lib.hid (hk0.trans (hkUU.trans hW1))
              have HN := Lib.hid (hBU.non hW1)
              obtain ⟨f0, f1, f2, f3, f4, f5⟩ := HN.out.frChg
              obtain ⟨y0, y1, y2, y3, y4, y5⟩ := HN.out.chg
              have z0 := (HC.out _ hW1).s0
              have z1 := (HC.out _ hW1).o0
              clear HC HE HLx HLy HF
              go_wp2_with fail
              obtain ⟨W', hW', hB', hk'⟩ := HN.out.setChg ⟨2, x.id, y.id, 0, 0, 0⟩
              have hW' : _ = W' := hW'
              rw [hW']
              refine ⟨rfl, _, results_cell_chg (b := w.heap.size) (x := ⟨2, x.id, y.id, 0, 0, 0⟩) rfl _ _ rfl rfl hB', _, true, rfl, ⟨fun _ => ⟨q0, k, hlt2, by rw [HX.out, HY.out]; rfl⟩, fun h => by cases h⟩, Kp.comp HK0.out hk' (fun _ _ f => f) (fun i hi e => by have e : i = w.heap.size := e; omega)⟩
    · obtain rfl : k = sh.length := by omega
      obtain ⟨y0, y1, y2, y3, y4, y5⟩ := hB.chg
      obtain ⟨f0, f1, f2, f3, f4, f5⟩ := hB.frChg
      go_wp2_with fail
      obtain ⟨W', hW', hB', hk'⟩ := hB.setChg zeroC
      have hW' : _ = W' := hW'
      refine ⟨rfl, _, results_cell_chg (b := w.heap.size) (x := zeroC) rfl _ _ rfl rfl (hW' ▸ hB'), zeroC, false, rfl, ⟨(fun h => by cases h), fun _ => rfl⟩, Kp.comp (hk0.trans hkr) (hW' ▸ hk') (fun _ _ f => f) (fun i hi e => by have e : i = w.heap.size := e; omega)⟩
end
end Go.Proofs.Ytdijaillcajpaaa
