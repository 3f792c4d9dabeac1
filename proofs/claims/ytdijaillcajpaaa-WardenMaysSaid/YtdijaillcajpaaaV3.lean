/-
  Is a shard to be split? (hot)
-/
import Derived.Test.YtdijaillcajpaaaV2
namespace Go.Proofs.Ytdijaillcajpaaa
open Go.RowKit

/-- What one shard more makes of the hottest one. -/
def hotF (R : RulV) (ll : List LoadV) (acc : Int × Chg × Bool) (s : Shd) : Int × Chg × Bool :=
  if R.hot = 0 ∨ s.to - s.fr < 2 ∨ (loadOf ll s.id).co < R.hot ∨ (acc.2.2 = true ∧ (loadOf ll s.id).co ≤ acc.1) then acc
  else ((loadOf ll s.id).co, ⟨1, s.id, 0, max (s.fr + 1) (min (loadOf ll s.id).mid (s.to - 1)), 0, 0⟩, true)
def hotL (R : RulV) (ll : List LoadV) (sh : List Shd) : Int × Chg × Bool := sh.foldl (hotF R ll) (0, zeroC, false)
def HotP (R : RulV) (ll : List LoadV) (sh : List Shd) (c : Chg) (ok : Bool) : Prop := c = (hotL R ll sh).2.1 ∧ ok = (hotL R ll sh).2.2
structure HotSt (R : RulV) (ll : List LoadV) (sh : List Shd) (w : World) (k : Nat) (t : Int) (o : Bool) (wr : World) : Prop where
  ex : ∃ c, (sh.take k).foldl (hotF R ll) (0, zeroC, false) = (t, c, o) ∧ Bx wr w.heap.size 32 (encChg c)
  kp : Kp Non w wr
section
variable {v : Nat} {R : RulV} {sh : List Shd} {a : Option Addr} {c : Nat} {L : List ShdV} {la : Option Addr} {lc : Nat} {ll : List LoadV} {va : Option Addr} {vc : Nat} {vl : List Int} {w : World}
set_option maxRecDepth 100000 in
set_option maxHeartbeats 2000000 in
theorem vhot_calls (h : ViewAt w v R sh a c L la lc ll va vc vl) (hbd : ∀ s ∈ sh, 0 ≤ s.fr ∧ s.fr < s.to ∧ s.to ≤ 256) : Calls Try.prog 65 #[.pointer (some ⟨v, 0, none⟩)] w (DecOut (HotP R ll sh) w) := by
  have hmax := h.row.max
  have hcap := h.row.cap
  have hLl := h.len
  obtain ⟨V, hV, hB0, hk0⟩ : ∃ V, w.alloc (.cells #[.int .i64 0, .int .i64 0, .int .i64 0, .int .i64 0, .int .i64 0, .int .i64 0] 32) = V ∧ Bx V w.heap.size 32 (encChg zeroC) ∧ Kp Non w V := ⟨_, rfl, Bx.new w _ (encChg zeroC), (Kp.refl _ _).alloc _⟩
  have hVV := h.non hk0
  obtain ⟨v0, v1, v2, v3, v4, v5, v6, v7⟩ := hVV.cells
  go_enter Try.func65, Try.ntmps65
  go_wp2_with fail
  clear hV v0 v1 v2 v3 v4 v5 v6 v7
  go_loopw [13, 4, 3] (fun v13 v4 v3 wr => ∃ (k : Nat) (t : Int) (o : Bool), k ≤ sh.length ∧ v13 = .int .i64 k ∧ v4 = .int .i64 t ∧ v3 = .bool o ∧ HotSt R ll sh w k t o wr) (fun v13 _ _ _ => sh.length - (intOf v13).toNat)
  case atStart => exact ⟨0, 0, false, by omega, rfl, rfl, rfl, ⟨⟨zeroC, rfl, hB0⟩, hk0⟩⟩
  case round =>
    obtain ⟨k, t, o, hk, rfl, rfl, rfl, hSt⟩ := hrel
    have hVr := h.non hSt.kp
    clear hB0 hk0 hVV
    by_cases hlt : k < sh.length
    · have hkL : k < L.length := by omega
      have g : (k : Int) < (sh.length : Nat) := by omega
      obtain ⟨bl, ol, rfl⟩ := h.row.there (by omega)
      have hR := hVr.row
      have c0 := hR.get (i := 0) (List.getElem?_eq_getElem hkL) rfl
      have c1 := hR.get (i := 1) (List.getElem?_eq_getElem hkL) rfl
      have c2 := hR.get (i := 2) (List.getElem?_eq_getElem hkL) rfl
      have c3 := hR.get (i := 3) (List.getElem?_eq_getElem hkL) rfl
      have c4 := hR.get (i := 4) (List.getElem?_eq_getElem hkL) rfl
      rw [Nat.add_zero] at c0
      have hx : sh[k] = L[k].pl := by
        have := congrArg (fun l => l[k]?) h.pl
        simp only [List.getElem?_map, List.getElem?_eq_getElem hkL, List.getElem?_eq_getElem hlt, Option.map_some, Option.some.injEq] at this
        exact this.symm
      have hxb := hbd _ (List.getElem_mem hlt)
      have HT : Hid ((sh.take (k + 1)).foldl (hotF R ll) (0, zeroC, false) = hotF R ll ((sh.take k).foldl (hotF R ll) (0, zeroC, false)) sh[k]) := Lib.hid (by rw [List.take_succ_eq_append_getElem hlt, List.foldl_append]; rfl)
      rw [hx] at hxb HT
      clear hx
      generalize L[k] = x at *
      have hxb : 0 ≤ x.fr ∧ x.fr < x.to ∧ x.to ≤ 256 := hxb
      obtain ⟨hx1, hx2, hx3⟩ := hxb
      obtain ⟨W, hW, hbx, hkW⟩ : ∃ W, wr.alloc (.cells #[.int .i64 x.id, .int .i64 x.fr, .int .i64 x.to, .slice x.me.a x.me.n x.me.c, .slice x.pa.a x.pa.n x.pa.c] 40) = W ∧ Bx W wr.heap.size 40 [.int .i64 x.id, .int .i64 x.fr, .int .i64 x.to, .slice x.me.a x.me.n x.me.c, .slice x.pa.a x.pa.n x.pa.c] ∧ Kp Non wr W := ⟨_, rfl, Bx.new wr _ [.int .i64 x.id, .int .i64 x.fr, .int .i64 x.to, .slice x.me.a x.me.n x.me.c, .slice x.pa.a x.pa.n x.pa.c], (Kp.refl _ _).alloc _⟩
      have hVW := hVr.non hkW
      have z0 := hbx.shd.1
      have HL := Lib.hid (vload_calls v x.id la lc ll W hVW.cells.2.2.2.2.2.2.1 hVW.loads)
      go_wp2_with fail
      refine HL.out.mono ?_
      rintro e W1 ⟨rfl, hk1⟩
      have hb1 := hbx.non hk1
      have hV1 := hVW.non hk1
      clear hW c0 c1 c2 c3 c4 hR z0 HL
      have HH : Hid (∀ acc, hotF R ll acc x.pl = if R.hot = 0 ∨ x.to - x.fr < 2 ∨ (loadOf ll x.id).co < R.hot ∨ (acc.2.2 = true ∧ (loadOf ll x.id).co ≤ acc.1) then acc else ((loadOf ll x.id).co, ⟨1, x.id, 0, max (x.fr + 1) (min (loadOf ll x.id).mid (x.to - 1)), 0, 0⟩, true)) := Lib.hid fun _ => rfl
      generalize loadOf ll x.id = y at *
      obtain ⟨V2, hV2, hby, hkV2⟩ : ∃ V2, W1.alloc (.cells #[.int .i64 y.sh, .int .i64 y.co, .int .i64 y.ins, .int .i64 y.mid] 129) = V2 ∧ Bx V2 W1.heap.size 129 (encLd y) ∧ Kp Non W1 V2 := ⟨_, rfl, Bx.new W1 _ (encLd y), (Kp.refl _ _).alloc _⟩
      have hb2 := hb1.non hkV2
      have hVV2 := hV1.non hkV2
      have hkV : Kp Non wr V2 := (hkW.trans hk1).trans hkV2
      obtain ⟨z0, z1, z2, z3, z4⟩ := hb2.shd
      obtain ⟨y0, y1, y2, y3⟩ := hby.ld
      have v1 := hVV2.cells.2.1
      have ew1 : IntKind.i64.wrap (x.to - x.fr) = x.to - x.fr := by rw [IntKind.wrap_i64] <;> omega
      clear hkW hk1 hkV2 hb1 hV1 hb2 hVV2 hbx hVW hVr
      by_cases q0 : R.hot = 0
      · have e0 : (R.hot == 0) = true := by simpa using q0
        have HQ := Lib.hid (hSt)
        clear hSt
        have HK2 := Lib.hid hkV
        go_wp2_with fail
        go_quiet (fail)
        go_wp2_with fail
        go_roundw
        case rel =>
          refine ⟨k + 1, t, o, by omega, by go_num, rfl, rfl, ?_⟩
          obtain ⟨cc, e1, e2⟩ := HQ.out.ex
          exact ⟨⟨cc, by rw [HT.out, e1]; rw [HH.out]; exact if_pos (.inl q0), (Bx.non e2 (HK2.out.trans (Kp.drewN (Kp.refl _ _) _)))⟩, HQ.out.kp.trans (HK2.out.trans (Kp.drewN (Kp.refl _ _) _))⟩
        case measure => simp [intOf]; omega
      · have e0 : (R.hot == 0) = false := by simpa using q0
        by_cases q1 : x.to - x.fr < 2
        · have d1 : decide (x.to - x.fr < 2) = true := by simpa using q1
          have HQ := Lib.hid (hSt)
          clear hSt
          have HK2 := Lib.hid hkV
          go_wp2_with fail
          go_quiet (fail)
          go_wp2_with fail
          go_roundw
          case rel =>
            refine ⟨k + 1, t, o, by omega, by go_num, rfl, rfl, ?_⟩
            obtain ⟨cc, e1, e2⟩ := HQ.out.ex
            exact ⟨⟨cc, by rw [HT.out, e1]; rw [HH.out]; exact if_pos (.inr (.inl q1)), (Bx.non e2 (HK2.out.trans (Kp.drewN (Kp.refl _ _) _)))⟩, HQ.out.kp.trans (HK2.out.trans (Kp.drewN (Kp.refl _ _) _))⟩
          case measure => simp [intOf]; omega
        · have d1 : decide (x.to - x.fr < 2) = false := by simpa using q1
          by_cases q2 : y.co < R.hot
          · have d2 : decide (y.co < R.hot) = true := by simpa using q2
            have HQ := Lib.hid (hSt)
            clear hSt
            have HK2 := Lib.hid hkV
            go_wp2_with fail
            go_quiet (fail)
            go_wp2_with fail
            go_roundw
            case rel =>
              refine ⟨k + 1, t, o, by omega, by go_num, rfl, rfl, ?_⟩
              obtain ⟨cc, e1, e2⟩ := HQ.out.ex
              exact ⟨⟨cc, by rw [HT.out, e1]; rw [HH.out]; exact if_pos (.inr (.inr (.inl q2))), (Bx.non e2 (HK2.out.trans (Kp.drewN (Kp.refl _ _) _)))⟩, HQ.out.kp.trans (HK2.out.trans (Kp.drewN (Kp.refl _ _) _))⟩
            case measure => simp [intOf]; omega
          · have d2 : decide (y.co < R.hot) = false := by simpa using q2
            cases o with
            | true =>
              by_cases q3 : y.co ≤ t
              · have d3 : decide (y.co ≤ t) = true := by simpa using q3
                have HQ := Lib.hid (hSt)
                clear hSt
                have HK2 := Lib.hid hkV
                go_wp2_with fail
                go_quiet (fail)
                go_wp2_with fail
                go_roundw
                case rel =>
                  refine ⟨k + 1, t, true, by omega, by go_num, rfl, rfl, ?_⟩
                  obtain ⟨cc, e1, e2⟩ := HQ.out.ex
                  exact ⟨⟨cc, by rw [HT.out, e1]; rw [HH.out]; exact if_pos (.inr (.inr (.inr ⟨rfl, q3⟩))), (Bx.non e2 (HK2.out.trans (Kp.drewN (Kp.refl _ _) _)))⟩, HQ.out.kp.trans (HK2.out.trans (Kp.drewN (Kp.refl _ _) _))⟩
                case measure => simp [intOf]; omega
              · have d3 : decide (y.co ≤ t) = false := by simpa using q3
                obtain ⟨cc, e1, e2⟩ := hSt.ex
                have e3 := Bx.non e2 hkV
                obtain ⟨f0, f1, f2, f3, f4, f5⟩ := e3.frChg
                obtain ⟨g0, g1, g2, g3, g4, g5⟩ := e3.chg
                have HE := Lib.hid e1
                have HB := Lib.hid e3
                have HK2 := Lib.hid (hSt.kp.trans hkV)
                have ew2 : IntKind.i64.wrap (x.fr + 1) = x.fr + 1 := by rw [IntKind.wrap_i64] <;> omega
                have ew3 : IntKind.i64.wrap (x.to - 1) = x.to - 1 := by rw [IntKind.wrap_i64] <;> omega
                clear e1 e2 e3 hSt hkV
                go_wp2_with fail
                go_quiet (fail)
                go_wp2_with fail
                go_roundw
                case rel =>
                  refine ⟨k + 1, y.co, true, by omega, by go_num, rfl, rfl, ?_⟩
                  have hBd := Bx.non HB.out (Kp.drewN (Kp.refl Non V2) nq)
                  obtain ⟨W', hW', hB', hk'⟩ := hBd.setChg ⟨1, x.id, 0, max (x.fr + 1) (min y.mid (x.to - 1)), 0, 0⟩
                  have hW' : _ = W' := hW'
                  rw [hW']
                  exact ⟨⟨⟨1, x.id, 0, max (x.fr + 1) (min y.mid (x.to - 1)), 0, 0⟩, by rw [HT.out, HE.out, HH.out]; exact if_neg (fun h => h.elim q0 fun h => h.elim (fun h => by omega) fun h => h.elim (fun h => by omega) fun h => (by have : y.co ≤ t := h.2; omega)), hB'⟩, Kp.comp (Kp.drewN HK2.out nq) hk' (fun _ _ f => f) (fun i hi e => by have e : i = w.heap.size := e; omega)⟩
                case measure => simp [intOf]; omega
            | false =>
              obtain ⟨cc, e1, e2⟩ := hSt.ex
              have e3 := Bx.non e2 hkV
              obtain ⟨f0, f1, f2, f3, f4, f5⟩ := e3.frChg
              obtain ⟨g0, g1, g2, g3, g4, g5⟩ := e3.chg
              have HE := Lib.hid e1
              have HB := Lib.hid e3
              have HK2 := Lib.hid (hSt.kp.trans hkV)
              have ew2 : IntKind.i64.wrap (x.fr + 1) = x.fr + 1 := by rw [IntKind.wrap_i64] <;> omega
              have ew3 : IntKind.i64.wrap (x.to - 1) = x.to - 1 := by rw [IntKind.wrap_i64] <;> omega
              clear e1 e2 e3 hSt hkV
              go_wp2_with fail
              go_quiet (fail)
              go_wp2_with fail
              go_roundw
              case rel =>
                refine ⟨k + 1, y.co, true, by omega, by go_num, rfl, rfl, ?_⟩
                have hBd := Bx.non HB.out (Kp.drewN (Kp.refl Non V2) nq)
                obtain ⟨W', hW', hB', hk'⟩ := hBd.setChg ⟨1, x.id, 0, max (x.fr + 1) (min y.mid (x.to - 1)), 0, 0⟩
                have hW' : _ = W' := hW'
                rw [hW']
                exact ⟨⟨⟨1, x.id, 0, max (x.fr + 1) (min y.mid (x.to - 1)), 0, 0⟩, by rw [HT.out, HE.out, HH.out]; exact if_neg (fun h => h.elim q0 fun h => h.elim (fun h => by omega) fun h => h.elim (fun h => by omega) fun h => nomatch h.1), hB'⟩, Kp.comp (Kp.drewN HK2.out nq) hk' (fun _ _ f => f) (fun i hi e => by have e : i = w.heap.size := e; omega)⟩
              case measure => simp [intOf]; omega
    · obtain rfl : k = sh.length := by omega
      obtain ⟨cc, e1, e2⟩ := hSt.ex
      rw [List.take_length] at e1
      have hfin : HotP R ll sh cc o := ⟨(congrArg (·.2.1) e1).symm, (congrArg (·.2.2) e1).symm⟩
      obtain ⟨y0, y1, y2, y3, y4, y5⟩ := e2.chg
      obtain ⟨f0, f1, f2, f3, f4, f5⟩ := e2.frChg
      have HE := Lib.hid e1
      have HB := Lib.hid e2
      clear e1 e2
      go_wp2_with fail
      obtain ⟨W', hW', hB', hk'⟩ := HB.out.setChg cc
      rw [hW']
      refine ⟨rfl, _, results_cell_chg (b := w.heap.size) (x := cc) rfl _ _ rfl rfl hB', cc, o, rfl, hfin, Kp.comp hSt.kp hk' (fun _ _ f => f) (fun i hi e => by have e : i = w.heap.size := e; omega)⟩
end
end Go.Proofs.Ytdijaillcajpaaa
