/-
  Is a shard to begin anew? (long)
-/
import Derived.Test.YtdijaillcajpaaaV1
namespace Go.Proofs.Ytdijaillcajpaaa
open Go.RowKit

/-- A change comes out, or none. -/
def DecOut (P : Chg → Bool → Prop) (w : World) (e : Ending) (w' : World) : Prop := ∃ c ok, e = .returned (.tuple #[valChg c, .bool ok]) ∧ P c ok ∧ Kp Non w w'
theorem Bx.setChg {W : World} {b : Nat} {t : TypeId} {y : Chg} (h : Bx W b t (encChg y)) (x : Chg) : ∃ W', (((((W.setCell ⟨b, 0, none⟩ (.int .i64 x.ki)).setCell ⟨b, 1, none⟩ (.int .i64 x.sh)).setCell ⟨b, 2, none⟩ (.int .i64 x.ot)).setCell ⟨b, 3, none⟩ (.int .i64 x.at_)).setCell ⟨b, 4, none⟩ (.int .i64 x.out)).setCell ⟨b, 5, none⟩ (.int .i64 x.inn) = W' ∧ Bx W' b t (encChg x) ∧ Kp (One b) W W' := by
  obtain ⟨g0, k0⟩ := Bx.set h 0 (.int .i64 x.ki)
  obtain ⟨g1, k1⟩ := g0.set 1 (.int .i64 x.sh)
  obtain ⟨g2, k2⟩ := g1.set 2 (.int .i64 x.ot)
  obtain ⟨g3, k3⟩ := g2.set 3 (.int .i64 x.at_)
  obtain ⟨g4, k4⟩ := g3.set 4 (.int .i64 x.out)
  obtain ⟨g5, k5⟩ := g4.set 5 (.int .i64 x.inn)
  exact ⟨_, rfl, g5, ((((k0.trans k1).trans k2).trans k3).trans k4).trans k5⟩
theorem Bx.chg {W : World} {b : Nat} {t : TypeId} {x : Chg} (h : Bx W b t (encChg x)) : W.cell? ⟨b, 0, none⟩ = some (.int .i64 x.ki) ∧ W.cell? ⟨b, 1, none⟩ = some (.int .i64 x.sh) ∧ W.cell? ⟨b, 2, none⟩ = some (.int .i64 x.ot) ∧ W.cell? ⟨b, 3, none⟩ = some (.int .i64 x.at_) ∧ W.cell? ⟨b, 4, none⟩ = some (.int .i64 x.out) ∧ W.cell? ⟨b, 5, none⟩ = some (.int .i64 x.inn) := ⟨h.c rfl, h.c rfl, h.c rfl, h.c rfl, h.c rfl, h.c rfl⟩
theorem Bx.frChg {W : World} {b : Nat} {t : TypeId} {x : Chg} (h : Bx W b t (encChg x)) : W.frozen? ⟨b, 0, none⟩ = false ∧ W.frozen? ⟨b, 1, none⟩ = false ∧ W.frozen? ⟨b, 2, none⟩ = false ∧ W.frozen? ⟨b, 3, none⟩ = false ∧ W.frozen? ⟨b, 4, none⟩ = false ∧ W.frozen? ⟨b, 5, none⟩ = false := ⟨h.f 0, h.f 1, h.f 2, h.f 3, h.f 4, h.f 5⟩
def LongP (R : RulV) (sh : List Shd) (c : Chg) (ok : Bool) : Prop := (ok = true → 0 < R.long ∧ ∃ s ∈ sh, c = ⟨4, s.id, 0, 0, 0, 0⟩) ∧ (ok = false → c = zeroC)
section
variable {v : Nat} {R : RulV} {sh : List Shd} {a : Option Addr} {c : Nat} {L : List ShdV} {la : Option Addr} {lc : Nat} {ll : List LoadV} {va : Option Addr} {vc : Nat} {vl : List Int} {w : World}
set_option maxRecDepth 100000 in
set_option maxHeartbeats 1000000 in
theorem vlong_calls (h : ViewAt w v R sh a c L la lc ll va vc vl) : Calls Try.prog 64 #[.pointer (some ⟨v, 0, none⟩)] w (DecOut (LongP R sh) w) := by
  have hmax := h.row.max
  have hcap := h.row.cap
  have hLl := h.len
  obtain ⟨V, hV, hB0, hk0⟩ : ∃ V, w.alloc (.cells #[.int .i64 0, .int .i64 0, .int .i64 0, .int .i64 0, .int .i64 0, .int .i64 0] 32) = V ∧ Bx V w.heap.size 32 (encChg zeroC) ∧ Kp Non w V := ⟨_, rfl, Bx.new w _ (encChg zeroC), (Kp.refl _ _).alloc _⟩
  have hVV := h.non hk0
  obtain ⟨v0, v1, v2, v3, v4, v5, v6, v7⟩ := hVV.cells
  go_enter Try.func64, Try.ntmps64
  go_wp2_with fail
  clear hV v0 v1 v2 v3 v4 v5 v6 v7
  go_loopw [11] (fun v11 wr => ∃ k : Nat, k ≤ sh.length ∧ v11 = .int .i64 k ∧ Kp Non V wr) (fun v11 _ => sh.length - (intOf v11).toNat)
  case atStart => exact ⟨0, by omega, rfl, Kp.refl _ _⟩
  case round =>
    obtain ⟨k, hk, rfl, hkr⟩ := hrel
    have hB := hB0.non hkr
    have hVr := hVV.non hkr
    by_cases hlt : k < sh.length
    · have hkL : k < L.length := by omega
      have g : (k : Int) < (sh.length : Nat) := by omega
      obtain ⟨bl, ol, rfl⟩ := h.row.there (by omega)
      have hR := hVr.row
      have c0 := hR.get (i := 0) (List.getElem?_eq_getElem hkL) rfl
      have c1 := hR.get (i := 1) (List.getElem?_eq_getElem hkL) rfl
      have c2 := hR.get (i := 2) (List.getElem?_eq_getElem hkL) rfl
      have c3 := hR.get (i := 3) (List.getElem?_eq_getElem hkL) rfl
      have c4 := hR.get (i := 4) (List.getElem?_eq_getElem hkL) rfl
      rw [Nat.add_zero] at c0
      have hx : L[k].pl ∈ sh := by rw [← h.pl]; exact List.mem_map.2 ⟨_, List.getElem_mem hkL, rfl⟩
      generalize L[k] = x at *
      obtain ⟨W, hW, hbx, hkW⟩ : ∃ W, wr.alloc (.cells #[.int .i64 x.id, .int .i64 x.fr, .int .i64 x.to, .slice x.me.a x.me.n x.me.c, .slice x.pa.a x.pa.n x.pa.c] 40) = W ∧ Bx W wr.heap.size 40 [.int .i64 x.id, .int .i64 x.fr, .int .i64 x.to, .slice x.me.a x.me.n x.me.c, .slice x.pa.a x.pa.n x.pa.c] ∧ Kp Non wr W := ⟨_, rfl, Bx.new wr _ [.int .i64 x.id, .int .i64 x.fr, .int .i64 x.to, .slice x.me.a x.me.n x.me.c, .slice x.pa.a x.pa.n x.pa.c], (Kp.refl _ _).alloc _⟩
      have hVW := hVr.non hkW
      have hBW := hB.non hkW
      have HK := Lib.hid (fun W' (q : Kp Non W W') => (⟨(hVW.non q).cells.2.2.2.1, (hbx.non q).shd.1⟩ : W'.cell? ⟨v, 3, none⟩ = some (.int .i64 R.long) ∧ W'.cell? ⟨wr.heap.size, 0, none⟩ = some (.int .i64 x.id)))
      have HL := Lib.hid (fun W' (q : Kp Non W W') => vload_calls v x.id la lc ll W' (hVW.non q).cells.2.2.2.2.2.2.1 (hVW.non q).loads)
      go_wp2_with fail
      clear hW c0 c1 c2 c3 c4 hR
      by_cases hl : 0 < R.long
      · have d0 : decide (0 < R.long) = true := by simpa using hl
        refine wp_region_chain [0,0,0,0,0,0,0,0,0,0,1,1,0,0,0,0,0,1,1] (by kernel_rfl) (by kernel_rfl) (fun w' => w'.cell? ⟨v, 3, none⟩ = some (.int .i64 R.long) ∧ w'.cell? ⟨wr.heap.size, 0, none⟩ = some (.int .i64 x.id)) (HK.out _ (Kp.drew (Kp.refl _ _))) ?_
        repeat (first | (with_reducible refine pure_skip ?_) | ((first | (with_reducible refine pure_k rfl ?_) | ((with_reducible refine pure_ky ?hg ?_); (case hg => simp [Region.wanted, yielded]; done))); intro K hK; apply Exists.intro; refine ⟨fun w' hC => ?_, ?_⟩; (obtain ⟨g1, g2⟩ := hC; go_simp; rfl); go_simp; refine hK _ ?_; clear hK K) | ((with_reducible refine pure_kn ?hg ?_); (case hg => simp [Region.wanted, yielded]; done); intro K hK; go_simp; refine hK _ ?_; clear hK K))
        with_reducible refine pure_nil ?_
        repeat (with_reducible refine chain_skip0 ?_)
        with_reducible refine chain_ky (by first | (simp [Region.wanted, yielded]; done) | (simp [Region.wanted, yielded, Act.put]; done)) fun K hK => ?_
        go_simp
        have kd : Kp Non W W.drew := Kp.drew (Kp.refl _ _)
        refine (HL.out _ kd).mono ?_
        rintro e W1 ⟨rfl, hk1⟩
        have hk1' := kd.trans hk1
        refine hK _ _ (fun _ => HK.out _ hk1') ?_
        clear hK K
        have hf : Kp Non w W1 := (hk0.trans hkr).trans (hkW.trans hk1')
        have hB1 := hBW.non hk1'
        have hb1 := hbx.non hk1'
        repeat (with_reducible refine chain_skip0 ?_)
        with_reducible refine chain_ky (by first | (simp [Region.wanted, yielded]; done) | (simp [Region.wanted, yielded, Act.put]; done)) fun K hK => ?_
        go_simp
        refine hK _ _ (fun _ => HK.out _ hk1') ?_
        clear hK K
        generalize loadOf ll x.id = y at *
        by_cases hi : R.long ≤ y.ins
        · have d1 : decide (R.long ≤ y.ins) = true := by simpa using hi
          repeat (with_reducible refine chain_skip0 ?_)
          with_reducible refine chain_ky (by first | (simp [Region.wanted, yielded]; done) | (simp [Region.wanted, yielded, Act.put]; done)) fun K hK => ?_
          go_simp
          refine hK _ _ (fun _ => HK.out _ hk1') ?_
          clear hK K
          repeat (with_reducible refine chain_skip0 ?_)
          with_reducible refine chain_step rfl fun K hK => ?_
          go_simp
          refine hK _ _ (fun _ => HK.out _ hk1') ?_
          clear hK K
          with_reducible refine chain_nil ?_
          have z0 := hb1.shd.1
          obtain ⟨y0, y1, y2, y3, y4, y5⟩ := hB1.chg
          obtain ⟨f0, f1, f2, f3, f4, f5⟩ := hB1.frChg
          have HF := Lib.hid hf
          clear hf hk1' hk1 HK HL kd
          have HN := Lib.hid hB1
          clear hB1
          go_wp2_with fail
          obtain ⟨W', hW', hB', hk'⟩ := HN.out.setChg ⟨4, x.id, 0, 0, 0, 0⟩
          rw [hW']
          refine ⟨rfl, _, results_cell_chg (b := w.heap.size) (x := ⟨4, x.id, 0, 0, 0, 0⟩) rfl _ _ rfl rfl hB', _, true, rfl, ⟨fun _ => ⟨hl, x.pl, hx, rfl⟩, fun h => by cases h⟩, Kp.comp HF.out hk' (fun _ _ f => f) (fun i hi e => by have e : i = w.heap.size := e; omega)⟩
        · have d1 : decide (R.long ≤ y.ins) = false := by simpa using hi
          repeat (with_reducible refine chain_skip0 ?_)
          with_reducible refine chain_ky (by first | (simp [Region.wanted, yielded]; done) | (simp [Region.wanted, yielded, Act.put]; done)) fun K hK => ?_
          go_simp
          refine hK _ _ (fun _ => HK.out _ hk1') ?_
          clear hK K
          repeat (with_reducible refine chain_skip0 ?_)
          with_reducible refine chain_step rfl fun K hK => ?_
          go_simp
          refine hK _ _ (fun _ => HK.out _ hk1') ?_
          clear hK K
          with_reducible refine chain_nil ?_
          have HF := Lib.hid (hkr.trans (hkW.trans hk1'))
          clear hf hk1' hk1 HK HL kd
          go_wp2_with fail
          go_roundw
          case rel => exact ⟨k + 1, by omega, by go_num, HF.out⟩
          case measure => simp [intOf]; omega
      · have d0 : decide (0 < R.long) = false := by simpa using hl
        refine wp_region_chain [0,0,0,0,0,0,0,0,0,0,1,1,0,0,0,0,0,1,1] (by kernel_rfl) (by kernel_rfl) (fun w' => w'.cell? ⟨v, 3, none⟩ = some (.int .i64 R.long) ∧ w'.cell? ⟨wr.heap.size, 0, none⟩ = some (.int .i64 x.id)) (HK.out _ (Kp.drew (Kp.refl _ _))) ?_
        repeat (first | (with_reducible refine pure_skip ?_) | ((first | (with_reducible refine pure_k rfl ?_) | ((with_reducible refine pure_ky ?hg ?_); (case hg => simp [Region.wanted, yielded]; done))); intro K hK; apply Exists.intro; refine ⟨fun w' hC => ?_, ?_⟩; (obtain ⟨g1, g2⟩ := hC; go_simp; rfl); go_simp; refine hK _ ?_; clear hK K) | ((with_reducible refine pure_kn ?hg ?_); (case hg => simp [Region.wanted, yielded]; done); intro K hK; go_simp; refine hK _ ?_; clear hK K))
        with_reducible refine pure_nil ?_
        repeat (with_reducible refine chain_skip0 ?_)
        with_reducible refine chain_kn (by first | (simp [Region.wanted, yielded]; done) | (simp [Region.wanted, yielded, Act.put]; done)) fun K hK => ?_
        go_simp
        refine hK _ _ ?_
        clear hK K
        repeat (with_reducible refine chain_skip0 ?_)
        with_reducible refine chain_kn (by first | (simp [Region.wanted, yielded]; done) | (simp [Region.wanted, yielded, Act.put]; done)) fun K hK => ?_
        go_simp
        refine hK _ _ ?_
        clear hK K
        repeat (with_reducible refine chain_skip0 ?_)
        with_reducible refine chain_kn (by first | (simp [Region.wanted, yielded]; done) | (simp [Region.wanted, yielded, Act.put]; done)) fun K hK => ?_
        go_simp
        refine hK _ _ ?_
        clear hK K
        repeat (with_reducible refine chain_skip0 ?_)
        with_reducible refine chain_step rfl fun K hK => ?_
        go_simp
        refine hK _ _ (fun _ => HK.out _ (Kp.drew (Kp.refl _ _))) ?_
        clear hK K
        with_reducible refine chain_nil ?_
        have HF := Lib.hid (hkr.trans hkW.drew)
        clear HK HL
        go_wp2_with fail
        go_roundw
        case rel => exact ⟨k + 1, by omega, by go_num, HF.out⟩
        case measure => simp [intOf]; omega
    · obtain rfl : k = sh.length := by omega
      obtain ⟨y0, y1, y2, y3, y4, y5⟩ := hB.chg
      obtain ⟨f0, f1, f2, f3, f4, f5⟩ := hB.frChg
      go_wp2_with fail
      obtain ⟨W', hW', hB', hk'⟩ := hB.setChg zeroC
      have hW' : _ = W' := hW'
      refine ⟨rfl, _, results_cell_chg (b := w.heap.size) (x := zeroC) rfl _ _ rfl rfl (hW' ▸ hB'), zeroC, false, rfl, ⟨(fun h => by cases h), fun _ => rfl⟩, Kp.comp (hk0.trans hkr) (hW' ▸ hk') (fun _ _ f => f) (fun i hi e => by have e : i = w.heap.size := e; omega)⟩
end
end Go.Proofs.Ytdijaillcajpaaa
