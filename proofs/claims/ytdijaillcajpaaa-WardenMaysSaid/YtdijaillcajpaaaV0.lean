/-
  What a decision looks at; a shard's load.
-/
import Derived.Test.YtdijaillcajpaaaE2
namespace Go.Proofs.Ytdijaillcajpaaa
open Go.RowKit

/-- A load. -/
structure LoadV where
  sh : Int
  co : Int
  ins : Int
  mid : Int
/-- Rules. -/
structure RulV where
  hot : Int
  cold : Int
  long : Int
  mute : Int
  cap : Int
def encLd (x : LoadV) : List Value := [.int .i64 x.sh, .int .i64 x.co, .int .i64 x.ins, .int .i64 x.mid]
theorem encLd_len (x : LoadV) : (encLd x).length = 4 := rfl
theorem encLd_one (x : LoadV) : ∀ v ∈ encLd x, v.oneCell' = true := by intro v hv; simp [encLd] at hv; rcases hv with rfl | rfl | rfl | rfl <;> rfl
abbrev valLd (x : LoadV) : Value := .agg #[.int .i64 x.sh, .int .i64 x.co, .int .i64 x.ins, .int .i64 x.mid]
abbrev valRul (x : RulV) : Value := .agg #[.int .i64 x.hot, .int .i64 x.cold, .int .i64 x.long, .int .i64 x.mute, .int .i64 x.cap]
abbrev valChg (x : Chg) : Value := .agg #[.int .i64 x.ki, .int .i64 x.sh, .int .i64 x.ot, .int .i64 x.at_, .int .i64 x.out, .int .i64 x.inn]
def encChg (x : Chg) : List Value := [.int .i64 x.ki, .int .i64 x.sh, .int .i64 x.ot, .int .i64 x.at_, .int .i64 x.out, .int .i64 x.inn]
def zeroC : Chg := ⟨0, 0, 0, 0, 0, 0⟩
def zeroL : LoadV := ⟨0, 0, 0, 0⟩
abbrev Loads_ := Reads encLd 4
def ldF (id : Int) (acc x : LoadV) : LoadV := if x.sh = id then x else acc
/-- A shard's load: the last one. -/
def loadOf (l : List LoadV) (id : Int) : LoadV := l.foldl (ldF id) zeroL
/-- The block v holds what a decision looks at. -/
structure ViewAt (W : World) (v : Nat) (R : RulV) (sh : List Shd) (a : Option Addr) (c : Nat) (L : List ShdV) (la : Option Addr) (lc : Nat) (ll : List LoadV) (va : Option Addr) (vc : Nat) (vl : List Int) : Prop where
  box : Bx W v 126 [.slice a sh.length c, .int .i64 R.hot, .int .i64 R.cold, .int .i64 R.long, .int .i64 R.mute, .int .i64 R.cap, .slice la ll.length lc, .slice va vl.length vc]
  row : Reads encShd 5 W a sh.length c L
  each : ∀ s ∈ L, s.there W
  pl : L.map ShdV.pl = sh
  loads : Reads encLd 4 W la ll.length lc ll
  live : Ints W va vl.length vc vl
section
variable {W W' : World} {v : Nat} {R : RulV} {sh : List Shd} {a : Option Addr} {c : Nat} {L : List ShdV} {la : Option Addr} {lc : Nat} {ll : List LoadV} {va : Option Addr} {vc : Nat} {vl : List Int}
theorem ViewAt.non (h : ViewAt W v R sh a c L la lc ll va vc vl) (k : Kp Non W W') : ViewAt W' v R sh a c L la lc ll va vc vl :=
  ⟨h.box.non k, h.row.non k, fun s hs => (h.each s hs).non k, h.pl, h.loads.non k, h.live.non k⟩
theorem ViewAt.cells (h : ViewAt W v R sh a c L la lc ll va vc vl) : W.cell? ⟨v, 0, none⟩ = some (.slice a sh.length c) ∧ W.cell? ⟨v, 1, none⟩ = some (.int .i64 R.hot) ∧ W.cell? ⟨v, 2, none⟩ = some (.int .i64 R.cold) ∧ W.cell? ⟨v, 3, none⟩ = some (.int .i64 R.long) ∧ W.cell? ⟨v, 4, none⟩ = some (.int .i64 R.mute) ∧ W.cell? ⟨v, 5, none⟩ = some (.int .i64 R.cap) ∧ W.cell? ⟨v, 6, none⟩ = some (.slice la ll.length lc) ∧ W.cell? ⟨v, 7, none⟩ = some (.slice va vl.length vc) :=
  ⟨h.box.c rfl, h.box.c rfl, h.box.c rfl, h.box.c rfl, h.box.c rfl, h.box.c rfl, h.box.c rfl, h.box.c rfl⟩
theorem ViewAt.len (h : ViewAt W v R sh a c L la lc ll va vc vl) : L.length = sh.length := by rw [← h.pl, List.length_map]
end
theorem results_cell_ld {fn : Func} {p : Tmp} (h : fn.results = #[.cell p 129]) (tmps : Array Value) (w : World) {x : LoadV} {b : Nat} (ht : tmps.getD p undef = .pointer (some ⟨b, 0, none⟩)) (hc : Bx w b 129 (encLd x)) :
    (results fn tmps).run Try.prog w = .ok (valLd x) w := by
  have c0 : w.cell? ⟨b, 0, none⟩ = _ := hc.c rfl
  have c1 : w.cell? ⟨b, 1, none⟩ = _ := hc.c rfl
  have c2 : w.cell? ⟨b, 2, none⟩ = _ := hc.c rfl
  have c3 : w.cell? ⟨b, 3, none⟩ = _ := hc.c rfl
  have := Try.sizeOf129
  have ht' : tmps[p]?.getD undef = .pointer (some ⟨b, 0, none⟩) := by simpa using ht
  simp [results, h, ht', go_sem, c0, c1, c2, c3, this, valLd, Addr.add]
theorem results_cell_chg {fn : Func} {p q : Tmp} (h : fn.results = #[.cell p 32, .tmp q]) (tmps : Array Value) (w : World) {x : Chg} {b : Nat} {v : Value} (ht : tmps.getD p undef = .pointer (some ⟨b, 0, none⟩)) (hq : tmps.getD q undef = v) (hc : Bx w b 32 (encChg x)) :
    (results fn tmps).run Try.prog w = .ok (.tuple #[valChg x, v]) w := by
  have c0 : w.cell? ⟨b, 0, none⟩ = _ := hc.c rfl
  have c1 : w.cell? ⟨b, 1, none⟩ = _ := hc.c rfl
  have c2 : w.cell? ⟨b, 2, none⟩ = _ := hc.c rfl
  have c3 : w.cell? ⟨b, 3, none⟩ = _ := hc.c rfl
  have c4 : w.cell? ⟨b, 4, none⟩ = _ := hc.c rfl
  have c5 : w.cell? ⟨b, 5, none⟩ = _ := hc.c rfl
  have := Try.sizeOf32
  have ht' : tmps[p]?.getD undef = .pointer (some ⟨b, 0, none⟩) := by simpa using ht
  have hq' : tmps[q]?.getD undef = v := by simpa using hq
  simp [results, h, ht', hq', go_sem, c0, c1, c2, c3, c4, c5, this, valChg, Addr.add]
theorem Bx.ld {W : World} {b : Nat} {t : TypeId} {x : LoadV} (h : Bx W b t (encLd x)) : W.cell? ⟨b, 0, none⟩ = some (.int .i64 x.sh) ∧ W.cell? ⟨b, 1, none⟩ = some (.int .i64 x.co) ∧ W.cell? ⟨b, 2, none⟩ = some (.int .i64 x.ins) ∧ W.cell? ⟨b, 3, none⟩ = some (.int .i64 x.mid) := ⟨h.c rfl, h.c rfl, h.c rfl, h.c rfl⟩
theorem Bx.setLd {W : World} {b : Nat} {t : TypeId} {y : LoadV} (h : Bx W b t (encLd y)) (x : LoadV) : ∃ W', (((W.setCell ⟨b, 0, none⟩ (.int .i64 x.sh)).setCell ⟨b, 1, none⟩ (.int .i64 x.co)).setCell ⟨b, 2, none⟩ (.int .i64 x.ins)).setCell ⟨b, 3, none⟩ (.int .i64 x.mid) = W' ∧ Bx W' b t (encLd x) ∧ Kp (One b) W W' := by
  obtain ⟨g0, k0⟩ := Bx.set h 0 (.int .i64 x.sh)
  obtain ⟨g1, k1⟩ := g0.set 1 (.int .i64 x.co)
  obtain ⟨g2, k2⟩ := g1.set 2 (.int .i64 x.ins)
  obtain ⟨g3, k3⟩ := g2.set 3 (.int .i64 x.mid)
  exact ⟨_, rfl, g3, ((k0.trans k1).trans k2).trans k3⟩

set_option maxRecDepth 100000 in
set_option maxHeartbeats 1000000 in
theorem vload_calls (v : Nat) (id : Int) (la : Option Addr) (lc : Nat) (ll : List LoadV) (w : World) (hv : w.cell? ⟨v, 6, none⟩ = some (.slice la ll.length lc)) (h : Reads encLd 4 w la ll.length lc ll) : Calls Try.prog 87 #[.pointer (some ⟨v, 0, none⟩), .int .i64 id] w (ValOut (valLd (loadOf ll id)) w) := by
  have hmax := h.max
  have hcap := h.cap
  obtain ⟨V, hV, hB0, hk0⟩ : ∃ V, w.alloc (.cells #[.int .i64 0, .int .i64 0, .int .i64 0, .int .i64 0] 129) = V ∧ Bx V w.heap.size 129 (encLd zeroL) ∧ Kp Non w V := ⟨_, rfl, Bx.new w _ (encLd zeroL), (Kp.refl _ _).alloc _⟩
  have hv' := hk0.cell hv (fun f => f)
  go_enter Try.func87, Try.ntmps87
  go_wp2_with fail
  clear hV hv'
  go_loopw [12] (fun v12 wr => ∃ k : Nat, k ≤ ll.length ∧ v12 = .int .i64 k ∧ Bx wr w.heap.size 129 (encLd ((ll.take k).foldl (ldF id) zeroL)) ∧ Kp Non w wr) (fun v12 _ => ll.length - (intOf v12).toNat)
  case atStart => exact ⟨0, by omega, rfl, hB0, hk0⟩
  case round =>
    obtain ⟨k, hk, rfl, hB, hkr⟩ := hrel
    clear hB0 hk0
    by_cases hlt : k < ll.length
    · have g : (k : Int) < (ll.length : Nat) := by omega
      obtain ⟨bl, ol, rfl⟩ := h.there (by omega)
      have hR := Reads.non h hkr
      have c0 := hR.get (i := 0) (List.getElem?_eq_getElem hlt) rfl
      have c1 := hR.get (i := 1) (List.getElem?_eq_getElem hlt) rfl
      have c2 := hR.get (i := 2) (List.getElem?_eq_getElem hlt) rfl
      have c3 := hR.get (i := 3) (List.getElem?_eq_getElem hlt) rfl
      rw [Nat.add_zero] at c0
      have HT : Hid ((ll.take (k + 1)).foldl (ldF id) zeroL = ldF id ((ll.take k).foldl (ldF id) zeroL) ll[k]) := Lib.hid (by rw [List.take_succ_eq_append_getElem hlt, List.foldl_append]; rfl)
      generalize ll[k] = x at *
      generalize (ll.take k).foldl (ldF id) zeroL = y at *
      have hbN := Bx.new wr 129 (encLd x)
      have hkN : Kp Non wr (wr.alloc (.cells #[.int .i64 x.sh, .int .i64 x.co, .int .i64 x.ins, .int .i64 x.mid] 129)) := (Kp.refl _ _).alloc _
      have HBN := Lib.hid (hB.non hkN)
      have HK := Lib.hid (hkr.trans hkN)
      have hsz := hB.lt
      clear hR hbN hkN
      by_cases hid : x.sh = id
      · have e1 : (x.sh == id) = true := by simpa using hid
        rw [show ldF id y x = x from if_pos hid] at HT
        obtain ⟨y0, y1, y2, y3⟩ := hB.ld
        have f0 := hB.f 0
        have f1 := hB.f 1
        have f2 := hB.f 2
        have f3 := hB.f 3
        clear hid
        go_wp2_with fail
        obtain ⟨W', hW', hB', hk'⟩ := hB.setLd x
        rw [hW']
        go_roundw
        case rel => exact ⟨k + 1, by omega, by go_num, by rw [HT.out]; exact Bx.non hB' ((Kp.refl _ _).alloc _), (Kp.comp hkr hk' (fun _ _ f => f) (fun i hi e => by have e : i = w.heap.size := e; omega)).alloc _⟩
        case measure => simp [intOf]; omega
      · have e1 : (x.sh == id) = false := by simpa using hid
        rw [show ldF id y x = y from if_neg hid] at HT
        clear hid
        go_wp2_with fail
        go_roundw
        case rel => exact ⟨k + 1, by omega, by go_num, by rw [HT.out]; exact HBN.out, HK.out⟩
        case measure => simp [intOf]; omega
    · obtain rfl : k = ll.length := by omega
      rw [List.take_length] at hB
      have HL : Hid (ll.foldl (ldF id) zeroL = loadOf ll id) := Lib.hid rfl
      generalize ll.foldl (ldF id) zeroL = y at *
      obtain ⟨y0, y1, y2, y3⟩ := hB.ld
      have f0 := hB.f 0
      have f1 := hB.f 1
      have f2 := hB.f 2
      have f3 := hB.f 3
      go_wp2_with fail
      obtain ⟨W', hW', hB', hk'⟩ := hB.setLd y
      rw [hW']
      refine ⟨rfl, _, results_cell_ld (b := w.heap.size) (x := y) rfl _ _ rfl hB', by rw [HL.out], Kp.comp hkr hk' (fun _ _ f => f) (fun i hi e => by have e : i = w.heap.size := e; omega)⟩
end Go.Proofs.Ytdijaillcajpaaa
