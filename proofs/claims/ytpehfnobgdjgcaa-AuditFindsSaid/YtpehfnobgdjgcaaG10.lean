/-
  What is looked at: light.
-/
import Derived.Test.YtpehfnobgdjgcaaG8
namespace Go.Proofs.Ytpehfnobgdjgcaa
open Go.RowKit

/-- Some bool comes out. -/
def AnyBool (w : World) (e : Ending) (w' : World) : Prop := ∃ b, e = .returned (.bool b) ∧ Kp Non w w'

/-- A block of our own that holds just these cells. -/
def Bx (W : World) (b : Nat) (t : TypeId) (l : List Value) : Prop := W.heap[b]? = some (.cells l.toArray t (0, 0))
section
variable {W W' : World} {b : Nat} {t : TypeId} {l : List Value}
theorem Bx.new (w : World) (t : TypeId) (l : List Value) : Bx (w.alloc (.cells l.toArray t)) w.heap.size t l := heap_alloc_new w _
theorem Bx.kp {S : Nat → Prop} (h : Bx W b t l) (k : Kp S W W') (hn : ¬ S b) : Bx W' b t l := k.heap h hn
theorem Bx.non (h : Bx W b t l) (k : Kp Non W W') : Bx W' b t l := k.heap h (fun f => f)
theorem Bx.c (h : Bx W b t l) {i : Nat} {v : Value} (hv : l[i]? = some v) : W.cell? ⟨b, i, none⟩ = some v := (cell_of_row W b i _ _ _ h).trans (by simpa using hv)
theorem Bx.lt (h : Bx W b t l) : b < W.heap.size := heap_lt h
theorem Bx.f (h : Bx W b t l) (i : Nat) : W.frozen? ⟨b, i, none⟩ = false := by
  unfold Bx at h
  simp [World.frozen?, h]
theorem Bx.set (h : Bx W b t l) (i : Nat) (v : Value) : Bx (W.setCell ⟨b, i, none⟩ v) b t (l.set i v) ∧ Kp (One b) W (W.setCell ⟨b, i, none⟩ v) := by
  refine ⟨?_, (Kp.refl (One b) W).setCell (p := ⟨b, i, none⟩) (.inl rfl) v⟩
  have := heap_setCell_same W b i _ _ v h
  unfold Bx
  simpa using this
end
/-- A deed in a box of its own; its cells. -/
abbrev BxD (W : World) (b : Nat) (x : DeedV) : Prop := Bx W b 28 (encDeed x)
theorem BxD.new2 (w : World) (x : DeedV) : ∃ V, w.alloc (.cells #[.int .i64 x.cl, .int .i64 x.sq, .int .i64 x.op, .int .i64 x.fr, .int .i64 x.to, .slice x.da.a x.da.n x.da.c, .int .i64 x.be, .int .i64 x.en, .slice x.re.a x.re.n x.re.c] 28) = V ∧ BxD V w.heap.size x ∧ Kp Non w V := ⟨_, rfl, Bx.new w _ (encDeed x), (Kp.refl Non w).alloc _⟩
theorem BxD.cells {W : World} {b : Nat} {x : DeedV} (h : BxD W b x) : W.cell? ⟨b, 0, none⟩ = some (.int .i64 x.cl) ∧ W.cell? ⟨b, 1, none⟩ = some (.int .i64 x.sq) ∧ W.cell? ⟨b, 2, none⟩ = some (.int .i64 x.op) ∧ W.cell? ⟨b, 3, none⟩ = some (.int .i64 x.fr) ∧ W.cell? ⟨b, 4, none⟩ = some (.int .i64 x.to) ∧ W.cell? ⟨b, 5, none⟩ = some (.slice x.da.a x.da.n x.da.c) ∧ W.cell? ⟨b, 6, none⟩ = some (.int .i64 x.be) ∧ W.cell? ⟨b, 7, none⟩ = some (.int .i64 x.en) ∧ W.cell? ⟨b, 8, none⟩ = some (.slice x.re.a x.re.n x.re.c) :=
  ⟨h.c rfl, h.c rfl, h.c rfl, h.c rfl, h.c rfl, h.c rfl, h.c rfl, h.c rfl, h.c rfl⟩
theorem Deeds.cells {w : World} {b o n c : Nat} {l : List DeedV} (h : Deeds w (some ⟨b, o, none⟩) n c l) {j : Nat} (hj : j < l.length) :
    w.cell? ⟨b, o + j * 9, none⟩ = some (.int .i64 l[j].cl) ∧ w.cell? ⟨b, o + j * 9 + 1, none⟩ = some (.int .i64 l[j].sq) ∧ w.cell? ⟨b, o + j * 9 + 2, none⟩ = some (.int .i64 l[j].op) ∧ w.cell? ⟨b, o + j * 9 + 3, none⟩ = some (.int .i64 l[j].fr) ∧ w.cell? ⟨b, o + j * 9 + 4, none⟩ = some (.int .i64 l[j].to) ∧ w.cell? ⟨b, o + j * 9 + 5, none⟩ = some (.slice l[j].da.a l[j].da.n l[j].da.c) ∧ w.cell? ⟨b, o + j * 9 + 6, none⟩ = some (.int .i64 l[j].be) ∧ w.cell? ⟨b, o + j * 9 + 7, none⟩ = some (.int .i64 l[j].en) ∧ w.cell? ⟨b, o + j * 9 + 8, none⟩ = some (.slice l[j].re.a l[j].re.n l[j].re.c) :=
  ⟨h.reads.get (i := 0) (List.getElem?_eq_getElem hj) rfl, h.reads.get (i := 1) (List.getElem?_eq_getElem hj) rfl, h.reads.get (i := 2) (List.getElem?_eq_getElem hj) rfl, h.reads.get (i := 3) (List.getElem?_eq_getElem hj) rfl, h.reads.get (i := 4) (List.getElem?_eq_getElem hj) rfl, h.reads.get (i := 5) (List.getElem?_eq_getElem hj) rfl, h.reads.get (i := 6) (List.getElem?_eq_getElem hj) rfl, h.reads.get (i := 7) (List.getElem?_eq_getElem hj) rfl, h.reads.get (i := 8) (List.getElem?_eq_getElem hj) rfl⟩
theorem Deeds.there_of {w : World} {a : Option Addr} {n c : Nat} {l : List DeedV} (h : Deeds w a n c l) {j : Nat} (hj : j < l.length) : l[j].there w := h.each _ (List.getElem_mem hj)
/-- A life. -/
abbrev BxL (W : World) (b : Nat) (x : LifeV) : Prop := Bx W b 48 (encLife x)
theorem BxL.new2 (w : World) (x : LifeV) : ∃ V, w.alloc (.cells #[.int .i64 x.no, .int .i64 x.sh, .slice x.log.a x.log.n x.log.c] 48) = V ∧ BxL V w.heap.size x ∧ Kp Non w V := ⟨_, rfl, Bx.new w _ (encLife x), (Kp.refl Non w).alloc _⟩
theorem BxL.cells {W : World} {b : Nat} {x : LifeV} (h : BxL W b x) : W.cell? ⟨b, 0, none⟩ = some (.int .i64 x.no) ∧ W.cell? ⟨b, 1, none⟩ = some (.int .i64 x.sh) ∧ W.cell? ⟨b, 2, none⟩ = some (.slice x.log.a x.log.n x.log.c) := ⟨h.c rfl, h.c rfl, h.c rfl⟩
theorem Lives.cells {w : World} {b o n c : Nat} {l : List LifeV} (h : Lives w (some ⟨b, o, none⟩) n c l) {j : Nat} (hj : j < l.length) :
    w.cell? ⟨b, o + j * 3, none⟩ = some (.int .i64 l[j].no) ∧ w.cell? ⟨b, o + j * 3 + 1, none⟩ = some (.int .i64 l[j].sh) ∧ w.cell? ⟨b, o + j * 3 + 2, none⟩ = some (.slice l[j].log.a l[j].log.n l[j].log.c) :=
  ⟨h.reads.get (i := 0) (List.getElem?_eq_getElem hj) rfl, h.reads.get (i := 1) (List.getElem?_eq_getElem hj) rfl, h.reads.get (i := 2) (List.getElem?_eq_getElem hj) rfl⟩
theorem Lives.log_of {w : World} {a : Option Addr} {n c : Nat} {l : List LifeV} (h : Lives w a n c l) {j : Nat} (hj : j < l.length) : Rans w l[j].log.a l[j].log.n l[j].log.c l[j].log.l := h.each _ (List.getElem_mem hj)

/-- What is light. -/
structure LightFor (d : List DeedV) (l : List LifeV) : Prop where
  deeds : d.length ≤ 25
  lives : l.length ≤ 6
  logs : ∀ x ∈ l, x.log.l.length ≤ 25
/-- light's answer. -/
def LightOut (d : List DeedV) (l : List LifeV) (w : World) (e : Ending) (w' : World) : Prop := ∃ b, e = .returned (.bool b) ∧ Kp Non w w' ∧ (b = true → LightFor d l)

theorem inst_new (w : World) (x : CmdV) : ∃ V, w.alloc (.cells #[.int .i64 0, .int .i64 0, .int .i64 0, .int .i64 0, .int .i64 0, .int .i64 0, .int .i64 0, .bool false, .int .i64 x.op, .int .i64 x.cl, .int .i64 x.sq, .int .i64 x.fr, .int .i64 x.to, .slice x.da.a x.da.n x.da.c, .int .i64 0, .slice none 0 0] 76) = V ∧
    V.cell? ⟨w.heap.size, 13, none⟩ = some (.slice x.da.a x.da.n x.da.c) ∧ V.cell? ⟨w.heap.size, 15, none⟩ = some (.slice none 0 0) ∧ Kp Non w V := ⟨_, rfl, cell_new rfl 13, cell_new rfl 15, (Kp.refl Non w).alloc _⟩

set_option maxRecDepth 100000 in
set_option maxHeartbeats 1000000 in
theorem light7_calls (x : CmdV) (w : World) (hx : x.da.there w) : Calls Try.prog 25 #[.agg #[.int .i64 0, .int .i64 0, .int .i64 0, .int .i64 0, .int .i64 0, .int .i64 0, .int .i64 0, .bool false, .int .i64 x.op, .int .i64 x.cl, .int .i64 x.sq, .int .i64 x.fr, .int .i64 x.to, .slice x.da.a x.da.n x.da.c, .int .i64 0, .slice none 0 0]] w (AnyBool w) := by
  obtain ⟨op, cl, sq, fr, tt, a, n, c, l⟩ := x
  obtain rfl : n = l.length := hx.len
  have hS : Texts w a l.length c l := hx
  clear hx
  have hc := hS.cap
  have hm := hS.max
  have HW := Lib.hid (inst_new w ⟨op, cl, sq, fr, tt, ⟨a, l.length, c, l⟩⟩)
  go_enter Try.func25, Try.ntmps25
  go_wp2_with fail
  obtain ⟨W, eW, x13, x15, hkW⟩ := HW.out
  rw [eW]
  clear eW HW
  generalize w.heap.size = bs at *
  go_loopw [3, 4, 5, 10] (fun v3 _ _ v10 wr => ∃ k : Nat, k ≤ l.length ∧ v10 = .int .i64 k ∧ (∃ z, v3 = .int .i64 z) ∧ Kp Non W wr) (fun _ _ _ v10 _ => l.length - (intOf v10).toNat)
  case atStart => exact ⟨0, by omega, rfl, ⟨0, rfl⟩, Kp.refl _ _⟩
  case round =>
    obtain ⟨k, hk', rfl, ⟨z, rfl⟩, hkr⟩ := hrel
    by_cases hlt : k < l.length
    · have g : (k : Int) < (l.length : Nat) := by omega
      obtain ⟨b, o, rfl⟩ := hS.there (by omega)
      have c0 := Texts.c (hS.non (hkW.trans hkr)) hlt
      generalize l[k] = s at *
      rcases Bool.eq_false_or_eq_true (decide ((100 : Int) < k)) with d1 | d1
      · go_wp2_with fail
        go_ret
        exact ⟨_, rfl, hkW.trans hkr⟩
      · rcases Bool.eq_false_or_eq_true (decide ((10000 : Int) < s.size)) with d2 | d2
        · go_wp2_with fail
          go_ret
          exact ⟨_, rfl, hkW.trans hkr⟩
        · rcases Bool.eq_false_or_eq_true (decide ((100000 : Int) < z)) with d3 | d3
          · go_wp2_with fail
            go_ret
            exact ⟨_, rfl, hkW.trans hkr⟩
          · go_wp2_with fail
            go_roundw
            case rel => exact ⟨k + 1, by omega, by go_num, ⟨_, rfl⟩, hkr⟩
            case measure => simp [intOf]; omega
    · obtain rfl : k = l.length := by omega
      have x15 := hkr.cell x15 (fun f => f)
      go_wp2_with fail
      go_ret
      exact ⟨_, rfl, hkW.trans hkr⟩
set_option maxRecDepth 100000 in
set_option maxHeartbeats 1000000 in
theorem light_calls (a a' : Option Addr) (c c' : Nat) (d : List DeedV) (l : List LifeV) (w : World) (hd : Deeds w a d.length c d) (hl : Lives w a' l.length c' l) : Calls Try.prog 10 #[.slice a d.length c, .slice a' l.length c'] w (LightOut d l w) := by
  have hcd := hd.reads.cap
  have hmd := hd.reads.max
  have hcl := hl.reads.cap
  have hml := hl.reads.max
  rcases Bool.eq_false_or_eq_true (decide ((25 : Int) < d.length)) with d1 | d1
  · go_enter Try.func10, Try.ntmps10
    go_wp2_with fail
    go_ret
    exact ⟨_, rfl, Kp.refl _ _, fun h => by cases h⟩
  rcases Bool.eq_false_or_eq_true (decide ((6 : Int) < l.length)) with d2 | d2
  · go_enter Try.func10, Try.ntmps10
    go_wp2_with fail
    go_ret
    exact ⟨_, rfl, Kp.refl _ _, fun h => by cases h⟩
  have H1 : Hid (d.length ≤ 25) := Lib.hid (by have := of_decide_eq_false d1; omega)
  have H2 : Hid (l.length ≤ 6) := Lib.hid (by have := of_decide_eq_false d2; omega)
  go_enter Try.func10, Try.ntmps10
  go_wp2_with fail
  go_loopw [21] (fun v21 wr => ∃ k : Nat, k ≤ d.length ∧ v21 = .int .i64 k ∧ Kp Non w wr) (fun v21 _ => d.length - (intOf v21).toNat)
  case atStart => exact ⟨0, by omega, rfl, Kp.refl _ _⟩
  case round =>
    obtain ⟨k, hk', rfl, hkr⟩ := hrel
    by_cases hlt : k < d.length
    · have g : (k : Int) < (d.length : Nat) := by omega
      obtain ⟨b, o, rfl⟩ := hd.reads.there (by omega)
      obtain ⟨c0, c1, c2, c3, c4, c5, c6, c7, c8⟩ := (hd.non hkr).cells hlt
      have HN := Lib.hid (BxD.new2 wr d[k])
      generalize d[k] = x at *
      go_upto_region 6 with (fail)
      obtain ⟨V, eV, hN, kV⟩ := HN.out
      rw [eV]
      obtain ⟨n0, n1, n2, n3, n4, n5, n6, n7, n8⟩ := hN.cells
      have hkV := hkr.trans kV
      clear eV HN hN
      generalize wr.heap.size = bx at *
      rcases Bool.eq_false_or_eq_true (decide ((40 : Int) < x.da.n)) with e1 | e1
      · go_wp2_with fail
        go_ret
        exact ⟨_, rfl, hkV, fun h => by cases h⟩
      rcases Bool.eq_false_or_eq_true (decide ((40 : Int) < x.re.n)) with e2 | e2
      · go_wp2_with fail
        go_ret
        exact ⟨_, rfl, hkV, fun h => by cases h⟩
      go_wp2_with fail
      go_roundw
      case rel => exact ⟨k + 1, by omega, by go_num, hkV⟩
      case measure => simp [intOf]; omega
    · obtain rfl : k = d.length := by omega
      clear d1 d2
      obtain ⟨w0, rfl⟩ : ∃ w0, w0 = wr := ⟨_, rfl⟩
      go_wp2_with fail
      go_loopw [38] (fun v38 ws => ∃ k : Nat, k ≤ l.length ∧ v38 = .int .i64 k ∧ Hid (∀ j, (h : j < l.length) → j < k → l[j].log.l.length ≤ 25) ∧ Kp Non w0 ws) (fun v38 _ => l.length - (intOf v38).toNat)
      case atStart => exact ⟨0, by omega, rfl, Lib.hid fun j _ h => absurd h (by omega), Kp.refl _ _⟩
      case round =>
        obtain ⟨k, hk', rfl, hall, hkr2⟩ := hrel
        have hkw := hkr.trans hkr2
        by_cases hlt : k < l.length
        · have g : (k : Int) < (l.length : Nat) := by omega
          obtain ⟨b, o, rfl⟩ := hl.reads.there (by omega)
          obtain ⟨c0, c1, c2⟩ := (hl.non hkw).cells hlt
          have HL := hl.log_of hlt
          have HN := Lib.hid (BxL.new2 wr l[k])
          have HA : Hid (l[k].log.l.length ≤ 25 → ∀ j, (h : j < l.length) → j < k + 1 → l[j].log.l.length ≤ 25) := Lib.hid fun e j h hj => if hh : j < k then hall.out j h hh else by
            obtain rfl : j = k := by omega
            exact e
          generalize l[k] = x at *
          obtain ⟨xn, xs, ⟨la, ln, lc, ll⟩⟩ := x
          simp only at HL HA c0 c1 c2 HN
          obtain rfl : ln = ll.length := HL.reads.len
          have hcx := HL.reads.cap
          have hmx := HL.reads.max
          go_upto_region 12 with (fail)
          obtain ⟨V, eV, hN, kV⟩ := HN.out
          rw [eV]
          obtain ⟨n0, n1, n2⟩ := hN.cells
          have hkV := hkr2.trans kV
          clear eV HN hN
          generalize wr.heap.size = bx at *
          rcases Bool.eq_false_or_eq_true (decide ((25 : Int) < ll.length)) with e1 | e1
          · go_wp2_with fail
            go_ret
            exact ⟨_, rfl, hkr.trans hkV, fun h => by cases h⟩
          have HB := Lib.hid (HA.out (by have := of_decide_eq_false e1; omega))
          clear HA hall
          go_wp2_with fail
          go_loopw [49] (fun v49 wi => ∃ j : Nat, j ≤ ll.length ∧ v49 = .int .i64 j ∧ Kp Non V wi) (fun v49 _ => ll.length - (intOf v49).toNat)
          case atStart => exact ⟨0, by omega, rfl, Kp.refl _ _⟩
          case round =>
            obtain ⟨j, hj', rfl, hki⟩ := hrel
            have hkz := hkr.trans (hkV.trans hki)
            by_cases hjt : j < ll.length
            · have gj : (j : Int) < (ll.length : Nat) := by omega
              obtain ⟨b2, o2, rfl⟩ := HL.reads.there (by omega)
              have HLr := HL.non hkz
              obtain ⟨c0, c1, c2, c3, c4, c5, c6, c7, c8, c9⟩ := HLr.cells hjt
              have HTh := HLr.there_of hjt
              have HM := Lib.hid (BoxN.new2 wr ll[j])
              generalize ll[j] = q at *
              go_upto_region 17 with (fail)
              obtain ⟨U, eU, hN, kU⟩ := HM.out
              rw [eU]
              have n2 := hN.c2
              have n3 := hN.c3
              have n4 := hN.c4
              have n5 := hN.c5
              have n6 := hN.c6
              have n7 := hN.c7
              have n9 := hN.c9
              have hkU := hki.trans kU
              have HC := Lib.hid (light7_calls q.cmd U (HTh.1.non kU))
              clear eU HM hN HTh c0 c1 c2 c3 c4 c5 c6 c7 c8 c9
              generalize wr.heap.size = bq at *
              go_wp2_with fail
              refine HC.out.mono ?_
              rintro e w4 ⟨bl, rfl, hk4⟩
              have n9 := hk4.cell n9 (fun f => f)
              have hk4 := hkU.trans hk4
              clear HC n2 n3 n4 n5 n6 n7
              rcases bl with _ | _
              · go_wp2_with fail
                go_ret
                exact ⟨_, rfl, hkr.trans (hkV.trans hk4), fun h => by cases h⟩
              · rcases Bool.eq_false_or_eq_true (decide ((40 : Int) < q.rep.da.n)) with e2 | e2
                · go_wp2_with fail
                  go_ret
                  exact ⟨_, rfl, hkr.trans (hkV.trans hk4), fun h => by cases h⟩
                · go_wp2_with fail
                  go_roundw
                  case rel => exact ⟨j + 1, by omega, by go_num, hk4⟩
                  case measure => simp [intOf]; omega
            · obtain rfl : j = ll.length := by omega
              go_wp2_with fail
              go_roundw
              case rel => exact ⟨k + 1, by omega, by go_num, HB, hkV.trans hki⟩
              case measure => simp [intOf]; omega
        · obtain rfl : k = l.length := by omega
          go_wp2_with fail
          go_ret
          exact ⟨_, rfl, hkw, fun _ => ⟨H1.out, H2.out, fun x hx => by
            obtain ⟨j, hj, he⟩ := List.getElem_of_mem hx
            rw [← he]
            exact hall.out j hj hj⟩⟩
end Go.Proofs.Ytpehfnobgdjgcaa
