/-
  Boxes; a shard that shares nothing (own).
-/
import Derived.Test.YtdijaillcajpaaaD0
namespace Go.Proofs.Ytdijaillcajpaaa
open Go.RowKit

/-- A block of our own that holds just these cells. -/
def Bx (W : World) (b : Nat) (t : TypeId) (l : List Value) : Prop := W.heap[b]? = some (.cells l.toArray t (0, 0))
section
variable {W W' : World} {b : Nat} {t : TypeId} {l : List Value}
theorem Bx.new (w : World) (t : TypeId) (l : List Value) : Bx (w.alloc (.cells l.toArray t)) w.heap.size t l := heap_alloc_new w _
theorem Bx.kp {S : Nat → Prop} (h : Bx W b t l) (k : Kp S W W') (hn : ¬ S b) : Bx W' b t l := k.heap h hn
theorem Bx.non (h : Bx W b t l) (k : Kp Non W W') : Bx W' b t l := k.heap h (fun f => f)
theorem Bx.c (h : Bx W b t l) {i : Nat} {v : Value} (hv : l[i]? = some v) : W.cell? ⟨b, i, none⟩ = some v := (cell_of_row W b i _ _ _ h).trans (by simpa using hv)
theorem Bx.lt (h : Bx W b t l) : b < W.heap.size := heap_lt h
theorem Bx.f (h : Bx W b t l) (i : Nat) : W.frozen? ⟨b, i, none⟩ = false := by
  unfold Bx at h
  simp [World.frozen?, h]
theorem Bx.set (h : Bx W b t l) (i : Nat) (v : Value) : Bx (W.setCell ⟨b, i, none⟩ v) b t (l.set i v) ∧ Kp (One b) W (W.setCell ⟨b, i, none⟩ v) := by
  refine ⟨?_, (Kp.refl (One b) W).setCell (p := ⟨b, i, none⟩) (.inl rfl) v⟩
  have := heap_setCell_same W b i _ _ v h
  unfold Bx
  simpa using this
end
theorem no_row {α β : Type} {W : World} {encA : α → List Value} {ka : Nat} {ba : Nat} {ea : TypeId} {a : Option Addr} {n c : Nat} {l : List α} {encB : β → List Value} {kb : Nat} {bb : Nat} {eb : TypeId} {a' : Option Addr} {n' c' : Nat} {l' : List β}
    (h : OwnR encA ka W ba ea a n c l) (h' : OwnR encB kb W bb eb a' n' c' l') (ht : ea ≠ eb) : ∀ i, Blk a i → ¬ Blk a' i := fun i hi hi' => by
  obtain ⟨cs, e1⟩ := h.tag i hi
  obtain ⟨cs', e2⟩ := h'.tag i hi'
  rw [e1] at e2
  simp at e2
  exact ht e2.2
theorem no_box {α : Type} {W : World} {encA : α → List Value} {ka : Nat} {ba : Nat} {ea : TypeId} {a : Option Addr} {n c : Nat} {l : List α} {b : Nat} {t : TypeId} {vs : List Value} (h : OwnR encA ka W ba ea a n c l) (h' : Bx W b t vs) (ht : ea ≠ t) : ¬ Blk a b := fun hi => by
  obtain ⟨cs, e1⟩ := h.tag b hi
  have e2 : W.heap[b]? = some (.cells vs.toArray t (0, 0)) := h'
  rw [e1] at e2
  simp at e2
  exact ht e2.2
theorem no_one {b : Nat} {a : Option Addr} (h : ¬ Blk a b) : ∀ i, Blk a i → ¬ One b i := fun i hi e => by
  have : i = b := e
  exact h (this ▸ hi)
theorem results_cell_shd {fn : Func} {p : Tmp} (h : fn.results = #[.cell p 40]) (tmps : Array Value) (w : World) {x : ShdV} {b : Nat} (ht : tmps.getD p undef = .pointer (some ⟨b, 0, none⟩)) (hc : Bx w b 40 (encShd x)) :
    (results fn tmps).run Try.prog w = .ok (valShd x) w := by
  have c0 : w.cell? ⟨b, 0, none⟩ = _ := hc.c rfl
  have c1 : w.cell? ⟨b, 1, none⟩ = _ := hc.c rfl
  have c2 : w.cell? ⟨b, 2, none⟩ = _ := hc.c rfl
  have c3 : w.cell? ⟨b, 3, none⟩ = _ := hc.c rfl
  have c4 : w.cell? ⟨b, 4, none⟩ = _ := hc.c rfl
  have := Try.sizeOf40
  have ht' : tmps[p]?.getD undef = .pointer (some ⟨b, 0, none⟩) := by simpa using ht
  simp [results, h, ht', go_sem, c0, c1, c2, c3, c4, this, valShd, Addr.add]
theorem Bx.shd {W : World} {b : Nat} {t : TypeId} {v0 v1 v2 v3 v4 : Value} (h : Bx W b t [v0, v1, v2, v3, v4]) : W.cell? ⟨b, 0, none⟩ = some v0 ∧ W.cell? ⟨b, 1, none⟩ = some v1 ∧ W.cell? ⟨b, 2, none⟩ = some v2 ∧ W.cell? ⟨b, 3, none⟩ = some v3 ∧ W.cell? ⟨b, 4, none⟩ = some v4 := ⟨h.c rfl, h.c rfl, h.c rfl, h.c rfl, h.c rfl⟩

def ShdV.fit (s : ShdV) : Prop := s.me.n ≤ 1000000 ∧ s.pa.n ≤ 1000000 ∧ ∀ o ∈ s.pa.l, o.me.n ≤ 1000000
/-- A shard that shares nothing comes out. -/
def ShdOut (s : ShdV) (w : World) (e : Ending) (w' : World) : Prop := ∃ s' : ShdV, e = .returned (valShd s') ∧ s'.own w' w.heap.size ∧ s'.pl = s.pl ∧ Kp Non w w'
/-- How far the origins are copied. -/
structure OwnSt (id fr to : Int) (ml : List Int) (pl : List OrgV) (w : World) (a1 : Option Addr) (c1 : Nat) (k : Nat) (a : Option Addr) (c : Nat) (L : List OrgV) (wr : World) : Prop where
  b0 : Bx wr w.heap.size 40 [.int .i64 id, .int .i64 fr, .int .i64 to, .slice a1 ml.length c1, .slice a k c]
  b1 : Bx wr (w.heap.size + 1) 40 [.int .i64 0, .int .i64 0, .int .i64 0, .slice none 0 0, .slice none 0 0]
  me : OwnI wr w.heap.size a1 ml.length c1 ml
  row : OwnR encOrg 4 wr w.heap.size 95 a k c L
  each : ∀ o ∈ L, o.me.own wr w.heap.size
  pl : L.map OrgV.pl = (pl.take k).map OrgV.pl
  kp : Kp Non w wr
theorem OwnSt.non {id fr to : Int} {ml : List Int} {pl : List OrgV} {w : World} {a1 : Option Addr} {c1 k : Nat} {a : Option Addr} {c : Nat} {L : List OrgV} {wr W : World} (h : OwnSt id fr to ml pl w a1 c1 k a c L wr) (q : Kp Non wr W) : OwnSt id fr to ml pl w a1 c1 k a c L W :=
  ⟨h.b0.non q, h.b1.non q, h.me.non q, h.row.non q, fun o ho => (h.each o ho).non q, h.pl, h.kp.trans q⟩
theorem OwnSt.step {id fr to : Int} {ml : List Int} {pl : List OrgV} {w : World} {a1 : Option Addr} {c1 k : Nat} {a : Option Addr} {c : Nat} {L : List OrgV} {W w6 : World} (h : OwnSt id fr to ml pl w a1 c1 k a c L W) (hk6 : Kp (Blk a) W w6) {a6 : Option Addr} {c6 : Nat} {x : OrgV}
    (hO6 : OwnR encOrg 4 w6 w.heap.size 95 a6 (k + 1) c6 (L ++ [x])) (hx : x.me.own W w.heap.size) {y : OrgV} (hy : y.pl = x.pl) (ht : pl.take (k + 1) = pl.take k ++ [y]) : OwnSt id fr to ml pl w a1 c1 (k + 1) a6 c6 (L ++ [x]) (w6.setCell ⟨w.heap.size, 4, none⟩ (.slice a6 (k + 1) c6)) := by
  have b6 := h.b0.kp hk6 (no_box h.row h.b0 (by decide))
  obtain ⟨g1, k1⟩ := b6.set 4 (.slice a6 (k + 1) c6)
  have m6 := OwnR.kp h.me hk6 (no_row h.me h.row (by decide))
  have e6 : ∀ o ∈ L ++ [x], o.me.own w6 w.heap.size := fun o ho => by
    have hw : o.me.own W w.heap.size := by
      rcases List.mem_append.1 ho with ho | ho
      · exact h.each o ho
      · simp at ho; subst ho; exact hx
    exact Il.own.kp hw hk6 (no_row hw h.row (by decide))
  have k6 : Kp Non w w6 := Kp.comp h.kp hk6 (fun _ _ f => f) (fun i hi e => by have := (h.row.blk i e).1; omega)
  refine ⟨g1, (h.b1.kp hk6 (no_box h.row h.b1 (by decide))).kp k1 (by show ¬ _ = _; omega), OwnR.kp m6 k1 (no_one (no_box m6 b6 (by decide))), hO6.kp k1 (no_one (no_box hO6 b6 (by decide))), fun o ho => Il.own.kp (e6 o ho) k1 (no_one (no_box (e6 o ho) b6 (by decide))), ?_, Kp.comp k6 k1 (fun _ _ f => f) (fun i hi e => by have e : i = w.heap.size := e; omega)⟩
  rw [ht, List.map_append, List.map_append, h.pl]
  simp [hy]
set_option maxRecDepth 100000 in
set_option maxHeartbeats 1000000 in
theorem own_at (id fr to : Int) (ma : Option Addr) (mc : Nat) (ml : List Int) (pa : Option Addr) (pc : Nat) (pl : List OrgV) (w : World) (h1 : Ints w ma ml.length mc ml) (h2 : Reads encOrg 4 w pa pl.length pc pl) (h3 : ∀ o ∈ pl, o.me.there w) (hf1 : ml.length ≤ 1000000) (hf2 : pl.length ≤ 1000000) (hf3 : ∀ o ∈ pl, o.me.n ≤ 1000000) :
    Calls Try.prog 50 #[.agg #[.int .i64 id, .int .i64 fr, .int .i64 to, .slice ma ml.length mc, .slice pa pl.length pc]] w (ShdOut ⟨id, fr, to, ⟨ma, ml.length, mc, ml⟩, ⟨pa, pl.length, pc, pl⟩⟩ w) := by
  obtain ⟨i0, hi0, hz0, hz1, hz2⟩ := info_parts infoOrg
  have hmax := h2.max
  have hcap := h2.cap
  go_enter Try.func50, Try.ntmps50
  go_wp2_with fail
  obtain ⟨V, hV, hB0, hB1, hkV⟩ : ∃ V, (w.alloc (.cells #[.int .i64 id, .int .i64 fr, .int .i64 to, .slice ma ml.length mc, .slice pa pl.length pc] 40)).alloc (.cells #[.int .i64 0, .int .i64 0, .int .i64 0, .slice none 0 0, .slice none 0 0] 40) = V ∧ Bx V w.heap.size 40 [.int .i64 id, .int .i64 fr, .int .i64 to, .slice ma ml.length mc, .slice pa pl.length pc] ∧ Bx V (w.heap.size + 1) 40 [.int .i64 0, .int .i64 0, .int .i64 0, .slice none 0 0, .slice none 0 0] ∧ Kp Non w V :=
    ⟨_, rfl, Bx.non (Bx.new w _ [.int .i64 id, .int .i64 fr, .int .i64 to, .slice ma ml.length mc, .slice pa pl.length pc]) ((Kp.refl _ _).alloc _), by rw [← World.size_alloc w]; exact Bx.new _ _ _, ((Kp.refl _ w).alloc _).alloc _⟩
  rw [hV]
  clear hV
  refine (cloneIs_calls ma ml.length mc ml V (Reads.non h1 hkV) (by omega)).mono ?_
  rintro e W1 ⟨a1, c1, rfl, hO1, hk1⟩
  have hk1' := hkV.trans hk1
  have hB0' := Bx.non hB0 hk1
  obtain ⟨-, -, -, x3, x4⟩ := hB0'.shd
  have f3 := hB0'.f 3
  have f4 := hB0'.f 4
  go_wp2_with fail
  obtain ⟨W2, hW2, hS⟩ : ∃ W2, (W1.setCell ⟨w.heap.size, 3, none⟩ (.slice a1 ml.length c1)).setCell ⟨w.heap.size, 4, none⟩ (.slice none 0 0) = W2 ∧ OwnSt id fr to ml pl w a1 c1 0 none 0 [] W2 := by
    refine ⟨_, rfl, ?_⟩
    obtain ⟨g1, k1⟩ := hB0'.set 3 (.slice a1 ml.length c1)
    obtain ⟨g2, k2⟩ := g1.set 4 (.slice none 0 0)
    have kk := k1.trans k2
    refine ⟨g2, (Bx.non hB1 hk1).kp kk (by show ¬ _ = _; omega), OwnR.lower (OwnR.kp hO1 kk (no_one (no_box hO1 hB0' (by decide)))) hkV.size, OwnR.nil _ _ _, (fun _ h => by cases h), rfl, ?_⟩
    exact Kp.comp hk1' kk (fun _ _ f => f) (fun i hi e => by have e : i = w.heap.size := e; omega)
  rw [hW2]
  clear hW2 x3 x4 f3 f4 hB0 hB1 hB0' hO1 hk1 hk1' hkV
  go_loopw [15] (fun v15 wr => ∃ k a c L, k ≤ pl.length ∧ v15 = .int .i64 (k : Nat) ∧ OwnSt id fr to ml pl w a1 c1 k a c L wr) (fun v15 _ => pl.length - (intOf v15).toNat)
  case atStart => exact ⟨0, none, 0, [], by omega, rfl, hS⟩
  case round =>
    clear hS
    obtain ⟨k, a, c, L, hk, rfl, hS⟩ := hrel
    by_cases hlt : k < pl.length
    · have g : (k : Int) < (pl.length : Nat) := by omega
      obtain ⟨bl, ol, rfl⟩ := h2.there (by omega)
      have hR := Reads.non h2 hS.kp
      have c0 := hR.get (i := 0) (List.getElem?_eq_getElem hlt) rfl
      have c1' := hR.get (i := 1) (List.getElem?_eq_getElem hlt) rfl
      have c2 := hR.get (i := 2) (List.getElem?_eq_getElem hlt) rfl
      have c3 := hR.get (i := 3) (List.getElem?_eq_getElem hlt) rfl
      rw [Nat.add_zero] at c0
      have ho := h3 pl[k] (List.getElem_mem hlt)
      have hon := hf3 pl[k] (List.getElem_mem hlt)
      have HT : Hid (pl.take (k + 1) = pl.take k ++ [pl[k]]) := Lib.hid (List.take_succ_eq_append_getElem hlt)
      obtain ⟨o, ho1⟩ : ∃ o, pl[k] = o := ⟨_, rfl⟩
      rw [ho1] at c0 c1' c2 c3 ho hon HT
      clear ho1 hR
      obtain ⟨oid, ofr, oto, ⟨oa, on, oc, ol2⟩⟩ := o
      obtain rfl : on = ol2.length := Reads.len ho
      have hon : ol2.length ≤ 1000000 := hon
      go_wp2_with fail
      obtain ⟨V, hV, hb, hkN⟩ : ∃ V, wr.alloc (.cells #[.int .i64 oid, .int .i64 ofr, .int .i64 oto, .slice oa ol2.length oc] 95) = V ∧ Bx V wr.heap.size 95 [.int .i64 oid, .int .i64 ofr, .int .i64 oto, .slice oa ol2.length oc] ∧ Kp Non wr V := ⟨_, rfl, Bx.new wr _ [.int .i64 oid, .int .i64 ofr, .int .i64 oto, .slice oa ol2.length oc], (Kp.refl _ _).alloc _⟩
      rw [hV]
      clear hV c0 c1' c2 c3
      refine (cloneIs_calls oa ol2.length oc ol2 V (Reads.non ho (hS.kp.trans hkN)) (by omega)).mono ?_
      rintro e W4 ⟨a2, c2, rfl, hO2, hk2⟩
      have hb4 := hb.non hk2
      obtain ⟨hb5, hk5⟩ := hb4.set 3 (.slice a2 ol2.length c2)
      have hk5' : Kp Non wr (W4.setCell ⟨wr.heap.size, 3, none⟩ (.slice a2 ol2.length c2)) := Kp.comp (hkN.trans hk2) hk5 (fun _ _ f => f) (fun i hi e => by have e : i = wr.heap.size := e; omega)
      have hO5 := OwnR.kp hO2 hk5 (no_one (no_box hO2 hb4 (by decide)))
      have hS4 := hS.non (hkN.trans hk2)
      have hS5 := hS.non hk5'
      have y0 : W4.cell? ⟨wr.heap.size, 0, none⟩ = _ := hb4.c rfl
      have y1 : W4.cell? ⟨wr.heap.size, 1, none⟩ = _ := hb4.c rfl
      have y2 : W4.cell? ⟨wr.heap.size, 2, none⟩ = _ := hb4.c rfl
      have y3 : W4.cell? ⟨wr.heap.size, 3, none⟩ = _ := hb4.c rfl
      have yf := hb4.f 3
      obtain ⟨-, -, -, -, x4⟩ := hS4.b0.shd
      have hne : ¬ w.heap.size = wr.heap.size := by have := hS.b0.lt; omega
      obtain ⟨W5, hW5⟩ : ∃ W5, W5 = W4.setCell ⟨wr.heap.size, 3, none⟩ (.slice a2 ol2.length c2) := ⟨_, rfl⟩
      have hz5 : W5.heap.size = W4.heap.size := by rw [hW5]; simp
      have hX := Reads.new (enc := encOrg) (k := 4) (w := W5) (b := W5.heap.size) (cur := #[.int .i64 oid, .int .i64 ofr, .int .i64 oto, .slice a2 ol2.length c2]) (e := 95) (fr := (0, 0)) (x := (⟨oid, ofr, oto, ⟨a2, ol2.length, c2, ol2⟩⟩ : OrgV)) rfl rfl
      rw [hz5] at hX
      rw [← hW5] at hS5 hO5
      have hRow := hS5.row.non ((Kp.refl Non W5).alloc (.cells #[.int .i64 oid, .int .i64 ofr, .int .i64 oto, .slice a2 ol2.length c2] 95 (0, 0)))
      have hbs : w.heap.size ≤ W5.heap.size := hS5.kp.size
      have HS6 := Lib.hid (hS5.non ((Kp.refl Non W5).alloc (.cells #[.int .i64 oid, .int .i64 ofr, .int .i64 oto, .slice a2 ol2.length c2] 95 (0, 0))))
      have HO6 := Lib.hid (Il.own.non (x := ⟨a2, ol2.length, c2, ol2⟩) (OwnR.lower hO5 (Nat.le_trans hS.kp.size hkN.size)) ((Kp.refl Non W5).alloc (.cells #[.int .i64 oid, .int .i64 ofr, .int .i64 oto, .slice a2 ol2.length c2] 95 (0, 0))))
      have HB := Lib.hid (Nat.le_trans hbs ((Kp.refl Non W5).alloc (.cells #[.int .i64 oid, .int .i64 ofr, .int .i64 oto, .slice a2 ol2.length c2] 95 (0, 0))).size)
      have HX := Lib.hid hX
      have HR := Lib.hid hRow
      have HW := Lib.hid hW5
      rw [hW5] at HX HR HB HS6 HO6
      clear hX hRow hz5 hW5 hbs hk5 hk5' hO5 hS5 hb5 hO2 hS4 hb4 hS hb hkN hk2 h1 h2
      go_wp2_with (at_builtin; go_loud (refine wpList_append_row rfl _ _ 38 rfl w.heap.size 95 i0 _ 48 Try.underlying38 hi0 hz0 hz1 hz2 rfl (by decide) encOrg_len encOrg_one a k c L rfl HR.out _ 1 1 _ rfl HX.out (by omega) (by omega) HB.out ?_); intro a6 c6 w6 hO6 hk6 _; go_loud (have hb6 := HS6.out.b0.kp hk6 (no_box HR.out HS6.out.b0 (by decide)); have z4 : w6.cell? ⟨w.heap.size, 4, none⟩ = _ := hb6.c rfl; have zf := hb6.f 4; have HSt := Lib.hid (HS6.out.step hk6 hO6 HO6.out (y := ⟨oid, ofr, oto, ⟨oa, ol2.length, oc, ol2⟩⟩) rfl HT.out); clear hb6 hO6 hk6))
      go_roundw
      case rel => exact ⟨k + 1, a6, c6, _, by omega, by go_num, HSt.out⟩
      case measure => simp [intOf]; omega
    · obtain rfl : k = pl.length := by omega
      obtain ⟨x0, x1, x2, x3, x4⟩ := hS.b0.shd
      obtain ⟨y0, y1, y2, y3, y4⟩ := hS.b1.shd
      have yf0 := hS.b1.f 0
      have yf1 := hS.b1.f 1
      have yf2 := hS.b1.f 2
      have yf3 := hS.b1.f 3
      have yf4 := hS.b1.f 4
      go_wp2_with fail
      obtain ⟨W, hW, hB⟩ : ∃ W, ((((wr.setCell ⟨w.heap.size + 1, 0, none⟩ (.int .i64 id)).setCell ⟨w.heap.size + 1, 1, none⟩ (.int .i64 fr)).setCell ⟨w.heap.size + 1, 2, none⟩ (.int .i64 to)).setCell ⟨w.heap.size + 1, 3, none⟩ (.slice a1 ml.length c1)).setCell ⟨w.heap.size + 1, 4, none⟩ (.slice a pl.length c) = W ∧
          Bx W (w.heap.size + 1) 40 [.int .i64 id, .int .i64 fr, .int .i64 to, .slice a1 ml.length c1, .slice a pl.length c] ∧ Kp (One (w.heap.size + 1)) wr W := by
        refine ⟨_, rfl, ?_⟩
        obtain ⟨g0, k0⟩ := hS.b1.set 0 (.int .i64 id)
        obtain ⟨g1, k1⟩ := g0.set 1 (.int .i64 fr)
        obtain ⟨g2, k2⟩ := g1.set 2 (.int .i64 to)
        obtain ⟨g3, k3⟩ := g2.set 3 (.slice a1 ml.length c1)
        obtain ⟨g4, k4⟩ := g3.set 4 (.slice a pl.length c)
        exact ⟨g4, (((k0.trans k1).trans k2).trans k3).trans k4⟩
      rw [hW]
      obtain ⟨hB, hkW⟩ := hB
      refine ⟨rfl, _, results_cell_shd (b := w.heap.size + 1) (x := ⟨id, fr, to, ⟨a1, ml.length, c1, ml⟩, ⟨a, pl.length, c, L⟩⟩) rfl _ _ rfl hB, ⟨id, fr, to, ⟨a1, ml.length, c1, ml⟩, ⟨a, pl.length, c, L⟩⟩, rfl, ⟨OwnR.kp hS.me hkW (no_one (no_box hS.me hS.b1 (by decide))), hS.row.kp hkW (no_one (no_box hS.row hS.b1 (by decide))), fun o ho => Il.own.kp (hS.each o ho) hkW (no_one (no_box (hS.each o ho) hS.b1 (by decide)))⟩, ?_, Kp.comp hS.kp hkW (fun _ _ f => f) (fun i hi e => by have e : i = w.heap.size + 1 := e; omega)⟩
      have := hS.pl
      rw [List.take_length] at this
      unfold ShdV.pl
      rw [this]
theorem own_calls (s : ShdV) (w : World) (h : s.there w) (hf : s.fit) : Calls Try.prog 50 #[valShd s] w (ShdOut s w) := by
  obtain ⟨id, fr, to, ⟨ma, mn, mc, ml⟩, ⟨pa, pn, pc, pl⟩⟩ := s
  obtain rfl : mn = ml.length := Reads.len h.1
  obtain rfl : pn = pl.length := Reads.len h.2.1
  exact own_at id fr to ma mc ml pa pc pl w h.1 h.2.1 h.2.2 hf.1 hf.2.1 hf.2.2
end Go.Proofs.Ytdijaillcajpaaa
