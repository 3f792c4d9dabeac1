/-
  What a map tells: Blocks, Epoch, Next, Open, Get.
-/
import Derived.Test.YtdijaillcajpaaaD2
namespace Go.Proofs.Ytdijaillcajpaaa
open Go.RowKit

/-- The block m is the map A. -/
structure AtlAt (w : World) (m : Nat) (A : Atl) (G : Geo) : Prop where
  r : AtlR w m A.bl A.ep A.nx (A.sh.map pc) G
  good : Good A
  look : ∀ id, (mget G.L id).map ShdV.pl = A.sh.find? fun s => decide (s.id = id)
  opl : G.op.l = A.op
  opn : A.op = [] → G.op = Il.nil
theorem AtlAt.non {w w' : World} {m : Nat} {A : Atl} {G : Geo} (h : AtlAt w m A G) (k : Kp Non w w') : AtlAt w' m A G := ⟨h.r.non k, h.good, h.look, h.opl, h.opn⟩
theorem AtlAt.kp {S : Nat → Prop} {w w' : World} {m : Nat} {A : Atl} {G : Geo} (h : AtlAt w m A G) (k : Kp S w w') (hn : ∀ i, AB G m i → ¬ S i) : AtlAt w' m A G := ⟨h.r.kp k hn, h.good, h.look, h.opl, h.opn⟩
theorem Mems.len {l : List Int} (h : Mems l) : l.length ≤ 7 := by
  have h1 : l.Sublist nodes := by
    have : l = nodes.filter fun n => decide (n ∈ l) := by
      refine rise_ext h.2.1 (nodes_rise.filter _) fun x => ?_
      rw [List.mem_filter, mem_nodes, decide_eq_true_iff]
      exact ⟨fun q => ⟨h.1 x q, q⟩, fun q => q.2⟩
    rw [this]
    exact List.filter_sublist
  exact h1.length_le
/-- A shard of a good map is small. -/
theorem fit_of {A : Atl} (hg : Good A) {s : ShdV} {w : World} (hs : s.there w) (hm : s.pl ∈ A.sh) : s.fit ∧ s.me.n ≤ 7 ∧ s.pa.n ≤ 2 ∧ ∀ o ∈ s.pa.l, o.me.n ≤ 7 := by
  have h1 : s.me.n ≤ 7 := by
    have := (hg.mem _ hm).len
    have e : s.me.n = s.me.l.length := Reads.len hs.1
    rw [e]; exact this
  have h2 : s.pa.n ≤ 2 := by
    have := (hg.past _ hm).1
    have e : s.pa.n = s.pa.l.length := hs.2.1.len
    rw [e]
    simpa [ShdV.pl] using this
  have h3 : ∀ o ∈ s.pa.l, o.me.n ≤ 7 := fun o ho => by
    have := ((hg.past _ hm).2.1 o.pl (List.mem_map.2 ⟨o, ho, rfl⟩)).2.2.2.2.2.len
    have e : o.me.n = o.me.l.length := Reads.len (hs.2.2 o ho)
    rw [e]; exact this
  exact ⟨⟨by omega, by omega, fun o ho => by have := h3 o ho; omega⟩, h1, h2, h3⟩
theorem AtlAt.find {w : World} {m : Nat} {A : Atl} {G : Geo} (h : AtlAt w m A G) {id : Int} {s : ShdV} (hs : mget G.L id = some s) : s.own w 0 ∧ (∀ i, s.blk i → ¬ Blk G.av i) ∧ s.pl ∈ A.sh ∧ s.pl.id = id ∧ s.fit := by
  have h1 := h.r.each _ (mget_mem hs)
  have h2 := h.look id
  rw [hs] at h2
  have h2 : some s.pl = _ := h2
  have h3 := List.mem_of_find?_eq_some h2.symm
  have h4 := List.find?_some h2.symm
  exact ⟨h1.1, h1.2, h3, by simpa using h4, (fit_of h.good h1.1.there h3).1⟩

def BlkOut (x : Il) (w : World) (e : Ending) (w' : World) : Prop := ∃ x' : Il, e = .returned (.slice x'.a x'.n x'.c) ∧ x'.own w' w.heap.size ∧ x'.l = x.l ∧ (x.a = none → x'.a = none) ∧ Kp Non w w'
set_option maxRecDepth 100000 in
theorem ablocks_calls {m : Nat} {bl ep nx : Int} {M : List (Sp × Int)} {G : Geo} {w : World} (h : AtlR w m bl ep nx M G) : Calls Try.prog 21 #[.pointer (some ⟨m, 0, none⟩)] w (ValOut (.int .i64 bl) w) := by
  have x0 : w.cell? ⟨m, 0, none⟩ = some (.int .i64 bl) := (cell_of_row w m 0 _ _ _ h.map.box).trans rfl
  go_enter Try.func21, Try.ntmps21
  go_wp2_with fail
  go_ret
  exact ⟨rfl, Kp.refl _ _⟩
set_option maxRecDepth 100000 in
theorem aepoch_calls {m : Nat} {bl ep nx : Int} {M : List (Sp × Int)} {G : Geo} {w : World} (h : AtlR w m bl ep nx M G) : Calls Try.prog 43 #[.pointer (some ⟨m, 0, none⟩)] w (ValOut (.int .i64 ep) w) := by
  have x0 : w.cell? ⟨m, 1, none⟩ = some (.int .i64 ep) := (cell_of_row w m 1 _ _ _ h.map.box).trans rfl
  go_enter Try.func43, Try.ntmps43
  go_wp2_with fail
  go_ret
  exact ⟨rfl, Kp.refl _ _⟩
set_option maxRecDepth 100000 in
theorem anext_calls {m : Nat} {bl ep nx : Int} {M : List (Sp × Int)} {G : Geo} {w : World} (h : AtlR w m bl ep nx M G) : Calls Try.prog 17 #[.pointer (some ⟨m, 0, none⟩)] w (ValOut (.int .i64 nx) w) := by
  have x0 : w.cell? ⟨m, 2, none⟩ = some (.int .i64 nx) := (cell_of_row w m 2 _ _ _ h.map.box).trans rfl
  go_enter Try.func17, Try.ntmps17
  go_wp2_with fail
  go_ret
  exact ⟨rfl, Kp.refl _ _⟩
theorem cloneI_nil (n c : Nat) (w : World) (h : Ints w none n c []) : Calls Try.prog 75 #[.slice none n c] w fun e w' => e = .returned (.slice none 0 0) ∧ w = w' := by
  have h0 := h.nil rfl
  have h1 := h.cap
  obtain rfl : n = 0 := by omega
  subst h0
  have q22 : ∀ (w : World) (a : Option Addr) (n c n' c' : Nat), (binOp .eql 37 (.slice a n c) (.slice none n' c')).run Try.prog w = .ok (.bool a.isNone) w := fun w a n c n' c' => Lib.run_eql_slice_nil w 37 3 a n c n' c' Try.underlying37
  go_enter Try.func75, Try.ntmps75
  go_wp2
  go_ret
  exact ⟨rfl, rfl⟩
set_option maxRecDepth 100000 in
theorem aopen_calls {m : Nat} {bl ep nx : Int} {M : List (Sp × Int)} {G : Geo} {w : World} (h : AtlR w m bl ep nx M G) (hn : G.op.n ≤ 1000000) : Calls Try.prog 52 #[.pointer (some ⟨m, 0, none⟩)] w (BlkOut G.op w) := by
  have x0 : w.cell? ⟨m, 3, none⟩ = some (.slice G.op.a G.op.n G.op.c) := (cell_of_row w m 3 _ _ _ h.map.box).trans rfl
  have hR := h.op.1.there
  obtain ⟨al, cl, av, cv, b, ⟨oa, on, oc, ol⟩, L⟩ := G
  cases oa with
  | none =>
    have e : ol = [] := List.eq_nil_of_length_eq_zero (by have h0 := Reads.len hR; have h1 := Reads.nil hR rfl; have h2 := Reads.cap hR; have h0 : on = ol.length := h0; have h1 : oc = 0 := h1; have h2 : on ≤ oc := h2; omega)
    subst e
    have HC := Lib.hid (cloneI_nil on oc w hR)
    go_enter Try.func52, Try.ntmps52
    go_wp2_with (go_at_call 75; refine HC.out.mono ?_; rintro e w' ⟨rfl, rfl⟩)
    go_ret
    exact ⟨Il.nil, rfl, Il.nil_own _ _, rfl, fun _ => rfl, Kp.refl _ _⟩
  | some ad =>
    obtain rfl : on = ol.length := Reads.len hR
    have HC := Lib.hid (cloneIs_calls (some ad) ol.length oc ol w hR (by have hn : ol.length ≤ 1000000 := hn; omega))
    go_enter Try.func52, Try.ntmps52
    go_wp2_with (go_at_call 75; refine HC.out.mono ?_; rintro e w' ⟨a1, c1, rfl, hO, hk⟩)
    go_ret
    exact ⟨⟨a1, ol.length, c1, ol⟩, rfl, hO, rfl, (fun q => by cases q), hk⟩

def zeroS : Shd := ⟨0, 0, 0, [], []⟩
def zeroV : ShdV := ⟨0, 0, 0, Il.nil, Pl.nil⟩
theorem zeroV_own (w : World) (B : Nat) : zeroV.own w B := ⟨Il.nil_own _ _, Pl.nil_own _ _⟩
/-- A shard comes out, or none. -/
def SOut (r : Option Shd) (w : World) (e : Ending) (w' : World) : Prop := ∃ s' : ShdV, e = .returned (.tuple #[valShd s', .bool r.isSome]) ∧ s'.own w' w.heap.size ∧ s'.pl = r.getD zeroS ∧ Kp Non w w'
theorem results_cell_shd2 {fn : Func} {p q : Tmp} (h : fn.results = #[.cell p 40, .tmp q]) (tmps : Array Value) (w : World) {x : ShdV} {b : Nat} {v : Value} (ht : tmps.getD p undef = .pointer (some ⟨b, 0, none⟩)) (hq : tmps.getD q undef = v) (hc : Bx w b 40 (encShd x)) :
    (results fn tmps).run Try.prog w = .ok (.tuple #[valShd x, v]) w := by
  have c0 : w.cell? ⟨b, 0, none⟩ = _ := hc.c rfl
  have c1 : w.cell? ⟨b, 1, none⟩ = _ := hc.c rfl
  have c2 : w.cell? ⟨b, 2, none⟩ = _ := hc.c rfl
  have c3 : w.cell? ⟨b, 3, none⟩ = _ := hc.c rfl
  have c4 : w.cell? ⟨b, 4, none⟩ = _ := hc.c rfl
  have := Try.sizeOf40
  have ht' : tmps[p]?.getD undef = .pointer (some ⟨b, 0, none⟩) := by simpa using ht
  have hq' : tmps[q]?.getD undef = v := by simpa using hq
  simp [results, h, ht', hq', go_sem, c0, c1, c2, c3, c4, this, valShd, Addr.add]
/-- All cells of a box of a shard set. -/
theorem Bx.set5 {W : World} {b : Nat} {t : TypeId} {v0 v1 v2 v3 v4 : Value} (h : Bx W b t [v0, v1, v2, v3, v4]) (u0 u1 u2 u3 u4 : Value) : ∃ W', ((((W.setCell ⟨b, 0, none⟩ u0).setCell ⟨b, 1, none⟩ u1).setCell ⟨b, 2, none⟩ u2).setCell ⟨b, 3, none⟩ u3).setCell ⟨b, 4, none⟩ u4 = W' ∧ Bx W' b t [u0, u1, u2, u3, u4] ∧ Kp (One b) W W' := by
  obtain ⟨g0, k0⟩ := h.set 0 u0
  obtain ⟨g1, k1⟩ := g0.set 1 u1
  obtain ⟨g2, k2⟩ := g1.set 2 u2
  obtain ⟨g3, k3⟩ := g2.set 3 u3
  obtain ⟨g4, k4⟩ := g3.set 4 u4
  exact ⟨_, rfl, g4, (((k0.trans k1).trans k2).trans k3).trans k4⟩
set_option maxRecDepth 100000 in
set_option maxHeartbeats 1000000 in
theorem aget_calls {m : Nat} {A : Atl} {G : Geo} {w : World} (h : AtlAt w m A G) (id : Int) : Calls Try.prog 18 #[.pointer (some ⟨m, 0, none⟩), .int .i64 id] w (SOut (A.sh.find? fun s => decide (s.id = id)) w) := by
  have hz : ∀ W, (zeroValue 40).run Try.prog W = .ok (valShd zeroV) W := fun _ => by kernel_rfl
  obtain ⟨s, hs, hsf, hsp, hok⟩ : ∃ s : ShdV, s.own w 0 ∧ s.fit ∧ s.pl = (A.sh.find? fun s => decide (s.id = id)).getD zeroS ∧ ∀ W, MapIs encK valShd W G.b G.L → (Instr.lookup 89 (.map (some G.b)) (.int .i64 id) true).run Try.prog W = .ok (.tuple #[valShd s, .bool (A.sh.find? fun s => decide (s.id = id)).isSome]) W := by
    rw [← h.look id]
    cases hm : mget G.L id with
    | none =>
      refine ⟨zeroV, zeroV_own _ _, ⟨by simp [zeroV, Il.nil], by simp [zeroV, Pl.nil], fun o ho => by cases ho⟩, rfl, fun W q => ?_⟩
      rw [run_lookup_is (keys_int Try.underlying3) q Try.underlying89 (hz W) id true, if_pos rfl, hm]
      rfl
    | some s =>
      obtain ⟨q1, q2, q3, q4, q5⟩ := h.find hm
      refine ⟨s, q1, q5, rfl, fun W q => ?_⟩
      rw [run_lookup_is (keys_int Try.underlying3) q Try.underlying89 (hz W) id true, if_pos rfl, hm]
      rfl
  have HS := Lib.hid hsp
  generalize (A.sh.find? fun s => decide (s.id = id)) = r at *
  have x5 : ∀ W, Kp Non w W → W.cell? ⟨m, 6, none⟩ = some (.map (some G.b)) := fun W q => (cell_of_row W m 6 _ _ _ (h.r.non q).map.box).trans rfl
  obtain ⟨V, hV, hB, hkV⟩ : ∃ V, w.alloc (.cells #[.int .i64 0, .int .i64 0, .int .i64 0, .slice none 0 0, .slice none 0 0] 40) = V ∧ Bx V w.heap.size 40 [.int .i64 0, .int .i64 0, .int .i64 0, .slice none 0 0, .slice none 0 0] ∧ Kp Non w V := ⟨_, rfl, Bx.new w _ [.int .i64 0, .int .i64 0, .int .i64 0, .slice none 0 0, .slice none 0 0], (Kp.refl _ _).alloc _⟩
  have x6 := x5 V hkV
  have hL := hok V (h.r.non hkV).tab
  have HO := Lib.hid (fun (W : World) (q : Kp Non w W) => own_calls s W (hs.non q).there hsf)
  have HV := Lib.hid hV
  rw [← hV] at x6 hL
  clear hok hsp x5 hz hV
  go_enter Try.func18, Try.ntmps18
  go_wp2_with fail
  rw [HV.out]
  clear x6 hL
  have hk2 : Kp Non V (V.alloc (.cells #[.int .i64 s.id, .int .i64 s.fr, .int .i64 s.to, .slice s.me.a s.me.n s.me.c, .slice s.pa.a s.pa.n s.pa.c] 40)) := (Kp.refl _ _).alloc _
  refine (HO.out _ (hkV.trans hk2)).mono ?_
  rintro e W1 ⟨s', rfl, hs', hpl, hk1⟩
  have hB1 := (hB.non hk2).non hk1
  obtain ⟨y0, y1, y2, y3, y4⟩ := hB1.shd
  have f0 := hB1.f 0
  have f1 := hB1.f 1
  have f2 := hB1.f 2
  have f3 := hB1.f 3
  have f4 := hB1.f 4
  go_wp2_with fail
  obtain ⟨W2, hW2, hB2, hk3⟩ := hB1.set5 (.int .i64 s'.id) (.int .i64 s'.fr) (.int .i64 s'.to) (.slice s'.me.a s'.me.n s'.me.c) (.slice s'.pa.a s'.pa.n s'.pa.c)
  rw [hW2]
  have hz1 := hB.lt
  have hz2 := hk2.size
  refine ⟨rfl, _, results_cell_shd2 (b := w.heap.size) (x := s') rfl _ _ rfl rfl hB2, s', rfl, (hs'.lower (by omega)).kp hk3 (fun i hi e => ?_), by rw [hpl, HS.out], Kp.comp ((hkV.trans hk2).trans hk1) hk3 (fun _ _ f => f) (fun i hi e => by have e : i = w.heap.size := e; omega)⟩
  have e : i = w.heap.size := e
  have := (hs'.blk i hi).1
  omega
end Go.Proofs.Ytdijaillcajpaaa
