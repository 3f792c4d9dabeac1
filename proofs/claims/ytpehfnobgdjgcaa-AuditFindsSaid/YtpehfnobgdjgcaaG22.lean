/-
  The judge: were all puts asked for?
-/
import Derived.Test.YtpehfnobgdjgcaaG21
namespace Go.Proofs.Ytpehfnobgdjgcaa
open Go.RowKit

/-- The judge of a block, in memory. -/
def jCells (block : Int) (l by_ d at_ : Value) : List Value := [.int .i64 block, l, by_, d, at_]
abbrev BxJ (W : World) (b : Nat) (block : Int) (l by_ d at_ : Value) : Prop := Bx W b 101 (jCells block l by_ d at_)
theorem BxJ.cells {W : World} {b : Nat} {block : Int} {l y d a : Value} (h : BxJ W b block l y d a) : W.cell? ⟨b, 0, none⟩ = some (.int .i64 block) ∧ W.cell? ⟨b, 1, none⟩ = some l ∧ W.cell? ⟨b, 2, none⟩ = some y ∧ W.cell? ⟨b, 3, none⟩ = some d ∧ W.cell? ⟨b, 4, none⟩ = some a := ⟨h.c rfl, h.c rfl, h.c rfl, h.c rfl, h.c rfl⟩
theorem infoDeed : (Try.prog.info? 28).map (fun i => (i.zero, i.size, i.bytes)) = some (some (.agg #[.int .i64 0, .int .i64 0, .int .i64 0, .int .i64 0, .int .i64 0, .slice none 0 0, .int .i64 0, .int .i64 0, .slice none 0 0]), 9, 104) := by kernel_rfl

def dOf (ds : List DeedV) (p : PutV) : DeedV := match ixOf ds p with | some k => ds.getD k default | none => default
def byL (ds : List DeedV) (l : List PutV) : List DeedV := l.map (dOf ds)
def okAt (ds : List DeedV) (block : Int) (l : List PutV) (i : Nat) (p : PutV) : Bool := (ixOf ds p).isSome && (askedB (dOf ds p) p block && (byL ds (l.take i)).all fun d => !aheadB (dOf ds p) d)
def askedAllB (ds : List DeedV) (l : List PutV) (block : Int) : Bool := (List.range l.length).all fun i => match l[i]? with | some p => okAt ds block l i p | none => true
theorem askedAll_no {ds : List DeedV} {l : List PutV} {block : Int} {i : Nat} {p : PutV} (h : l[i]? = some p) (ho : okAt ds block l i p = false) : askedAllB ds l block = false := by
  unfold askedAllB
  rw [List.all_eq_false]
  exact ⟨i, List.mem_range.2 (List.getElem?_eq_some_iff.1 h).1, by rw [h]; simp [ho]⟩
theorem askedAll_yes {ds : List DeedV} {l : List PutV} {block : Int} (h : ∀ (i : Nat) p, l[i]? = some p → okAt ds block l i p = true) : askedAllB ds l block = true := by
  unfold askedAllB
  rw [List.all_eq_true]
  intro i _
  cases hp : l[i]? with
  | none => rfl
  | some p => exact h i p hp
theorem dOf_some {ds : List DeedV} {p : PutV} {k : Nat} (h : ixOf ds p = some k) (hk : k < ds.length) : dOf ds p = ds[k] := by
  unfold dOf
  rw [h]
  simp [List.getD, List.getElem?_eq_getElem hk]

/-- What askedAll leaves. -/
def AskedOut (w : World) (bj : Nat) (block : Int) (lv dv av : Value) (ds : List DeedV) (l : List PutV) (e : Ending) (w' : World) : Prop :=
  e = .returned (.bool (askedAllB ds l block)) ∧ Kp (One bj) w w' ∧ (askedAllB ds l block = true → ∃ a c, BxJ w' bj block lv (.slice a l.length c) dv av ∧ OwnR encDeed 9 w' w.heap.size 28 a l.length c (byL ds l))

/-- What region 5 reads. -/
structure A5 (bj bp : Nat) (block : Int) (p : PutV) (db o k : Nat) (dn dc : Nat) (d : DeedV) (W : World) : Prop where
  j0 : W.cell? ⟨bj, 0, none⟩ = some (.int .i64 block)
  j3 : W.cell? ⟨bj, 3, none⟩ = some (.slice (some ⟨db, o, none⟩) dn dc)
  p0 : W.cell? ⟨bp, 0, none⟩ = some (.int .i64 p.sh)
  p1 : W.cell? ⟨bp, 1, none⟩ = some (.int .i64 p.cl)
  p2 : W.cell? ⟨bp, 2, none⟩ = some (.int .i64 p.sq)
  p3 : W.cell? ⟨bp, 3, none⟩ = some (.int .i64 p.ref.1)
  p4 : W.cell? ⟨bp, 4, none⟩ = some (.int .i64 p.ref.2)
  p5 : W.cell? ⟨bp, 5, none⟩ = some (.string p.tx)
  d0 : W.cell? ⟨db, o + k * 9, none⟩ = some (.int .i64 d.cl)
  d1 : W.cell? ⟨db, o + k * 9 + 1, none⟩ = some (.int .i64 d.sq)
  d2 : W.cell? ⟨db, o + k * 9 + 2, none⟩ = some (.int .i64 d.op)
  d3 : W.cell? ⟨db, o + k * 9 + 3, none⟩ = some (.int .i64 d.fr)
  d4 : W.cell? ⟨db, o + k * 9 + 4, none⟩ = some (.int .i64 d.to)
  d5 : W.cell? ⟨db, o + k * 9 + 5, none⟩ = some (.slice d.da.a d.da.n d.da.c)
  d6 : W.cell? ⟨db, o + k * 9 + 6, none⟩ = some (.int .i64 d.be)
  d7 : W.cell? ⟨db, o + k * 9 + 7, none⟩ = some (.int .i64 d.en)
  d8 : W.cell? ⟨db, o + k * 9 + 8, none⟩ = some (.slice d.re.a d.re.n d.re.c)

theorem deedR_cells {w : World} {b o n c : Nat} {l : List DeedV} (h : Reads encDeed 9 w (some ⟨b, o, none⟩) n c l) {j : Nat} (hj : j < l.length) :
    w.cell? ⟨b, o + j * 9, none⟩ = some (.int .i64 l[j].cl) ∧ w.cell? ⟨b, o + j * 9 + 1, none⟩ = some (.int .i64 l[j].sq) ∧ w.cell? ⟨b, o + j * 9 + 2, none⟩ = some (.int .i64 l[j].op) ∧ w.cell? ⟨b, o + j * 9 + 3, none⟩ = some (.int .i64 l[j].fr) ∧ w.cell? ⟨b, o + j * 9 + 4, none⟩ = some (.int .i64 l[j].to) ∧ w.cell? ⟨b, o + j * 9 + 5, none⟩ = some (.slice l[j].da.a l[j].da.n l[j].da.c) ∧ w.cell? ⟨b, o + j * 9 + 6, none⟩ = some (.int .i64 l[j].be) ∧ w.cell? ⟨b, o + j * 9 + 7, none⟩ = some (.int .i64 l[j].en) ∧ w.cell? ⟨b, o + j * 9 + 8, none⟩ = some (.slice l[j].re.a l[j].re.n l[j].re.c) :=
  ⟨h.get (i := 0) (List.getElem?_eq_getElem hj) rfl, h.get (i := 1) (List.getElem?_eq_getElem hj) rfl, h.get (i := 2) (List.getElem?_eq_getElem hj) rfl, h.get (i := 3) (List.getElem?_eq_getElem hj) rfl, h.get (i := 4) (List.getElem?_eq_getElem hj) rfl, h.get (i := 5) (List.getElem?_eq_getElem hj) rfl, h.get (i := 6) (List.getElem?_eq_getElem hj) rfl, h.get (i := 7) (List.getElem?_eq_getElem hj) rfl, h.get (i := 8) (List.getElem?_eq_getElem hj) rfl⟩
/-- What region 10 reads. -/
structure A10 (bj bp : Nat) (db o k : Nat) (dn dc : Nat) (d y : DeedV) (W : World) : Prop where
  j3 : W.cell? ⟨bj, 3, none⟩ = some (.slice (some ⟨db, o, none⟩) dn dc)
  y0 : W.cell? ⟨bp, 0, none⟩ = some (.int .i64 y.cl)
  y1 : W.cell? ⟨bp, 1, none⟩ = some (.int .i64 y.sq)
  y2 : W.cell? ⟨bp, 2, none⟩ = some (.int .i64 y.op)
  y3 : W.cell? ⟨bp, 3, none⟩ = some (.int .i64 y.fr)
  y4 : W.cell? ⟨bp, 4, none⟩ = some (.int .i64 y.to)
  y5 : W.cell? ⟨bp, 5, none⟩ = some (.slice y.da.a y.da.n y.da.c)
  y6 : W.cell? ⟨bp, 6, none⟩ = some (.int .i64 y.be)
  y7 : W.cell? ⟨bp, 7, none⟩ = some (.int .i64 y.en)
  y8 : W.cell? ⟨bp, 8, none⟩ = some (.slice y.re.a y.re.n y.re.c)
  d0 : W.cell? ⟨db, o + k * 9, none⟩ = some (.int .i64 d.cl)
  d1 : W.cell? ⟨db, o + k * 9 + 1, none⟩ = some (.int .i64 d.sq)
  d2 : W.cell? ⟨db, o + k * 9 + 2, none⟩ = some (.int .i64 d.op)
  d3 : W.cell? ⟨db, o + k * 9 + 3, none⟩ = some (.int .i64 d.fr)
  d4 : W.cell? ⟨db, o + k * 9 + 4, none⟩ = some (.int .i64 d.to)
  d5 : W.cell? ⟨db, o + k * 9 + 5, none⟩ = some (.slice d.da.a d.da.n d.da.c)
  d6 : W.cell? ⟨db, o + k * 9 + 6, none⟩ = some (.int .i64 d.be)
  d7 : W.cell? ⟨db, o + k * 9 + 7, none⟩ = some (.int .i64 d.en)
  d8 : W.cell? ⟨db, o + k * 9 + 8, none⟩ = some (.slice d.re.a d.re.n d.re.c)

/-- What region 13 reads. -/
structure A13 (bj : Nat) (ya : Option Addr) (yn yc : Nat) (db o k : Nat) (dn dc : Nat) (d : DeedV) (W : World) : Prop where
  j2 : W.cell? ⟨bj, 2, none⟩ = some (.slice ya yn yc)
  j3 : W.cell? ⟨bj, 3, none⟩ = some (.slice (some ⟨db, o, none⟩) dn dc)
  d0 : W.cell? ⟨db, o + k * 9, none⟩ = some (.int .i64 d.cl)
  d1 : W.cell? ⟨db, o + k * 9 + 1, none⟩ = some (.int .i64 d.sq)
  d2 : W.cell? ⟨db, o + k * 9 + 2, none⟩ = some (.int .i64 d.op)
  d3 : W.cell? ⟨db, o + k * 9 + 3, none⟩ = some (.int .i64 d.fr)
  d4 : W.cell? ⟨db, o + k * 9 + 4, none⟩ = some (.int .i64 d.to)
  d5 : W.cell? ⟨db, o + k * 9 + 5, none⟩ = some (.slice d.da.a d.da.n d.da.c)
  d6 : W.cell? ⟨db, o + k * 9 + 6, none⟩ = some (.int .i64 d.be)
  d7 : W.cell? ⟨db, o + k * 9 + 7, none⟩ = some (.int .i64 d.en)
  d8 : W.cell? ⟨db, o + k * 9 + 8, none⟩ = some (.slice d.re.a d.re.n d.re.c)

set_option maxRecDepth 100000 in
set_option maxHeartbeats 2000000 in
theorem askedAll_calls (bj : Nat) (block : Int) (la : Option Addr) (lc : Nat) (l : List PutV) (da : Option Addr) (dc : Nat) (ds : List DeedV) (av : Value) (w0 w : World) (hl : Puts_ w0 la l.length lc l) (hd : Deeds w0 da ds.length dc ds) (hk0 : Kp Non w0 w) (hb0 : w0.heap.size ≤ bj) (hj : BxJ w bj block (.slice la l.length lc) (.slice none 0 0) (.slice da ds.length dc) av) (hs : l.length ≤ 1000000) :
    Calls Try.prog 42 #[.pointer (some ⟨bj, 0, none⟩)] w (AskedOut w bj block (.slice la l.length lc) (.slice da ds.length dc) av ds l) := by
  have hcl := hl.cap
  have hml := hl.max
  have hcd := hd.reads.cap
  have hmd := hd.reads.max
  obtain ⟨i0, hi0, hz0, hz1, hz2⟩ := info_parts infoDeed
  have hmf : ∀ (fn : Fn) (first cap : Array Value) (w : World), (Instr.makeFunc fn first cap).run Try.prog w = .ok (.func fn first cap) w := fun _ _ _ _ => rfl
  obtain ⟨j0, j1, j2, j3, j4⟩ := BxJ.cells hj
  have hbj := Bx.lt hj
  go_enter Try.func42, Try.ntmps42
  go_wp2_with fail
  go_loopw [13] (fun v13 wr => ∃ k : Nat, k ≤ l.length ∧ v13 = .int .i64 k ∧ Hid (∃ ya yc, BxJ wr bj block (.slice la l.length lc) (.slice ya k yc) (.slice da ds.length dc) av ∧ OwnR encDeed 9 wr w.heap.size 28 ya k yc (byL ds (l.take k))) ∧ Hid (∀ (i : Nat) p, i < k → l[i]? = some p → okAt ds block l i p = true) ∧ Kp (One bj) w wr) (fun v13 _ => l.length - (intOf v13).toNat)
  case atStart => exact ⟨0, by omega, rfl, Lib.hid ⟨none, 0, hj, OwnR.nil _ _ _⟩, Lib.hid fun _ _ h => absurd h (by omega), Kp.refl _ _⟩
  case round =>
    obtain ⟨k, hk', rfl, hJ, hall, hkr⟩ := hrel
    by_cases hlt : k < l.length
    · have g : (k : Int) < (l.length : Nat) := by omega
      obtain ⟨ya, yc, hJr, hY⟩ := hJ.out
      obtain ⟨lb, lo, rfl⟩ := hl.there (by omega)
      have HLd := Lib.hid fun W' (r : Kp (One bj) w W') => hd.non (hk0.newer r fun i hi => by rw [show i = bj from hi]; exact hb0)
      have HLl := Lib.hid fun W' (r : Kp (One bj) w W') => hl.non (hk0.newer r fun i hi => by rw [show i = bj from hi]; exact hb0)
      obtain ⟨c0, c1, c2, c3, c4, c5⟩ := Puts_.cells (HLl.out _ hkr) hlt
      have HLk := Lib.hid (List.getElem?_eq_getElem hlt)
      have HTk := Lib.hid (List.take_succ_eq_append_getElem hlt)
      have HN := Lib.hid (BxP.new2 wr l[k])
      generalize l[k] = x at *
      go_upto_region 4 with (fail)
      obtain ⟨V, eV, hN, kV⟩ := HN.out
      rw [eV]
      have hkV := hkr.trans kV.non
      have hJV := Bx.non hJr kV
      have hY := hY.non kV
      obtain ⟨j0, j1, j2, j3, j4⟩ := BxJ.cells hJV
      have HBJ : Hid (bj < wr.heap.size) := Lib.hid (Bx.lt hJr)
      have HIx := Lib.hid (indexDeed_calls da dc ds wr.heap.size x V (HLd.out V hkV) hN)
      clear eV HN c0 c1 c2 c3 c4 c5 hJ hJr
      generalize wr.heap.size = bx at *
      have HNO : Hid (okAt ds block l k x = false → askedAllB ds l block = false) := Lib.hid (askedAll_no HLk.out)
      have HYE : Hid (okAt ds block l k x = true → ∀ (i : Nat) p, i < k + 1 → l[i]? = some p → okAt ds block l i p = true) := Lib.hid fun e i p hi hp => if h : i < k then hall.out i p h hp else by
        obtain rfl : i = k := by omega
        rw [HLk.out] at hp
        cases hp
        exact e
      rcases hix : ixOf ds x with _ | kk
      · have HIx : Hid (Calls Try.prog 51 #[.slice da ds.length dc, .func (.func 52) #[] #[.pointer (some ⟨bx, 0, none⟩)]] V (ValOut (.int .i64 (-1)) V)) := Lib.hid (by have := HIx.out; rw [hix] at this; exact this)
        have HF : Hid (askedAllB ds l block = false) := Lib.hid (HNO.out (by simp [okAt, hix]))
        clear hix HNO HYE
        go_wp2_with fail
        refine HIx.out.mono ?_
        rintro e w1 ⟨rfl, hk1⟩
        have hkw1 := hkV.trans hk1.non
        go_upto_region 5 with (fail)
        go_cut [41] (fun v41 wc => v41 = .bool true ∧ Kp Non w1 wc)
        case first =>
          refine wp_region_pieces [(18, [0,0,0,0,0,0,0,0,0,0,0,0,0,0,0,2,2,2], fun _ => True)] (by kernel_rfl) (by kernel_rfl) ?_
          refine (And.intro trivial ?_ : _ ∧ _)
          refine PB.out ?_
          repeat (first | (with_reducible refine pb_skip ?_) | ((first | (with_reducible refine pb_k rfl ?_) | ((with_reducible refine pb_ky ?hg ?_); (case hg => simp [Region.wanted, yielded]; done))); intro K hK; apply Exists.intro; refine ⟨fun w' hC => ?_, ?_⟩; (go_simp; rfl); go_simp; refine hK _ ?_; clear hK K) | ((with_reducible refine pb_kn ?hg ?_); (case hg => simp [Region.wanted, yielded]; done); intro K hK; go_simp; refine hK _ ?_; clear hK K))
          with_reducible refine pb_nil ?_
          simp only [List.take_succ_cons, List.take_zero, List.drop_zero]
          refine CB.out ?_
          repeat (with_reducible refine cb_skip ?_)
          with_reducible refine cb_kn (by simp [Region.wanted, yielded]) fun K hK => ?_
          go_simp
          refine hK _ _ ?_
          clear hK K
          repeat (with_reducible refine cb_skip ?_)
          with_reducible refine cb_kn (by simp [Region.wanted, yielded]) fun K hK => ?_
          go_simp
          refine hK _ _ ?_
          clear hK K
          repeat (with_reducible refine cb_skip ?_)
          with_reducible refine cb_step rfl fun K hK => ?_
          go_simp
          refine hK _ _ (fun h => by cases h) ?_
          clear hK K
          repeat (with_reducible refine cb_skip ?_)
          with_reducible refine cb_nil ?_
          simp only [Then, wpPieces]
          go_step
          go_step
          go_meet
          case rel => exact ⟨rfl, (Kp.refl _ _).drew⟩
        case rest =>
          obtain ⟨rfl, hkc⟩ := hcut
          go_wp2_with fail
          go_ret
          exact ⟨ret_bool HF.out.symm, hkw1.trans hkc.non, fun h => by rw [HF.out] at h; cases h⟩
      · obtain ⟨hkk, _⟩ := ixOf_some hix
        have HIx : Hid (Calls Try.prog 51 #[.slice da ds.length dc, .func (.func 52) #[] #[.pointer (some ⟨bx, 0, none⟩)]] V (ValOut (.int .i64 kk) V)) := Lib.hid (by have := HIx.out; rw [hix] at this; exact this)
        have hdx := dOf_some hix hkk
        have HOA : Hid (okAt ds block l k x = (askedB ds[kk] x block && (byL ds (l.take k)).all fun d => !aheadB ds[kk] d)) := Lib.hid (by simp [okAt, hix, hdx])
        have HBY : Hid (byL ds (l.take (k + 1)) = byL ds (l.take k) ++ [ds[kk]]) := Lib.hid (by rw [HTk.out]; simp [byL, hdx])
        have gkk : (kk : Int) < (ds.length : Nat) := by omega
        obtain ⟨db, dof, rfl⟩ := hd.reads.there (by omega)
        have HDc := Lib.hid fun W' (r : Kp (One bj) w W') => (HLd.out W' r).cells hkk
        have HDt := Lib.hid fun W' (r : Kp (One bj) w W') => (HLd.out W' r).there_of hkk
        clear hix hdx
        generalize ds[kk] = d at *
        go_wp2_with fail
        refine HIx.out.mono ?_
        rintro e w1 ⟨rfl, hk1⟩
        have hkw1 := hkV.trans hk1.non
        have hJ1 := Bx.non hJV hk1
        have hN1 := Bx.non hN hk1
        have hY := hY.non hk1
        have HC5 : Hid (∀ W', Kp Non w1 W' → A5 bj bx block x db dof kk ds.length dc d W') := Lib.hid fun W' r => by
          obtain ⟨j0, j1, j2, j3, j4⟩ := BxJ.cells (Bx.non hJ1 r)
          obtain ⟨p0, p1, p2, p3, p4, p5⟩ := BxP.cells (Bx.non hN1 r)
          obtain ⟨d0, d1, d2, d3, d4, d5, d6, d7, d8⟩ := HDc.out W' (hkw1.trans r.non)
          exact ⟨j0, j3, p0, p1, p2, p3, p4, p5, d0, d1, d2, d3, d4, d5, d6, d7, d8⟩
        have HAs := Lib.hid fun W' (r : Kp (One bj) w W') => asked_calls d x block W' (HDt.out W' r)
        have gk0 : decide ((kk : Int) < 0) = false := decide_eq_false (by omega)
        have gkz : 0 ≤ (kk : Int) := by omega
        clear hN hJV HIx j0 j1 j2 j3 j4
        go_upto_region 5 with (fail)
        generalize askedB d x block = ab at *
        go_cut [41] (fun v41 wc => v41 = .bool (!ab) ∧ Kp Non w1 wc)
        case first =>
          refine wp_region_pieces [(18, [0,0,0,0,0,0,0,0,0,0,0,0,0,0,0,2,2,2], A5 bj bx block x db dof kk ds.length dc d)] (by kernel_rfl) (by kernel_rfl) ?_
          refine (And.intro ?_ ?_ : _ ∧ _)
          · exact HC5.out _ (Kp.refl _ _).drew
          refine PB.out ?_
          repeat (first | (with_reducible refine pb_skip ?_) | ((first | (with_reducible refine pb_k rfl ?_) | ((with_reducible refine pb_ky ?hg ?_); (case hg => simp [Region.wanted, yielded]; done))); intro K hK; apply Exists.intro; refine ⟨fun w' hC => ?_, ?_⟩; (obtain ⟨j0, j3, p0, p1, p2, p3, p4, p5, d0, d1, d2, d3, d4, d5, d6, d7, d8⟩ := hC; go_simp; rfl); go_simp; refine hK _ ?_; clear hK K) | ((with_reducible refine pb_kn ?hg ?_); (case hg => simp [Region.wanted, yielded]; done); intro K hK; go_simp; refine hK _ ?_; clear hK K))
          with_reducible refine pb_nil ?_
          simp only [List.take_succ_cons, List.take_zero, List.drop_zero]
          refine CB.out ?_
          repeat (with_reducible refine cb_skip ?_)
          with_reducible refine cb_ky (by simp [Region.wanted, yielded]) fun K hK => ?_
          go_simp
          refine (HAs.out _ (hkw1.drew)).mono ?_
          rintro e w4 ⟨rfl, hk4⟩
          refine hK _ _ (fun h => by cases h) ?_
          clear hK K
          repeat (with_reducible refine cb_skip ?_)
          with_reducible refine cb_ky (by simp [Region.wanted, yielded]) fun K hK => ?_
          go_simp
          refine hK _ _ (fun h => by cases h) ?_
          clear hK K
          repeat (with_reducible refine cb_skip ?_)
          with_reducible refine cb_step rfl fun K hK => ?_
          go_simp
          refine hK _ _ (fun h => by cases h) ?_
          clear hK K
          repeat (with_reducible refine cb_skip ?_)
          with_reducible refine cb_nil ?_
          simp only [Then, wpPieces]
          go_step
          go_step
          go_meet
          case rel => exact ⟨rfl, (Kp.refl Non w1).drew.trans hk4⟩
        case rest =>
          obtain ⟨rfl, hkc⟩ := hcut
          have hkwc := hkw1.trans hkc.non
          rcases ab with _ | _
          · have HF : Hid (askedAllB ds l block = false) := Lib.hid (HNO.out (by rw [HOA.out]; rfl))
            clear HC5 HAs HNO HYE HOA HBY
            go_wp2_with fail
            go_ret
            exact ⟨ret_bool HF.out.symm, hkwc, fun h => by rw [HF.out] at h; cases h⟩
          · have hJc := Bx.non hJ1 hkc
            have hYc := hY.non hkc
            have hRY := hYc.reads encDeed_len (by omega)
            have HYL := Lib.hid hRY.len
            have hcy := hRY.cap
            have hmy := hRY.max
            have gky : (k : Int) ≤ (yc : Nat) := by omega
            have HNA : Hid (∀ (i : Nat) y, (byL ds (l.take k))[i]? = some y → aheadB d y = true → askedAllB ds l block = false) := Lib.hid fun i y hy ha => HNO.out (by
              rw [HOA.out, Bool.true_and, List.all_eq_false]
              exact ⟨y, List.mem_of_getElem? hy, by rw [ha]; simp⟩)
            have HYA : Hid ((∀ (i : Nat) y, (byL ds (l.take k))[i]? = some y → aheadB d y = false) → okAt ds block l k x = true) := Lib.hid fun h => by
              rw [HOA.out, Bool.true_and, List.all_eq_true]
              intro y hy
              obtain ⟨i, hi, rfl⟩ := List.getElem_of_mem hy
              rw [h i _ (List.getElem?_eq_getElem hi)]
              rfl
            obtain ⟨j0, j1, j2, j3, j4⟩ := BxJ.cells hJc
            clear HC5 HAs HNO HOA hY hJ1
            go_wp2_with fail
            go_loopw [49] (fun v49 wi => ∃ j : Nat, j ≤ k ∧ v49 = .int .i64 j ∧ Hid (∀ (i : Nat) y, i < j → (byL ds (l.take k))[i]? = some y → aheadB d y = false) ∧ Kp Non wc wi) (fun v49 _ => k - (intOf v49).toNat)
            case atStart => exact ⟨0, by omega, rfl, Lib.hid fun _ _ h => absurd h (by omega), Kp.refl _ _⟩
            case round =>
              obtain ⟨j, hj', rfl, halj, hkj⟩ := hrel
              by_cases hjt : j < k
              · have gj : (j : Int) < (k : Nat) := by omega
                have hjy : j < (byL ds (l.take k)).length := by have := HYL.out; omega
                obtain ⟨yb, yo, rfl⟩ := hRY.there (by omega)
                obtain ⟨e0, e1, e2, e3, e4, e5, e6, e7, e8⟩ := deedR_cells (hRY.non hkj) hjy
                have HYj := Lib.hid (List.getElem?_eq_getElem hjy)
                have HN := Lib.hid (BxD.new2 wr (byL ds (l.take k))[j])
                generalize (byL ds (l.take k))[j] = y at *
                go_upto_region 10 with (fail)
                obtain ⟨U, eU, hN7, kU⟩ := HN.out
                rw [eU]
                have hkU := hkj.trans kU
                have HC10 : Hid (∀ W', Kp Non U W' → A10 bj wr.heap.size db dof kk ds.length dc d y W') := Lib.hid fun W' r => by
                  obtain ⟨j0, j1, j2, j3, j4⟩ := BxJ.cells (Bx.non hJc (hkU.trans r))
                  obtain ⟨y0, y1, y2, y3, y4, y5, y6, y7, y8⟩ := BxD.cells (Bx.non hN7 r)
                  obtain ⟨d0, d1, d2, d3, d4, d5, d6, d7, d8⟩ := HDc.out W' (hkwc.trans (hkU.trans r).non)
                  exact ⟨j3, y0, y1, y2, y3, y4, y5, y6, y7, y8, d0, d1, d2, d3, d4, d5, d6, d7, d8⟩
                clear eU HN hN7 e0 e1 e2 e3 e4 e5 e6 e7 e8
                generalize wr.heap.size = by7 at *
                have HAh := Lib.hid fun W' => ahead_calls d y W'
                have HNA := Lib.hid (HNA.out j y HYj.out)
                have HSt : Hid (aheadB d y = false → ∀ (i : Nat) z, i < j + 1 → (byL ds (l.take k))[i]? = some z → aheadB d z = false) := Lib.hid fun e i z hi hz => if h : i < j then halj.out i z h hz else by
                  obtain rfl : i = j := by omega
                  rw [HYj.out] at hz
                  cases hz
                  exact e
                generalize aheadB d y = ah at *
                go_cut [61] (fun v61 wx => v61 = .bool ah ∧ Kp Non U wx)
                case first =>
                  refine wp_region_pieces [(9, [0,0,0,0,0,0,0,0,2], A10 bj by7 db dof kk ds.length dc d y)] (by kernel_rfl) (by kernel_rfl) ?_
                  refine (And.intro ?_ ?_ : _ ∧ _)
                  · exact HC10.out _ (Kp.refl _ _).drew
                  refine PB.out ?_
                  repeat (first | (with_reducible refine pb_skip ?_) | ((first | (with_reducible refine pb_k rfl ?_) | ((with_reducible refine pb_ky ?hg ?_); (case hg => simp [Region.wanted, yielded]; done))); intro K hK; apply Exists.intro; refine ⟨fun w' hC => ?_, ?_⟩; (obtain ⟨j3, y0, y1, y2, y3, y4, y5, y6, y7, y8, d0, d1, d2, d3, d4, d5, d6, d7, d8⟩ := hC; go_simp; rfl); go_simp; refine hK _ ?_; clear hK K) | ((with_reducible refine pb_kn ?hg ?_); (case hg => simp [Region.wanted, yielded]; done); intro K hK; go_simp; refine hK _ ?_; clear hK K))
                  with_reducible refine pb_nil ?_
                  simp only [List.take_succ_cons, List.take_zero, List.drop_zero]
                  refine CB.out ?_
                  repeat (with_reducible refine cb_skip ?_)
                  with_reducible refine cb_step rfl fun K hK => ?_
                  go_simp
                  refine (HAh.out _).mono ?_
                  rintro e w6 ⟨rfl, hk6⟩
                  refine hK _ _ (fun h => by cases h) ?_
                  clear hK K
                  repeat (with_reducible refine cb_skip ?_)
                  with_reducible refine cb_nil ?_
                  simp only [Then, wpPieces]
                  go_step
                  go_step
                  go_meet
                  case rel => exact ⟨rfl, (Kp.refl Non U).drew.trans hk6⟩
                case rest =>
                  obtain ⟨rfl, hkx⟩ := hcut
                  have hkx := hkU.trans hkx
                  rcases ah with _ | _
                  · have HE := Lib.hid (HSt.out rfl)
                    clear HSt HNA HC10
                    go_wp2_with fail
                    go_roundw
                    case rel => exact ⟨j + 1, by omega, by go_num, HE, hkx⟩
                    case measure => simp [intOf]; omega
                  · have HF := Lib.hid (HNA.out rfl)
                    clear HSt HNA HC10
                    go_wp2_with fail
                    go_ret
                    exact ⟨ret_bool HF.out.symm, hkwc.trans hkx.non, fun h => by rw [HF.out] at h; cases h⟩
              · obtain rfl : j = k := by omega
                have HE := Lib.hid (HYE.out (HYA.out fun i y hy => halj.out i y (by have := (List.getElem?_eq_some_iff.1 hy).1; have := HYL.out; omega) hy))
                have hkwj := hkwc.trans hkj.non
                have hJj := Bx.non hJc hkj
                have hYj := hYc.non hkj
                clear HYA HNA halj
                have HCW : Hid (∀ W', Kp (Blk ya) wr W' → Kp (One bj) w W') := Lib.hid fun W' r => hkwj.comp r (fun _ _ h => h) (fun i hi hs => absurd ((hYj.blk i hs).1) (by omega))
                have HNB : Hid (¬ Blk ya bj) := Lib.hid fun h => by have := (hYj.blk bj h).1; omega
                have HC13 : Hid (∀ W', Kp (Blk ya) wr W' → A13 bj ya j yc db dof kk ds.length dc d W') := Lib.hid fun W' r => by
                  obtain ⟨j0, j1, j2, j3, j4⟩ := BxJ.cells (Bx.kp hJj r HNB.out)
                  obtain ⟨d0, d1, d2, d3, d4, d5, d6, d7, d8⟩ := HDc.out W' (HCW.out W' r)
                  exact ⟨j2, j3, d0, d1, d2, d3, d4, d5, d6, d7, d8⟩
                go_upto_region 13 with (fail)
                refine wp_region_pieces [(17, [0,0,0,0,0,0,0,0,0,0,0,0,1,1,0,0,2], A13 bj ya j yc db dof kk ds.length dc d)] (by kernel_rfl) (by kernel_rfl) ?_
                refine (And.intro ?_ ?_ : _ ∧ _)
                · exact HC13.out _ (Kp.refl _ _).drew
                refine PB.out ?_
                repeat (first | (with_reducible refine pb_skip ?_) | ((first | (with_reducible refine pb_k rfl ?_) | ((with_reducible refine pb_ky ?hg ?_); (case hg => simp [Region.wanted, yielded]; done))); intro K hK; apply Exists.intro; refine ⟨fun w' hC => ?_, ?_⟩; (obtain ⟨j2, j3, d0, d1, d2, d3, d4, d5, d6, d7, d8⟩ := hC; go_simp; rfl); go_simp; refine hK _ ?_; clear hK K) | ((with_reducible refine pb_kn ?hg ?_); (case hg => simp [Region.wanted, yielded]; done); intro K hK; go_simp; refine hK _ ?_; clear hK K))
                with_reducible refine pb_nil ?_
                simp only [List.take_succ_cons, List.take_zero, List.drop_zero]
                refine CB.out ?_
                repeat (with_reducible refine cb_skip ?_)
                with_reducible refine cb_step rfl fun K hK => ?_
                go_simp
                have k5 : Kp Non wr (wr.drew.alloc (.cells #[.int .i64 d.cl, .int .i64 d.sq, .int .i64 d.op, .int .i64 d.fr, .int .i64 d.to, .slice d.da.a d.da.n d.da.c, .int .i64 d.be, .int .i64 d.en, .slice d.re.a d.re.n d.re.c] 28)) := ((Kp.refl Non wr).drew).alloc _
                refine hK _ _ (fun _ => HC13.out _ ?_) ?_
                · exact k5.non
                clear hK K
                repeat (with_reducible refine cb_skip ?_)
                with_reducible refine cb_step rfl fun K hK => ?_
                refine wp_append_row (P := Try.prog) (enc := encDeed) _ _ 22 rfl w.heap.size 28 i0 _ 104 Try.underlying22 hi0 hz0 hz1 hz2 rfl (by decide) encDeed_len encDeed_one ya j yc (byL ds (l.take j)) rfl (hYj.non (((Kp.refl Non wr).alloc _).drew)) _ 1 1 [d] rfl (Reads.non (Reads.new (w := wr) (x := d) rfl rfl) ((Kp.refl Non _).drew)) ?h1 ?h2 ?h3 ?_
                case h1 => omega
                case h2 => omega
                case h3 => exact (hkwj.alloc _).drew.size
                intro a6 c6 w6 hO6 hk6 _
                have hk6 : Kp (Blk ya) wr w6 := ((((Kp.refl Non wr).alloc _).drew).non).trans hk6
                refine hK _ _ (fun _ => HC13.out _ hk6) ?_
                clear hK K
                have hJ6 := Bx.kp hJj hk6 HNB.out
                have j2 := (BxJ.cells hJ6).2.2.1
                have f2 := Bx.f hJ6 2
                obtain ⟨hJ7, k7⟩ := Bx.set hJ6 2 (.slice a6 (j + 1) c6)
                have hO7 := hO6.kp k7 (fun i hi hb => by have := (hO6.blk i hi).1; have : i = bj := hb; omega)
                have hkw7 := (HCW.out w6 hk6).trans k7
                rw [← HBY.out] at hO7
                repeat (with_reducible refine cb_skip ?_)
                with_reducible refine cb_step rfl fun K hK => ?_
                go_simp
                refine hK _ _ (fun h => by cases h) ?_
                clear hK K
                repeat (with_reducible refine cb_skip ?_)
                with_reducible refine cb_nil ?_
                simp only [Then, wpPieces]
                go_wp2_with fail
                go_roundw
                case rel => exact ⟨j + 1, by omega, by go_num, Lib.hid ⟨a6, c6, hJ7, hO7⟩, HE, hkw7⟩
                case measure => simp [intOf]; omega
    · obtain rfl : k = l.length := by omega
      obtain ⟨ya, yc, hJr, hY⟩ := hJ.out
      rw [List.take_of_length_le (Nat.le_refl _)] at hY
      have HT : Hid (askedAllB ds l block = true) := Lib.hid (askedAll_yes fun i p hp => hall.out i p (List.getElem?_eq_some_iff.1 hp).1 hp)
      go_wp2_with fail
      go_ret
      exact ⟨ret_bool HT.out.symm, hkr, fun _ => ⟨ya, yc, hJr, hY⟩⟩
end Go.Proofs.Ytpehfnobgdjgcaa
