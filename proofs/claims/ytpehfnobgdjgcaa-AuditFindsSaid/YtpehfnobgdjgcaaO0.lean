/-
  What the laws' frames share: arguments opened to what a walk is told of them. (gen_open.py, audit.txt.)
-/
import Derived.Test.YtpehfnobgdjgcaaG10
import Derived.Test.YtpehfnobgdjgcaaRows
import Derived.ProofKit
import Derived.OpenShut
import Derived.ChangeOld
import Derived.Deep.Slices
import Derived.Deep.Fields
import Derived.ChangeSame
import Derived.SizedLaws
namespace Go.Proofs.Ytpehfnobgdjgcaa
open Go.RowKit Go.ChangeShapes Go.WideShapes Go.ChangeAt Go.Deep

theorem own : ownKnob Try.prog.godebug = none := by kernel_rfl
theorem laidOut : laidOutB Try.prog = true := by kernel_rfl
theorem add2 (b o k j : Nat) : ((⟨b, o, none⟩ : Addr).add k).add j = ⟨b, o + k + j, none⟩ := by
  unfold Addr.add
  split <;> split <;> simp_all
def encRf (r : Rf) : List Value := [.int .i64 r.1, .int .i64 r.2]

section
variable {H : Type} {enc : TypeId × Value → H} {w : World} {base : Nat} {held : Bool}

set_option maxRecDepth 100000 in
theorem rows_in {α : Type} [Inhabited α] {encX : α → List Value} {k : Nat} {t te : TypeId} {P : α → Prop} (hk : ∀ x, (encX x).length = k) (h0 : 0 < k) (hT : Try.prog.underlying t = some (.slice te)) (hc : Try.prog.cellsOf te = k)
    (hcell : ∀ fuel cs y, cs.length = k → DataW.trod enc Try.prog w base (fun _ => true) held fuel te cs = some y → ∃ x, cs = encX x ∧ P x)
    {a : Option Addr} {n c : Nat} {d : DataW H} {p : List MemPlace} (h : DataW.Trod enc Try.prog w base (fun _ => true) held t (.slice a n c) d p) : ∃ l, Reads encX k w a n c l ∧ ∀ s ∈ l, P s := by
  obtain ⟨fuel, hf⟩ := h
  rcases open_slice hT hf with ⟨hcs, _⟩ | ⟨ad, n', c', m, kk, D, Pl, hcs, _, hle, hm, hmm, hx, hi⟩
  · simp [Value.cells] at hcs
    obtain ⟨rfl, rfl, rfl⟩ := hcs
    exact ⟨[], Reads.empty w, fun s hs => by cases hs⟩
  · simp [Value.cells] at hcs
    obtain ⟨rfl, rfl, rfl⟩ := hcs
    have hmc : m = c := by simpa using hmm
    subst hmc
    have hspot : 0 < n → ad.spot = none := fun hn => by
      obtain ⟨cs0, hc0, _⟩ := hi 0 (by omega)
      rw [hc] at hc0
      obtain ⟨_, hcl0, hat0⟩ := World.cells?_some hc0
      have h1 := hat0 0 h0
      rw [List.getElem?_eq_getElem (by omega)] at h1
      have := World.cell?_spot h1
      obtain ⟨b, o, sp⟩ := ad
      cases sp with
      | none => rfl
      | some s => simp [Addr.add] at this
    have key : ∀ i, i < n → ∃ x : α, P x ∧ ∀ j v, (encX x)[j]? = some v → w.cell? ⟨ad.block, ad.off + i * k + j, none⟩ = some v := by
      intro i hin
      have hsp := hspot (by omega)
      obtain ⟨cs', hc', ht⟩ := hi i (by omega)
      rw [hc] at hc'
      obtain ⟨_, hcl, hat⟩ := World.cells?_some hc'
      obtain ⟨x, rfl, hx⟩ := hcell _ _ _ hcl ht
      refine ⟨x, hx, fun j v hv => ?_⟩
      have hj : j < k := by have := (List.getElem?_eq_some_iff.1 hv).1; rw [hk] at this; exact this
      have g := hat j hj
      obtain ⟨b, o, sp⟩ := ad
      simp at hsp
      subst hsp
      rw [add2] at g
      rw [g]; exact hv
    refine ⟨(List.range n).map fun i => if h : i < n then (key i h).choose else default, ⟨by simp, hle, by unfold maxLen at hm; omega, (fun h => by cases h), fun i x hx' => ?_⟩, fun s hs => ?_⟩
    · simp only [List.getElem?_map, Option.map_eq_some_iff] at hx'
      obtain ⟨j, hj, rfl⟩ := hx'
      have hjn := (List.getElem?_eq_some_iff.1 hj).1
      simp at hjn
      have : j = i := by
        have := (List.getElem?_eq_some_iff.1 hj).2
        simpa using this.symm
      subst this
      rw [dif_pos hjn]
      have hsp := (key j hjn).choose_spec
      generalize (key j hjn).choose = s at hsp ⊢
      have hsn := hspot (by omega)
      refine ⟨ad.block, ad.off, ?_, hsp.2⟩
      obtain ⟨b, o, sp⟩ := ad
      simp at hsn
      subst hsn
      rfl
    · obtain ⟨i, hi', rfl⟩ := List.mem_map.1 hs
      have hin : i < n := by simpa using hi'
      rw [dif_pos hin]
      exact (key i hin).choose_spec.1

theorem row_at {α : Type} [Inhabited α] {encX : α → List Value} {k : Nat} {t te : TypeId} {P : α → Prop} (hk : ∀ x, (encX x).length = k) (h0 : 0 < k) (hT : Try.prog.underlying t = some (.slice te)) (hc : Try.prog.cellsOf te = k)
    (hcell : ∀ fuel cs y, cs.length = k → DataW.trod enc Try.prog w base (fun _ => true) held fuel te cs = some y → ∃ x, cs = encX x ∧ P x)
    {fuel : Nat} {v : Value} {y : DataW H × List MemPlace} (h : DataW.trod enc Try.prog w base (fun _ => true) held fuel t [v] = some y) : ∃ a n c l, v = .slice a n c ∧ Reads encX k w a n c l ∧ ∀ x ∈ l, P x := by
  have key : ∀ a n c, v = .slice a n c → ∃ l, Reads encX k w a n c l ∧ ∀ x ∈ l, P x := by
    rintro a n c rfl
    exact rows_in hk h0 hT hc hcell ⟨fuel, by simpa [Value.cells] using h⟩
  rcases open_slice hT h with ⟨hcs, _⟩ | ⟨ad, n', c', m, kk, D, Pl, hcs, _⟩
  · simp at hcs
    obtain ⟨l, hl⟩ := key _ _ _ hcs
    exact ⟨_, _, _, l, hcs, hl⟩
  · simp at hcs
    obtain ⟨l, hl⟩ := key _ _ _ hcs
    exact ⟨_, _, _, l, hcs, hl⟩

set_option maxRecDepth 100000 in
theorem texts_row {fuel : Nat} {v : Value} {y : DataW H × List MemPlace} (h : DataW.trod enc Try.prog w base (fun _ => true) held fuel 26 [v] = some y) : ∃ a n c l, v = .slice a n c ∧ Reads encT 1 w a n c l ∧ ∀ x ∈ l, ((fun _ => True) : ByteArray → Prop) x :=
  row_at (encX := encT) (k := 1) (P := ((fun _ => True) : ByteArray → Prop)) (fun _ => rfl) (by omega) Try.underlying26 (by kernel_rfl) (fun fuel cs y hl ht => by
    match cs, hl with
    | [v], _ =>
      obtain ⟨k0, e0, _⟩ := DataW.trod_string Try.underlying9 ht
      simp at e0
      subst e0
      exact ⟨k0, rfl, trivial⟩) h
set_option maxRecDepth 100000 in
theorem texts_in {a : Option Addr} {n c : Nat} {d : DataW H} {p : List MemPlace} (h : DataW.Trod enc Try.prog w base (fun _ => true) held 26 (.slice a n c) d p) : ∃ l, Reads encT 1 w a n c l ∧ ∀ x ∈ l, ((fun _ => True) : ByteArray → Prop) x := by
  obtain ⟨fuel, hf⟩ := h
  obtain ⟨a', n', c', l, e, hl⟩ := texts_row (v := .slice a n c) (by simpa [Value.cells] using hf)
  cases e
  exact ⟨l, hl⟩

set_option maxRecDepth 100000 in
set_option maxHeartbeats 1000000 in
theorem ref_cells {fuel : Nat} {cs : List Value} {y : DataW H × List MemPlace} (hl : cs.length = 2) (h : DataW.trod enc Try.prog w base (fun _ => true) held fuel 39 cs = some y) : ∃ x : Rf, cs = encRf x ∧ ((fun _ => True) : Rf → Prop) x := by
  match cs, hl with
  | [v0, v1], _ =>
    have ctI : Try.prog.cellsOf 3 = 1 := by kernel_rfl
    obtain ⟨ys, k', _, hy, _, hyl, hfl⟩ := DataW.trod_struct Try.underlying39 h
    have f0 : DataW.trod enc Try.prog w base (fun _ => true) held k' 3 (([v0, v1].drop 0).take (Try.prog.cellsOf 3)) = ys[0]? := hfl 0 _ rfl
    rw [ctI] at f0
    have f1 : DataW.trod enc Try.prog w base (fun _ => true) held k' 3 (([v0, v1].drop 1).take (Try.prog.cellsOf 3)) = ys[1]? := hfl 1 _ rfl
    rw [ctI] at f1
    match ys, hyl with
    | [y0, y1], _ =>
      have f0 : DataW.trod enc Try.prog w base (fun _ => true) held k' 3 [v0] = some y0 := f0
      obtain ⟨k0, e0, _, _⟩ := DataW.trod_int Try.underlying3 f0
      cases e0
      have f1 : DataW.trod enc Try.prog w base (fun _ => true) held k' 3 [v1] = some y1 := f1
      obtain ⟨k1, e1, _, _⟩ := DataW.trod_int Try.underlying3 f1
      cases e1
      exact ⟨(k0, k1), rfl, trivial⟩

set_option maxRecDepth 100000 in
theorem ref_in {b0 : Nat} {v : Value} {d : DataW H} {p : List MemPlace} (hv : Value.okWide Try.prog w .any b0 39 v) (h : DataW.Trod enc Try.prog w base (fun _ => true) held 39 v d p) : ∃ x : Rf, v = .agg (encRf x).toArray ∧ ((fun _ => True) : Rf → Prop) x := by
  obtain ⟨cs, rfl, hsz⟩ := okWide_struct Try.underlying39 hv
  have hc : Try.prog.cellsOf 39 = 2 := by kernel_rfl
  rw [hc] at hsz
  obtain ⟨l⟩ := cs
  obtain ⟨fuel, ht⟩ := h
  obtain ⟨x, e, hx⟩ := ref_cells (by simpa using hsz) (show DataW.trod enc Try.prog w base (fun _ => true) held fuel 39 l = some _ by simpa [Value.cells] using ht)
  subst e
  exact ⟨x, rfl, hx⟩

set_option maxRecDepth 100000 in
set_option maxHeartbeats 1000000 in
theorem cmd_cells {fuel : Nat} {cs : List Value} {y : DataW H × List MemPlace} (hl : cs.length = 6) (h : DataW.trod enc Try.prog w base (fun _ => true) held fuel 57 cs = some y) : ∃ x : CmdV, cs = encCmd x ∧ ((fun (x:CmdV) => x.da.there w) : CmdV → Prop) x := by
  match cs, hl with
  | [v0, v1, v2, v3, v4, v5], _ =>
    have ctI : Try.prog.cellsOf 3 = 1 := by kernel_rfl
    have ctTs : Try.prog.cellsOf 26 = 1 := by kernel_rfl
    obtain ⟨ys, k', _, hy, _, hyl, hfl⟩ := DataW.trod_struct Try.underlying57 h
    have f0 : DataW.trod enc Try.prog w base (fun _ => true) held k' 3 (([v0, v1, v2, v3, v4, v5].drop 0).take (Try.prog.cellsOf 3)) = ys[0]? := hfl 0 _ rfl
    rw [ctI] at f0
    have f1 : DataW.trod enc Try.prog w base (fun _ => true) held k' 3 (([v0, v1, v2, v3, v4, v5].drop 1).take (Try.prog.cellsOf 3)) = ys[1]? := hfl 1 _ rfl
    rw [ctI] at f1
    have f2 : DataW.trod enc Try.prog w base (fun _ => true) held k' 3 (([v0, v1, v2, v3, v4, v5].drop 2).take (Try.prog.cellsOf 3)) = ys[2]? := hfl 2 _ rfl
    rw [ctI] at f2
    have f3 : DataW.trod enc Try.prog w base (fun _ => true) held k' 3 (([v0, v1, v2, v3, v4, v5].drop 3).take (Try.prog.cellsOf 3)) = ys[3]? := hfl 3 _ rfl
    rw [ctI] at f3
    have f4 : DataW.trod enc Try.prog w base (fun _ => true) held k' 3 (([v0, v1, v2, v3, v4, v5].drop 4).take (Try.prog.cellsOf 3)) = ys[4]? := hfl 4 _ rfl
    rw [ctI] at f4
    have f5 : DataW.trod enc Try.prog w base (fun _ => true) held k' 26 (([v0, v1, v2, v3, v4, v5].drop 5).take (Try.prog.cellsOf 26)) = ys[5]? := hfl 5 _ rfl
    rw [ctTs] at f5
    match ys, hyl with
    | [y0, y1, y2, y3, y4, y5], _ =>
      have f0 : DataW.trod enc Try.prog w base (fun _ => true) held k' 3 [v0] = some y0 := f0
      obtain ⟨k0, e0, _, _⟩ := DataW.trod_int Try.underlying3 f0
      cases e0
      have f1 : DataW.trod enc Try.prog w base (fun _ => true) held k' 3 [v1] = some y1 := f1
      obtain ⟨k1, e1, _, _⟩ := DataW.trod_int Try.underlying3 f1
      cases e1
      have f2 : DataW.trod enc Try.prog w base (fun _ => true) held k' 3 [v2] = some y2 := f2
      obtain ⟨k2, e2, _, _⟩ := DataW.trod_int Try.underlying3 f2
      cases e2
      have f3 : DataW.trod enc Try.prog w base (fun _ => true) held k' 3 [v3] = some y3 := f3
      obtain ⟨k3, e3, _, _⟩ := DataW.trod_int Try.underlying3 f3
      cases e3
      have f4 : DataW.trod enc Try.prog w base (fun _ => true) held k' 3 [v4] = some y4 := f4
      obtain ⟨k4, e4, _, _⟩ := DataW.trod_int Try.underlying3 f4
      cases e4
      have f5 : DataW.trod enc Try.prog w base (fun _ => true) held k' 26 [v5] = some y5 := f5
      obtain ⟨a5, n5, c5, l5, rfl, p5, q5⟩ := texts_row f5
      exact ⟨⟨k0, k1, k2, k3, k4, ⟨a5, n5, c5, l5⟩⟩, rfl, p5⟩

set_option maxRecDepth 100000 in
theorem cmd_in {b0 : Nat} {v : Value} {d : DataW H} {p : List MemPlace} (hv : Value.okWide Try.prog w .any b0 57 v) (h : DataW.Trod enc Try.prog w base (fun _ => true) held 57 v d p) : ∃ x : CmdV, v = .agg (encCmd x).toArray ∧ ((fun (x:CmdV) => x.da.there w) : CmdV → Prop) x := by
  obtain ⟨cs, rfl, hsz⟩ := okWide_struct Try.underlying57 hv
  have hc : Try.prog.cellsOf 57 = 6 := by kernel_rfl
  rw [hc] at hsz
  obtain ⟨l⟩ := cs
  obtain ⟨fuel, ht⟩ := h
  obtain ⟨x, e, hx⟩ := cmd_cells (by simpa using hsz) (show DataW.trod enc Try.prog w base (fun _ => true) held fuel 57 l = some _ by simpa [Value.cells] using ht)
  subst e
  exact ⟨x, rfl, hx⟩

set_option maxRecDepth 100000 in
set_option maxHeartbeats 1000000 in
theorem rep_cells {fuel : Nat} {cs : List Value} {y : DataW H × List MemPlace} (hl : cs.length = 2) (h : DataW.trod enc Try.prog w base (fun _ => true) held fuel 59 cs = some y) : ∃ x : RepV, cs = encRep x ∧ ((fun (x:RepV) => x.da.there w) : RepV → Prop) x := by
  match cs, hl with
  | [v0, v1], _ =>
    have ctB : Try.prog.cellsOf 4 = 1 := by kernel_rfl
    have ctTs : Try.prog.cellsOf 26 = 1 := by kernel_rfl
    obtain ⟨ys, k', _, hy, _, hyl, hfl⟩ := DataW.trod_struct Try.underlying59 h
    have f0 : DataW.trod enc Try.prog w base (fun _ => true) held k' 4 (([v0, v1].drop 0).take (Try.prog.cellsOf 4)) = ys[0]? := hfl 0 _ rfl
    rw [ctB] at f0
    have f1 : DataW.trod enc Try.prog w base (fun _ => true) held k' 26 (([v0, v1].drop 1).take (Try.prog.cellsOf 26)) = ys[1]? := hfl 1 _ rfl
    rw [ctTs] at f1
    match ys, hyl with
    | [y0, y1], _ =>
      have f0 : DataW.trod enc Try.prog w base (fun _ => true) held k' 4 [v0] = some y0 := f0
      obtain ⟨k0, e0, _⟩ := DataW.trod_bool Try.underlying4 f0
      cases e0
      have f1 : DataW.trod enc Try.prog w base (fun _ => true) held k' 26 [v1] = some y1 := f1
      obtain ⟨a1, n1, c1, l1, rfl, p1, q1⟩ := texts_row f1
      exact ⟨⟨k0, ⟨a1, n1, c1, l1⟩⟩, rfl, p1⟩

set_option maxRecDepth 100000 in
theorem rep_in {b0 : Nat} {v : Value} {d : DataW H} {p : List MemPlace} (hv : Value.okWide Try.prog w .any b0 59 v) (h : DataW.Trod enc Try.prog w base (fun _ => true) held 59 v d p) : ∃ x : RepV, v = .agg (encRep x).toArray ∧ ((fun (x:RepV) => x.da.there w) : RepV → Prop) x := by
  obtain ⟨cs, rfl, hsz⟩ := okWide_struct Try.underlying59 hv
  have hc : Try.prog.cellsOf 59 = 2 := by kernel_rfl
  rw [hc] at hsz
  obtain ⟨l⟩ := cs
  obtain ⟨fuel, ht⟩ := h
  obtain ⟨x, e, hx⟩ := rep_cells (by simpa using hsz) (show DataW.trod enc Try.prog w base (fun _ => true) held fuel 59 l = some _ by simpa [Value.cells] using ht)
  subst e
  exact ⟨x, rfl, hx⟩

set_option maxRecDepth 100000 in
set_option maxHeartbeats 1000000 in
theorem ran_cells {fuel : Nat} {cs : List Value} {y : DataW H × List MemPlace} (hl : cs.length = 10) (h : DataW.trod enc Try.prog w base (fun _ => true) held fuel 61 cs = some y) : ∃ x : RanV, cs = encRan x ∧ ((fun (x:RanV) => x.there w) : RanV → Prop) x := by
  match cs, hl with
  | [v0, v1, v2, v3, v4, v5, v6, v7, v8, v9], _ =>
    have ctRef : Try.prog.cellsOf 39 = 2 := by kernel_rfl
    have ctCmd : Try.prog.cellsOf 57 = 6 := by kernel_rfl
    have ctReply : Try.prog.cellsOf 59 = 2 := by kernel_rfl
    obtain ⟨ys, k', _, hy, _, hyl, hfl⟩ := DataW.trod_struct Try.underlying61 h
    have f0 : DataW.trod enc Try.prog w base (fun _ => true) held k' 39 (([v0, v1, v2, v3, v4, v5, v6, v7, v8, v9].drop 0).take (Try.prog.cellsOf 39)) = ys[0]? := hfl 0 _ rfl
    rw [ctRef] at f0
    have f1 : DataW.trod enc Try.prog w base (fun _ => true) held k' 57 (([v0, v1, v2, v3, v4, v5, v6, v7, v8, v9].drop 2).take (Try.prog.cellsOf 57)) = ys[1]? := hfl 1 _ rfl
    rw [ctCmd] at f1
    have f2 : DataW.trod enc Try.prog w base (fun _ => true) held k' 59 (([v0, v1, v2, v3, v4, v5, v6, v7, v8, v9].drop 8).take (Try.prog.cellsOf 59)) = ys[2]? := hfl 2 _ rfl
    rw [ctReply] at f2
    match ys, hyl with
    | [y0, y1, y2], _ =>
      have f0 : DataW.trod enc Try.prog w base (fun _ => true) held k' 39 [v0, v1] = some y0 := f0
      obtain ⟨x0, e0, p0⟩ := ref_cells rfl f0
      cases e0
      have f1 : DataW.trod enc Try.prog w base (fun _ => true) held k' 57 [v2, v3, v4, v5, v6, v7] = some y1 := f1
      obtain ⟨x1, e1, p1⟩ := cmd_cells rfl f1
      cases e1
      have f2 : DataW.trod enc Try.prog w base (fun _ => true) held k' 59 [v8, v9] = some y2 := f2
      obtain ⟨x2, e2, p2⟩ := rep_cells rfl f2
      cases e2
      exact ⟨⟨x0, x1, x2⟩, rfl, ⟨p1, p2⟩⟩

set_option maxRecDepth 100000 in
theorem ran_in {b0 : Nat} {v : Value} {d : DataW H} {p : List MemPlace} (hv : Value.okWide Try.prog w .any b0 61 v) (h : DataW.Trod enc Try.prog w base (fun _ => true) held 61 v d p) : ∃ x : RanV, v = .agg (encRan x).toArray ∧ ((fun (x:RanV) => x.there w) : RanV → Prop) x := by
  obtain ⟨cs, rfl, hsz⟩ := okWide_struct Try.underlying61 hv
  have hc : Try.prog.cellsOf 61 = 10 := by kernel_rfl
  rw [hc] at hsz
  obtain ⟨l⟩ := cs
  obtain ⟨fuel, ht⟩ := h
  obtain ⟨x, e, hx⟩ := ran_cells (by simpa using hsz) (show DataW.trod enc Try.prog w base (fun _ => true) held fuel 61 l = some _ by simpa [Value.cells] using ht)
  subst e
  exact ⟨x, rfl, hx⟩

set_option maxRecDepth 100000 in
set_option maxHeartbeats 1000000 in
theorem deed_cells {fuel : Nat} {cs : List Value} {y : DataW H × List MemPlace} (hl : cs.length = 9) (h : DataW.trod enc Try.prog w base (fun _ => true) held fuel 28 cs = some y) : ∃ x : DeedV, cs = encDeed x ∧ ((fun (x:DeedV) => x.there w) : DeedV → Prop) x := by
  match cs, hl with
  | [v0, v1, v2, v3, v4, v5, v6, v7, v8], _ =>
    have ctI : Try.prog.cellsOf 3 = 1 := by kernel_rfl
    have ctTs : Try.prog.cellsOf 26 = 1 := by kernel_rfl
    obtain ⟨ys, k', _, hy, _, hyl, hfl⟩ := DataW.trod_struct Try.underlying28 h
    have f0 : DataW.trod enc Try.prog w base (fun _ => true) held k' 3 (([v0, v1, v2, v3, v4, v5, v6, v7, v8].drop 0).take (Try.prog.cellsOf 3)) = ys[0]? := hfl 0 _ rfl
    rw [ctI] at f0
    have f1 : DataW.trod enc Try.prog w base (fun _ => true) held k' 3 (([v0, v1, v2, v3, v4, v5, v6, v7, v8].drop 1).take (Try.prog.cellsOf 3)) = ys[1]? := hfl 1 _ rfl
    rw [ctI] at f1
    have f2 : DataW.trod enc Try.prog w base (fun _ => true) held k' 3 (([v0, v1, v2, v3, v4, v5, v6, v7, v8].drop 2).take (Try.prog.cellsOf 3)) = ys[2]? := hfl 2 _ rfl
    rw [ctI] at f2
    have f3 : DataW.trod enc Try.prog w base (fun _ => true) held k' 3 (([v0, v1, v2, v3, v4, v5, v6, v7, v8].drop 3).take (Try.prog.cellsOf 3)) = ys[3]? := hfl 3 _ rfl
    rw [ctI] at f3
    have f4 : DataW.trod enc Try.prog w base (fun _ => true) held k' 3 (([v0, v1, v2, v3, v4, v5, v6, v7, v8].drop 4).take (Try.prog.cellsOf 3)) = ys[4]? := hfl 4 _ rfl
    rw [ctI] at f4
    have f5 : DataW.trod enc Try.prog w base (fun _ => true) held k' 26 (([v0, v1, v2, v3, v4, v5, v6, v7, v8].drop 5).take (Try.prog.cellsOf 26)) = ys[5]? := hfl 5 _ rfl
    rw [ctTs] at f5
    have f6 : DataW.trod enc Try.prog w base (fun _ => true) held k' 3 (([v0, v1, v2, v3, v4, v5, v6, v7, v8].drop 6).take (Try.prog.cellsOf 3)) = ys[6]? := hfl 6 _ rfl
    rw [ctI] at f6
    have f7 : DataW.trod enc Try.prog w base (fun _ => true) held k' 3 (([v0, v1, v2, v3, v4, v5, v6, v7, v8].drop 7).take (Try.prog.cellsOf 3)) = ys[7]? := hfl 7 _ rfl
    rw [ctI] at f7
    have f8 : DataW.trod enc Try.prog w base (fun _ => true) held k' 26 (([v0, v1, v2, v3, v4, v5, v6, v7, v8].drop 8).take (Try.prog.cellsOf 26)) = ys[8]? := hfl 8 _ rfl
    rw [ctTs] at f8
    match ys, hyl with
    | [y0, y1, y2, y3, y4, y5, y6, y7, y8], _ =>
      have f0 : DataW.trod enc Try.prog w base (fun _ => true) held k' 3 [v0] = some y0 := f0
      obtain ⟨k0, e0, _, _⟩ := DataW.trod_int Try.underlying3 f0
      cases e0
      have f1 : DataW.trod enc Try.prog w base (fun _ => true) held k' 3 [v1] = some y1 := f1
      obtain ⟨k1, e1, _, _⟩ := DataW.trod_int Try.underlying3 f1
      cases e1
      have f2 : DataW.trod enc Try.prog w base (fun _ => true) held k' 3 [v2] = some y2 := f2
      obtain ⟨k2, e2, _, _⟩ := DataW.trod_int Try.underlying3 f2
      cases e2
      have f3 : DataW.trod enc Try.prog w base (fun _ => true) held k' 3 [v3] = some y3 := f3
      obtain ⟨k3, e3, _, _⟩ := DataW.trod_int Try.underlying3 f3
      cases e3
      have f4 : DataW.trod enc Try.prog w base (fun _ => true) held k' 3 [v4] = some y4 := f4
      obtain ⟨k4, e4, _, _⟩ := DataW.trod_int Try.underlying3 f4
      cases e4
      have f5 : DataW.trod enc Try.prog w base (fun _ => true) held k' 26 [v5] = some y5 := f5
      obtain ⟨a5, n5, c5, l5, rfl, p5, q5⟩ := texts_row f5
      have f6 : DataW.trod enc Try.prog w base (fun _ => true) held k' 3 [v6] = some y6 := f6
      obtain ⟨k6, e6, _, _⟩ := DataW.trod_int Try.underlying3 f6
      cases e6
      have f7 : DataW.trod enc Try.prog w base (fun _ => true) held k' 3 [v7] = some y7 := f7
      obtain ⟨k7, e7, _, _⟩ := DataW.trod_int Try.underlying3 f7
      cases e7
      have f8 : DataW.trod enc Try.prog w base (fun _ => true) held k' 26 [v8] = some y8 := f8
      obtain ⟨a8, n8, c8, l8, rfl, p8, q8⟩ := texts_row f8
      exact ⟨⟨k0, k1, k2, k3, k4, ⟨a5, n5, c5, l5⟩, k6, k7, ⟨a8, n8, c8, l8⟩⟩, rfl, ⟨p5, p8⟩⟩

set_option maxRecDepth 100000 in
theorem deed_in {b0 : Nat} {v : Value} {d : DataW H} {p : List MemPlace} (hv : Value.okWide Try.prog w .any b0 28 v) (h : DataW.Trod enc Try.prog w base (fun _ => true) held 28 v d p) : ∃ x : DeedV, v = .agg (encDeed x).toArray ∧ ((fun (x:DeedV) => x.there w) : DeedV → Prop) x := by
  obtain ⟨cs, rfl, hsz⟩ := okWide_struct Try.underlying28 hv
  have hc : Try.prog.cellsOf 28 = 9 := by kernel_rfl
  rw [hc] at hsz
  obtain ⟨l⟩ := cs
  obtain ⟨fuel, ht⟩ := h
  obtain ⟨x, e, hx⟩ := deed_cells (by simpa using hsz) (show DataW.trod enc Try.prog w base (fun _ => true) held fuel 28 l = some _ by simpa [Value.cells] using ht)
  subst e
  exact ⟨x, rfl, hx⟩

set_option maxRecDepth 100000 in
theorem rans_row {fuel : Nat} {v : Value} {y : DataW H × List MemPlace} (h : DataW.trod enc Try.prog w base (fun _ => true) held fuel 46 [v] = some y) : ∃ a n c l, v = .slice a n c ∧ Reads encRan 10 w a n c l ∧ ∀ x ∈ l, ((fun (x:RanV) => x.there w) : RanV → Prop) x :=
  row_at (encX := encRan) (k := 10) (P := ((fun (x:RanV) => x.there w) : RanV → Prop)) (fun _ => rfl) (by omega) Try.underlying46 (by kernel_rfl) (fun _ _ _ hl ht => ran_cells hl ht) h
set_option maxRecDepth 100000 in
theorem rans_in {a : Option Addr} {n c : Nat} {d : DataW H} {p : List MemPlace} (h : DataW.Trod enc Try.prog w base (fun _ => true) held 46 (.slice a n c) d p) : ∃ l, Reads encRan 10 w a n c l ∧ ∀ x ∈ l, ((fun (x:RanV) => x.there w) : RanV → Prop) x := by
  obtain ⟨fuel, hf⟩ := h
  obtain ⟨a', n', c', l, e, hl⟩ := rans_row (v := .slice a n c) (by simpa [Value.cells] using hf)
  cases e
  exact ⟨l, hl⟩

set_option maxRecDepth 100000 in
theorem deeds_row {fuel : Nat} {v : Value} {y : DataW H × List MemPlace} (h : DataW.trod enc Try.prog w base (fun _ => true) held fuel 22 [v] = some y) : ∃ a n c l, v = .slice a n c ∧ Reads encDeed 9 w a n c l ∧ ∀ x ∈ l, ((fun (x:DeedV) => x.there w) : DeedV → Prop) x :=
  row_at (encX := encDeed) (k := 9) (P := ((fun (x:DeedV) => x.there w) : DeedV → Prop)) (fun _ => rfl) (by omega) Try.underlying22 (by kernel_rfl) (fun _ _ _ hl ht => deed_cells hl ht) h
set_option maxRecDepth 100000 in
theorem deeds_in {a : Option Addr} {n c : Nat} {d : DataW H} {p : List MemPlace} (h : DataW.Trod enc Try.prog w base (fun _ => true) held 22 (.slice a n c) d p) : ∃ l, Reads encDeed 9 w a n c l ∧ ∀ x ∈ l, ((fun (x:DeedV) => x.there w) : DeedV → Prop) x := by
  obtain ⟨fuel, hf⟩ := h
  obtain ⟨a', n', c', l, e, hl⟩ := deeds_row (v := .slice a n c) (by simpa [Value.cells] using hf)
  cases e
  exact ⟨l, hl⟩

set_option maxRecDepth 100000 in
set_option maxHeartbeats 1000000 in
theorem life_cells {fuel : Nat} {cs : List Value} {y : DataW H × List MemPlace} (hl : cs.length = 3) (h : DataW.trod enc Try.prog w base (fun _ => true) held fuel 48 cs = some y) : ∃ x : LifeV, cs = encLife x ∧ ((fun (x:LifeV) => Rans w x.log.a x.log.n x.log.c x.log.l) : LifeV → Prop) x := by
  match cs, hl with
  | [v0, v1, v2], _ =>
    have ctI : Try.prog.cellsOf 3 = 1 := by kernel_rfl
    have ctRans : Try.prog.cellsOf 46 = 1 := by kernel_rfl
    obtain ⟨ys, k', _, hy, _, hyl, hfl⟩ := DataW.trod_struct Try.underlying48 h
    have f0 : DataW.trod enc Try.prog w base (fun _ => true) held k' 3 (([v0, v1, v2].drop 0).take (Try.prog.cellsOf 3)) = ys[0]? := hfl 0 _ rfl
    rw [ctI] at f0
    have f1 : DataW.trod enc Try.prog w base (fun _ => true) held k' 3 (([v0, v1, v2].drop 1).take (Try.prog.cellsOf 3)) = ys[1]? := hfl 1 _ rfl
    rw [ctI] at f1
    have f2 : DataW.trod enc Try.prog w base (fun _ => true) held k' 46 (([v0, v1, v2].drop 2).take (Try.prog.cellsOf 46)) = ys[2]? := hfl 2 _ rfl
    rw [ctRans] at f2
    match ys, hyl with
    | [y0, y1, y2], _ =>
      have f0 : DataW.trod enc Try.prog w base (fun _ => true) held k' 3 [v0] = some y0 := f0
      obtain ⟨k0, e0, _, _⟩ := DataW.trod_int Try.underlying3 f0
      cases e0
      have f1 : DataW.trod enc Try.prog w base (fun _ => true) held k' 3 [v1] = some y1 := f1
      obtain ⟨k1, e1, _, _⟩ := DataW.trod_int Try.underlying3 f1
      cases e1
      have f2 : DataW.trod enc Try.prog w base (fun _ => true) held k' 46 [v2] = some y2 := f2
      obtain ⟨a2, n2, c2, l2, rfl, p2, q2⟩ := rans_row f2
      exact ⟨⟨k0, k1, ⟨a2, n2, c2, l2⟩⟩, rfl, ⟨p2, q2⟩⟩

set_option maxRecDepth 100000 in
theorem life_in {b0 : Nat} {v : Value} {d : DataW H} {p : List MemPlace} (hv : Value.okWide Try.prog w .any b0 48 v) (h : DataW.Trod enc Try.prog w base (fun _ => true) held 48 v d p) : ∃ x : LifeV, v = .agg (encLife x).toArray ∧ ((fun (x:LifeV) => Rans w x.log.a x.log.n x.log.c x.log.l) : LifeV → Prop) x := by
  obtain ⟨cs, rfl, hsz⟩ := okWide_struct Try.underlying48 hv
  have hc : Try.prog.cellsOf 48 = 3 := by kernel_rfl
  rw [hc] at hsz
  obtain ⟨l⟩ := cs
  obtain ⟨fuel, ht⟩ := h
  obtain ⟨x, e, hx⟩ := life_cells (by simpa using hsz) (show DataW.trod enc Try.prog w base (fun _ => true) held fuel 48 l = some _ by simpa [Value.cells] using ht)
  subst e
  exact ⟨x, rfl, hx⟩

set_option maxRecDepth 100000 in
theorem lives_row {fuel : Nat} {v : Value} {y : DataW H × List MemPlace} (h : DataW.trod enc Try.prog w base (fun _ => true) held fuel 23 [v] = some y) : ∃ a n c l, v = .slice a n c ∧ Reads encLife 3 w a n c l ∧ ∀ x ∈ l, ((fun (x:LifeV) => Rans w x.log.a x.log.n x.log.c x.log.l) : LifeV → Prop) x :=
  row_at (encX := encLife) (k := 3) (P := ((fun (x:LifeV) => Rans w x.log.a x.log.n x.log.c x.log.l) : LifeV → Prop)) (fun _ => rfl) (by omega) Try.underlying23 (by kernel_rfl) (fun _ _ _ hl ht => life_cells hl ht) h
set_option maxRecDepth 100000 in
theorem lives_in {a : Option Addr} {n c : Nat} {d : DataW H} {p : List MemPlace} (h : DataW.Trod enc Try.prog w base (fun _ => true) held 23 (.slice a n c) d p) : ∃ l, Reads encLife 3 w a n c l ∧ ∀ x ∈ l, ((fun (x:LifeV) => Rans w x.log.a x.log.n x.log.c x.log.l) : LifeV → Prop) x := by
  obtain ⟨fuel, hf⟩ := h
  obtain ⟨a', n', c', l, e, hl⟩ := lives_row (v := .slice a n c) (by simpa [Value.cells] using hf)
  cases e
  exact ⟨l, hl⟩

end
end Go.Proofs.Ytpehfnobgdjgcaa
