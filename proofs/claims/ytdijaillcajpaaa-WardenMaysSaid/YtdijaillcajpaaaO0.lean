/-
  What the laws' frames share: arguments opened to what a walk is told of them. (gen_open.py, atlas.txt.)
-/
import Derived.Test.YtdijaillcajpaaaV0
import Derived.Test.YtdijaillcajpaaaRows
import Derived.ProofKit
import Derived.OpenShut
import Derived.ChangeOld
import Derived.Deep.Slices
import Derived.Deep.Fields
import Derived.ChangeSame
import Derived.SizedLaws
namespace Go.Proofs.Ytdijaillcajpaaa
open Go.RowKit Go.ChangeShapes Go.WideShapes Go.ChangeAt Go.Deep

theorem own : ownKnob Try.prog.godebug = none := by kernel_rfl
theorem laidOut : laidOutB Try.prog = true := by kernel_rfl
theorem add2 (b o k j : Nat) : ((⟨b, o, none⟩ : Addr).add k).add j = ⟨b, o + k + j, none⟩ := by
  unfold Addr.add
  split <;> split <;> simp_all

/-- A step of a law. -/
structure StepV where
  c : Chg
  near : Bool
def encStep (x : StepV) : List Value := [.int .i64 x.c.ki, .int .i64 x.c.sh, .int .i64 x.c.ot, .int .i64 x.c.at_, .int .i64 x.c.out, .int .i64 x.c.inn, .bool x.near]
theorem encStep_len (x : StepV) : (encStep x).length = 7 := rfl
/-- Loads, and where they lie. -/
structure Ll where
  a : Option Addr
  n : Nat
  c : Nat
  l : List LoadV
/-- What a decision looks at, as a law is handed it. -/
structure CaseV where
  r : RulV
  ld : Ll
  live : Il
  settled : Bool
def encRul (x : RulV) : List Value := [.int .i64 x.hot, .int .i64 x.cold, .int .i64 x.long, .int .i64 x.mute, .int .i64 x.cap]
def encCas (x : CaseV) : List Value := [.int .i64 x.r.hot, .int .i64 x.r.cold, .int .i64 x.r.long, .int .i64 x.r.mute, .int .i64 x.r.cap, .slice x.ld.a x.ld.n x.ld.c, .slice x.live.a x.live.n x.live.c, .bool x.settled]
def CaseV.there (x : CaseV) (w : World) : Prop := Reads encLd 4 w x.ld.a x.ld.n x.ld.c x.ld.l ∧ Ints w x.live.a x.live.n x.live.c x.live.l
instance : Inhabited LoadV := ⟨⟨0, 0, 0, 0⟩⟩
instance : Inhabited RulV := ⟨⟨0, 0, 0, 0, 0⟩⟩
instance : Inhabited Chg := ⟨⟨0, 0, 0, 0, 0, 0⟩⟩
instance : Inhabited StepV := ⟨⟨default, false⟩⟩

section
variable {H : Type} {enc : TypeId × Value → H} {w : World} {base : Nat} {held : Bool}

set_option maxRecDepth 100000 in
theorem rows_in {α : Type} [Inhabited α] {encX : α → List Value} {k : Nat} {t te : TypeId} {P : α → Prop} (hk : ∀ x, (encX x).length = k) (h0 : 0 < k) (hT : Try.prog.underlying t = some (.slice te)) (hc : Try.prog.cellsOf te = k)
    (hcell : ∀ fuel cs y, cs.length = k → DataW.trod enc Try.prog w base (fun _ => true) held fuel te cs = some y → ∃ x, cs = encX x ∧ P x)
    {a : Option Addr} {n c : Nat} {d : DataW H} {p : List MemPlace} (h : DataW.Trod enc Try.prog w base (fun _ => true) held t (.slice a n c) d p) : ∃ l, Reads encX k w a n c l ∧ ∀ s ∈ l, P s := by
  obtain ⟨fuel, hf⟩ := h
  rcases open_slice hT hf with ⟨hcs, _⟩ | ⟨ad, n', c', m, kk, D, Pl, hcs, _, hle, hm, hmm, hx, hi⟩
  · simp [Value.cells] at hcs
    obtain ⟨rfl, rfl, rfl⟩ := hcs
    exact ⟨[], Reads.empty w, fun s hs => by cases hs⟩
  · simp [Value.cells] at hcs
    obtain ⟨rfl, rfl, rfl⟩ := hcs
    have hmc : m = c := by simpa using hmm
    subst hmc
    have hspot : 0 < n → ad.spot = none := fun hn => by
      obtain ⟨cs0, hc0, _⟩ := hi 0 (by omega)
      rw [hc] at hc0
      obtain ⟨_, hcl0, hat0⟩ := World.cells?_some hc0
      have h1 := hat0 0 h0
      rw [List.getElem?_eq_getElem (by omega)] at h1
      have := World.cell?_spot h1
      obtain ⟨b, o, sp⟩ := ad
      cases sp with
      | none => rfl
      | some s => simp [Addr.add] at this
    have key : ∀ i, i < n → ∃ x : α, P x ∧ ∀ j v, (encX x)[j]? = some v → w.cell? ⟨ad.block, ad.off + i * k + j, none⟩ = some v := by
      intro i hin
      have hsp := hspot (by omega)
      obtain ⟨cs', hc', ht⟩ := hi i (by omega)
      rw [hc] at hc'
      obtain ⟨_, hcl, hat⟩ := World.cells?_some hc'
      obtain ⟨x, rfl, hx⟩ := hcell _ _ _ hcl ht
      refine ⟨x, hx, fun j v hv => ?_⟩
      have hj : j < k := by have := (List.getElem?_eq_some_iff.1 hv).1; rw [hk] at this; exact this
      have g := hat j hj
      obtain ⟨b, o, sp⟩ := ad
      simp at hsp
      subst hsp
      rw [add2] at g
      rw [g]; exact hv
    refine ⟨(List.range n).map fun i => if h : i < n then (key i h).choose else default, ⟨by simp, hle, by unfold maxLen at hm; omega, (fun h => by cases h), fun i x hx' => ?_⟩, fun s hs => ?_⟩
    · simp only [List.getElem?_map, Option.map_eq_some_iff] at hx'
      obtain ⟨j, hj, rfl⟩ := hx'
      have hjn := (List.getElem?_eq_some_iff.1 hj).1
      simp at hjn
      have : j = i := by
        have := (List.getElem?_eq_some_iff.1 hj).2
        simpa using this.symm
      subst this
      rw [dif_pos hjn]
      have hsp := (key j hjn).choose_spec
      generalize (key j hjn).choose = s at hsp ⊢
      have hsn := hspot (by omega)
      refine ⟨ad.block, ad.off, ?_, hsp.2⟩
      obtain ⟨b, o, sp⟩ := ad
      simp at hsn
      subst hsn
      rfl
    · obtain ⟨i, hi', rfl⟩ := List.mem_map.1 hs
      have hin : i < n := by simpa using hi'
      rw [dif_pos hin]
      exact (key i hin).choose_spec.1

theorem row_at {α : Type} [Inhabited α] {encX : α → List Value} {k : Nat} {t te : TypeId} {P : α → Prop} (hk : ∀ x, (encX x).length = k) (h0 : 0 < k) (hT : Try.prog.underlying t = some (.slice te)) (hc : Try.prog.cellsOf te = k)
    (hcell : ∀ fuel cs y, cs.length = k → DataW.trod enc Try.prog w base (fun _ => true) held fuel te cs = some y → ∃ x, cs = encX x ∧ P x)
    {fuel : Nat} {v : Value} {y : DataW H × List MemPlace} (h : DataW.trod enc Try.prog w base (fun _ => true) held fuel t [v] = some y) : ∃ a n c l, v = .slice a n c ∧ Reads encX k w a n c l ∧ ∀ x ∈ l, P x := by
  have key : ∀ a n c, v = .slice a n c → ∃ l, Reads encX k w a n c l ∧ ∀ x ∈ l, P x := by
    rintro a n c rfl
    exact rows_in hk h0 hT hc hcell ⟨fuel, by simpa [Value.cells] using h⟩
  rcases open_slice hT h with ⟨hcs, _⟩ | ⟨ad, n', c', m, kk, D, Pl, hcs, _⟩
  · simp at hcs
    obtain ⟨l, hl⟩ := key _ _ _ hcs
    exact ⟨_, _, _, l, hcs, hl⟩
  · simp at hcs
    obtain ⟨l, hl⟩ := key _ _ _ hcs
    exact ⟨_, _, _, l, hcs, hl⟩

set_option maxRecDepth 100000 in
theorem ints_row {fuel : Nat} {v : Value} {y : DataW H × List MemPlace} (h : DataW.trod enc Try.prog w base (fun _ => true) held fuel 37 [v] = some y) : ∃ a n c l, v = .slice a n c ∧ Reads encI 1 w a n c l ∧ ∀ x ∈ l, ((fun _ => True) : Int → Prop) x :=
  row_at (encX := encI) (k := 1) (P := ((fun _ => True) : Int → Prop)) (fun _ => rfl) (by omega) Try.underlying37 (by kernel_rfl) (fun fuel cs y hl ht => by
    match cs, hl with
    | [v], _ =>
      obtain ⟨k0, e0, _, w0⟩ := DataW.trod_int Try.underlying3 ht
      simp at e0
      subst e0
      exact ⟨k0, rfl, trivial⟩) h
set_option maxRecDepth 100000 in
theorem ints_in {a : Option Addr} {n c : Nat} {d : DataW H} {p : List MemPlace} (h : DataW.Trod enc Try.prog w base (fun _ => true) held 37 (.slice a n c) d p) : ∃ l, Reads encI 1 w a n c l ∧ ∀ x ∈ l, ((fun _ => True) : Int → Prop) x := by
  obtain ⟨fuel, hf⟩ := h
  obtain ⟨a', n', c', l, e, hl⟩ := ints_row (v := .slice a n c) (by simpa [Value.cells] using hf)
  cases e
  exact ⟨l, hl⟩

set_option maxRecDepth 100000 in
set_option maxHeartbeats 1000000 in
theorem span_cells {fuel : Nat} {cs : List Value} {y : DataW H × List MemPlace} (hl : cs.length = 2) (h : DataW.trod enc Try.prog w base (fun _ => true) held fuel 36 cs = some y) : ∃ x : Sp, cs = encS x ∧ ((fun _ => True) : Sp → Prop) x := by
  match cs, hl with
  | [v0, v1], _ =>
    have ctI : Try.prog.cellsOf 3 = 1 := by kernel_rfl
    obtain ⟨ys, k', _, hy, _, hyl, hfl⟩ := DataW.trod_struct Try.underlying36 h
    have f0 : DataW.trod enc Try.prog w base (fun _ => true) held k' 3 (([v0, v1].drop 0).take (Try.prog.cellsOf 3)) = ys[0]? := hfl 0 _ rfl
    rw [ctI] at f0
    have f1 : DataW.trod enc Try.prog w base (fun _ => true) held k' 3 (([v0, v1].drop 1).take (Try.prog.cellsOf 3)) = ys[1]? := hfl 1 _ rfl
    rw [ctI] at f1
    match ys, hyl with
    | [y0, y1], _ =>
      have f0 : DataW.trod enc Try.prog w base (fun _ => true) held k' 3 [v0] = some y0 := f0
      obtain ⟨k0, e0, _, _⟩ := DataW.trod_int Try.underlying3 f0
      cases e0
      have f1 : DataW.trod enc Try.prog w base (fun _ => true) held k' 3 [v1] = some y1 := f1
      obtain ⟨k1, e1, _, _⟩ := DataW.trod_int Try.underlying3 f1
      cases e1
      exact ⟨(k0, k1), rfl, trivial⟩

set_option maxRecDepth 100000 in
theorem span_in {b0 : Nat} {v : Value} {d : DataW H} {p : List MemPlace} (hv : Value.okWide Try.prog w .any b0 36 v) (h : DataW.Trod enc Try.prog w base (fun _ => true) held 36 v d p) : ∃ x : Sp, v = .agg (encS x).toArray ∧ ((fun _ => True) : Sp → Prop) x := by
  obtain ⟨cs, rfl, hsz⟩ := okWide_struct Try.underlying36 hv
  have hc : Try.prog.cellsOf 36 = 2 := by kernel_rfl
  rw [hc] at hsz
  obtain ⟨l⟩ := cs
  obtain ⟨fuel, ht⟩ := h
  obtain ⟨x, e, hx⟩ := span_cells (by simpa using hsz) (show DataW.trod enc Try.prog w base (fun _ => true) held fuel 36 l = some _ by simpa [Value.cells] using ht)
  subst e
  exact ⟨x, rfl, hx⟩

set_option maxRecDepth 100000 in
theorem spans_row {fuel : Nat} {v : Value} {y : DataW H × List MemPlace} (h : DataW.trod enc Try.prog w base (fun _ => true) held fuel 54 [v] = some y) : ∃ a n c l, v = .slice a n c ∧ Reads encS 2 w a n c l ∧ ∀ x ∈ l, ((fun _ => True) : Sp → Prop) x :=
  row_at (encX := encS) (k := 2) (P := ((fun _ => True) : Sp → Prop)) (fun _ => rfl) (by omega) Try.underlying54 (by kernel_rfl) (fun _ _ _ hl ht => span_cells hl ht) h
set_option maxRecDepth 100000 in
theorem spans_in {a : Option Addr} {n c : Nat} {d : DataW H} {p : List MemPlace} (h : DataW.Trod enc Try.prog w base (fun _ => true) held 54 (.slice a n c) d p) : ∃ l, Reads encS 2 w a n c l ∧ ∀ x ∈ l, ((fun _ => True) : Sp → Prop) x := by
  obtain ⟨fuel, hf⟩ := h
  obtain ⟨a', n', c', l, e, hl⟩ := spans_row (v := .slice a n c) (by simpa [Value.cells] using hf)
  cases e
  exact ⟨l, hl⟩

set_option maxRecDepth 100000 in
set_option maxHeartbeats 1000000 in
theorem rul_cells {fuel : Nat} {cs : List Value} {y : DataW H × List MemPlace} (hl : cs.length = 5) (h : DataW.trod enc Try.prog w base (fun _ => true) held fuel 64 cs = some y) : ∃ x : RulV, cs = encRul x ∧ ((fun _ => True) : RulV → Prop) x := by
  match cs, hl with
  | [v0, v1, v2, v3, v4], _ =>
    have ctI : Try.prog.cellsOf 3 = 1 := by kernel_rfl
    obtain ⟨ys, k', _, hy, _, hyl, hfl⟩ := DataW.trod_struct Try.underlying64 h
    have f0 : DataW.trod enc Try.prog w base (fun _ => true) held k' 3 (([v0, v1, v2, v3, v4].drop 0).take (Try.prog.cellsOf 3)) = ys[0]? := hfl 0 _ rfl
    rw [ctI] at f0
    have f1 : DataW.trod enc Try.prog w base (fun _ => true) held k' 3 (([v0, v1, v2, v3, v4].drop 1).take (Try.prog.cellsOf 3)) = ys[1]? := hfl 1 _ rfl
    rw [ctI] at f1
    have f2 : DataW.trod enc Try.prog w base (fun _ => true) held k' 3 (([v0, v1, v2, v3, v4].drop 2).take (Try.prog.cellsOf 3)) = ys[2]? := hfl 2 _ rfl
    rw [ctI] at f2
    have f3 : DataW.trod enc Try.prog w base (fun _ => true) held k' 3 (([v0, v1, v2, v3, v4].drop 3).take (Try.prog.cellsOf 3)) = ys[3]? := hfl 3 _ rfl
    rw [ctI] at f3
    have f4 : DataW.trod enc Try.prog w base (fun _ => true) held k' 3 (([v0, v1, v2, v3, v4].drop 4).take (Try.prog.cellsOf 3)) = ys[4]? := hfl 4 _ rfl
    rw [ctI] at f4
    match ys, hyl with
    | [y0, y1, y2, y3, y4], _ =>
      have f0 : DataW.trod enc Try.prog w base (fun _ => true) held k' 3 [v0] = some y0 := f0
      obtain ⟨k0, e0, _, _⟩ := DataW.trod_int Try.underlying3 f0
      cases e0
      have f1 : DataW.trod enc Try.prog w base (fun _ => true) held k' 3 [v1] = some y1 := f1
      obtain ⟨k1, e1, _, _⟩ := DataW.trod_int Try.underlying3 f1
      cases e1
      have f2 : DataW.trod enc Try.prog w base (fun _ => true) held k' 3 [v2] = some y2 := f2
      obtain ⟨k2, e2, _, _⟩ := DataW.trod_int Try.underlying3 f2
      cases e2
      have f3 : DataW.trod enc Try.prog w base (fun _ => true) held k' 3 [v3] = some y3 := f3
      obtain ⟨k3, e3, _, _⟩ := DataW.trod_int Try.underlying3 f3
      cases e3
      have f4 : DataW.trod enc Try.prog w base (fun _ => true) held k' 3 [v4] = some y4 := f4
      obtain ⟨k4, e4, _, _⟩ := DataW.trod_int Try.underlying3 f4
      cases e4
      exact ⟨⟨k0, k1, k2, k3, k4⟩, rfl, trivial⟩

set_option maxRecDepth 100000 in
theorem rul_in {b0 : Nat} {v : Value} {d : DataW H} {p : List MemPlace} (hv : Value.okWide Try.prog w .any b0 64 v) (h : DataW.Trod enc Try.prog w base (fun _ => true) held 64 v d p) : ∃ x : RulV, v = .agg (encRul x).toArray ∧ ((fun _ => True) : RulV → Prop) x := by
  obtain ⟨cs, rfl, hsz⟩ := okWide_struct Try.underlying64 hv
  have hc : Try.prog.cellsOf 64 = 5 := by kernel_rfl
  rw [hc] at hsz
  obtain ⟨l⟩ := cs
  obtain ⟨fuel, ht⟩ := h
  obtain ⟨x, e, hx⟩ := rul_cells (by simpa using hsz) (show DataW.trod enc Try.prog w base (fun _ => true) held fuel 64 l = some _ by simpa [Value.cells] using ht)
  subst e
  exact ⟨x, rfl, hx⟩

set_option maxRecDepth 100000 in
set_option maxHeartbeats 1000000 in
theorem chg_cells {fuel : Nat} {cs : List Value} {y : DataW H × List MemPlace} (hl : cs.length = 6) (h : DataW.trod enc Try.prog w base (fun _ => true) held fuel 32 cs = some y) : ∃ x : Chg, cs = encChg x ∧ ((fun _ => True) : Chg → Prop) x := by
  match cs, hl with
  | [v0, v1, v2, v3, v4, v5], _ =>
    have ctI : Try.prog.cellsOf 3 = 1 := by kernel_rfl
    obtain ⟨ys, k', _, hy, _, hyl, hfl⟩ := DataW.trod_struct Try.underlying32 h
    have f0 : DataW.trod enc Try.prog w base (fun _ => true) held k' 3 (([v0, v1, v2, v3, v4, v5].drop 0).take (Try.prog.cellsOf 3)) = ys[0]? := hfl 0 _ rfl
    rw [ctI] at f0
    have f1 : DataW.trod enc Try.prog w base (fun _ => true) held k' 3 (([v0, v1, v2, v3, v4, v5].drop 1).take (Try.prog.cellsOf 3)) = ys[1]? := hfl 1 _ rfl
    rw [ctI] at f1
    have f2 : DataW.trod enc Try.prog w base (fun _ => true) held k' 3 (([v0, v1, v2, v3, v4, v5].drop 2).take (Try.prog.cellsOf 3)) = ys[2]? := hfl 2 _ rfl
    rw [ctI] at f2
    have f3 : DataW.trod enc Try.prog w base (fun _ => true) held k' 3 (([v0, v1, v2, v3, v4, v5].drop 3).take (Try.prog.cellsOf 3)) = ys[3]? := hfl 3 _ rfl
    rw [ctI] at f3
    have f4 : DataW.trod enc Try.prog w base (fun _ => true) held k' 3 (([v0, v1, v2, v3, v4, v5].drop 4).take (Try.prog.cellsOf 3)) = ys[4]? := hfl 4 _ rfl
    rw [ctI] at f4
    have f5 : DataW.trod enc Try.prog w base (fun _ => true) held k' 3 (([v0, v1, v2, v3, v4, v5].drop 5).take (Try.prog.cellsOf 3)) = ys[5]? := hfl 5 _ rfl
    rw [ctI] at f5
    match ys, hyl with
    | [y0, y1, y2, y3, y4, y5], _ =>
      have f0 : DataW.trod enc Try.prog w base (fun _ => true) held k' 3 [v0] = some y0 := f0
      obtain ⟨k0, e0, _, _⟩ := DataW.trod_int Try.underlying3 f0
      cases e0
      have f1 : DataW.trod enc Try.prog w base (fun _ => true) held k' 3 [v1] = some y1 := f1
      obtain ⟨k1, e1, _, _⟩ := DataW.trod_int Try.underlying3 f1
      cases e1
      have f2 : DataW.trod enc Try.prog w base (fun _ => true) held k' 3 [v2] = some y2 := f2
      obtain ⟨k2, e2, _, _⟩ := DataW.trod_int Try.underlying3 f2
      cases e2
      have f3 : DataW.trod enc Try.prog w base (fun _ => true) held k' 3 [v3] = some y3 := f3
      obtain ⟨k3, e3, _, _⟩ := DataW.trod_int Try.underlying3 f3
      cases e3
      have f4 : DataW.trod enc Try.prog w base (fun _ => true) held k' 3 [v4] = some y4 := f4
      obtain ⟨k4, e4, _, _⟩ := DataW.trod_int Try.underlying3 f4
      cases e4
      have f5 : DataW.trod enc Try.prog w base (fun _ => true) held k' 3 [v5] = some y5 := f5
      obtain ⟨k5, e5, _, _⟩ := DataW.trod_int Try.underlying3 f5
      cases e5
      exact ⟨⟨k0, k1, k2, k3, k4, k5⟩, rfl, trivial⟩

set_option maxRecDepth 100000 in
theorem chg_in {b0 : Nat} {v : Value} {d : DataW H} {p : List MemPlace} (hv : Value.okWide Try.prog w .any b0 32 v) (h : DataW.Trod enc Try.prog w base (fun _ => true) held 32 v d p) : ∃ x : Chg, v = .agg (encChg x).toArray ∧ ((fun _ => True) : Chg → Prop) x := by
  obtain ⟨cs, rfl, hsz⟩ := okWide_struct Try.underlying32 hv
  have hc : Try.prog.cellsOf 32 = 6 := by kernel_rfl
  rw [hc] at hsz
  obtain ⟨l⟩ := cs
  obtain ⟨fuel, ht⟩ := h
  obtain ⟨x, e, hx⟩ := chg_cells (by simpa using hsz) (show DataW.trod enc Try.prog w base (fun _ => true) held fuel 32 l = some _ by simpa [Value.cells] using ht)
  subst e
  exact ⟨x, rfl, hx⟩

set_option maxRecDepth 100000 in
set_option maxHeartbeats 1000000 in
theorem step_cells {fuel : Nat} {cs : List Value} {y : DataW H × List MemPlace} (hl : cs.length = 7) (h : DataW.trod enc Try.prog w base (fun _ => true) held fuel 84 cs = some y) : ∃ x : StepV, cs = encStep x ∧ ((fun _ => True) : StepV → Prop) x := by
  match cs, hl with
  | [v0, v1, v2, v3, v4, v5, v6], _ =>
    have ctChange : Try.prog.cellsOf 32 = 6 := by kernel_rfl
    have ctB : Try.prog.cellsOf 4 = 1 := by kernel_rfl
    obtain ⟨ys, k', _, hy, _, hyl, hfl⟩ := DataW.trod_struct Try.underlying84 h
    have f0 : DataW.trod enc Try.prog w base (fun _ => true) held k' 32 (([v0, v1, v2, v3, v4, v5, v6].drop 0).take (Try.prog.cellsOf 32)) = ys[0]? := hfl 0 _ rfl
    rw [ctChange] at f0
    have f1 : DataW.trod enc Try.prog w base (fun _ => true) held k' 4 (([v0, v1, v2, v3, v4, v5, v6].drop 6).take (Try.prog.cellsOf 4)) = ys[1]? := hfl 1 _ rfl
    rw [ctB] at f1
    match ys, hyl with
    | [y0, y1], _ =>
      have f0 : DataW.trod enc Try.prog w base (fun _ => true) held k' 32 [v0, v1, v2, v3, v4, v5] = some y0 := f0
      obtain ⟨x0, e0, p0⟩ := chg_cells rfl f0
      cases e0
      have f1 : DataW.trod enc Try.prog w base (fun _ => true) held k' 4 [v6] = some y1 := f1
      obtain ⟨k1, e1, _⟩ := DataW.trod_bool Try.underlying4 f1
      cases e1
      exact ⟨⟨x0, k1⟩, rfl, trivial⟩

set_option maxRecDepth 100000 in
theorem step_in {b0 : Nat} {v : Value} {d : DataW H} {p : List MemPlace} (hv : Value.okWide Try.prog w .any b0 84 v) (h : DataW.Trod enc Try.prog w base (fun _ => true) held 84 v d p) : ∃ x : StepV, v = .agg (encStep x).toArray ∧ ((fun _ => True) : StepV → Prop) x := by
  obtain ⟨cs, rfl, hsz⟩ := okWide_struct Try.underlying84 hv
  have hc : Try.prog.cellsOf 84 = 7 := by kernel_rfl
  rw [hc] at hsz
  obtain ⟨l⟩ := cs
  obtain ⟨fuel, ht⟩ := h
  obtain ⟨x, e, hx⟩ := step_cells (by simpa using hsz) (show DataW.trod enc Try.prog w base (fun _ => true) held fuel 84 l = some _ by simpa [Value.cells] using ht)
  subst e
  exact ⟨x, rfl, hx⟩

set_option maxRecDepth 100000 in
theorem steps_row {fuel : Nat} {v : Value} {y : DataW H × List MemPlace} (h : DataW.trod enc Try.prog w base (fun _ => true) held fuel 22 [v] = some y) : ∃ a n c l, v = .slice a n c ∧ Reads encStep 7 w a n c l ∧ ∀ x ∈ l, ((fun _ => True) : StepV → Prop) x :=
  row_at (encX := encStep) (k := 7) (P := ((fun _ => True) : StepV → Prop)) (fun _ => rfl) (by omega) Try.underlying22 (by kernel_rfl) (fun _ _ _ hl ht => step_cells hl ht) h
set_option maxRecDepth 100000 in
theorem steps_in {a : Option Addr} {n c : Nat} {d : DataW H} {p : List MemPlace} (h : DataW.Trod enc Try.prog w base (fun _ => true) held 22 (.slice a n c) d p) : ∃ l, Reads encStep 7 w a n c l ∧ ∀ x ∈ l, ((fun _ => True) : StepV → Prop) x := by
  obtain ⟨fuel, hf⟩ := h
  obtain ⟨a', n', c', l, e, hl⟩ := steps_row (v := .slice a n c) (by simpa [Value.cells] using hf)
  cases e
  exact ⟨l, hl⟩

set_option maxRecDepth 100000 in
set_option maxHeartbeats 1000000 in
theorem ld_cells {fuel : Nat} {cs : List Value} {y : DataW H × List MemPlace} (hl : cs.length = 4) (h : DataW.trod enc Try.prog w base (fun _ => true) held fuel 129 cs = some y) : ∃ x : LoadV, cs = encLd x ∧ ((fun _ => True) : LoadV → Prop) x := by
  match cs, hl with
  | [v0, v1, v2, v3], _ =>
    have ctI : Try.prog.cellsOf 3 = 1 := by kernel_rfl
    obtain ⟨ys, k', _, hy, _, hyl, hfl⟩ := DataW.trod_struct Try.underlying129 h
    have f0 : DataW.trod enc Try.prog w base (fun _ => true) held k' 3 (([v0, v1, v2, v3].drop 0).take (Try.prog.cellsOf 3)) = ys[0]? := hfl 0 _ rfl
    rw [ctI] at f0
    have f1 : DataW.trod enc Try.prog w base (fun _ => true) held k' 3 (([v0, v1, v2, v3].drop 1).take (Try.prog.cellsOf 3)) = ys[1]? := hfl 1 _ rfl
    rw [ctI] at f1
    have f2 : DataW.trod enc Try.prog w base (fun _ => true) held k' 3 (([v0, v1, v2, v3].drop 2).take (Try.prog.cellsOf 3)) = ys[2]? := hfl 2 _ rfl
    rw [ctI] at f2
    have f3 : DataW.trod enc Try.prog w base (fun _ => true) held k' 3 (([v0, v1, v2, v3].drop 3).take (Try.prog.cellsOf 3)) = ys[3]? := hfl 3 _ rfl
    rw [ctI] at f3
    match ys, hyl with
    | [y0, y1, y2, y3], _ =>
      have f0 : DataW.trod enc Try.prog w base (fun _ => true) held k' 3 [v0] = some y0 := f0
      obtain ⟨k0, e0, _, _⟩ := DataW.trod_int Try.underlying3 f0
      cases e0
      have f1 : DataW.trod enc Try.prog w base (fun _ => true) held k' 3 [v1] = some y1 := f1
      obtain ⟨k1, e1, _, _⟩ := DataW.trod_int Try.underlying3 f1
      cases e1
      have f2 : DataW.trod enc Try.prog w base (fun _ => true) held k' 3 [v2] = some y2 := f2
      obtain ⟨k2, e2, _, _⟩ := DataW.trod_int Try.underlying3 f2
      cases e2
      have f3 : DataW.trod enc Try.prog w base (fun _ => true) held k' 3 [v3] = some y3 := f3
      obtain ⟨k3, e3, _, _⟩ := DataW.trod_int Try.underlying3 f3
      cases e3
      exact ⟨⟨k0, k1, k2, k3⟩, rfl, trivial⟩

set_option maxRecDepth 100000 in
theorem ld_in {b0 : Nat} {v : Value} {d : DataW H} {p : List MemPlace} (hv : Value.okWide Try.prog w .any b0 129 v) (h : DataW.Trod enc Try.prog w base (fun _ => true) held 129 v d p) : ∃ x : LoadV, v = .agg (encLd x).toArray ∧ ((fun _ => True) : LoadV → Prop) x := by
  obtain ⟨cs, rfl, hsz⟩ := okWide_struct Try.underlying129 hv
  have hc : Try.prog.cellsOf 129 = 4 := by kernel_rfl
  rw [hc] at hsz
  obtain ⟨l⟩ := cs
  obtain ⟨fuel, ht⟩ := h
  obtain ⟨x, e, hx⟩ := ld_cells (by simpa using hsz) (show DataW.trod enc Try.prog w base (fun _ => true) held fuel 129 l = some _ by simpa [Value.cells] using ht)
  subst e
  exact ⟨x, rfl, hx⟩

set_option maxRecDepth 100000 in
theorem loads_row {fuel : Nat} {v : Value} {y : DataW H × List MemPlace} (h : DataW.trod enc Try.prog w base (fun _ => true) held fuel 76 [v] = some y) : ∃ a n c l, v = .slice a n c ∧ Reads encLd 4 w a n c l ∧ ∀ x ∈ l, ((fun _ => True) : LoadV → Prop) x :=
  row_at (encX := encLd) (k := 4) (P := ((fun _ => True) : LoadV → Prop)) (fun _ => rfl) (by omega) Try.underlying76 (by kernel_rfl) (fun _ _ _ hl ht => ld_cells hl ht) h
set_option maxRecDepth 100000 in
theorem loads_in {a : Option Addr} {n c : Nat} {d : DataW H} {p : List MemPlace} (h : DataW.Trod enc Try.prog w base (fun _ => true) held 76 (.slice a n c) d p) : ∃ l, Reads encLd 4 w a n c l ∧ ∀ x ∈ l, ((fun _ => True) : LoadV → Prop) x := by
  obtain ⟨fuel, hf⟩ := h
  obtain ⟨a', n', c', l, e, hl⟩ := loads_row (v := .slice a n c) (by simpa [Value.cells] using hf)
  cases e
  exact ⟨l, hl⟩

set_option maxRecDepth 100000 in
set_option maxHeartbeats 1000000 in
theorem cas_cells {fuel : Nat} {cs : List Value} {y : DataW H × List MemPlace} (hl : cs.length = 8) (h : DataW.trod enc Try.prog w base (fun _ => true) held fuel 78 cs = some y) : ∃ x : CaseV, cs = encCas x ∧ ((fun (x:CaseV) => x.there w) : CaseV → Prop) x := by
  match cs, hl with
  | [v0, v1, v2, v3, v4, v5, v6, v7], _ =>
    have ctRules : Try.prog.cellsOf 64 = 5 := by kernel_rfl
    have ctLoads : Try.prog.cellsOf 76 = 1 := by kernel_rfl
    have ctIs : Try.prog.cellsOf 37 = 1 := by kernel_rfl
    have ctB : Try.prog.cellsOf 4 = 1 := by kernel_rfl
    obtain ⟨ys, k', _, hy, _, hyl, hfl⟩ := DataW.trod_struct Try.underlying78 h
    have f0 : DataW.trod enc Try.prog w base (fun _ => true) held k' 64 (([v0, v1, v2, v3, v4, v5, v6, v7].drop 0).take (Try.prog.cellsOf 64)) = ys[0]? := hfl 0 _ rfl
    rw [ctRules] at f0
    have f1 : DataW.trod enc Try.prog w base (fun _ => true) held k' 76 (([v0, v1, v2, v3, v4, v5, v6, v7].drop 5).take (Try.prog.cellsOf 76)) = ys[1]? := hfl 1 _ rfl
    rw [ctLoads] at f1
    have f2 : DataW.trod enc Try.prog w base (fun _ => true) held k' 37 (([v0, v1, v2, v3, v4, v5, v6, v7].drop 6).take (Try.prog.cellsOf 37)) = ys[2]? := hfl 2 _ rfl
    rw [ctIs] at f2
    have f3 : DataW.trod enc Try.prog w base (fun _ => true) held k' 4 (([v0, v1, v2, v3, v4, v5, v6, v7].drop 7).take (Try.prog.cellsOf 4)) = ys[3]? := hfl 3 _ rfl
    rw [ctB] at f3
    match ys, hyl with
    | [y0, y1, y2, y3], _ =>
      have f0 : DataW.trod enc Try.prog w base (fun _ => true) held k' 64 [v0, v1, v2, v3, v4] = some y0 := f0
      obtain ⟨x0, e0, p0⟩ := rul_cells rfl f0
      cases e0
      have f1 : DataW.trod enc Try.prog w base (fun _ => true) held k' 76 [v5] = some y1 := f1
      obtain ⟨a1, n1, c1, l1, rfl, p1, q1⟩ := loads_row f1
      have f2 : DataW.trod enc Try.prog w base (fun _ => true) held k' 37 [v6] = some y2 := f2
      obtain ⟨a2, n2, c2, l2, rfl, p2, q2⟩ := ints_row f2
      have f3 : DataW.trod enc Try.prog w base (fun _ => true) held k' 4 [v7] = some y3 := f3
      obtain ⟨k3, e3, _⟩ := DataW.trod_bool Try.underlying4 f3
      cases e3
      exact ⟨⟨x0, ⟨a1, n1, c1, l1⟩, ⟨a2, n2, c2, l2⟩, k3⟩, rfl, ⟨p1, p2⟩⟩

set_option maxRecDepth 100000 in
theorem cas_in {b0 : Nat} {v : Value} {d : DataW H} {p : List MemPlace} (hv : Value.okWide Try.prog w .any b0 78 v) (h : DataW.Trod enc Try.prog w base (fun _ => true) held 78 v d p) : ∃ x : CaseV, v = .agg (encCas x).toArray ∧ ((fun (x:CaseV) => x.there w) : CaseV → Prop) x := by
  obtain ⟨cs, rfl, hsz⟩ := okWide_struct Try.underlying78 hv
  have hc : Try.prog.cellsOf 78 = 8 := by kernel_rfl
  rw [hc] at hsz
  obtain ⟨l⟩ := cs
  obtain ⟨fuel, ht⟩ := h
  obtain ⟨x, e, hx⟩ := cas_cells (by simpa using hsz) (show DataW.trod enc Try.prog w base (fun _ => true) held fuel 78 l = some _ by simpa [Value.cells] using ht)
  subst e
  exact ⟨x, rfl, hx⟩

end
end Go.Proofs.Ytdijaillcajpaaa
