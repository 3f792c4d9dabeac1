/-
  What the laws' frames share: rows of any elements opened; Ops, numbers.
-/
import Derived.Test.YtkgjpmgoapfamaaL0
namespace Go.Proofs.Ytkgjpmgoapfamaa
open Go.RowKit Go.ChangeShapes Go.WideShapes Go.ChangeAt Go.Deep

section
variable {H : Type} {enc : TypeId × Value → H} {w : World} {base : Nat} {held : Bool}

set_option maxRecDepth 100000 in
theorem rows_in {α : Type} [Inhabited α] {encX : α → List Value} {k : Nat} {t te : TypeId} {P : α → Prop} (hk : ∀ x, (encX x).length = k) (h0 : 0 < k) (hT : Try.prog.underlying t = some (.slice te)) (hc : Try.prog.cellsOf te = k)
    (hcell : ∀ fuel cs y, cs.length = k → DataW.trod enc Try.prog w base (fun _ => true) held fuel te cs = some y → ∃ x, cs = encX x ∧ P x)
    {a : Option Addr} {n c : Nat} {d : DataW H} {p : List MemPlace} (h : DataW.Trod enc Try.prog w base (fun _ => true) held t (.slice a n c) d p) : ∃ l, Reads encX k w a n c l ∧ ∀ s ∈ l, P s := by
  obtain ⟨fuel, hf⟩ := h
  rcases open_slice hT hf with ⟨hcs, _⟩ | ⟨ad, n', c', m, kk, D, Pl, hcs, _, hle, hm, hmm, hx, hi⟩
  · simp [Value.cells] at hcs
    obtain ⟨rfl, rfl, rfl⟩ := hcs
    exact ⟨[], Reads.empty w, fun s hs => by cases hs⟩
  · simp [Value.cells] at hcs
    obtain ⟨rfl, rfl, rfl⟩ := hcs
    have hmc : m = c := by simpa using hmm
    subst hmc
    have hspot : 0 < n → ad.spot = none := fun hn => by
      obtain ⟨cs0, hc0, _⟩ := hi 0 (by omega)
      rw [hc] at hc0
      obtain ⟨_, hcl0, hat0⟩ := World.cells?_some hc0
      have h1 := hat0 0 h0
      rw [List.getElem?_eq_getElem (by omega)] at h1
      have := World.cell?_spot h1
      obtain ⟨b, o, sp⟩ := ad
      cases sp with
      | none => rfl
      | some s => simp [Addr.add] at this
    have key : ∀ i, i < n → ∃ x : α, P x ∧ ∀ j v, (encX x)[j]? = some v → w.cell? ⟨ad.block, ad.off + i * k + j, none⟩ = some v := by
      intro i hin
      have hsp := hspot (by omega)
      obtain ⟨cs', hc', ht⟩ := hi i (by omega)
      rw [hc] at hc'
      obtain ⟨_, hcl, hat⟩ := World.cells?_some hc'
      obtain ⟨x, rfl, hx⟩ := hcell _ _ _ hcl ht
      refine ⟨x, hx, fun j v hv => ?_⟩
      have hj : j < k := by have := (List.getElem?_eq_some_iff.1 hv).1; rw [hk] at this; exact this
      have g := hat j hj
      obtain ⟨b, o, sp⟩ := ad
      simp at hsp
      subst hsp
      rw [add2] at g
      rw [g]; exact hv
    refine ⟨(List.range n).map fun i => if h : i < n then (key i h).choose else default, ⟨by simp, hle, by unfold maxLen at hm; omega, (fun h => by cases h), fun i x hx' => ?_⟩, fun s hs => ?_⟩
    · simp only [List.getElem?_map, Option.map_eq_some_iff] at hx'
      obtain ⟨j, hj, rfl⟩ := hx'
      have hjn := (List.getElem?_eq_some_iff.1 hj).1
      simp at hjn
      have : j = i := by
        have := (List.getElem?_eq_some_iff.1 hj).2
        simpa using this.symm
      subst this
      rw [dif_pos hjn]
      have hsp := (key j hjn).choose_spec
      generalize (key j hjn).choose = s at hsp ⊢
      have hsn := hspot (by omega)
      refine ⟨ad.block, ad.off, ?_, hsp.2⟩
      obtain ⟨b, o, sp⟩ := ad
      simp at hsn
      subst hsn
      rfl
    · obtain ⟨i, hi', rfl⟩ := List.mem_map.1 hs
      have hin : i < n := by simpa using hi'
      rw [dif_pos hin]
      exact (key i hin).choose_spec.1

set_option maxRecDepth 100000 in
theorem ints_in {a : Option Addr} {n c : Nat} {d : DataW H} {p : List MemPlace} (h : DataW.Trod enc Try.prog w base (fun _ => true) held 37 (.slice a n c) d p) : ∃ l, Ints w a n c l ∧ ∀ x ∈ l, I64 x :=
  rows_in (encX := encI) (P := I64) encI_len (by omega) Try.underlying37 (by kernel_rfl) (fun fuel cs y hl ht => by
    match cs, hl with
    | [v], _ =>
      obtain ⟨k0, e0, _, w0⟩ := DataW.trod_int Try.underlying3 ht
      simp at e0
      subst e0
      simp only [Lit.wf, Bool.and_eq_true, decide_eq_true_eq] at w0
      exact ⟨k0, rfl, w0⟩) h

/-- A span, a value, is it dropped? -/
abbrev OpD := Sp × Int × Bool
def encO (o : OpD) : List Value := [.int .i64 o.1.1, .int .i64 o.1.2, .int .i64 o.2.1, .bool o.2.2]
theorem encO_len (o : OpD) : (encO o).length = 4 := rfl
def OpI (o : OpD) : Prop := SpI o.1 ∧ I64 o.2.1
set_option maxRecDepth 100000 in
theorem op_cells {fuel : Nat} {cs : List Value} {y : DataW H × List MemPlace} (hl : cs.length = 4) (h : DataW.trod enc Try.prog w base (fun _ => true) held fuel 47 cs = some y) : ∃ o : OpD, cs = encO o ∧ OpI o := by
  match cs, hl with
  | [v0, v1, v2, v3], _ =>
    have h2 : Try.prog.cellsOf 30 = 2 := by kernel_rfl
    have h1 : Try.prog.cellsOf 3 = 1 := by kernel_rfl
    have hb : Try.prog.cellsOf 4 = 1 := by kernel_rfl
    obtain ⟨ys, k', _, hy, _, hyl, hfl⟩ := DataW.trod_struct Try.underlying47 h
    have f0 : DataW.trod enc Try.prog w base (fun _ => true) held k' 30 (([v0, v1, v2, v3].drop 0).take (Try.prog.cellsOf 30)) = ys[0]? := hfl 0 _ rfl
    have f1 : DataW.trod enc Try.prog w base (fun _ => true) held k' 3 (([v0, v1, v2, v3].drop 2).take (Try.prog.cellsOf 3)) = ys[1]? := hfl 1 _ rfl
    have f2 : DataW.trod enc Try.prog w base (fun _ => true) held k' 4 (([v0, v1, v2, v3].drop 3).take (Try.prog.cellsOf 4)) = ys[2]? := hfl 2 _ rfl
    rw [h2] at f0
    rw [h1] at f1
    rw [hb] at f2
    match ys, hyl with
    | [y0, y1, y2], _ =>
      simp at f0 f1 f2
      obtain ⟨s, rfl, rfl, hs⟩ := span_cells f0
      obtain ⟨k1, e1, _, w1⟩ := DataW.trod_int Try.underlying3 f1
      simp at e1
      subst e1
      simp only [Lit.wf, Bool.and_eq_true, decide_eq_true_eq] at w1
      obtain ⟨k2, e2, _⟩ := DataW.trod_bool Try.underlying4 f2
      simp at e2
      subst e2
      exact ⟨(s, k1, k2), rfl, hs, w1⟩
set_option maxRecDepth 100000 in
theorem ops_in {a : Option Addr} {n c : Nat} {d : DataW H} {p : List MemPlace} (h : DataW.Trod enc Try.prog w base (fun _ => true) held 39 (.slice a n c) d p) : ∃ l, Reads encO 4 w a n c l ∧ ∀ x ∈ l, OpI x :=
  rows_in (encX := encO) (P := OpI) encO_len (by omega) Try.underlying39 (by kernel_rfl) (fun _ _ _ hl ht => op_cells hl ht) h
set_option maxRecDepth 100000 in
theorem op_in {b0 : Nat} {v : Value} {d : DataW H} {p : List MemPlace} (hv : Value.okWide Try.prog w .any b0 47 v) (h : DataW.Trod enc Try.prog w base (fun _ => true) held 47 v d p) : ∃ o : OpD, v = .agg #[.int .i64 o.1.1, .int .i64 o.1.2, .int .i64 o.2.1, .bool o.2.2] ∧ OpI o := by
  obtain ⟨cs, rfl, hsz⟩ := okWide_struct Try.underlying47 hv
  have h4 : Try.prog.cellsOf 47 = 4 := by kernel_rfl
  rw [h4] at hsz
  obtain ⟨l⟩ := cs
  obtain ⟨fuel, ht⟩ := h
  obtain ⟨o, e, ho⟩ := op_cells (by simpa using hsz) (show DataW.trod enc Try.prog w base (fun _ => true) held fuel 47 l = some _ by simpa [Value.cells] using ht)
  subst e
  exact ⟨o, rfl, ho⟩
theorem Ops.c {w : World} {b o n c : Nat} {l : List OpD} (h : Reads encO 4 w (some ⟨b, o, none⟩) n c l) {j : Nat} (hj : j < l.length) :
    w.cell? ⟨b, o + j * 4, none⟩ = some (.int .i64 l[j].1.1) ∧ w.cell? ⟨b, o + j * 4 + 1, none⟩ = some (.int .i64 l[j].1.2) ∧ w.cell? ⟨b, o + j * 4 + 2, none⟩ = some (.int .i64 l[j].2.1) ∧ w.cell? ⟨b, o + j * 4 + 3, none⟩ = some (.bool l[j].2.2) :=
  ⟨h.get (i := 0) (List.getElem?_eq_getElem hj) rfl, h.get (i := 1) (List.getElem?_eq_getElem hj) rfl, h.get (i := 2) (List.getElem?_eq_getElem hj) rfl, h.get (i := 3) (List.getElem?_eq_getElem hj) rfl⟩
end
end Go.Proofs.Ytkgjpmgoapfamaa
