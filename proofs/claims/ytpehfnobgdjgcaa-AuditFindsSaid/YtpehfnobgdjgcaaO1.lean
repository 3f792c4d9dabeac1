/-
  What the laws' frames share: the acts opened. (gen_open.py, audit2.txt.)
-/
import Derived.Test.YtpehfnobgdjgcaaO0
import Derived.Test.YtpehfnobgdjgcaaW1
namespace Go.Proofs.Ytpehfnobgdjgcaa
open Go.RowKit Go.ChangeShapes Go.WideShapes Go.ChangeAt Go.Deep
section
variable {H : Type} {enc : TypeId × Value → H} {w : World} {base : Nat} {held : Bool}
set_option maxRecDepth 100000 in
set_option maxHeartbeats 1000000 in
theorem do_cells {fuel : Nat} {cs : List Value} {y : DataW H × List MemPlace} (hl : cs.length = 4) (h : DataW.trod enc Try.prog w base (fun _ => true) held fuel 93 cs = some y) : ∃ x : DoV, cs = encDo x ∧ ((fun _ => True) : DoV → Prop) x := by
  match cs, hl with
  | [v0, v1, v2, v3], _ =>
    have ctI : Try.prog.cellsOf 3 = 1 := by kernel_rfl
    obtain ⟨ys, k', _, hy, _, hyl, hfl⟩ := DataW.trod_struct Try.underlying93 h
    have f0 : DataW.trod enc Try.prog w base (fun _ => true) held k' 3 (([v0, v1, v2, v3].drop 0).take (Try.prog.cellsOf 3)) = ys[0]? := hfl 0 _ rfl
    rw [ctI] at f0
    have f1 : DataW.trod enc Try.prog w base (fun _ => true) held k' 3 (([v0, v1, v2, v3].drop 1).take (Try.prog.cellsOf 3)) = ys[1]? := hfl 1 _ rfl
    rw [ctI] at f1
    have f2 : DataW.trod enc Try.prog w base (fun _ => true) held k' 3 (([v0, v1, v2, v3].drop 2).take (Try.prog.cellsOf 3)) = ys[2]? := hfl 2 _ rfl
    rw [ctI] at f2
    have f3 : DataW.trod enc Try.prog w base (fun _ => true) held k' 3 (([v0, v1, v2, v3].drop 3).take (Try.prog.cellsOf 3)) = ys[3]? := hfl 3 _ rfl
    rw [ctI] at f3
    match ys, hyl with
    | [y0, y1, y2, y3], _ =>
      have f0 : DataW.trod enc Try.prog w base (fun _ => true) held k' 3 [v0] = some y0 := f0
      obtain ⟨k0, e0, _, _⟩ := DataW.trod_int Try.underlying3 f0
      cases e0
      have f1 : DataW.trod enc Try.prog w base (fun _ => true) held k' 3 [v1] = some y1 := f1
      obtain ⟨k1, e1, _, _⟩ := DataW.trod_int Try.underlying3 f1
      cases e1
      have f2 : DataW.trod enc Try.prog w base (fun _ => true) held k' 3 [v2] = some y2 := f2
      obtain ⟨k2, e2, _, _⟩ := DataW.trod_int Try.underlying3 f2
      cases e2
      have f3 : DataW.trod enc Try.prog w base (fun _ => true) held k' 3 [v3] = some y3 := f3
      obtain ⟨k3, e3, _, _⟩ := DataW.trod_int Try.underlying3 f3
      cases e3
      exact ⟨⟨k0, k1, k2, k3⟩, rfl, trivial⟩

set_option maxRecDepth 100000 in
theorem do_in {b0 : Nat} {v : Value} {d : DataW H} {p : List MemPlace} (hv : Value.okWide Try.prog w .any b0 93 v) (h : DataW.Trod enc Try.prog w base (fun _ => true) held 93 v d p) : ∃ x : DoV, v = .agg (encDo x).toArray ∧ ((fun _ => True) : DoV → Prop) x := by
  obtain ⟨cs, rfl, hsz⟩ := okWide_struct Try.underlying93 hv
  have hc : Try.prog.cellsOf 93 = 4 := by kernel_rfl
  rw [hc] at hsz
  obtain ⟨l⟩ := cs
  obtain ⟨fuel, ht⟩ := h
  obtain ⟨x, e, hx⟩ := do_cells (by simpa using hsz) (show DataW.trod enc Try.prog w base (fun _ => true) held fuel 93 l = some _ by simpa [Value.cells] using ht)
  subst e
  exact ⟨x, rfl, hx⟩

set_option maxRecDepth 100000 in
theorem dos_row {fuel : Nat} {v : Value} {y : DataW H × List MemPlace} (h : DataW.trod enc Try.prog w base (fun _ => true) held fuel 50 [v] = some y) : ∃ a n c l, v = .slice a n c ∧ Reads encDo 4 w a n c l ∧ ∀ x ∈ l, ((fun _ => True) : DoV → Prop) x :=
  row_at (encX := encDo) (k := 4) (P := ((fun _ => True) : DoV → Prop)) (fun _ => rfl) (by omega) Try.underlying50 (by kernel_rfl) (fun _ _ _ hl ht => do_cells hl ht) h
set_option maxRecDepth 100000 in
theorem dos_in {a : Option Addr} {n c : Nat} {d : DataW H} {p : List MemPlace} (h : DataW.Trod enc Try.prog w base (fun _ => true) held 50 (.slice a n c) d p) : ∃ l, Reads encDo 4 w a n c l ∧ ∀ x ∈ l, ((fun _ => True) : DoV → Prop) x := by
  obtain ⟨fuel, hf⟩ := h
  obtain ⟨a', n', c', l, e, hl⟩ := dos_row (v := .slice a n c) (by simpa [Value.cells] using hf)
  cases e
  exact ⟨l, hl⟩

end
end Go.Proofs.Ytpehfnobgdjgcaa
