/-
  What the laws' frames share: arguments opened to what a walk is told of them.
-/
import Derived.Test.YtkgjpmgoapfamaaE7
import Derived.Test.YtkgjpmgoapfamaaRows
import Derived.ProofKit
import Derived.OpenShut
import Derived.ChangeOld
import Derived.Deep.Slices
import Derived.Deep.Fields
import Derived.ChangeSame
import Derived.SizedLaws
namespace Go.Proofs.Ytkgjpmgoapfamaa
open Go.RowKit Go.ChangeShapes Go.WideShapes Go.ChangeAt Go.Deep

theorem own : ownKnob Try.prog.godebug = none := by kernel_rfl
theorem laidOut : laidOutB Try.prog = true := by kernel_rfl
theorem add2 (b o k j : Nat) : ((⟨b, o, none⟩ : Addr).add k).add j = ⟨b, o + k + j, none⟩ := by
  unfold Addr.add
  split <;> split <;> simp_all

/-- A number that an int holds. -/
def I64 (x : Int) : Prop := -9223372036854775808 ≤ x ∧ x ≤ 9223372036854775807
def SpI (s : Sp) : Prop := I64 s.1 ∧ I64 s.2

section
variable {H : Type} {enc : TypeId × Value → H} {w : World} {base : Nat} {held : Bool}

theorem span_cells {fuel : Nat} {v0 v1 : Value} {y : DataW H × List MemPlace} (h : DataW.trod enc Try.prog w base (fun _ => true) held fuel 30 [v0, v1] = some y) : ∃ s : Sp, v0 = .int .i64 s.1 ∧ v1 = .int .i64 s.2 ∧ SpI s := by
  have h31 : Try.prog.cellsOf 3 = 1 := by kernel_rfl
  obtain ⟨ys, k', _, hy, _, hyl, hfl⟩ := DataW.trod_struct Try.underlying30 h
  have f0 : DataW.trod enc Try.prog w base (fun _ => true) held k' 3 (([v0, v1].drop 0).take (Try.prog.cellsOf 3)) = ys[0]? := hfl 0 _ rfl
  have f1 : DataW.trod enc Try.prog w base (fun _ => true) held k' 3 (([v0, v1].drop 1).take (Try.prog.cellsOf 3)) = ys[1]? := hfl 1 _ rfl
  rw [h31] at f0 f1
  match ys, hyl with
  | [y0, y1], _ =>
    simp at f0 f1
    obtain ⟨k0, e0, _, w0⟩ := DataW.trod_int Try.underlying3 f0
    obtain ⟨k1, e1, _, w1⟩ := DataW.trod_int Try.underlying3 f1
    simp at e0 e1
    subst e0 e1
    simp only [Lit.wf, Bool.and_eq_true, decide_eq_true_eq] at w0 w1
    exact ⟨(k0, k1), rfl, rfl, ⟨w0.1, w0.2⟩, ⟨w1.1, w1.2⟩⟩

set_option maxRecDepth 100000 in
theorem spans_in {a : Option Addr} {n c : Nat} {d : DataW H} {p : List MemPlace} (h : DataW.Trod enc Try.prog w base (fun _ => true) held 22 (.slice a n c) d p) : ∃ l, Spans w a n c l ∧ ∀ s ∈ l, SpI s := by
  obtain ⟨fuel, hf⟩ := h
  rcases open_slice Try.underlying22 hf with ⟨hcs, _⟩ | ⟨ad, n', c', m, k, D, Pl, hcs, _, hle, hm, hmm, hx, hi⟩
  · simp [Value.cells] at hcs
    obtain ⟨rfl, rfl, rfl⟩ := hcs
    exact ⟨[], Reads.empty w, fun s hs => by cases hs⟩
  · simp [Value.cells] at hcs
    obtain ⟨rfl, rfl, rfl⟩ := hcs
    have hmc : m = c := by simpa using hmm
    subst hmc
    have h2 : Try.prog.cellsOf 30 = 2 := by kernel_rfl
    have key : ∀ i, i < n → ∃ s : Sp, SpI s ∧ ∃ b o, some ad = some (⟨b, o, none⟩ : Addr) ∧ w.cell? ⟨b, o + i * 2, none⟩ = some (.int .i64 s.1) ∧ w.cell? ⟨b, o + i * 2 + 1, none⟩ = some (.int .i64 s.2) := by
      intro i hin
      obtain ⟨cs', hc, ht⟩ := hi i (by omega)
      rw [h2] at hc
      obtain ⟨_, hcl, hat⟩ := World.cells?_some hc
      match cs', hcl with
      | [v0, v1], _ =>
        obtain ⟨s, rfl, rfl, hs⟩ := span_cells ht
        obtain ⟨b, o, sp⟩ := ad
        have hspot : sp = none := by
          obtain ⟨cs0, hc0, _⟩ := hi 0 (by omega)
          rw [h2] at hc0
          obtain ⟨_, hcl0, hat0⟩ := World.cells?_some hc0
          match cs0, hcl0 with
          | [u0, u1], _ =>
            have h1 := hat0 0 (by omega)
            simpa [Addr.add] using World.cell?_spot h1
        subst hspot
        have g0 := hat 0 (by omega)
        have g1 := hat 1 (by omega)
        rw [add2] at g0 g1
        exact ⟨s, hs, b, o, rfl, g0, g1⟩
    refine ⟨(List.range n).map fun i => if h : i < n then (key i h).choose else (0, 0), ⟨by simp, hle, by unfold maxLen at hm; omega, (fun h => by cases h), fun i x hx' => ?_⟩, fun s hs => ?_⟩
    · simp only [List.getElem?_map, Option.map_eq_some_iff] at hx'
      obtain ⟨j, hj, rfl⟩ := hx'
      have hjn := (List.getElem?_eq_some_iff.1 hj).1
      simp at hjn
      have : j = i := by
        have := (List.getElem?_eq_some_iff.1 hj).2
        simpa using this.symm
      subst this
      rw [dif_pos hjn]
      have hsp := (key j hjn).choose_spec
      generalize (key j hjn).choose = s at hsp ⊢
      obtain ⟨_, b, o, e, q0, q1⟩ := hsp
      refine ⟨b, o, e, fun i v hv => ?_⟩
      match i, hv with
      | 0, hv => simp [encS] at hv; subst hv; exact q0
      | 1, hv => simp [encS] at hv; subst hv; exact q1
      | i + 2, hv => simp [encS] at hv
    · obtain ⟨i, hi', rfl⟩ := List.mem_map.1 hs
      have hin : i < n := by simpa using hi'
      rw [dif_pos hin]
      exact (key i hin).choose_spec.1

set_option maxRecDepth 100000 in
theorem span_in {b0 : Nat} {v : Value} {d : DataW H} {p : List MemPlace} (hv : Value.okWide Try.prog w .any b0 30 v) (h : DataW.Trod enc Try.prog w base (fun _ => true) held 30 v d p) : ∃ s : Sp, v = valS s ∧ SpI s := by
  obtain ⟨cs, rfl, hsz⟩ := okWide_struct Try.underlying30 hv
  have h2 : Try.prog.cellsOf 30 = 2 := by kernel_rfl
  rw [h2] at hsz
  obtain ⟨l⟩ := cs
  match l, hsz with
  | [v0, v1], _ =>
    obtain ⟨fuel, ht⟩ := h
    obtain ⟨s, rfl, rfl, hs⟩ := span_cells ht
    exact ⟨s, rfl, hs⟩
end
end Go.Proofs.Ytkgjpmgoapfamaa
