/-
  A row of Ops among the arguments, opened.
-/
import Derived.Test.YtclbapmjhchokaaM3
import Derived.Deep.Slices
import Derived.Deep.Fields
import Derived.ChangeSame
import Derived.SizedLaws
namespace Go.Proofs.Ytclbapmjhchokaa
open Go.RowKit Go.ChangeShapes Go.WideShapes Go.ChangeAt Go.Deep

section
variable {H : Type} {enc : TypeId × Value → H} {w : World} {base : Nat} {held : Bool}

theorem weightsAll_mem {P : Program} {e : TypeId} {d : DataW H} {n : Nat} (hn : n ∈ d.weights P e) : ∀ {l : List (DataW H)}, d ∈ l → n ∈ DataW.weightsAll P e l
  | x :: r, h => by
    simp only [DataW.weightsAll, List.mem_append]
    rcases List.mem_cons.1 h with rfl | h
    · exact .inl hn
    · exact .inr (weightsAll_mem hn h)

/-- Bytes with their room, as a cell of a struct. -/
theorem bytes_cell {fuel : Nat} {v : Value} {y : DataW H × List MemPlace} (h : DataW.trod enc Try.prog w base (fun _ => true) held fuel 22 [v] = some y) (hz : ∀ x ∈ y.1.weights Try.prog 22, x ≤ reachBytes) :
    ∃ a n c l, v = .slice a n c ∧ Bytes w a n c l ∧ c ≤ 140737488351232 := by
  rcases open_slice Try.underlying22 h with ⟨hcs, _⟩ | ⟨ad, n, c, m, k, D, Pl, hcs, _, hle, hm, hmm, hx, _⟩
  · simp only [List.cons.injEq, and_true] at hcs
    subst hcs
    exact ⟨none, 0, 0, [], rfl, Bytes.empty w, by omega⟩
  · simp only [List.cons.injEq, and_true] at hcs
    subst hcs
    obtain ⟨l, hl⟩ := bytes_in (a := some ad) (n := n) (c := c) (d := y.1) (p := y.2) ⟨fuel, by simpa [Value.cells] using h⟩
    refine ⟨some ad, n, c, l, rfl, hl, ?_⟩
    have hmc : m = c := by simpa using hmm
    subst hmc
    have hb : Try.prog.bytesOf 5 = 1 := by kernel_rfl
    have := hz ((n + (m - n)) * 1) (by
      rw [hx]
      simp [DataW.weights, Try.underlying22, hb])
    simp only [reachBytes] at this
    omega

theorem add2 (b o k j : Nat) : ((⟨b, o, none⟩ : Addr).add k).add j = ⟨b, o + k + j, none⟩ := by
  unfold Addr.add
  split <;> split <;> simp_all
set_option maxRecDepth 100000 in
theorem ops_in {a : Option Addr} {n c : Nat} {d : DataW H} {p : List MemPlace} (h : DataW.Trod enc Try.prog w base (fun _ => true) held 39 (.slice a n c) d p) (hz : ∀ x ∈ d.weights Try.prog 39, x ≤ reachBytes) : ∃ l, Ops w a n c l := by
  obtain ⟨fuel, hf⟩ := h
  rcases open_slice Try.underlying39 hf with ⟨hcs, _⟩ | ⟨ad, n', c', m, k, D, Pl, hcs, _, hle, hm, hmm, hx, hi⟩
  · simp [Value.cells] at hcs
    obtain ⟨rfl, rfl, rfl⟩ := hcs
    exact ⟨[], rfl, Nat.le_refl _, by omega, fun _ => rfl, fun i x hx => by simp at hx⟩
  · simp [Value.cells] at hcs
    obtain ⟨rfl, rfl, rfl⟩ := hcs
    have hmc : m = c := by simpa using hmm
    subst hmc
    have h4 : Try.prog.cellsOf 42 = 4 := by kernel_rfl
    have h31 : Try.prog.cellsOf 3 = 1 := by kernel_rfl
    have h221 : Try.prog.cellsOf 22 = 1 := by kernel_rfl
    have h401 : Try.prog.cellsOf 40 = 1 := by kernel_rfl
    simp only [Prod.mk.injEq] at hx
    have key : ∀ i, i < n → ∃ x : OpD, ∃ b o ba bc, some ad = some (⟨b, o, none⟩ : Addr) ∧ OpAt w b (o + i * 4) x ba bc := by
      intro i hin
      obtain ⟨cs', hc, ht⟩ := hi i (by omega)
      rw [h4] at hc
      obtain ⟨_, hcl, hat⟩ := World.cells?_some hc
      obtain ⟨ys, k', _, hy, _, hyl, hfl⟩ := DataW.trod_struct Try.underlying42 ht
      match cs', hcl with
      | [v0, v1, v2, v3], _ =>
        have f0 : DataW.trod enc Try.prog w base (fun _ => true) held k' 3 (([v0, v1, v2, v3].drop 0).take (Try.prog.cellsOf 3)) = ys[0]? := hfl 0 _ rfl
        have f1 : DataW.trod enc Try.prog w base (fun _ => true) held k' 3 (([v0, v1, v2, v3].drop 1).take (Try.prog.cellsOf 3)) = ys[1]? := hfl 1 _ rfl
        have f2 : DataW.trod enc Try.prog w base (fun _ => true) held k' 22 (([v0, v1, v2, v3].drop 2).take (Try.prog.cellsOf 22)) = ys[2]? := hfl 2 _ rfl
        have f3 : DataW.trod enc Try.prog w base (fun _ => true) held k' 40 (([v0, v1, v2, v3].drop 3).take (Try.prog.cellsOf 40)) = ys[3]? := hfl 3 _ rfl
        rw [h31] at f0 f1
        rw [h221] at f2
        rw [h401] at f3
        match ys, hyl with
        | [y0, y1, y2, y3], _ =>
          simp at f0 f1 f2 f3
          obtain ⟨k0, e0, _, _⟩ := DataW.trod_int Try.underlying3 f0
          obtain ⟨k1, e1, _, w1⟩ := DataW.trod_int Try.underlying3 f1
          obtain ⟨k3, e3, _, w3⟩ := DataW.trod_int Try.underlying40 f3
          simp at e0 e1 e3
          subst e0 e1 e3
          obtain ⟨ba, bn, bc, l, e2, hb, hbc⟩ := bytes_cell f2 (fun x hxm => hz x (by
            rw [hx.1]
            simp only [DataW.weights, Try.underlying39, List.mem_cons, List.mem_append]
            right; left
            refine weightsAll_mem (d := D i) ?_ (List.mem_map.2 ⟨i, List.mem_range.2 hin, rfl⟩)
            have hD : D i = .agg [y0.1, y1.1, y2.1, y3.1] := by simpa using (Prod.mk.inj hy).1
            rw [hD]
            simp only [DataW.weights, Try.underlying42]
            exact DataW.weights_mem_each (j := 2) (t := 22) (d := y2.1) rfl rfl _ hxm))
          subst e2
          obtain ⟨b, o, sp⟩ := ad
          have hspot : sp = none := by
            have h0 := hat 0 (by omega)
            have : w.cell? (((⟨b, o, sp⟩ : Addr).add (i * 4)).add 0) = some (.int .i64 k0) := h0
            cases i with
            | zero => simpa [Addr.add] using World.cell?_spot this
            | succ j =>
              -- the first element's cell tells of the spot
              obtain ⟨cs0, hc0, _⟩ := hi 0 (by omega)
              rw [h4] at hc0
              obtain ⟨_, hcl0, hat0⟩ := World.cells?_some hc0
              match cs0, hcl0 with
              | [u0, u1, u2, u3], _ =>
                have h1 := hat0 0 (by omega)
                simpa [Addr.add] using World.cell?_spot h1
          subst hspot
          have hadd : ∀ j, ((⟨b, o, none⟩ : Addr).add (i * 4)).add j = ⟨b, o + i * 4 + j, none⟩ := add2 b o (i * 4)
          have g0 := hat 0 (by omega)
          have g1 := hat 1 (by omega)
          have g2 := hat 2 (by omega)
          have g3 := hat 3 (by omega)
          rw [hadd] at g0 g1 g2 g3
          have hln := hb.len
          have hcp := hb.cap
          refine ⟨⟨k0, k1, l, k3⟩, b, o, ba, bc, rfl, ⟨g0, g1, by rw [g2]; simp [hln], g3, hln ▸ hb, ?_⟩⟩
          simp only [Lit.wf, Bool.and_eq_true, decide_eq_true_eq] at w1 w3
          exact ⟨w1.1, w1.2, w3.1, w3.2, by show l.length ≤ _; omega⟩
    refine ⟨(List.range n).map fun i => if h : i < n then (key i h).choose else ⟨0, 0, [], 0⟩, by simp, hle, by unfold maxLen at hm; omega, (fun h => by cases h), fun i x hx' => ?_⟩
    simp only [List.getElem?_map, Option.map_eq_some_iff] at hx'
    obtain ⟨j, hj, rfl⟩ := hx'
    have hjn := (List.getElem?_eq_some_iff.1 hj).1
    simp at hjn
    have : j = i := by
      have := (List.getElem?_eq_some_iff.1 hj).2
      simpa using this.symm
    subst this
    rw [dif_pos hjn]
    exact (key j hjn).choose_spec
end
end Go.Proofs.Ytclbapmjhchokaa
