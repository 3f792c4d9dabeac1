/-
  Rows of bytes, rows of a journal's Ops, and an Op, among the arguments, opened.
-/
import Derived.Test.YtclbapmjhchokaaJ16
namespace Go.Proofs.Ytclbapmjhchokaa
open Go.RowKit Go.ChangeShapes Go.WideShapes Go.ChangeAt Go.Deep

/-- The slice (a, n, c) reads as the rows l. -/
structure RowsB (w : World) (a : Option Addr) (n c : Nat) (l : List (List UInt8)) : Prop where
  len : n = l.length
  cap : n ≤ c
  max : c ≤ 9223372036854775807
  at_ : ∀ (i : Nat) (r : List UInt8), l[i]? = some r → ∃ b o ra rc, a = some ⟨b, o, none⟩ ∧ w.cell? ⟨b, o + i, none⟩ = some (.slice ra r.length rc) ∧ Bytes w ra r.length rc r
theorem RowsB.non {w w' : World} {a : Option Addr} {n c : Nat} {l : List (List UInt8)} (h : RowsB w a n c l) (k : Kp Non w w') : RowsB w' a n c l :=
  ⟨h.len, h.cap, h.max, fun i r hr => by
    obtain ⟨b, o, ra, rc, h1, h2, h3⟩ := h.at_ i r hr
    exact ⟨b, o, ra, rc, h1, k.cell h2 (fun f => f), h3.non k⟩⟩

/-- A journal's Op. -/
structure JOp where
  kind : Int
  n : Int
  b : List UInt8
structure JOp.ok (x : JOp) : Prop where
  k0 : -9223372036854775808 ≤ x.kind
  k1 : x.kind ≤ 9223372036854775807
  n0 : -9223372036854775808 ≤ x.n
  n1 : x.n ≤ 9223372036854775807
structure JOpAt (w : World) (b o : Nat) (x : JOp) (ba : Option Addr) (bc : Nat) : Prop where
  c0 : w.cell? ⟨b, o, none⟩ = some (.int .i64 x.kind)
  c1 : w.cell? ⟨b, o + 1, none⟩ = some (.int .i64 x.n)
  c2 : w.cell? ⟨b, o + 2, none⟩ = some (.slice ba x.b.length bc)
  bytes : Bytes w ba x.b.length bc x.b
  ok : x.ok
structure JOps (w : World) (a : Option Addr) (n c : Nat) (l : List JOp) : Prop where
  len : n = l.length
  cap : n ≤ c
  max : c ≤ 9223372036854775807
  at_ : ∀ (i : Nat) (x : JOp), l[i]? = some x → ∃ b o ba bc, a = some ⟨b, o, none⟩ ∧ JOpAt w b (o + i * 3) x ba bc
theorem JOpAt.non {w w' : World} {b o : Nat} {x : JOp} {ba : Option Addr} {bc : Nat} (h : JOpAt w b o x ba bc) (k : Kp Non w w') : JOpAt w' b o x ba bc :=
  ⟨k.cell h.c0 (fun f => f), k.cell h.c1 (fun f => f), k.cell h.c2 (fun f => f), h.bytes.non k, h.ok⟩
theorem JOps.non {w w' : World} {a : Option Addr} {n c : Nat} {l : List JOp} (h : JOps w a n c l) (k : Kp Non w w') : JOps w' a n c l :=
  ⟨h.len, h.cap, h.max, fun i x hx => by
    obtain ⟨b, o, ba, bc, ha, ho⟩ := h.at_ i x hx
    exact ⟨b, o, ba, bc, ha, ho.non k⟩⟩

section
variable {H : Type} {enc : TypeId × Value → H} {w : World} {base : Nat} {held : Bool}

set_option maxRecDepth 100000 in
theorem rows_in {a : Option Addr} {n c : Nat} {d : DataW H} {p : List MemPlace} (h : DataW.Trod enc Try.prog w base (fun _ => true) held 59 (.slice a n c) d p) (hz : ∀ x ∈ d.weights Try.prog 59, x ≤ reachBytes) : ∃ l, RowsB w a n c l := by
  obtain ⟨fuel, hf⟩ := h
  rcases open_slice Try.underlying59 hf with ⟨hcs, _⟩ | ⟨ad, n', c', m, k, D, Pl, hcs, _, hle, hm, hmm, hx, hi⟩
  · simp [Value.cells] at hcs
    obtain ⟨rfl, rfl, rfl⟩ := hcs
    exact ⟨[], rfl, Nat.le_refl _, by omega, fun i x hx => by simp at hx⟩
  · simp [Value.cells] at hcs
    obtain ⟨rfl, rfl, rfl⟩ := hcs
    have hmc : m = c := by simpa using hmm
    subst hmc
    have h221 : Try.prog.cellsOf 22 = 1 := by kernel_rfl
    simp only [Prod.mk.injEq] at hx
    have key : ∀ i, i < n → ∃ r : List UInt8, ∃ b o ra rc, some ad = some (⟨b, o, none⟩ : Addr) ∧ w.cell? ⟨b, o + i, none⟩ = some (.slice ra r.length rc) ∧ Bytes w ra r.length rc r := by
      intro i hin
      obtain ⟨cs', hc, ht⟩ := hi i (by omega)
      rw [h221] at hc
      obtain ⟨_, hcl, hat⟩ := World.cells?_some hc
      match cs', hcl with
      | [v0], _ =>
        obtain ⟨ra, rn, rc, l, e2, hb, hbc⟩ := bytes_cell ht (fun x hxm => hz x (by
          rw [hx.1]
          simp only [DataW.weights, Try.underlying59, List.mem_cons, List.mem_append]
          right; left
          exact weightsAll_mem (d := D i) hxm (List.mem_map.2 ⟨i, List.mem_range.2 hin, rfl⟩)))
        subst e2
        obtain ⟨b, o, sp⟩ := ad
        have hspot : sp = none := by
          obtain ⟨cs0, hc0, _⟩ := hi 0 (by omega)
          rw [h221] at hc0
          obtain ⟨_, hcl0, hat0⟩ := World.cells?_some hc0
          match cs0, hcl0 with
          | [u0], _ =>
            have h1 := hat0 0 (by omega)
            simpa [Addr.add] using World.cell?_spot h1
        subst hspot
        have g0 := hat 0 (by omega)
        rw [add2 b o (i * 1) 0] at g0
        have hln := hb.len
        refine ⟨l, b, o, ra, rc, rfl, ?_, hln ▸ hb⟩
        have e1 : o + i * 1 + 0 = o + i := by omega
        rw [e1] at g0
        rw [g0]
        simp [hln]
    refine ⟨(List.range n).map fun i => if h : i < n then (key i h).choose else [], by simp, hle, by unfold maxLen at hm; omega, fun i x hx' => ?_⟩
    simp only [List.getElem?_map, Option.map_eq_some_iff] at hx'
    obtain ⟨j, hj, rfl⟩ := hx'
    have hjn := (List.getElem?_eq_some_iff.1 hj).1
    simp at hjn
    have : j = i := by
      have := (List.getElem?_eq_some_iff.1 hj).2
      simpa using this.symm
    subst this
    rw [dif_pos hjn]
    exact (key j hjn).choose_spec

set_option maxRecDepth 100000 in
theorem jops_in {a : Option Addr} {n c : Nat} {d : DataW H} {p : List MemPlace} (h : DataW.Trod enc Try.prog w base (fun _ => true) held 68 (.slice a n c) d p) (hz : ∀ x ∈ d.weights Try.prog 68, x ≤ reachBytes) : ∃ l, JOps w a n c l := by
  obtain ⟨fuel, hf⟩ := h
  rcases open_slice Try.underlying68 hf with ⟨hcs, _⟩ | ⟨ad, n', c', m, k, D, Pl, hcs, _, hle, hm, hmm, hx, hi⟩
  · simp [Value.cells] at hcs
    obtain ⟨rfl, rfl, rfl⟩ := hcs
    exact ⟨[], rfl, Nat.le_refl _, by omega, fun i x hx => by simp at hx⟩
  · simp [Value.cells] at hcs
    obtain ⟨rfl, rfl, rfl⟩ := hcs
    have hmc : m = c := by simpa using hmm
    subst hmc
    have h3 : Try.prog.cellsOf 71 = 3 := by kernel_rfl
    have h31 : Try.prog.cellsOf 3 = 1 := by kernel_rfl
    have h221 : Try.prog.cellsOf 22 = 1 := by kernel_rfl
    simp only [Prod.mk.injEq] at hx
    have key : ∀ i, i < n → ∃ x : JOp, ∃ b o ba bc, some ad = some (⟨b, o, none⟩ : Addr) ∧ JOpAt w b (o + i * 3) x ba bc := by
      intro i hin
      obtain ⟨cs', hc, ht⟩ := hi i (by omega)
      rw [h3] at hc
      obtain ⟨_, hcl, hat⟩ := World.cells?_some hc
      obtain ⟨ys, k', _, hy, _, hyl, hfl⟩ := DataW.trod_struct Try.underlying71 ht
      match cs', hcl with
      | [v0, v1, v2], _ =>
        have f0 : DataW.trod enc Try.prog w base (fun _ => true) held k' 3 (([v0, v1, v2].drop 0).take (Try.prog.cellsOf 3)) = ys[0]? := hfl 0 _ rfl
        have f1 : DataW.trod enc Try.prog w base (fun _ => true) held k' 3 (([v0, v1, v2].drop 1).take (Try.prog.cellsOf 3)) = ys[1]? := hfl 1 _ rfl
        have f2 : DataW.trod enc Try.prog w base (fun _ => true) held k' 22 (([v0, v1, v2].drop 2).take (Try.prog.cellsOf 22)) = ys[2]? := hfl 2 _ rfl
        rw [h31] at f0 f1
        rw [h221] at f2
        match ys, hyl with
        | [y0, y1, y2], _ =>
          simp at f0 f1 f2
          obtain ⟨k0, e0, _, w0⟩ := DataW.trod_int Try.underlying3 f0
          obtain ⟨k1, e1, _, w1⟩ := DataW.trod_int Try.underlying3 f1
          simp at e0 e1
          subst e0 e1
          obtain ⟨ba, bn, bc, l, e2, hb, hbc⟩ := bytes_cell f2 (fun x hxm => hz x (by
            rw [hx.1]
            simp only [DataW.weights, Try.underlying68, List.mem_cons, List.mem_append]
            right; left
            refine weightsAll_mem (d := D i) ?_ (List.mem_map.2 ⟨i, List.mem_range.2 hin, rfl⟩)
            have hD : D i = .agg [y0.1, y1.1, y2.1] := by simpa using (Prod.mk.inj hy).1
            rw [hD]
            simp only [DataW.weights, Try.underlying71]
            exact DataW.weights_mem_each (j := 2) (t := 22) (d := y2.1) rfl rfl _ hxm))
          subst e2
          obtain ⟨b, o, sp⟩ := ad
          have hspot : sp = none := by
            obtain ⟨cs0, hc0, _⟩ := hi 0 (by omega)
            rw [h3] at hc0
            obtain ⟨_, hcl0, hat0⟩ := World.cells?_some hc0
            match cs0, hcl0 with
            | [u0, u1, u2], _ =>
              have h1 := hat0 0 (by omega)
              simpa [Addr.add] using World.cell?_spot h1
          subst hspot
          have hadd : ∀ j, ((⟨b, o, none⟩ : Addr).add (i * 3)).add j = ⟨b, o + i * 3 + j, none⟩ := add2 b o (i * 3)
          have g0 := hat 0 (by omega)
          have g1 := hat 1 (by omega)
          have g2 := hat 2 (by omega)
          rw [hadd] at g0 g1 g2
          have hln := hb.len
          have hcp := hb.cap
          refine ⟨⟨k0, k1, l⟩, b, o, ba, bc, rfl, ⟨g0, g1, by rw [g2]; simp [hln], hln ▸ hb, ?_⟩⟩
          simp only [Lit.wf, Bool.and_eq_true, decide_eq_true_eq] at w0 w1
          exact ⟨w0.1, w0.2, w1.1, w1.2⟩
    refine ⟨(List.range n).map fun i => if h : i < n then (key i h).choose else ⟨0, 0, []⟩, by simp, hle, by unfold maxLen at hm; omega, fun i x hx' => ?_⟩
    simp only [List.getElem?_map, Option.map_eq_some_iff] at hx'
    obtain ⟨j, hj, rfl⟩ := hx'
    have hjn := (List.getElem?_eq_some_iff.1 hj).1
    simp at hjn
    have : j = i := by
      have := (List.getElem?_eq_some_iff.1 hj).2
      simpa using this.symm
    subst this
    rw [dif_pos hjn]
    exact (key j hjn).choose_spec

set_option maxRecDepth 100000 in
theorem jop_in {b0 : Nat} {v : Value} {d : DataW H} {p : List MemPlace}
    (hv : Value.okWide Try.prog w .any b0 71 v) (h : DataW.Trod enc Try.prog w base (fun _ => true) held 71 v d p) (hz : ∀ x ∈ d.weights Try.prog 71, x ≤ reachBytes) :
    ∃ (o : JOp) (ba : Option Addr) (bc : Nat), v = .agg #[.int .i64 o.kind, .int .i64 o.n, .slice ba o.b.length bc] ∧ Bytes w ba o.b.length bc o.b ∧ o.ok := by
  obtain ⟨cs, rfl, hsz⟩ := okWide_struct Try.underlying71 hv
  have h3 : Try.prog.cellsOf 71 = 3 := by kernel_rfl
  have h31 : Try.prog.cellsOf 3 = 1 := by kernel_rfl
  have h221 : Try.prog.cellsOf 22 = 1 := by kernel_rfl
  rw [h3] at hsz
  obtain ⟨l⟩ := cs
  match l, hsz with
  | [v0, v1, v2], _ =>
    obtain ⟨fuel, ht⟩ := h
    obtain ⟨ys, k', _, hy, _, hyl, hfl⟩ := DataW.trod_struct Try.underlying71 ht
    have f0 : DataW.trod enc Try.prog w base (fun _ => true) held k' 3 (([v0, v1, v2].drop 0).take (Try.prog.cellsOf 3)) = ys[0]? := hfl 0 _ rfl
    have f1 : DataW.trod enc Try.prog w base (fun _ => true) held k' 3 (([v0, v1, v2].drop 1).take (Try.prog.cellsOf 3)) = ys[1]? := hfl 1 _ rfl
    have f2 : DataW.trod enc Try.prog w base (fun _ => true) held k' 22 (([v0, v1, v2].drop 2).take (Try.prog.cellsOf 22)) = ys[2]? := hfl 2 _ rfl
    rw [h31] at f0 f1
    rw [h221] at f2
    match ys, hyl with
    | [y0, y1, y2], _ =>
      simp at f0 f1 f2
      obtain ⟨k0, e0, _, w0⟩ := DataW.trod_int Try.underlying3 f0
      obtain ⟨k1, e1, _, w1⟩ := DataW.trod_int Try.underlying3 f1
      simp at e0 e1
      subst e0 e1
      obtain ⟨ba, bn, bc, l, e2, hb, hbc⟩ := bytes_cell f2 (fun x hxm => hz x (by
        have hD : d = .agg [y0.1, y1.1, y2.1] := by simpa using (Prod.mk.inj hy).1
        rw [hD]
        simp only [DataW.weights, Try.underlying71]
        exact DataW.weights_mem_each (j := 2) (t := 22) (d := y2.1) rfl rfl _ hxm))
      subst e2
      have hln := hb.len
      refine ⟨⟨k0, k1, l⟩, ba, bc, by rw [hln], hln ▸ hb, ?_⟩
      simp only [Lit.wf, Bool.and_eq_true, decide_eq_true_eq] at w0 w1
      exact ⟨w0.1, w0.2, w1.1, w1.2⟩
end
end Go.Proofs.Ytclbapmjhchokaa
