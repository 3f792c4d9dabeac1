/-
  Words for loops over a Map's pieces whose rounds append.
-/
import Derived.Test.YtdijaillcajpaaaM4A
import Derived.Test.YtdijaillcajpaaaE1
import Derived.OwnWalkIn
import Derived.Sort.CutIn
namespace Go.Proofs.Ytdijaillcajpaaa
open Go.RowKit Go.Shelf
attribute [local go_sem] Oper.semAt_some

section
variable {F : Fence} {n0 : Nat} {P : Program} {α : Type} {enc : α → List Value} {k : Nat} {w : World} {ops : Array Oper} {rest : List Oper} {o : Oper} {a : Act} {Q : Exit → Act → World → Prop}
theorem wpListIn_append_row (hgd : o.guard = none) (s x : Operand) (t : TypeId) (ho : o.op = .call { callee := .builtin .append, args := #[s, x], argTypes := #[t, t] })
    (base : Nat) (e : TypeId) (i : TypeInfo) (z : Value) (bts : Nat) (ht : P.underlying t = some (.slice e)) (hi : P.info? e = some i) (hz : i.zero = some z) (hsize : i.size = k) (hby : i.bytes = bts) (hzs : z.cells.size = k) (h0 : 0 < k) (hk : ∀ x, (enc x).length = k) (h1 : ∀ x, ∀ v ∈ enc x, v.oneCell' = true)
    (ax : Option Addr) (n c : Nat) (l : List α) (hs : a.eval s = .slice ax n c) (hown : OwnR enc k w base e ax n c l) (a2 : Option Addr) (m c2 : Nat) (l2 : List α) (hx : a.eval x = .slice a2 m c2) (hb : Reads enc k w a2 m c2 l2)
    (hbd : (n + m) * bts ≤ 140737488355328) (hbig : n + m ≤ 140737488355328) (hbase : base ≤ w.heap.size)
    (h : ∀ a' c' w', OwnR enc k w' base e a' (n + m) c' (l ++ l2) → Kp (Blk ax) w w' → (a' = ax ∨ a' = some ⟨w.heap.size, 0, none⟩) → wpListIn F n0 P ops Q rest (a.put o.dst (.slice a' (n + m) c')) w') : wpListIn F n0 P ops Q (o :: rest) a w := by
  refine wpListIn_plain hgd fun K hK' => ?_
  obtain ⟨v', w', hrun, a', c', rfl, r1, r2, r3⟩ := run_append_row (P := P) w base t o.type e i z bts ht hi hz hsize hby hzs h0 hk h1 ax n c l hown a2 m c2 l2 hb hbd hbig hbase
  unfold Oper.wpIn
  refine ⟨?_, ?_⟩
  · simp [Oper.about, ho, resolve, Target.leads, Sem.run_pure]
  · rw [Oper.semAt_plain F _ _ (by rw [ho]; intro c hc'; cases hc')]
    simp [execOp, ho, resolve, invoke, builtin, hs, hx, hrun, Result.andThen]
    exact hK' _ _ (h a' c' w' r1 r2 r3)
theorem wpIn_append_row {K : Act → World → Prop} (s x : Operand) (t : TypeId) (ho : o.op = .call { callee := .builtin .append, args := #[s, x], argTypes := #[t, t] })
    (base : Nat) (e : TypeId) (i : TypeInfo) (z : Value) (bts : Nat) (ht : P.underlying t = some (.slice e)) (hi : P.info? e = some i) (hz : i.zero = some z) (hsize : i.size = k) (hby : i.bytes = bts) (hzs : z.cells.size = k) (h0 : 0 < k) (hk : ∀ x, (enc x).length = k) (h1 : ∀ x, ∀ v ∈ enc x, v.oneCell' = true)
    (ax : Option Addr) (n c : Nat) (l : List α) (hs : a.eval s = .slice ax n c) (hown : OwnR enc k w base e ax n c l) (a2 : Option Addr) (m c2 : Nat) (l2 : List α) (hx : a.eval x = .slice a2 m c2) (hb : Reads enc k w a2 m c2 l2)
    (hbd : (n + m) * bts ≤ 140737488355328) (hbig : n + m ≤ 140737488355328) (hbase : base ≤ w.heap.size)
    (h : ∀ a' c' w', OwnR enc k w' base e a' (n + m) c' (l ++ l2) → Kp (Blk ax) w w' → (a' = ax ∨ a' = some ⟨w.heap.size, 0, none⟩) → K (a.put o.dst (.slice a' (n + m) c')) w') : o.wpIn F n0 P a w K Q := by
  obtain ⟨v', w', hrun, a', c', rfl, r1, r2, r3⟩ := run_append_row (P := P) w base t o.type e i z bts ht hi hz hsize hby hzs h0 hk h1 ax n c l hown a2 m c2 l2 hb hbd hbig hbase
  unfold Oper.wpIn
  refine ⟨?_, ?_⟩
  · simp [Oper.about, ho, resolve, Target.leads, Sem.run_pure]
  · rw [Oper.semAt_plain F _ _ (by rw [ho]; intro c hc'; cases hc')]
    simp [execOp, ho, resolve, invoke, builtin, hs, hx, hrun, Result.andThen]
    exact h a' c' w' r1 r2 r3
end

theorem cells_kept {A B : World} {row : Option Nat} {k : Nat} {cs : Array Value} {e : TypeId} {fr : Nat × Nat} (hg : A.grownBy B row) (hr : ∀ r, row = some r → ∃ o : Obj, A.heap[r]? = some o ∧ o.isCells = false) (h : A.heap[k]? = some (.cells cs e fr)) : B.heap[k]? = some (.cells cs e fr) := by
  refine (hg.block k (Array.getElem?_eq_some_iff.1 h).1 (fun e1 => ?_)).trans h
  obtain ⟨o, ho, hc⟩ := hr k e1.symm
  rw [h] at ho
  cases ho
  cases hc
theorem OwnR.cellsKept {α : Type} {enc : α → List Value} {k : Nat} {A B : World} {base : Nat} {e : TypeId} {a : Option Addr} {n c : Nat} {l : List α} {row : Option Nat} (h : OwnR enc k A base e a n c l) (hg : A.grownBy B row) (hr : ∀ r, row = some r → ∃ o : Obj, A.heap[r]? = some o ∧ o.isCells = false) : OwnR enc k B base e a n c l :=
  h.keeps fun g o hgb ho _ => by
    obtain ⟨cs, hcs⟩ := h.tag g hgb
    rw [hcs] at ho
    cases ho
    exact cells_kept hg hr hcs
theorem KG.of_kpF {lo m : Nat} {S : Nat → Prop} {A B : World} (h : Kp S A B) (hS : ∀ i, S i → FP m A i ∨ i < lo) (hf : ∀ k, FP m B k → FP m A k ∨ A.heap.size ≤ k) : KG lo m A B :=
  ⟨h.size, fun k o hl hk _ hn => by
    rw [h.block k (Array.getElem?_eq_some_iff.1 hk).1 (fun q => by
      rcases hS k q with q | q
      · exact hn q
      · omega)]
    exact hk, hf⟩
theorem KeepsFrom.of_kp {B : Nat} {S : Nat → Prop} {W W' : World} (h : Kp S W W') (hS : ∀ i, S i → ∃ cs t f, W.heap[i]? = some (.cells cs t f)) : KeepsFrom B W W' :=
  ⟨h.size, fun k o _ ho hc => h.heap ho (fun q => by
    obtain ⟨cs, t, f, e⟩ := hS k q
    rw [ho] at e
    cases e
    cases hc)⟩
theorem results_cell_slice {fn : Func} {p : Tmp} {t : TypeId} (h : fn.results = #[.cell p t]) (hs : ∀ w, (sizeOf t).run Try.prog w = .ok 1 w) (hg : ∀ w, (isAgg t).run Try.prog w = .ok false w) (tmps : Array Value) (w : World) {a : Option Addr} {n c : Nat} (ad : Addr) (ht : tmps.getD p undef = .pointer (some ad)) (hc : w.cell? ad = some (.slice a n c)) :
    (results fn tmps).run Try.prog w = .ok (.slice a n c) w := by
  have ht' : tmps[p]?.getD undef = .pointer (some ad) := by simpa using ht
  simp [results, h, ht', go_sem, hc, hs, hg]
end Go.Proofs.Ytdijaillcajpaaa
