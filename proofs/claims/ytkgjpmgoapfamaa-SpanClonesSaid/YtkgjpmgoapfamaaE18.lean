/-
  A Map and the document's, side by side.
-/
import Derived.Test.YtkgjpmgoapfamaaE17
import Derived.Test.YtkgjpmgoapfamaaM5I
namespace Go.Proofs.Ytkgjpmgoapfamaa
open Go.RowKit

/-- A Map m and the document's x, in blocks of the call's own. -/
structure Two (w : World) (m x : Nat) (M : List (Sp × Int)) (ops : List Done) (W : World) : Prop where
  ex : ∃ al cl av cv bl dl bv dv bo d, MapI W m M al cl av cv ∧ RMap W x ops bl dl bv dv bo d ∧ (∀ i, MSI m al av i → w.heap.size < i ∧ ¬ RS x bl bv bo i) ∧ (∀ i, RS x bl bv bo i → w.heap.size < i)
  kp : Kp (One w.heap.size) w W
theorem Two.non {w W W' : World} {m x : Nat} {M : List (Sp × Int)} {ops : List Done} (h : Two w m x M ops W) (k : Kp Non W W') : Two w m x M ops W' := by
  obtain ⟨al, cl, av, cv, bl, dl, bv, dv, bo, d, h1, h2, h3, h4⟩ := h.ex
  exact ⟨⟨al, cl, av, cv, bl, dl, bv, dv, bo, d, h1.non k, h2.non k, h3, h4⟩, h.kp.comp k (fun _ _ q => q) (fun _ _ f => f.elim)⟩
theorem Two.mapCall {w W : World} {m x : Nat} {M M' : List (Sp × Int)} {ops : List Done} {f : FuncId} {args : Array Value} (h : Two w m x M ops W) (hc : ∀ al cl av cv, MapI W m M al cl av cv → Calls Try.prog f args W (MapOutI m M' al av W)) :
    Calls Try.prog f args W fun e W' => e = .returned (.tuple #[]) ∧ Two w m x M' ops W' ∧ Kp (fun i => w.heap.size < i) W W' ∧ ∀ (b : Nat) cs fr, W.heap[b]? = some (Obj.cells cs 47 fr) → W'.heap[b]? = some (Obj.cells cs 47 fr) := by
  obtain ⟨al, cl, av, cv, bl, dl, bv, dv, bo, d, h1, h2, h3, h4⟩ := h.ex
  refine (hc al cl av cv h1).mono ?_
  rintro e W' ⟨he, al', cl', av', cv', q1, q2, q3⟩
  have hw := h.kp.size
  refine ⟨he, ⟨⟨al', cl', av', cv', bl, dl, bv, dv, bo, d, q1, h2.kp q2 (fun i hi hm => (h3 i hm).2 hi), fun i hi => ?_, h4⟩, h.kp.comp q2 (fun _ _ q => q) (fun i hi q => by have := (h3 i q).1; omega)⟩, q2.mono fun i _ q => (h3 i q).1, fun b cs fr hb => q2.heap hb fun q => ?_⟩
  rcases q3 i hi with q | q
  · exact h3 i q
  · have hx := h2.lt
    refine ⟨?_, fun hr => by have := h2.old i hr; omega⟩
    have := (h4 x (.inl rfl)); omega
  · rcases q with rfl | q | q
    · rw [h1.box] at hb; simp at hb
    · exact row_apart h1.spans hb (by decide) q
    · exact row_apart h1.vals hb (by decide) q
theorem Two.docCall {w W : World} {m x : Nat} {M : List (Sp × Int)} {ops ops' : List Done} {f : FuncId} {args : Array Value} (h : Two w m x M ops W) (hc : ∀ bl dl bv dv bo d, RMap W x ops bl dl bv dv bo d → Calls Try.prog f args W (RMapOut x ops' bl bv bo W)) :
    Calls Try.prog f args W fun e W' => e = .returned (.tuple #[]) ∧ Two w m x M ops' W' ∧ Kp (fun i => w.heap.size < i) W W' ∧ ∀ (b : Nat) cs fr, W.heap[b]? = some (Obj.cells cs 47 fr) → W'.heap[b]? = some (Obj.cells cs 47 fr) := by
  obtain ⟨al, cl, av, cv, bl, dl, bv, dv, bo, d, h1, h2, h3, h4⟩ := h.ex
  refine (hc bl dl bv dv bo d h2).mono ?_
  rintro e W' ⟨he, al', cl', av', cv', ao', co', q1, q2, q3⟩
  have hw := h.kp.size
  refine ⟨he, ⟨⟨al, cl, av, cv, al', cl', av', cv', ao', co', h1.kp q2 (fun i hi hr => (h3 i hi).2 hr), q1, fun i hi => ⟨(h3 i hi).1, fun hr => ?_⟩, fun i hi => ?_⟩, h.kp.comp q2 (fun _ _ q => q) (fun i hi q => by have := h4 i q; omega)⟩, q2.mono fun i _ q => h4 i q, fun b cs fr hb => q2.heap hb fun q => ?_⟩
  · rcases q3 i hr with q | q
    · exact (h3 i hi).2 q
    · have := h1.old i hi; omega
  · rcases q3 i hi with q | q
    · exact h4 i q
    · have := h1.lt; have := (h3 m (.inl rfl)).1; omega
  · rcases q with rfl | q | q | q
    · rw [h2.box] at hb; simp at hb
    · exact row_apart h2.spans hb (by decide) q
    · exact row_apart h2.vals hb (by decide) q
    · exact row_apart h2.ons hb (by decide) q
theorem dropI_any (m : Nat) (M : List (Sp × Int)) (s : Sp) (v : Int) (W : World) (hl : M.length ≤ 1000) (al : Option Addr) (cl : Nat) (av : Option Addr) (cv : Nat) (hM : MapI W m M al cl av cv) : Calls Try.prog 29 #[.pointer (some ⟨m, 0, none⟩), valS s] W (MapOutI m (mstep M (s, v, false)) al av W) := by
  by_cases hs : s.1 < s.2
  · rw [show mstep M (s, v, false) = drp M s by unfold mstep; rw [if_pos hs, if_neg (by simp)]]
    exact dropI_calls m M al cl av cv s W hM hs (by omega)
  · rw [show mstep M (s, v, false) = M by unfold mstep; rw [if_neg hs]]
    refine (dropI_none m s (by omega) W).mono ?_
    rintro e W' ⟨he, hk⟩
    exact ⟨he, al, cl, av, cv, hM.non hk, hk.non, fun i q => .inl q⟩
theorem putI_any (m : Nat) (M : List (Sp × Int)) (s : Sp) (v : Int) (W : World) (hl : M.length ≤ 1000) (al : Option Addr) (cl : Nat) (av : Option Addr) (cv : Nat) (hM : MapI W m M al cl av cv) : Calls Try.prog 30 #[.pointer (some ⟨m, 0, none⟩), valS s, .int .i64 v] W (MapOutI m (mstep M (s, v, true)) al av W) := by
  by_cases hs : s.1 < s.2
  · rw [show mstep M (s, v, true) = putC M s v by unfold mstep; rw [if_pos hs, if_pos rfl]]
    exact putI_calls m M al cl av cv s v W hM hs (by omega)
  · rw [show mstep M (s, v, true) = M by unfold mstep; rw [if_neg hs]]
    refine (putI_none m s v (by omega) W).mono ?_
    rintro e W' ⟨he, hk⟩
    exact ⟨he, al, cl, av, cv, hM.non hk, hk.non, fun i q => .inl q⟩

/-- What was done, one thing more. -/
def ostep (ops : List Done) (o : Done) : List Done := if o.1.1 < o.1.2 then ops ++ [o] else ops
theorem ostep_len (ops : List Done) (o : Done) : (ostep ops o).length ≤ ops.length + 1 := by
  unfold ostep; split <;> simp
/-- The Map tells what the document's tells. -/
structure Tells (M : List (Sp × Int)) (ops : List Done) : Prop where
  canon : Canon M
  say : ∀ b, get M b = getD ops b
  there : ∀ o ∈ ops, o.1.1 < o.1.2
theorem Tells.start : Tells [] [] := ⟨trivial, fun _ => rfl, fun _ h => by cases h⟩
theorem Tells.step {M : List (Sp × Int)} {ops : List Done} (h : Tells M ops) (o : Done) : Tells (mstep M o) (ostep ops o) := by
  refine ⟨mstep_canon h.canon o, fun b => ?_, fun p hp => ?_⟩
  · unfold ostep
    split
    · exact mstep_get h.canon (by assumption) h.say b
    · rename_i ho
      unfold mstep
      rw [if_neg ho]
      exact h.say b
  · unfold ostep at hp
    split at hp
    · rcases List.mem_append.1 hp with hp | hp
      · exact h.there p hp
      · rw [List.mem_singleton.1 hp]; assumption
    · exact h.there p hp
theorem Tells.pieces {M : List (Sp × Int)} {ops : List Done} (h : Tells M ops) : piecesM (getD ops) (endsL [ops.map (·.1)]) = M := by
  obtain ⟨q1, q2⟩ := piecesM_law ops h.there
  exact canon_ext q1 h.canon fun b => (q2 b).trans (h.say b).symm
end Go.Proofs.Ytkgjpmgoapfamaa
