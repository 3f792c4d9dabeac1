/-
  Plain laws of Maps: how many pieces, what was done, the document's pieces, values turned.
-/
import Derived.Test.YtkgjpmgoapfamaaA2
namespace Go.Proofs.Ytkgjpmgoapfamaa

theorem norm_self {L : List Sp} (h : Plain L) : norm L = L := norm_eq h fun _ => Iff.rfl
theorem sub_eq {x s : Sp} (hs : s.1 < s.2) : sub x s = (if x.1 < min x.2 s.1 then [(x.1, min x.2 s.1)] else []) ++ (if max x.1 s.2 < x.2 then [(max x.1 s.2, x.2)] else []) := by
  rw [← norm_self (sub_plain x s)]
  refine norm_eq ?_ fun b => ?_
  · refine plain_append.2 ⟨?_, ?_, ?_⟩
    · split
      · exact ⟨by assumption, (fun _ h => by cases h), trivial⟩
      · trivial
    · split
      · exact ⟨by assumption, (fun _ h => by cases h), trivial⟩
      · trivial
    · intro p hp q hq
      split at hp
      · split at hq
        · rw [List.mem_singleton.1 hp, List.mem_singleton.1 hq]
          show min x.2 s.1 < max x.1 s.2
          omega
        · cases hq
      · cases hp
  · rw [sub_in, mem_append]
    have e1 : mem (if x.1 < min x.2 s.1 then [(x.1, min x.2 s.1)] else []) b ↔ x.1 ≤ b ∧ b < min x.2 s.1 := by
      split
      · rw [mem_one]; rfl
      · constructor
        · rintro ⟨_, h, _⟩; cases h
        · omega
    have e2 : mem (if max x.1 s.2 < x.2 then [(max x.1 s.2, x.2)] else []) b ↔ max x.1 s.2 ≤ b ∧ b < x.2 := by
      split
      · rw [mem_one]; rfl
      · constructor
        · rintro ⟨_, h, _⟩; cases h
        · omega
    rw [e1, e2]
    unfold Sin
    omega
section
variable {V : Type}
theorem drp_id {M : List (Sp × V)} {s : Sp} (hs : s.1 < s.2) (h : ∀ q ∈ M, s.2 ≤ q.1.1 ∧ q.1.1 < q.1.2) : drp M s = M := by
  induction M with
  | nil => rfl
  | cons p M ih =>
    have h1 := h p List.mem_cons_self
    have e : sub p.1 s = [p.1] := by
      rw [sub_eq hs, if_neg (by omega), if_pos (by omega)]
      have : max p.1.1 s.2 = p.1.1 := by omega
      rw [this]; rfl
    show ((sub p.1 s).map fun y => (y, p.2)) ++ drp M s = _
    rw [e, ih fun q hq => h q (List.mem_cons_of_mem _ hq)]
    rfl
theorem drp_len1 {M : List (Sp × V)} (h : Rise M) {s : Sp} (hs : s.1 < s.2) : (drp M s).length ≤ M.length + 1 := by
  induction M with
  | nil => simp [drp]
  | cons p M ih =>
    have ih := ih h.2.2
    have e : (drp (p :: M) s).length = (sub p.1 s).length + (drp M s).length := by
      show (((sub p.1 s).map fun y => (y, p.2)) ++ drp M s).length = _
      simp
    rw [e, sub_eq hs, List.length_append]
    by_cases h2 : max p.1.1 s.2 < p.1.2
    · rw [drp_id hs fun q hq => ⟨by have := h.2.1 q hq; omega, h.2.2.lt q hq⟩]
      rw [if_pos h2]
      split <;> simp <;> omega
    · rw [if_neg h2]
      split <;> simp <;> omega
theorem get_start {M : List (Sp × V)} (h : Rise M) {p : Sp × V} (hp : p ∈ M) : get M p.1.1 = some p.2 := by
  induction M with
  | nil => cases hp
  | cons q M ih =>
    rcases List.mem_cons.1 hp with rfl | hp
    · exact get_in (Int.le_refl _) h.1
    · rw [get_out, ih h.2.2 hp]
      have := h.2.1 p hp
      omega
/-- Values turned, each into one of its own. -/
theorem canon_turn {W : Type} {M : List (Sp × V)} (h : Canon M) (f : V → W) (hf : ∀ p ∈ M, ∀ q ∈ M, f p.2 = f q.2 → p.2 = q.2) : Canon (M.map fun p => (p.1, f p.2)) := by
  induction M with
  | nil => trivial
  | cons p M ih =>
    refine ⟨h.1, fun q hq => ?_, ih h.2.2 fun a ha b hb => hf a (List.mem_cons_of_mem _ ha) b (List.mem_cons_of_mem _ hb)⟩
    obtain ⟨r, hr, rfl⟩ := List.mem_map.1 hq
    have := h.2.1 r hr
    exact ⟨this.1, fun e e2 => this.2 e (hf p List.mem_cons_self r (List.mem_cons_of_mem _ hr) e2)⟩
theorem get_turn {W : Type} (M : List (Sp × V)) (f : V → W) (x : Int) : get (M.map fun p => (p.1, f p.2)) x = (get M x).map f := by
  induction M with
  | nil => rfl
  | cons p M ih =>
    simp only [List.map_cons, get]
    split
    · rfl
    · exact ih
variable [DecidableEq V]
theorem glu_len (A B : List (Sp × V)) : (glu A B).length ≤ A.length + B.length := by
  rcases List.eq_nil_or_concat A with rfl | ⟨A', p, rfl⟩
  · rw [glu_nil_left]; simp
  · rw [List.concat_eq_append]
    cases B with
    | nil => rw [glu_nil_right]; simp
    | cons q B =>
      by_cases hc : p.1.2 = q.1.1 ∧ p.2 = q.2
      · rw [glu_yes A' B p q hc]; simp
      · rw [glu_no A' B p q hc]; simp; omega
theorem glueAt_le (M : List (Sp × V)) (i : Nat) : (glueAt M i).length ≤ M.length := by
  have := glu_len (M.take i) (M.drop i)
  rw [← List.length_append, List.take_append_drop] at this
  exact this
theorem putC_len1 {M : List (Sp × V)} (h : Rise M) {s : Sp} (hs : s.1 < s.2) (v : V) : (putC M s v).length ≤ M.length + 2 := by
  have h1 := drp_len1 h hs
  have h2 : (before s (drp M s) ++ (s, v) :: behind s (drp M s)).length = (drp M s).length + 1 := by
    have := congrArg List.length (before_behind s (drp M s))
    rw [List.length_append] at this
    rw [List.length_append, List.length_cons]
    omega
  have h3 := glueAt_le (glueAt (before s (drp M s) ++ (s, v) :: behind s (drp M s)) ((before s (drp M s)).length + 1)) (before s (drp M s)).length
  have h4 := glueAt_le (before s (drp M s) ++ (s, v) :: behind s (drp M s)) ((before s (drp M s)).length + 1)
  unfold putC
  dsimp only
  omega
end

/-! ### What was done to a Map -/
/-- A span, a value; was it put? -/
abbrev Done := Sp × Int × Bool
def dstep (x : Int) (r : Option Int) (o : Done) : Option Int := if o.1.1 ≤ x ∧ x < o.1.2 then (if o.2.2 then some o.2.1 else none) else r
/-- A block's value. -/
def getD (l : List Done) (x : Int) : Option Int := l.foldl (dstep x) none
theorem getD_snoc (l : List Done) (o : Done) (x : Int) : getD (l ++ [o]) x = dstep x (getD l x) o := by unfold getD; rw [List.foldl_append]; rfl
theorem getD_out {l : List Done} {x : Int} (h : ∀ o ∈ l, ¬ Sin o.1 x) (r : Option Int) : l.foldl (dstep x) r = r := by
  induction l generalizing r with
  | nil => rfl
  | cons o l ih =>
    rw [List.foldl_cons, ih fun q hq => h q (List.mem_cons_of_mem _ hq)]
    exact if_neg (h o List.mem_cons_self)
/-- The last one that has the block decides. -/
theorem getD_hit {l : List Done} {x : Int} {k : Nat} (hk : k < l.length) (hx : Sin l[k].1 x) (h : ∀ o ∈ l.drop (k + 1), ¬ Sin o.1 x) : getD l x = if l[k].2.2 then some l[k].2.1 else none := by
  have e : l = l.take k ++ [l[k]] ++ l.drop (k + 1) := by rw [← List.take_succ_eq_append_getElem hk, List.take_append_drop]
  have e2 : getD l x = getD (l.take k ++ [l[k]] ++ l.drop (k + 1)) x := by rw [← e]
  rw [e2]
  unfold getD
  rw [List.foldl_append, getD_out h, List.foldl_append]
  exact if_pos hx
theorem getD_none {l : List Done} {x : Int} (h : ∀ o ∈ l, ¬ Sin o.1 x) : getD l x = none := getD_out h none
theorem getD_same {l : List Done} {x y : Int} (h : ∀ o ∈ l, Sin o.1 x ↔ Sin o.1 y) : getD l x = getD l y := by
  unfold getD
  have : ∀ (l : List Done) (r : Option Int), (∀ o ∈ l, Sin o.1 x ↔ Sin o.1 y) → l.foldl (dstep x) r = l.foldl (dstep y) r := by
    intro l
    induction l with
    | nil => intro _ _; rfl
    | cons o l ih =>
      intro r h
      rw [List.foldl_cons, List.foldl_cons]
      have e : dstep x r o = dstep y r o := by
        unfold dstep
        have := h o List.mem_cons_self
        unfold Sin at this
        simp only [this]
      rw [e]
      exact ih _ fun q hq => h q (List.mem_cons_of_mem _ hq)
  exact this l none h

/-- What Pieces lays for one part more. -/
def pstep (g : Int → Option Int) (out : List (Sp × Int)) (s : Sp) : List (Sp × Int) := match g s.1 with
  | none => out
  | some v => glu out [(s, v)]
/-- The pieces, and their values. -/
def piecesM (g : Int → Option Int) (E : List Int) : List (Sp × Int) := (segs E).foldl (pstep g) []
theorem segs_apart {E : List Int} (h : RiseI E) : (segs E).Pairwise fun s t => s.2 ≤ t.1 := by
  induction E with
  | nil => exact List.Pairwise.nil
  | cons e r ih =>
    cases r with
    | nil => exact List.Pairwise.nil
    | cons f r =>
      have h1 := List.pairwise_cons.1 h
      refine List.pairwise_cons.2 ⟨fun t ht => ?_, ih h1.2⟩
      have := (segs_lt h1.2 t ht).2.2.1
      rcases List.mem_cons.1 this with e1 | e1
      · show f ≤ t.1; omega
      · have := (List.pairwise_cons.1 h1.2).1 _ e1
        show f ≤ t.1; omega
theorem glu_one_end {A : List (Sp × Int)} {s : Sp} {v : Int} : ∀ p ∈ glu A [(s, v)], p.1.2 = s.2 ∨ p ∈ A := by
  intro p hp
  rcases List.eq_nil_or_concat A with rfl | ⟨A', q, rfl⟩
  · rw [glu_nil_left] at hp
    rw [List.mem_singleton.1 hp]; exact .inl rfl
  · rw [List.concat_eq_append] at *
    by_cases hc : q.1.2 = s.1 ∧ q.2 = v
    · rw [glu_yes A' [] q (s, v) hc] at hp
      rcases List.mem_append.1 hp with hp | hp
      · exact .inr (List.mem_append.2 (.inl hp))
      · rw [List.mem_singleton.1 hp]; exact .inl rfl
    · rw [glu_no A' [] q (s, v) hc] at hp
      rcases List.mem_append.1 hp with hp | hp
      · exact .inr (List.mem_append.2 (.inl hp))
      · rcases List.mem_cons.1 hp with rfl | hp
        · exact .inr (List.mem_append.2 (.inr List.mem_cons_self))
        · rw [List.mem_singleton.1 hp]; exact .inl rfl
theorem piecesM_inv (g : Int → Option Int) : ∀ (S : List Sp) (out : List (Sp × Int)), (∀ s ∈ S, s.1 < s.2) → S.Pairwise (fun s t => s.2 ≤ t.1) → Canon out → (∀ p ∈ out, ∀ s ∈ S, p.1.2 ≤ s.1) →
    Canon (S.foldl (pstep g) out) ∧ ∀ x, get (S.foldl (pstep g) out) x = (get out x).or (get (S.filterMap fun s => (g s.1).map fun v => (s, v)) x) := by
  intro S
  induction S with
  | nil => intro out _ _ hc _; exact ⟨hc, fun x => by simp [get]⟩
  | cons s S ih =>
    intro out hlt hp hc ho
    have hp1 := List.pairwise_cons.1 hp
    have hs := hlt s List.mem_cons_self
    rw [List.foldl_cons, List.filterMap_cons]
    unfold pstep
    cases hg : g s.1 with
    | none =>
      obtain ⟨q1, q2⟩ := ih out (fun t ht => hlt t (List.mem_cons_of_mem _ ht)) hp1.2 hc (fun p hp t ht => ho p hp t (List.mem_cons_of_mem _ ht))
      exact ⟨q1, q2⟩
    | some v =>
      have hC : Canon [(s, v)] := ⟨hs, (fun _ h => by cases h), trivial⟩
      obtain ⟨r1, r2⟩ := glu_ahead hc hC fun p hp q hq => by rw [List.mem_singleton.1 hq]; exact ho p hp s List.mem_cons_self
      obtain ⟨q1, q2⟩ := ih (glu out [(s, v)]) (fun t ht => hlt t (List.mem_cons_of_mem _ ht)) hp1.2 r1 (fun p hp t ht => by
        rcases glu_one_end p hp with e | e
        · rw [e]; exact hp1.1 t ht
        · exact ho p e t (List.mem_cons_of_mem _ ht))
      refine ⟨q1, fun x => ?_⟩
      show get (S.foldl (pstep g) (glu out [(s, v)])) x = _
      rw [q2 x, r2 x, get_append]
      show ((get out x).or (get [(s, v)] x)).or _ = (get out x).or (get ((s, v) :: _) x)
      simp only [get]
      split
      · cases get out x <;> rfl
      · cases get out x <;> rfl
/-- The pieces are plain, and tell what was done. -/
theorem piecesM_law (l : List Done) (hl : ∀ o ∈ l, o.1.1 < o.1.2) : Canon (piecesM (getD l) (endsL [l.map (·.1)])) ∧ ∀ x, get (piecesM (getD l) (endsL [l.map (·.1)])) x = getD l x := by
  obtain ⟨E, hE⟩ : ∃ E, E = endsL [l.map (·.1)] := ⟨_, rfl⟩
  rw [← hE]
  have hE : E = (l.map (·.1)).foldl estep [] := hE
  have hrise : RiseI E := by rw [hE]; exact fold_rise List.Pairwise.nil
  have hend : ∀ o ∈ l, o.1.1 ∈ E ∧ o.1.2 ∈ E := fun o ho => by rw [hE]; exact fold_new (List.mem_map.2 ⟨o, ho, rfl⟩) (hl o ho)
  have hsame : ∀ s ∈ segs E, ∀ x, Sin s x → getD l x = getD l s.1 := fun s hs x hx => by
    refine getD_same fun o ho => ?_
    obtain ⟨q1, q2, _, _⟩ := segs_lt hrise s hs
    obtain ⟨e1, e2⟩ := hend o ho
    unfold Sin at hx ⊢
    constructor
    · rintro ⟨h1, h2⟩
      refine ⟨?_, by omega⟩
      rcases q2 _ e1 with h | h <;> omega
    · rintro ⟨h1, h2⟩
      refine ⟨by omega, ?_⟩
      rcases q2 _ e2 with h | h <;> omega
  obtain ⟨q1, q2⟩ := piecesM_inv (getD l) (segs E) [] (fun s hs => (segs_lt hrise s hs).1) (segs_apart hrise) trivial (fun _ h => by cases h)
  refine ⟨q1, fun x => ?_⟩
  show get ((segs E).foldl (pstep (getD l)) []) x = _
  rw [q2 x]
  show (none : Option Int).or _ = _
  rw [Option.none_or]
  cases hg : getD l x with
  | none =>
    refine get_none fun p hp hx => ?_
    obtain ⟨s, hs, e⟩ := List.mem_filterMap.1 hp
    cases hv : getD l s.1 with
    | none => rw [hv] at e; cases e
    | some v =>
      rw [hv] at e
      simp at e
      subst e
      have := hsame s hs x hx
      rw [hg, hv] at this
      cases this
  | some v =>
    have hin : ∃ o ∈ l, Sin o.1 x := by
      refine Classical.byContradiction fun h => ?_
      rw [getD_none fun o ho hx => h ⟨o, ho, hx⟩] at hg
      cases hg
    obtain ⟨o, ho, hox⟩ := hin
    obtain ⟨s, hs, hsx⟩ := segs_cover hrise (hend o ho).1 (hend o ho).2 hox.1 hox.2
    cases hq : get ((segs E).filterMap fun s => (getD l s.1).map fun v => (s, v)) x with
    | none =>
      exfalso
      have hm : (s, v) ∈ (segs E).filterMap fun s => (getD l s.1).map fun v => (s, v) := List.mem_filterMap.2 ⟨s, hs, by rw [← hsame s hs x hsx, hg]; rfl⟩
      have : ∀ (M : List (Sp × Int)), (s, v) ∈ M → get M x ≠ none := by
        intro M
        induction M with
        | nil => intro h; cases h
        | cons p M ih =>
          intro h
          simp only [get]
          split
          · intro h; cases h
          · rename_i hc
            rcases List.mem_cons.1 h with rfl | h
            · exact absurd hsx hc
            · exact ih h
      exact this _ hm hq
    | some u =>
      obtain ⟨p, hp, hpx, hpu⟩ := get_mem hq
      obtain ⟨t, ht, e⟩ := List.mem_filterMap.1 hp
      cases hv : getD l t.1 with
      | none => rw [hv] at e; cases e
      | some y =>
        rw [hv] at e
        simp at e
        subst e
        have h9 := hsame t ht x hpx
        rw [hg, hv] at h9
        rw [← hpu]
        exact h9.symm

/-- One thing more done to a Map. -/
def mstep (M : List (Sp × Int)) (o : Done) : List (Sp × Int) := if o.1.1 < o.1.2 then (if o.2.2 then putC M o.1 o.2.1 else drp M o.1) else M
theorem mstep_canon {M : List (Sp × Int)} (h : Canon M) (o : Done) : Canon (mstep M o) := by
  unfold mstep
  split
  · split
    · exact (putC_law h (by assumption) _).1
    · exact drp_canon h _
  · exact h
theorem mstep_get {M : List (Sp × Int)} (h : Canon M) {o : Done} (ho : o.1.1 < o.1.2) {l : List Done} (hg : ∀ x, get M x = getD l x) (x : Int) : get (mstep M o) x = getD (l ++ [o]) x := by
  rw [getD_snoc]
  unfold mstep dstep
  rw [if_pos ho]
  cases hb : o.2.2 with
  | true =>
    rw [if_pos rfl, (putC_law h ho _).2 x, hg x]
    split <;> rfl
  | false =>
    rw [if_neg (by simp), drp_get h.rise, hg x]
    split <;> rfl
theorem mstep_len {M : List (Sp × Int)} (h : Rise M) (o : Done) : (mstep M o).length ≤ M.length + 2 := by
  unfold mstep
  split
  · rename_i ho
    split
    · exact putC_len1 h ho _
    · have := drp_len1 h ho; omega
  · omega
end Go.Proofs.Ytkgjpmgoapfamaa
