/-
  Plain law: the document's row: the parts between ends whose first block is asked for.
-/
import Derived.Test.YtkgjpmgoapfamaaA1
namespace Go.Proofs.Ytkgjpmgoapfamaa

/-- A number more, in its place, if it isn't there. -/
def rinL : List Int → Int → List Int
  | [], n => [n]
  | x :: r, n => if x = n then x :: r else if n < x then n :: x :: r else x :: rinL r n
abbrev RiseI (l : List Int) : Prop := l.Pairwise (· < ·)
theorem rinL_mem (l : List Int) (n y : Int) : y ∈ rinL l n ↔ y = n ∨ y ∈ l := by
  induction l with
  | nil => simp [rinL]
  | cons x r ih =>
    unfold rinL
    split
    · rename_i h; subst h; simp
    · split
      · simp
      · simp only [List.mem_cons, ih]
        constructor
        · rintro (h | h | h) <;> simp [h]
        · rintro (h | h | h) <;> simp [h]
theorem rinL_rise {l : List Int} (h : RiseI l) (n : Int) : RiseI (rinL l n) := by
  induction l with
  | nil => simp [rinL, RiseI]
  | cons x r ih =>
    have h1 := List.pairwise_cons.1 h
    unfold rinL
    split
    · exact h
    · rename_i hx
      split
      · rename_i hn
        refine List.pairwise_cons.2 ⟨fun y hy => ?_, h⟩
        rcases List.mem_cons.1 hy with rfl | hy
        · exact hn
        · have := h1.1 y hy; omega
      · refine List.pairwise_cons.2 ⟨fun y hy => ?_, ih h1.2⟩
        rcases (rinL_mem r n y).1 hy with rfl | hy
        · omega
        · exact h1.1 y hy
theorem rinL_there {l : List Int} (h : RiseI l) {n : Int} (hn : n ∈ l) : rinL l n = l := by
  induction l with
  | nil => cases hn
  | cons x r ih =>
    have h1 := List.pairwise_cons.1 h
    unfold rinL
    split
    · rfl
    · rename_i hx
      have hr : n ∈ r := (List.mem_cons.1 hn).resolve_left (fun e => hx e.symm)
      have := h1.1 n hr
      rw [if_neg (by omega), ih h1.2 hr]
theorem rinL_last {l : List Int} {n : Int} (h : ∀ y ∈ l, y < n) : rinL l n = l ++ [n] := by
  induction l with
  | nil => rfl
  | cons x r ih =>
    have := h x List.mem_cons_self
    unfold rinL
    rw [if_neg (by omega), if_neg (by omega), ih fun y hy => h y (List.mem_cons_of_mem _ hy)]
    rfl
theorem rinL_mid {l : List Int} {n x : Int} (h : ∀ y ∈ l, y < n) (hx : n < x) : rinL (l ++ [x]) n = l ++ [n] ++ [x] := by
  induction l with
  | nil =>
    show rinL [x] n = [n, x]
    unfold rinL
    rw [if_neg (by omega), if_pos hx]
  | cons y r ih =>
    have := h y List.mem_cons_self
    show rinL (y :: (r ++ [x])) n = _
    unfold rinL
    rw [if_neg (by omega), if_neg (by omega), ih fun y hy => h y (List.mem_cons_of_mem _ hy)]
    rfl
theorem rinL_more {l : List Int} {n x : Int} (h : ∃ y ∈ l, n < y) : rinL (l ++ [x]) n = rinL l n ++ [x] := by
  induction l with
  | nil => obtain ⟨y, hy, _⟩ := h; cases hy
  | cons z r ih =>
    show rinL (z :: (r ++ [x])) n = _
    unfold rinL
    split
    · rfl
    · split
      · rfl
      · rename_i h1 h2
        obtain ⟨y, hy, hn⟩ := h
        rcases List.mem_cons.1 hy with rfl | hy
        · omega
        · rw [ih ⟨y, hy, hn⟩]; rfl
theorem rinL_len (l : List Int) (n : Int) : (rinL l n).length ≤ l.length + 1 := by
  induction l with
  | nil => simp [rinL]
  | cons x r ih =>
    unfold rinL
    split
    · simp
    · split
      · simp
      · simp; omega

/-- What the loop of 'in' has behind k numbers. -/
structure RInv (l : List Int) (n : Int) (k : Nat) (lb : Bool) (out : List Int) : Prop where
  yes : lb = true → out = rinL (l.take k) n ∧ ∃ y ∈ l.take k, n < y
  no : lb = false → out = l.take k ∧ ∀ y ∈ l.take k, y < n
  len : out.length ≤ k + 1
theorem RInv.start (l : List Int) (n : Int) : RInv l n 0 false [] := ⟨fun h => (by cases h), fun _ => ⟨rfl, fun _ h => by cases h⟩, by simp⟩
theorem RInv.mid {l : List Int} {n : Int} {k : Nat} {out : List Int} (h : RInv l n k false out) (hk : k < l.length) (hx : n < l[k]) : RInv l n (k + 1) true (out ++ [n] ++ [l[k]]) := by
  obtain ⟨rfl, h1⟩ := h.no rfl
  refine ⟨fun _ => ?_, (fun h => by cases h), ?_⟩
  · rw [List.take_succ_eq_append_getElem hk]
    exact ⟨(rinL_mid h1 hx).symm, l[k], List.mem_append.2 (.inr (List.mem_singleton.2 rfl)), hx⟩
  · simp; omega
theorem RInv.low {l : List Int} {n : Int} {k : Nat} {out : List Int} (h : RInv l n k false out) (hk : k < l.length) (hx : l[k] < n) : RInv l n (k + 1) false (out ++ [l[k]]) := by
  obtain ⟨rfl, h1⟩ := h.no rfl
  refine ⟨(fun h => by cases h), fun _ => ?_, ?_⟩
  · rw [List.take_succ_eq_append_getElem hk]
    refine ⟨rfl, fun y hy => ?_⟩
    rcases List.mem_append.1 hy with hy | hy
    · exact h1 y hy
    · rw [List.mem_singleton.1 hy]; exact hx
  · simp; omega
theorem RInv.more {l : List Int} {n : Int} {k : Nat} {out : List Int} (h : RInv l n k true out) (hk : k < l.length) : RInv l n (k + 1) true (out ++ [l[k]]) := by
  obtain ⟨rfl, y, hy, hn⟩ := h.yes rfl
  refine ⟨fun _ => ?_, (fun h => by cases h), ?_⟩
  · rw [List.take_succ_eq_append_getElem hk]
    exact ⟨(rinL_more ⟨y, hy, hn⟩).symm, y, List.mem_append.2 (.inl hy), hn⟩
  · have := h.len
    simp only [List.length_append, List.length_cons, List.length_nil]; omega
theorem RInv.done {l : List Int} {n : Int} {out : List Int} (h : RInv l n l.length true out) : out = rinL l n := by
  have := (h.yes rfl).1
  rwa [List.take_of_length_le (Nat.le_refl _)] at this
theorem RInv.last {l : List Int} {n : Int} {out : List Int} (h : RInv l n l.length false out) : out ++ [n] = rinL l n := by
  obtain ⟨h1, h2⟩ := h.no rfl
  rw [List.take_of_length_le (Nat.le_refl _)] at h1 h2
  rw [h1, rinL_last h2]

/-- One span's ends more. -/
def estep (out : List Int) (s : Sp) : List Int := if s.1 < s.2 then rinL (rinL out s.1) s.2 else out
/-- All ends of some rows' spans. -/
def endsL (rows : List (List Sp)) : List Int := rows.foldl (fun out l => l.foldl estep out) []
theorem estep_rise {out : List Int} (h : RiseI out) (s : Sp) : RiseI (estep out s) := by
  unfold estep
  split
  · exact rinL_rise (rinL_rise h _) _
  · exact h
theorem estep_len (out : List Int) (s : Sp) : (estep out s).length ≤ out.length + 2 := by
  unfold estep
  split
  · have h1 := rinL_len out s.1
    have h2 := rinL_len (rinL out s.1) s.2
    omega
  · omega
theorem fold_rise {l : List Sp} {out : List Int} (h : RiseI out) : RiseI (l.foldl estep out) := by
  induction l generalizing out with
  | nil => exact h
  | cons s r ih => exact ih (estep_rise h s)
theorem fold_len (l : List Sp) (out : List Int) : (l.foldl estep out).length ≤ out.length + 2 * l.length := by
  induction l generalizing out with
  | nil => simp
  | cons s r ih =>
    have h1 := ih (estep out s)
    have h2 := estep_len out s
    simp only [List.foldl_cons, List.length_cons]
    omega
theorem fold_old {l : List Sp} {out : List Int} {e : Int} (h : e ∈ out) : e ∈ l.foldl estep out := by
  induction l generalizing out with
  | nil => exact h
  | cons s r ih =>
    refine ih ?_
    unfold estep
    split
    · exact (rinL_mem _ _ _).2 (.inr ((rinL_mem _ _ _).2 (.inr h)))
    · exact h
theorem fold_new {l : List Sp} {out : List Int} {s : Sp} (hs : s ∈ l) (h : s.1 < s.2) : s.1 ∈ l.foldl estep out ∧ s.2 ∈ l.foldl estep out := by
  induction l generalizing out with
  | nil => cases hs
  | cons t r ih =>
    rcases List.mem_cons.1 hs with rfl | hs
    · have e : estep out s = rinL (rinL out s.1) s.2 := if_pos h
      constructor
      · have : s.1 ∈ estep out s := by
          rw [e]
          exact (rinL_mem _ _ _).2 (.inr ((rinL_mem _ _ _).2 (.inl rfl)))
        exact fold_old (l := r) this
      · have : s.2 ∈ estep out s := by
          rw [e]
          exact (rinL_mem _ _ _).2 (.inl rfl)
        exact fold_old (l := r) this
    · exact ih hs

/-- The parts between ends. -/
def segs : List Int → List Sp
  | e :: f :: r => (e, f) :: segs (f :: r)
  | _ => []
theorem segs_snoc (E : List Int) (e f : Int) : segs (E ++ [e, f]) = segs (E ++ [e]) ++ [(e, f)] := by
  induction E with
  | nil => rfl
  | cons x r ih =>
    cases r with
    | nil => rfl
    | cons y r => simp only [List.cons_append, segs] at ih ⊢; rw [ih]
theorem segs_lt {E : List Int} (h : RiseI E) : ∀ s ∈ segs E, s.1 < s.2 ∧ (∀ e ∈ E, e ≤ s.1 ∨ s.2 ≤ e) ∧ s.1 ∈ E ∧ s.2 ∈ E := by
  induction E with
  | nil => intro s hs; cases hs
  | cons e r ih =>
    cases r with
    | nil => intro s hs; cases hs
    | cons f r =>
      have h1 := List.pairwise_cons.1 h
      have hef := h1.1 f List.mem_cons_self
      intro s hs
      rcases List.mem_cons.1 hs with rfl | hs
      · refine ⟨hef, fun x hx => ?_, List.mem_cons_self, List.mem_cons_of_mem _ List.mem_cons_self⟩
        rcases List.mem_cons.1 hx with rfl | hx
        · exact .inl (Int.le_refl _)
        · right
          rcases List.mem_cons.1 hx with rfl | hx
          · exact Int.le_refl _
          · have := (List.pairwise_cons.1 h1.2).1 x hx
            show f ≤ x
            omega
      · obtain ⟨q1, q2, q3, q4⟩ := ih h1.2 s hs
        refine ⟨q1, fun x hx => ?_, List.mem_cons_of_mem _ q3, List.mem_cons_of_mem _ q4⟩
        rcases List.mem_cons.1 hx with rfl | hx
        · left
          have := h1.1 _ q3
          omega
        · exact q2 x hx
theorem segs_up {E : List Int} (h : RiseI E) : Up (segs E) := by
  induction E with
  | nil => trivial
  | cons e r ih =>
    cases r with
    | nil => trivial
    | cons f r =>
      have h1 := List.pairwise_cons.1 h
      refine ⟨fun t ht => ?_, ih h1.2⟩
      have := (segs_lt h1.2 t ht).2.2.1
      have := h1.1 _ this
      show e ≤ t.1
      omega
theorem segs_cover {E : List Int} (h : RiseI E) {x e1 e2 : Int} (h1 : e1 ∈ E) (h2 : e2 ∈ E) (hx : e1 ≤ x) (hx2 : x < e2) : ∃ s ∈ segs E, Sin s x := by
  induction E generalizing e1 with
  | nil => cases h1
  | cons e r ih =>
    have hp := List.pairwise_cons.1 h
    have he1 : e ≤ e1 := by
      rcases List.mem_cons.1 h1 with rfl | h1
      · exact Int.le_refl _
      · have := hp.1 _ h1; omega
    have he2 : e2 ∈ r := (List.mem_cons.1 h2).resolve_left (by omega)
    cases r with
    | nil => cases he2
    | cons f r =>
      by_cases hf : x < f
      · exact ⟨(e, f), List.mem_cons_self, by show e ≤ x; omega, hf⟩
      · obtain ⟨s, hs, hin⟩ := ih hp.2 List.mem_cons_self he2 (by omega)
        exact ⟨s, List.mem_cons_of_mem _ hs, hin⟩
theorem up_filter {l : List Sp} (p : Sp → Bool) (h : Up l) : Up (l.filter p) := by
  induction l with
  | nil => trivial
  | cons s r ih =>
    rw [List.filter_cons]
    split
    · exact ⟨fun t ht => h.1 t ((List.mem_filter.1 ht).1), ih h.2⟩
    · exact ih h.2

/-- The plain row of those parts whose first block is asked for. -/
def buildL (g : Int → Bool) (E : List Int) : List Sp := ((segs E).filter fun s => g s.1).foldl nstep []

theorem of_law (rows : List (List Sp)) (g : Int → Bool) (hrows : ∀ x y, (∀ l ∈ rows, (mem l x ↔ mem l y)) → g x = g y) (h0 : ∀ x, (∀ l ∈ rows, ¬ mem l x) → g x = false) :
    Plain (buildL g (endsL rows)) ∧ ∀ x, mem (buildL g (endsL rows)) x ↔ g x = true := by
  obtain ⟨E, hE⟩ : ∃ E, E = endsL rows := ⟨_, rfl⟩
  rw [← hE]
  have hr : ∀ (R : List (List Sp)) (out : List Int), RiseI out → RiseI (R.foldl (fun out l => l.foldl estep out) out) := by
    intro R
    induction R with
    | nil => exact fun _ h => h
    | cons l R ih => exact fun out h => ih _ (fold_rise h)
  have ho : ∀ (R : List (List Sp)) (out : List Int) (e : Int), e ∈ out → e ∈ R.foldl (fun out l => l.foldl estep out) out := by
    intro R
    induction R with
    | nil => exact fun _ _ h => h
    | cons l R ih => exact fun out e h => ih _ _ (fold_old h)
  have hn : ∀ (R : List (List Sp)) (out : List Int) (l : List Sp) (s : Sp), l ∈ R → s ∈ l → s.1 < s.2 → s.1 ∈ R.foldl (fun out l => l.foldl estep out) out ∧ s.2 ∈ R.foldl (fun out l => l.foldl estep out) out := by
    intro R
    induction R with
    | nil => intro _ l _ hl; cases hl
    | cons k R ih =>
      intro out l s hl hs hlt
      rcases List.mem_cons.1 hl with rfl | hl
      · have := fold_new (out := out) hs hlt
        exact ⟨ho R _ _ this.1, ho R _ _ this.2⟩
      · exact ih _ l s hl hs hlt
  have hrise : RiseI E := by rw [hE]; exact hr rows [] List.Pairwise.nil
  have hend : ∀ l ∈ rows, ∀ s ∈ l, s.1 < s.2 → s.1 ∈ E ∧ s.2 ∈ E := fun l hl s hs hlt => by rw [hE]; exact hn rows [] l s hl hs hlt
  have hsame : ∀ s ∈ segs E, ∀ x, Sin s x → g x = g s.1 := fun s hs x hx => by
    refine hrows x s.1 fun l hl => ?_
    obtain ⟨q1, q2, _, _⟩ := segs_lt hrise s hs
    constructor
    · rintro ⟨t, ht, h1, h2⟩
      obtain ⟨e1, e2⟩ := hend l hl t ht (by omega)
      refine ⟨t, ht, ?_, ?_⟩
      · rcases q2 _ e1 with h | h
        · exact h
        · have := hx.2; omega
      · have := hx.1
        omega
    · rintro ⟨t, ht, h1, h2⟩
      obtain ⟨e1, e2⟩ := hend l hl t ht (by omega)
      refine ⟨t, ht, ?_, ?_⟩
      · have := hx.1; omega
      · rcases q2 _ e2 with h | h
        · omega
        · have := hx.2; omega
  have inv : NInv ((segs E).filter fun s => g s.1) (buildL g E) := ninv_fold (fun s hs => (segs_lt hrise s ((List.mem_filter.1 hs).1)).1) (up_filter _ (segs_up hrise))
  refine ⟨inv.plain, fun x => ?_⟩
  rw [inv.mem x]
  constructor
  · rintro ⟨s, hs, hx⟩
    obtain ⟨h1, h2⟩ := List.mem_filter.1 hs
    rw [hsame s h1 x hx]
    exact h2
  · intro hg
    have : ∃ l ∈ rows, mem l x := by
      by_cases h : ∃ l ∈ rows, mem l x
      · exact h
      · rw [h0 x (fun l hl hm => h ⟨l, hl, hm⟩)] at hg
        cases hg
    obtain ⟨l, hl, t, ht, h1, h2⟩ := this
    obtain ⟨e1, e2⟩ := hend l hl t ht (by omega)
    obtain ⟨s, hs, hin⟩ := segs_cover hrise e1 e2 h1 h2
    exact ⟨s, List.mem_filter.2 ⟨hs, by rw [← hsame s hs x hin]; exact hg⟩, hin⟩
end Go.Proofs.Ytkgjpmgoapfamaa
