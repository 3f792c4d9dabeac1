/-
  Plain laws of rows of spans: which blocks a row has, plain rows, and that a plain row is told by its blocks.
-/
namespace Go.Proofs.Ytdijaillcajpaaa

abbrev Sp := Int × Int
/-- Is x a block of s? -/
def Sin (s : Sp) (x : Int) : Prop := s.1 ≤ x ∧ x < s.2
/-- Is x a block of the row? -/
def mem (l : List Sp) (x : Int) : Prop := ∃ s ∈ l, Sin s x
/-- A plain row. -/
def Plain : List Sp → Prop
  | [] => True
  | s :: l => s.1 < s.2 ∧ (∀ t ∈ l, s.2 < t.1) ∧ Plain l

theorem mem_nil (x : Int) : mem [] x ↔ False := by simp [mem]
theorem mem_cons (s : Sp) (l : List Sp) (x : Int) : mem (s :: l) x ↔ Sin s x ∨ mem l x := by simp [mem]
theorem mem_append (a b : List Sp) (x : Int) : mem (a ++ b) x ↔ mem a x ∨ mem b x := by
  simp only [mem, List.mem_append]
  constructor
  · rintro ⟨s, h | h, hs⟩
    · exact .inl ⟨s, h, hs⟩
    · exact .inr ⟨s, h, hs⟩
  · rintro (⟨s, h, hs⟩ | ⟨s, h, hs⟩)
    · exact ⟨s, .inl h, hs⟩
    · exact ⟨s, .inr h, hs⟩
theorem mem_one (s : Sp) (x : Int) : mem [s] x ↔ Sin s x := by simp [mem]

theorem Plain.lt {l : List Sp} (h : Plain l) : ∀ s ∈ l, s.1 < s.2 := by
  induction l with
  | nil => intro s hs; cases hs
  | cons t l ih =>
    intro s hs
    rcases List.mem_cons.1 hs with rfl | hs
    · exact h.1
    · exact ih h.2.2 s hs
theorem Plain.tail {s : Sp} {l : List Sp} (h : Plain (s :: l)) : Plain l := h.2.2

theorem plain_append {a b : List Sp} : Plain (a ++ b) ↔ Plain a ∧ Plain b ∧ ∀ s ∈ a, ∀ t ∈ b, s.2 < t.1 := by
  induction a with
  | nil => simp [Plain]
  | cons s a ih =>
    simp only [List.cons_append, Plain, ih, List.mem_append, List.mem_cons]
    constructor
    · rintro ⟨h1, h2, h3, h4, h5⟩
      refine ⟨⟨h1, fun t ht => h2 t (.inl ht), h3⟩, h4, ?_⟩
      rintro u (rfl | hu) t ht
      · exact h2 t (.inr ht)
      · exact h5 u hu t ht
    · rintro ⟨⟨h1, h2, h3⟩, h4, h5⟩
      refine ⟨h1, ?_, h3, h4, fun u hu t ht => h5 u (.inr hu) t ht⟩
      rintro t (ht | ht)
      · exact h2 t ht
      · exact h5 s (.inl rfl) t ht

theorem plain_one {s : Sp} : Plain [s] ↔ s.1 < s.2 := by simp [Plain]
theorem plain_snoc {a : List Sp} {s : Sp} : Plain (a ++ [s]) ↔ Plain a ∧ s.1 < s.2 ∧ ∀ t ∈ a, t.2 < s.1 := by
  rw [plain_append, plain_one]
  constructor
  · rintro ⟨h1, h2, h3⟩; exact ⟨h1, h2, fun t ht => h3 t ht s (by simp)⟩
  · rintro ⟨h1, h2, h3⟩; exact ⟨h1, h2, fun t ht u hu => by simp at hu; subst hu; exact h3 t ht⟩

/-- A plain row's blocks begin at its first span. -/
theorem Plain.ge {s : Sp} {l : List Sp} (h : Plain (s :: l)) {x : Int} (hx : mem (s :: l) x) : s.1 ≤ x := by
  obtain ⟨t, ht, h1, h2⟩ := hx
  rcases List.mem_cons.1 ht with rfl | ht
  · exact h1
  · have := h.2.1 t ht; have := h.1; omega
theorem Plain.gt {s : Sp} {l : List Sp} (h : Plain (s :: l)) {x : Int} (hx : mem l x) : s.2 < x := by
  obtain ⟨t, ht, h1, h2⟩ := hx
  have := h.2.1 t ht
  omega

/-- A plain row is told by its blocks. -/
theorem plain_ext {a b : List Sp} (ha : Plain a) (hb : Plain b) (h : ∀ x, mem a x ↔ mem b x) : a = b := by
  induction a generalizing b with
  | nil =>
    cases b with
    | nil => rfl
    | cons t b => exact absurd ((h t.1).2 ((mem_cons _ _ _).2 (.inl ⟨Int.le_refl _, hb.1⟩))) (by simp [mem_nil])
  | cons s a ih =>
    cases b with
    | nil => exact absurd ((h s.1).1 ((mem_cons _ _ _).2 (.inl ⟨Int.le_refl _, ha.1⟩))) (by simp [mem_nil])
    | cons t b =>
      have h1 : t.1 ≤ s.1 := hb.ge ((h s.1).1 ((mem_cons _ _ _).2 (.inl ⟨Int.le_refl _, ha.1⟩)))
      have h2 : s.1 ≤ t.1 := ha.ge ((h t.1).2 ((mem_cons _ _ _).2 (.inl ⟨Int.le_refl _, hb.1⟩)))
      have e1 : s.1 = t.1 := by omega
      have hs1 := ha.1
      have ht1 := hb.1
      have e2 : s.2 = t.2 := by
        rcases Int.lt_trichotomy s.2 t.2 with hc | hc | hc
        · have := (h s.2).2 ((mem_cons _ _ _).2 (.inl ⟨by omega, hc⟩))
          rcases (mem_cons _ _ _).1 this with q | q
          · have := q.2; omega
          · have := ha.gt q; omega
        · exact hc
        · have := (h t.2).1 ((mem_cons _ _ _).2 (.inl ⟨by omega, hc⟩))
          rcases (mem_cons _ _ _).1 this with q | q
          · have := q.2; omega
          · have := hb.gt q; omega
      have e : s = t := Prod.ext e1 e2
      subst e
      congr 1
      refine ih ha.tail hb.tail fun x => ?_
      have hx := h x
      rw [mem_cons, mem_cons] at hx
      constructor
      · intro q
        have g := ha.gt q
        rcases hx.1 (.inr q) with q' | q'
        · have := q'.2; omega
        · exact q'
      · intro q
        have g := hb.gt q
        rcases hx.2 (.inr q) with q' | q'
        · have := q'.2; omega
        · exact q'

/-! ### Norm -/
/-- The next span of a sorted row onto what has been laid. -/
def nstep (out : List Sp) (s : Sp) : List Sp :=
  match out.getLast? with
  | some t => if s.1 ≤ t.2 then out.dropLast ++ [(t.1, if t.2 < s.2 then s.2 else t.2)] else out ++ [s]
  | none => [s]
theorem nstep_nil (s : Sp) : nstep [] s = [s] := rfl
theorem nstep_join {out : List Sp} {t s : Sp} (h : s.1 ≤ t.2) : nstep (out ++ [t]) s = out ++ [(t.1, if t.2 < s.2 then s.2 else t.2)] := by
  simp [nstep, h]
theorem nstep_more {out : List Sp} {t s : Sp} (h : t.2 < s.1) : nstep (out ++ [t]) s = out ++ [t] ++ [s] := by
  have : ¬ s.1 ≤ t.2 := by omega
  simp [nstep, this]

/-- What is laid behind a part of a sorted row. -/
structure NInv (pre out : List Sp) : Prop where
  plain : Plain out
  mem : ∀ x, mem out x ↔ mem pre x
  from_ : ∀ t ∈ out, ∃ p ∈ pre, t.1 = p.1
theorem NInv.nil : NInv [] [] := ⟨trivial, fun _ => Iff.rfl, fun _ h => by cases h⟩
theorem NInv.step {pre out : List Sp} {s : Sp} (h : NInv pre out) (hs : s.1 < s.2) (hle : ∀ p ∈ pre, p.1 ≤ s.1) : NInv (pre ++ [s]) (nstep out s) := by
  rcases List.eq_nil_or_concat out with rfl | ⟨o, t, rfl⟩
  · refine ⟨by rw [nstep_nil, plain_one]; exact hs, fun x => ?_, fun t ht => ?_⟩
    · rw [nstep_nil, mem_append, ← h.mem x, mem_nil]; simp
    · simp [nstep_nil] at ht; subst ht; exact ⟨t, by simp, rfl⟩
  · rw [List.concat_eq_append] at h ⊢
    have hp := plain_snoc.1 h.plain
    obtain ⟨p, hpm, hpe⟩ := h.from_ t (by simp)
    have htl : t.1 ≤ s.1 := by rw [hpe]; exact hle p hpm
    by_cases hc : s.1 ≤ t.2
    · rw [nstep_join hc]
      refine ⟨plain_snoc.2 ⟨hp.1, ?_, hp.2.2⟩, fun x => ?_, fun u hu => ?_⟩
      · have := hp.2.1; show t.1 < _; split <;> omega
      · have hm := h.mem x
        rw [mem_append, mem_one] at hm ⊢
        rw [mem_append, mem_one, ← hm]
        have e : Sin (t.1, if t.2 < s.2 then s.2 else t.2) x ↔ Sin t x ∨ Sin s x := by
          unfold Sin; simp only; split <;> omega
        rw [e, or_assoc]
      · rcases List.mem_append.1 hu with hu | hu
        · obtain ⟨q, hq, hqe⟩ := h.from_ u (by simp [hu]); exact ⟨q, by simp [hq], hqe⟩
        · simp at hu; subst hu; exact ⟨p, by simp [hpm], hpe⟩
    · rw [nstep_more (by omega)]
      refine ⟨plain_snoc.2 ⟨h.plain, hs, fun u hu => ?_⟩, fun x => ?_, fun u hu => ?_⟩
      · rcases List.mem_append.1 hu with hu | hu
        · have := hp.2.2 u hu; have := hp.2.1; omega
        · simp at hu; subst hu; omega
      · rw [mem_append, mem_append (b := [s]), h.mem x]
      · rcases List.mem_append.1 hu with hu | hu
        · obtain ⟨q, hq, hqe⟩ := h.from_ u hu; exact ⟨q, by simp [hq], hqe⟩
        · simp at hu; subst hu; exact ⟨u, by simp, rfl⟩

/-! ### Meet -/
def both (a b : Sp) : Sp := (if a.1 < b.1 then b.1 else a.1, if b.2 < a.2 then b.2 else a.2)
theorem both_in (a b : Sp) (x : Int) : Sin (both a b) x ↔ Sin a x ∧ Sin b x := by
  unfold both Sin; simp only; split <;> split <;> omega
def bothL (a b : Sp) : List Sp := if (both a b).1 < (both a b).2 then [both a b] else []
theorem bothL_in (a b : Sp) (x : Int) : mem (bothL a b) x ↔ Sin a x ∧ Sin b x := by
  rw [← both_in]
  unfold bothL
  split
  · rw [mem_one]
  · rw [mem_nil]; unfold Sin; constructor
    · exact False.elim
    · intro h; omega
def meet : List Sp → List Sp → List Sp
  | [], _ => []
  | _ :: _, [] => []
  | s :: a, t :: b => if s.2 < t.2 then bothL s t ++ meet a (t :: b) else bothL s t ++ meet (s :: a) b
termination_by a b => a.length + b.length

theorem meet_ge {a b : List Sp} : ∀ u ∈ meet a b, (∃ p ∈ a, p.1 ≤ u.1) ∧ ∃ q ∈ b, q.1 ≤ u.1 := by
  intro u hu
  induction a, b using meet.induct with
  | case1 b => simp [meet] at hu
  | case2 s a => simp [meet] at hu
  | case3 s a t b hc ih =>
    rw [meet] at hu
    simp only [hc, if_true, List.mem_append] at hu
    rcases hu with hu | hu
    · unfold bothL at hu
      split at hu
      · simp at hu; subst hu; unfold both; simp only
        exact ⟨⟨s, by simp, by split <;> omega⟩, ⟨t, by simp, by split <;> omega⟩⟩
      · cases hu
    · obtain ⟨⟨p, hp, hl⟩, h2⟩ := ih hu
      exact ⟨⟨p, by simp [hp], hl⟩, h2⟩
  | case4 s a t b hc ih =>
    rw [meet] at hu
    simp only [hc, if_false, List.mem_append] at hu
    rcases hu with hu | hu
    · unfold bothL at hu
      split at hu
      · simp at hu; subst hu; unfold both; simp only
        exact ⟨⟨s, by simp, by split <;> omega⟩, ⟨t, by simp, by split <;> omega⟩⟩
      · cases hu
    · obtain ⟨h2, ⟨p, hp, hl⟩⟩ := ih hu
      exact ⟨h2, ⟨p, by simp [hp], hl⟩⟩

theorem bothL_plain (s t : Sp) : Plain (bothL s t) := by
  unfold bothL
  split
  · rw [plain_one]; assumption
  · trivial
theorem bothL_to {s t u : Sp} (h : u ∈ bothL s t) : u.2 ≤ s.2 ∧ u.2 ≤ t.2 := by
  unfold bothL at h
  split at h
  · simp at h; subst h; unfold both; simp only; split <;> omega
  · cases h

theorem meet_plain {a b : List Sp} (ha : Plain a) (hb : Plain b) : Plain (meet a b) := by
  induction a, b using meet.induct with
  | case1 b => simp [meet, Plain]
  | case2 s a => simp [meet, Plain]
  | case3 s a t b hc ih =>
    rw [meet]
    simp only [hc, if_true]
    refine plain_append.2 ⟨bothL_plain s t, ih ha.tail hb, fun u hu v hv => ?_⟩
    obtain ⟨⟨p, hp, hl⟩, _⟩ := meet_ge v hv
    have := bothL_to hu
    have := ha.2.1 p hp
    omega
  | case4 s a t b hc ih =>
    rw [meet]
    simp only [hc, if_false]
    refine plain_append.2 ⟨bothL_plain s t, ih ha hb.tail, fun u hu v hv => ?_⟩
    obtain ⟨_, ⟨p, hp, hl⟩⟩ := meet_ge v hv
    have := bothL_to hu
    have := hb.2.1 p hp
    omega

theorem meet_in {a b : List Sp} (ha : Plain a) (hb : Plain b) (x : Int) : mem (meet a b) x ↔ mem a x ∧ mem b x := by
  induction a, b using meet.induct with
  | case1 b => simp [meet, mem_nil]
  | case2 s a => simp [meet, mem_nil]
  | case3 s a t b hc ih =>
    rw [meet]
    simp only [hc, if_true]
    rw [mem_append, bothL_in, ih ha.tail hb, mem_cons s a]
    constructor
    · rintro (⟨h1, h2⟩ | ⟨h1, h2⟩)
      · exact ⟨.inl h1, (mem_cons _ _ _).2 (.inl h2)⟩
      · exact ⟨.inr h1, h2⟩
    · rintro ⟨h1 | h1, h2⟩
      · rcases (mem_cons _ _ _).1 h2 with h2 | h2
        · exact .inl ⟨h1, h2⟩
        · have := hb.gt h2; have := h1.2; omega
      · exact .inr ⟨h1, h2⟩
  | case4 s a t b hc ih =>
    rw [meet]
    simp only [hc, if_false]
    rw [mem_append, bothL_in, ih ha hb.tail, mem_cons t b]
    constructor
    · rintro (⟨h1, h2⟩ | ⟨h1, h2⟩)
      · exact ⟨(mem_cons _ _ _).2 (.inl h1), .inl h2⟩
      · exact ⟨h1, .inr h2⟩
    · rintro ⟨h1, h2 | h2⟩
      · rcases (mem_cons _ _ _).1 h1 with h1 | h1
        · exact .inl ⟨h1, h2⟩
        · have := ha.gt h1; have := h2.2; omega
      · exact .inr ⟨h1, h2⟩

/-! ### Cut -/
def skip (f : Int) : List Sp → List Sp
  | [] => []
  | t :: b => if t.2 ≤ f then skip f b else t :: b
def one (s : Sp) : List Sp := if s.1 < s.2 then [s] else []
def bite (s : Sp) : List Sp → List Sp
  | [] => one s
  | t :: b => if t.1 < s.2 then one (s.1, t.1) ++ bite (t.2, s.2) b else one s
def cut : List Sp → List Sp → List Sp
  | [], _ => []
  | s :: a, b => bite s (skip s.1 b) ++ cut a (skip s.1 b)

theorem one_in (s : Sp) (x : Int) : mem (one s) x ↔ Sin s x := by
  unfold one
  split
  · rw [mem_one]
  · rw [mem_nil]; unfold Sin; constructor
    · exact False.elim
    · intro h; omega
theorem one_plain (s : Sp) : Plain (one s) := by
  unfold one
  split
  · rw [plain_one]; assumption
  · trivial
theorem one_eq {s u : Sp} (h : u ∈ one s) : u = s := by
  unfold one at h
  split at h
  · simpa using h
  · cases h

theorem skip_sub (f : Int) (b : List Sp) : ∀ t ∈ skip f b, t ∈ b := by
  induction b with
  | nil => intro t h; exact h
  | cons u b ih =>
    intro t h
    unfold skip at h
    split at h
    · exact List.mem_cons_of_mem _ (ih t h)
    · exact h
theorem skip_plain {f : Int} {b : List Sp} (h : Plain b) : Plain (skip f b) := by
  induction b with
  | nil => exact h
  | cons u b ih =>
    unfold skip
    split
    · exact ih h.tail
    · exact h
theorem skip_gt {f : Int} {b : List Sp} (h : Plain b) : ∀ t ∈ skip f b, f < t.2 := by
  induction b with
  | nil => intro t h; cases h
  | cons u b ih =>
    intro t ht
    unfold skip at ht
    split at ht
    · exact ih h.tail t ht
    · rcases List.mem_cons.1 ht with rfl | ht
      · omega
      · have := h.2.1 t ht; have := h.tail.lt t ht; omega
theorem skip_in {f : Int} {b : List Sp} {x : Int} (hx : f ≤ x) : mem (skip f b) x ↔ mem b x := by
  induction b with
  | nil => exact Iff.rfl
  | cons u b ih =>
    unfold skip
    split
    · rw [ih, mem_cons]
      constructor
      · exact .inr
      · rintro (q | q)
        · have := q.2; omega
        · exact q
    · exact Iff.rfl

theorem bite_in {s : Sp} {b : List Sp} (hb : Plain b) (hf : ∀ t ∈ b, s.1 < t.2) (x : Int) : mem (bite s b) x ↔ Sin s x ∧ ¬ mem b x := by
  induction b generalizing s with
  | nil => unfold bite; rw [one_in, mem_nil]; simp
  | cons t b ih =>
    unfold bite
    have h1 := hb.1
    have h2 := hf t (by simp)
    split
    · rename_i hc
      rw [mem_append, one_in, ih hb.tail (fun u hu => by have := hb.2.1 u hu; have := hb.tail.lt u hu; show t.2 < u.2; omega), mem_cons]
      constructor
      · rintro (⟨q1, q2⟩ | ⟨⟨q1, q2⟩, q3⟩)
        · refine ⟨⟨q1, by simp only at q2; omega⟩, ?_⟩
          rintro (⟨r1, r2⟩ | r)
          · simp only at q2; omega
          · have := hb.gt r; simp only at q2; omega
        · simp only at q1 q2
          refine ⟨⟨by omega, q2⟩, ?_⟩
          rintro (⟨r1, r2⟩ | r)
          · omega
          · exact q3 r
      · rintro ⟨⟨q1, q2⟩, q3⟩
        by_cases hx : x < t.1
        · exact .inl ⟨q1, hx⟩
        · refine .inr ⟨⟨?_, q2⟩, fun r => q3 (.inr r)⟩
          show t.2 ≤ x
          rcases Int.lt_or_le x t.2 with hl | hl
          · exact absurd (.inl ⟨by omega, hl⟩) q3
          · exact hl
    · rename_i hc
      rw [one_in, mem_cons]
      constructor
      · rintro ⟨q1, q2⟩
        refine ⟨⟨q1, q2⟩, ?_⟩
        rintro (⟨r1, r2⟩ | r)
        · omega
        · have := hb.gt r; omega
      · exact fun h => h.1
theorem bite_ends {s : Sp} {b : List Sp} (hb : Plain b) (hf : ∀ t ∈ b, s.1 < t.2) : ∀ u ∈ bite s b, s.1 ≤ u.1 ∧ u.2 ≤ s.2 := by
  induction b generalizing s with
  | nil => intro u hu; unfold bite at hu; rw [one_eq hu]; omega
  | cons t b ih =>
    intro u hu
    unfold bite at hu
    have h1 := hb.1
    have h2 := hf t (by simp)
    split at hu
    · rename_i hc
      rcases List.mem_append.1 hu with hu | hu
      · rw [one_eq hu]; simp only; omega
      · have := ih hb.tail (fun u hu => by have := hb.2.1 u hu; have := hb.tail.lt u hu; show t.2 < u.2; omega) u hu
        simp only at this; omega
    · rw [one_eq hu]; omega
theorem bite_plain {s : Sp} {b : List Sp} (hb : Plain b) (hf : ∀ t ∈ b, s.1 < t.2) : Plain (bite s b) := by
  induction b generalizing s with
  | nil => unfold bite; exact one_plain s
  | cons t b ih =>
    unfold bite
    have h1 := hb.1
    have h2 := hf t (by simp)
    have hf' : ∀ u ∈ b, ((t.2, s.2) : Sp).1 < u.2 := fun u hu => by have := hb.2.1 u hu; have := hb.tail.lt u hu; show t.2 < u.2; omega
    split
    · refine plain_append.2 ⟨one_plain _, ih hb.tail hf', fun u hu v hv => ?_⟩
      have := bite_ends hb.tail hf' v hv
      rw [one_eq hu]; simp only at this ⊢; omega
    · exact one_plain s

theorem cut_ge {a b : List Sp} (hb : Plain b) : ∀ u ∈ cut a b, ∃ p ∈ a, p.1 ≤ u.1 := by
  induction a generalizing b with
  | nil => intro u hu; cases hu
  | cons s a ih =>
    intro u hu
    rcases List.mem_append.1 hu with hu | hu
    · exact ⟨s, by simp, (bite_ends (skip_plain hb) (skip_gt hb) u hu).1⟩
    · obtain ⟨p, hp, hl⟩ := ih (skip_plain hb) u hu
      exact ⟨p, by simp [hp], hl⟩
theorem cut_plain {a b : List Sp} (ha : Plain a) (hb : Plain b) : Plain (cut a b) := by
  induction a generalizing b with
  | nil => trivial
  | cons s a ih =>
    refine plain_append.2 ⟨bite_plain (skip_plain hb) (skip_gt hb), ih ha.tail (skip_plain hb), fun u hu v hv => ?_⟩
    have := bite_ends (skip_plain hb) (skip_gt hb) u hu
    obtain ⟨p, hp, hl⟩ := cut_ge (skip_plain hb) v hv
    have := ha.2.1 p hp
    omega
theorem cut_in {a b : List Sp} (ha : Plain a) (hb : Plain b) (x : Int) : mem (cut a b) x ↔ mem a x ∧ ¬ mem b x := by
  induction a generalizing b with
  | nil => simp [cut, mem_nil]
  | cons s a ih =>
    unfold cut
    rw [mem_append, bite_in (skip_plain hb) (skip_gt hb), ih ha.tail (skip_plain hb), mem_cons]
    constructor
    · rintro (⟨h1, h2⟩ | ⟨h1, h2⟩)
      · exact ⟨.inl h1, fun q => h2 ((skip_in h1.1).2 q)⟩
      · have := ha.gt h1
        have := ha.1
        exact ⟨.inr h1, fun q => h2 ((skip_in (by omega)).2 q)⟩
    · rintro ⟨h1 | h1, h2⟩
      · exact .inl ⟨h1, fun q => h2 ((skip_in h1.1).1 q)⟩
      · have := ha.gt h1
        have := ha.1
        exact .inr ⟨h1, fun q => h2 ((skip_in (by omega)).1 q)⟩
end Go.Proofs.Ytdijaillcajpaaa
