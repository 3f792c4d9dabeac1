/-
  Plain laws of a Map's pieces: what a block has, canonical pieces, and that those are told by what the blocks have; dropping and putting.
-/
import Derived.Test.YtdijaillcajpaaaA0
namespace Go.Proofs.Ytdijaillcajpaaa

/-! ### Norm as a function -/
def insS (s : Sp) : List Sp → List Sp
  | [] => [s]
  | t :: l => if s.1 ≤ t.1 then s :: t :: l else t :: insS s l
def sortS : List Sp → List Sp
  | [] => []
  | s :: l => insS s (sortS l)
/-- Rising by the first block. -/
def Up : List Sp → Prop
  | [] => True
  | s :: l => (∀ t ∈ l, s.1 ≤ t.1) ∧ Up l
theorem insS_mem (s : Sp) (l : List Sp) (t : Sp) : t ∈ insS s l ↔ t = s ∨ t ∈ l := by
  induction l with
  | nil => simp [insS]
  | cons u l ih =>
    unfold insS
    split
    · simp
    · simp only [List.mem_cons, ih]
      constructor
      · rintro (h | h | h) <;> simp [h]
      · rintro (h | h | h) <;> simp [h]
theorem sortS_mem (l : List Sp) (t : Sp) : t ∈ sortS l ↔ t ∈ l := by
  induction l with
  | nil => exact Iff.rfl
  | cons s l ih => simp [sortS, insS_mem, ih]
theorem insS_up (s : Sp) {l : List Sp} (h : Up l) : Up (insS s l) := by
  induction l with
  | nil => exact ⟨(fun _ h => by cases h), trivial⟩
  | cons u l ih =>
    unfold insS
    split
    · rename_i hc
      refine ⟨fun t ht => ?_, h⟩
      rcases List.mem_cons.1 ht with rfl | ht
      · exact hc
      · have := h.1 t ht; omega
    · refine ⟨fun t ht => ?_, ih h.2⟩
      rcases (insS_mem s l t).1 ht with rfl | ht
      · omega
      · exact h.1 t ht
theorem sortS_up (l : List Sp) : Up (sortS l) := by
  induction l with
  | nil => trivial
  | cons s l ih => exact insS_up s ih
theorem up_append {a b : List Sp} (h : Up (a ++ b)) : ∀ s ∈ a, ∀ t ∈ b, s.1 ≤ t.1 := by
  induction a with
  | nil => intro s hs; cases hs
  | cons u a ih =>
    intro s hs t ht
    rcases List.mem_cons.1 hs with rfl | hs
    · exact h.1 t (List.mem_append.2 (.inr ht))
    · exact ih h.2 s hs t ht

def full (s : Sp) : Bool := decide (s.1 < s.2)
def norm (l : List Sp) : List Sp := (sortS (l.filter full)).foldl nstep []

/-- A row that has been laid step by step out of a rising row. -/
theorem ninv_fold {l : List Sp} (hl : ∀ s ∈ l, s.1 < s.2) (hu : Up l) : NInv l (l.foldl nstep []) := by
  have key : ∀ (b pre out : List Sp), NInv pre out → (∀ s ∈ b, s.1 < s.2) → Up (pre ++ b) → NInv (pre ++ b) (b.foldl nstep out) := by
    intro b
    induction b with
    | nil => intro pre out h _ _; rw [List.append_nil]; exact h
    | cons s b ih =>
      intro pre out h hs hu
      have e : pre ++ s :: b = (pre ++ [s]) ++ b := by simp
      rw [e] at hu ⊢
      refine ih (pre ++ [s]) (nstep out s) (h.step (hs s (by simp)) fun p hp => ?_) (fun t ht => hs t (by simp [ht])) hu
      exact up_append (by rw [← e] at hu; exact hu) p hp s (by simp)
  simpa using key l [] [] NInv.nil hl hu
theorem norm_inv (l : List Sp) : NInv (sortS (l.filter full)) (norm l) :=
  ninv_fold (fun s hs => by rw [sortS_mem] at hs; have := (List.mem_filter.1 hs).2; simpa [full] using this) (sortS_up _)
theorem norm_plain (l : List Sp) : Plain (norm l) := (norm_inv l).plain
theorem norm_in (l : List Sp) (x : Int) : mem (norm l) x ↔ mem l x := by
  rw [(norm_inv l).mem x]
  constructor
  · rintro ⟨s, hs, h⟩
    rw [sortS_mem] at hs
    exact ⟨s, (List.mem_filter.1 hs).1, h⟩
  · rintro ⟨s, hs, h⟩
    refine ⟨s, (sortS_mem _ _).2 (List.mem_filter.2 ⟨hs, ?_⟩), h⟩
    have := h.1; have := h.2
    simp [full]; omega
/-- Any rising row of the same spans gives the same plain row. -/
theorem norm_of {l d : List Sp} (hm : ∀ s, s ∈ d ↔ s ∈ l.filter full) (hu : Up d) : d.foldl nstep [] = norm l := by
  have hf : ∀ s ∈ d, s.1 < s.2 := fun s hs => by have := (List.mem_filter.1 ((hm s).1 hs)).2; simpa [full] using this
  have h := ninv_fold hf hu
  refine plain_ext h.plain (norm_plain l) fun x => ?_
  rw [h.mem x, norm_in]
  constructor
  · rintro ⟨s, hs, hx⟩
    exact ⟨s, (List.mem_filter.1 ((hm s).1 hs)).1, hx⟩
  · rintro ⟨s, hs, hx⟩
    refine ⟨s, (hm s).2 (List.mem_filter.2 ⟨hs, ?_⟩), hx⟩
    have := hx.1; have := hx.2
    simp [full]; omega
theorem norm_eq {l r : List Sp} (hp : Plain r) (h : ∀ x, mem r x ↔ mem l x) : norm l = r :=
  plain_ext (norm_plain l) hp fun x => by rw [norm_in, h]

def joinN (a b : List Sp) : List Sp := norm (a ++ b)
def meetN (a b : List Sp) : List Sp := meet (norm a) (norm b)
def cutN (a b : List Sp) : List Sp := cut (norm a) (norm b)
theorem joinN_plain (a b : List Sp) : Plain (joinN a b) := norm_plain _
theorem joinN_in (a b : List Sp) (x : Int) : mem (joinN a b) x ↔ mem a x ∨ mem b x := by unfold joinN; rw [norm_in, mem_append]
theorem meetN_plain (a b : List Sp) : Plain (meetN a b) := meet_plain (norm_plain a) (norm_plain b)
theorem meetN_in (a b : List Sp) (x : Int) : mem (meetN a b) x ↔ mem a x ∧ mem b x := by unfold meetN; rw [meet_in (norm_plain a) (norm_plain b), norm_in, norm_in]
theorem cutN_plain (a b : List Sp) : Plain (cutN a b) := cut_plain (norm_plain a) (norm_plain b)
theorem cutN_in (a b : List Sp) (x : Int) : mem (cutN a b) x ↔ mem a x ∧ ¬ mem b x := by unfold cutN; rw [cut_in (norm_plain a) (norm_plain b), norm_in, norm_in]

/-! ### Pieces -/
section
variable {V : Type}
/-- The value of a block. -/
def get : List (Sp × V) → Int → Option V
  | [], _ => none
  | p :: M, x => if p.1.1 ≤ x ∧ x < p.1.2 then some p.2 else get M x
/-- Pieces that rise. -/
def Rise : List (Sp × V) → Prop
  | [] => True
  | p :: M => p.1.1 < p.1.2 ∧ (∀ q ∈ M, p.1.2 ≤ q.1.1) ∧ Rise M
/-- .. and no two side by side with one value. -/
def Canon : List (Sp × V) → Prop
  | [] => True
  | p :: M => p.1.1 < p.1.2 ∧ (∀ q ∈ M, p.1.2 ≤ q.1.1 ∧ (p.1.2 = q.1.1 → p.2 ≠ q.2)) ∧ Canon M
theorem Canon.rise {M : List (Sp × V)} (h : Canon M) : Rise M := by
  induction M with
  | nil => trivial
  | cons p M ih => exact ⟨h.1, fun q hq => (h.2.1 q hq).1, ih h.2.2⟩
theorem Rise.lt {M : List (Sp × V)} (h : Rise M) : ∀ p ∈ M, p.1.1 < p.1.2 := by
  induction M with
  | nil => intro s hs; cases hs
  | cons t l ih =>
    intro s hs
    rcases List.mem_cons.1 hs with rfl | hs
    · exact h.1
    · exact ih h.2.2 s hs
theorem get_mem {M : List (Sp × V)} {x : Int} {v : V} (h : get M x = some v) : ∃ p ∈ M, Sin p.1 x ∧ p.2 = v := by
  induction M with
  | nil => cases h
  | cons p M ih =>
    unfold get at h
    split at h
    · rename_i hc; exact ⟨p, by simp, hc, by simpa using h⟩
    · obtain ⟨q, hq, h2⟩ := ih h; exact ⟨q, by simp [hq], h2⟩
theorem get_none {M : List (Sp × V)} {x : Int} (h : ∀ p ∈ M, ¬ Sin p.1 x) : get M x = none := by
  cases hg : get M x with
  | none => rfl
  | some v => obtain ⟨p, hp, hs, _⟩ := get_mem hg; exact absurd hs (h p hp)
theorem get_append (A B : List (Sp × V)) (x : Int) : get (A ++ B) x = (get A x).or (get B x) := by
  induction A with
  | nil => simp [get]
  | cons p A ih =>
    simp only [List.cons_append, get]
    split
    · simp
    · exact ih
theorem Rise.head_ge {p : Sp × V} {M : List (Sp × V)} (h : Rise (p :: M)) {x : Int} {v : V} (hg : get (p :: M) x = some v) : p.1.1 ≤ x := by
  obtain ⟨q, hq, hs, _⟩ := get_mem hg
  rcases List.mem_cons.1 hq with rfl | hq
  · exact hs.1
  · have := h.2.1 q hq; have := h.1; have := hs.1; omega
theorem Rise.tail_ge {p : Sp × V} {M : List (Sp × V)} (h : Rise (p :: M)) {x : Int} {v : V} (hg : get M x = some v) : p.1.2 ≤ x := by
  obtain ⟨q, hq, hs, _⟩ := get_mem hg
  have := h.2.1 q hq; have := hs.1; omega
theorem get_head (p : Sp × V) (M : List (Sp × V)) (h : p.1.1 < p.1.2) : get (p :: M) p.1.1 = some p.2 := by
  unfold get; rw [if_pos ⟨Int.le_refl _, h⟩]
theorem get_in {p : Sp × V} {M : List (Sp × V)} {x : Int} (h1 : p.1.1 ≤ x) (h2 : x < p.1.2) : get (p :: M) x = some p.2 := by
  unfold get; rw [if_pos ⟨h1, h2⟩]
theorem get_out {p : Sp × V} {M : List (Sp × V)} {x : Int} (h : ¬ (p.1.1 ≤ x ∧ x < p.1.2)) : get (p :: M) x = get M x := by
  conv => lhs; unfold get
  rw [if_neg h]

/-- The end of a first piece is no later than that of another first piece with the same beginning. -/
theorem canon_end {p q : Sp × V} {M N : List (Sp × V)} (hp : Canon (p :: M)) (hq : Rise (q :: N)) (h : ∀ x, get (p :: M) x = get (q :: N) x) (h1 : p.1.1 = q.1.1) : q.1.2 ≤ p.1.2 := by
  rcases Int.lt_or_le p.1.2 q.1.2 with hc | hc
  · exfalso
    have hv : p.2 = q.2 := by
      have := h p.1.1
      rw [get_head p M hp.1, h1, get_head q N hq.1] at this
      simpa using this
    have h2 := h p.1.2
    have := hp.1
    rw [get_out (by omega), get_in (p := q) (by omega) hc] at h2
    obtain ⟨r, hr, hs, hrv⟩ := get_mem h2
    have h3 := hp.2.1 r hr
    have e : p.1.2 = r.1.1 := by have := hs.1; omega
    exact h3.2 e (by rw [hv, hrv])
  · exact hc

/-- Canonical pieces are told by what the blocks have. -/
theorem canon_ext {M N : List (Sp × V)} (hM : Canon M) (hN : Canon N) (h : ∀ x, get M x = get N x) : M = N := by
  induction M generalizing N with
  | nil =>
    cases N with
    | nil => rfl
    | cons q N => have := h q.1.1; rw [get_head q N hN.1] at this; simp [get] at this
  | cons p M ih =>
    cases N with
    | nil => have := h p.1.1; rw [get_head p M hM.1] at this; simp [get] at this
    | cons q N =>
      have h1 : q.1.1 ≤ p.1.1 := hN.rise.head_ge ((h p.1.1).symm.trans (get_head p M hM.1))
      have h2 : p.1.1 ≤ q.1.1 := hM.rise.head_ge ((h q.1.1).trans (get_head q N hN.1))
      have e1 : p.1.1 = q.1.1 := by omega
      have e2 : p.1.2 = q.1.2 := by
        have := canon_end hM hN.rise h e1
        have := canon_end hN hM.rise (fun x => (h x).symm) e1.symm
        omega
      have ev : p.2 = q.2 := by
        have := h p.1.1
        rw [get_head p M hM.1, e1, get_head q N hN.1] at this
        simpa using this
      have e : p = q := Prod.ext (Prod.ext e1 e2) ev
      subst e
      congr 1
      refine ih hM.2.2 hN.2.2 fun x => ?_
      by_cases hx : p.1.1 ≤ x ∧ x < p.1.2
      · have g1 : get M x = none := by
          cases hg : get M x with
          | none => rfl
          | some v => have := hM.rise.tail_ge hg; omega
        have g2 : get N x = none := by
          cases hg : get N x with
          | none => rfl
          | some v => have := hN.rise.tail_ge hg; omega
        rw [g1, g2]
      · have := h x
        rwa [get_out hx, get_out hx] at this

theorem rise_append {A B : List (Sp × V)} : Rise (A ++ B) ↔ Rise A ∧ Rise B ∧ ∀ p ∈ A, ∀ q ∈ B, p.1.2 ≤ q.1.1 := by
  induction A with
  | nil => simp [Rise]
  | cons s a ih =>
    simp only [List.cons_append, Rise, ih, List.mem_append, List.mem_cons]
    constructor
    · rintro ⟨h1, h2, h3, h4, h5⟩
      refine ⟨⟨h1, fun t ht => h2 t (.inl ht), h3⟩, h4, ?_⟩
      rintro u (rfl | hu) t ht
      · exact h2 t (.inr ht)
      · exact h5 u hu t ht
    · rintro ⟨⟨h1, h2, h3⟩, h4, h5⟩
      refine ⟨h1, ?_, h3, h4, fun u hu t ht => h5 u (.inr hu) t ht⟩
      rintro t (ht | ht)
      · exact h2 t ht
      · exact h5 s (.inl rfl) t ht
theorem canon_append {A B : List (Sp × V)} : Canon (A ++ B) ↔ Canon A ∧ Canon B ∧ ∀ p ∈ A, ∀ q ∈ B, p.1.2 ≤ q.1.1 ∧ (p.1.2 = q.1.1 → p.2 ≠ q.2) := by
  induction A with
  | nil => simp [Canon]
  | cons s a ih =>
    simp only [List.cons_append, Canon, ih, List.mem_append, List.mem_cons]
    constructor
    · rintro ⟨h1, h2, h3, h4, h5⟩
      refine ⟨⟨h1, fun t ht => h2 t (.inl ht), h3⟩, h4, ?_⟩
      rintro u (rfl | hu) t ht
      · exact h2 t (.inr ht)
      · exact h5 u hu t ht
    · rintro ⟨⟨h1, h2, h3⟩, h4, h5⟩
      refine ⟨h1, ?_, h3, h4, fun u hu t ht => h5 u (.inr hu) t ht⟩
      rintro t (ht | ht)
      · exact h2 t ht
      · exact h5 s (.inl rfl) t ht

/-! ### Drop -/
def sub (x s : Sp) : List Sp := cutN [x] [s]
def drp (M : List (Sp × V)) (s : Sp) : List (Sp × V) := M.flatMap fun p => (sub p.1 s).map fun y => (y, p.2)
theorem sub_in (x s : Sp) (b : Int) : mem (sub x s) b ↔ Sin x b ∧ ¬ Sin s b := by unfold sub; rw [cutN_in, mem_one, mem_one]
theorem sub_plain (x s : Sp) : Plain (sub x s) := cutN_plain _ _
theorem sub_ends {x s : Sp} : ∀ y ∈ sub x s, x.1 ≤ y.1 ∧ y.2 ≤ x.2 ∧ (y.2 ≤ s.1 ∨ s.2 ≤ y.1 ∨ s.2 ≤ s.1) := by
  intro y hy
  have hlt := (sub_plain x s).lt y hy
  have h1 := (sub_in x s y.1).1 ⟨y, hy, Int.le_refl _, hlt⟩
  have h2 := (sub_in x s (y.2 - 1)).1 ⟨y, hy, by omega, by omega⟩
  unfold Sin at h1 h2
  refine ⟨h1.1.1, by omega, ?_⟩
  rcases Int.lt_or_le s.1 y.2 with ha | ha
  · rcases Int.lt_or_le y.1 s.2 with hb | hb
    · right; right
      rcases Int.lt_or_le s.1 s.2 with hc | hc
      · exfalso
        have hm : mem (sub x s) (if s.1 < y.1 then y.1 else s.1) := ⟨y, hy, by split <;> omega, by split <;> omega⟩
        have h3 := ((sub_in x s _).1 hm).2
        unfold Sin at h3
        split at h3 <;> omega
      · exact hc
    · exact .inr (.inl hb)
  · exact .inl ha
theorem canon_map {l : List Sp} (h : Plain l) (v : V) : Canon (l.map fun y => (y, v)) := by
  induction l with
  | nil => trivial
  | cons s l ih =>
    refine ⟨h.1, fun q hq => ?_, ih h.tail⟩
    obtain ⟨t, ht, rfl⟩ := List.mem_map.1 hq
    have := h.2.1 t ht
    exact ⟨by show s.2 ≤ t.1; omega, fun e => by have e : s.2 = t.1 := e; omega⟩
theorem get_map (l : List Sp) (v : V) (x : Int) : get (l.map fun y => (y, v)) x = some v ↔ mem l x := by
  induction l with
  | nil => simp [get, mem_nil]
  | cons s l ih =>
    rw [List.map_cons, mem_cons]
    by_cases hx : s.1 ≤ x ∧ x < s.2
    · rw [get_in hx.1 hx.2]; simp [Sin, hx]
    · rw [get_out hx, ih]
      constructor
      · exact .inr
      · rintro (h | h)
        · exact absurd h hx
        · exact h
theorem get_map' (l : List Sp) (v : V) (x : Int) : get (l.map fun y => (y, v)) x = none ∨ get (l.map fun y => (y, v)) x = some v := by
  induction l with
  | nil => exact .inl rfl
  | cons s l ih =>
    rw [List.map_cons]
    by_cases hx : s.1 ≤ x ∧ x < s.2
    · rw [get_in hx.1 hx.2]; exact .inr rfl
    · rw [get_out hx]; exact ih

theorem drp_canon {M : List (Sp × V)} (h : Canon M) (s : Sp) : Canon (drp M s) := by
  induction M with
  | nil => trivial
  | cons p M ih =>
    refine canon_append.2 ⟨canon_map (sub_plain _ _) _, ih h.2.2, fun a ha b hb => ?_⟩
    obtain ⟨y, hy, rfl⟩ := List.mem_map.1 ha
    obtain ⟨q, hq, hb⟩ := List.mem_flatMap.1 hb
    obtain ⟨z, hz, rfl⟩ := List.mem_map.1 hb
    have h1 := sub_ends y hy
    have h2 := sub_ends z hz
    have h3 := h.2.1 q hq
    refine ⟨by show y.2 ≤ z.1; omega, fun e => h3.2 ?_⟩
    have e : y.2 = z.1 := e
    omega
theorem drp_get {M : List (Sp × V)} (h : Rise M) (s : Sp) (x : Int) : get (drp M s) x = if s.1 ≤ x ∧ x < s.2 then none else get M x := by
  induction M with
  | nil => simp [drp, get]
  | cons p M ih =>
    show get (((sub p.1 s).map fun y => (y, p.2)) ++ drp M s) x = _
    rw [get_append, ih h.2.2]
    by_cases hs : s.1 ≤ x ∧ x < s.2
    · rw [if_pos hs, if_pos hs]
      have : get ((sub p.1 s).map fun y => (y, p.2)) x = none := by
        rcases get_map' (sub p.1 s) p.2 x with h1 | h1
        · exact h1
        · exact absurd hs ((sub_in _ _ _).1 ((get_map _ _ _).1 h1)).2
      rw [this]; rfl
    · rw [if_neg hs, if_neg hs]
      by_cases hx : p.1.1 ≤ x ∧ x < p.1.2
      · rw [get_in hx.1 hx.2, (get_map _ _ _).2 ((sub_in _ _ _).2 ⟨hx, hs⟩)]; rfl
      · rw [get_out hx]
        have : get ((sub p.1 s).map fun y => (y, p.2)) x = none := by
          rcases get_map' (sub p.1 s) p.2 x with h1 | h1
          · exact h1
          · exact absurd ((sub_in _ _ _).1 ((get_map _ _ _).1 h1)).1 hx
        rw [this]; rfl
theorem drp_apart {M : List (Sp × V)} {s : Sp} (hs : s.1 < s.2) : ∀ p ∈ drp M s, p.1.2 ≤ s.1 ∨ s.2 ≤ p.1.1 := by
  intro p hp
  obtain ⟨q, hq, hp⟩ := List.mem_flatMap.1 hp
  obtain ⟨y, hy, rfl⟩ := List.mem_map.1 hp
  have := sub_ends y hy
  show y.2 ≤ s.1 ∨ s.2 ≤ y.1
  omega

/-! ### Put -/
def before (s : Sp) : List (Sp × V) → List (Sp × V)
  | [] => []
  | p :: M => if p.1.1 < s.1 then p :: before s M else []
def behind (s : Sp) : List (Sp × V) → List (Sp × V)
  | [] => []
  | p :: M => if p.1.1 < s.1 then behind s M else p :: M
theorem before_behind (s : Sp) (M : List (Sp × V)) : before s M ++ behind s M = M := by
  induction M with
  | nil => rfl
  | cons p M ih => unfold before behind; split <;> simp [ih]
theorem before_lt {s : Sp} {M : List (Sp × V)} : ∀ p ∈ before s M, p.1.1 < s.1 := by
  induction M with
  | nil => intro p hp; cases hp
  | cons q M ih =>
    intro p hp
    unfold before at hp
    split at hp
    · rcases List.mem_cons.1 hp with rfl | hp
      · assumption
      · exact ih p hp
    · cases hp
theorem behind_ge {s : Sp} {M : List (Sp × V)} (h : Rise M) : ∀ p ∈ behind s M, s.1 ≤ p.1.1 := by
  induction M with
  | nil => intro p hp; cases hp
  | cons q M ih =>
    intro p hp
    unfold behind at hp
    split at hp
    · exact ih h.2.2 p hp
    · rcases List.mem_cons.1 hp with rfl | hp
      · omega
      · have := h.2.1 p hp; have := h.1; omega

variable [DecidableEq V]
/-- Two rows of pieces laid one behind the other, those that meet glued where their values are one. -/
def glu (A B : List (Sp × V)) : List (Sp × V) :=
  match A.getLast?, B with
  | some p, q :: B' => if p.1.2 = q.1.1 ∧ p.2 = q.2 then A.dropLast ++ ((p.1.1, q.1.2), p.2) :: B' else A ++ B
  | _, _ => A ++ B
def glueAt (M : List (Sp × V)) (i : Nat) : List (Sp × V) := glu (M.take i) (M.drop i)
theorem glu_nil_left (B : List (Sp × V)) : glu [] B = B := by simp [glu]
theorem glu_nil_right (A : List (Sp × V)) : glu A [] = A := by unfold glu; cases A.getLast? <;> simp
theorem glu_yes (A B : List (Sp × V)) (p q : Sp × V) (h : p.1.2 = q.1.1 ∧ p.2 = q.2) : glu (A ++ [p]) (q :: B) = A ++ ((p.1.1, q.1.2), p.2) :: B := by
  simp [glu, h]
theorem glu_no (A B : List (Sp × V)) (p q : Sp × V) (h : ¬ (p.1.2 = q.1.1 ∧ p.2 = q.2)) : glu (A ++ [p]) (q :: B) = A ++ p :: q :: B := by
  simp [glu, h]
def putC (M : List (Sp × V)) (s : Sp) (v : V) : List (Sp × V) :=
  let D := drp M s
  let I := before s D ++ (s, v) :: behind s D
  glueAt (glueAt I ((before s D).length + 1)) (before s D).length

/-- The put piece glued to what lies behind it. -/
theorem glu_behind {A B : List (Sp × V)} {s : Sp} {v : V} (hs : s.1 < s.2) (hB : Canon B) (hsB : ∀ q ∈ B, s.2 ≤ q.1.1) :
    ∃ t B', glu (A ++ [(s, v)]) B = A ++ ((s.1, t), v) :: B' ∧ s.2 ≤ t ∧ Canon (((s.1, t), v) :: B') ∧ ∀ x, get (((s.1, t), v) :: B') x = get ((s, v) :: B) x := by
  cases B with
  | nil => exact ⟨s.2, [], by rw [glu_nil_right], Int.le_refl _, ⟨hs, (fun _ h => by cases h), trivial⟩, fun _ => rfl⟩
  | cons q B =>
    by_cases hc : s.2 = q.1.1 ∧ v = q.2
    · refine ⟨q.1.2, B, glu_yes A B (s, v) q hc, by have := hB.1; omega, ⟨by have := hB.1; show s.1 < q.1.2; omega, fun r hr => ?_, hB.2.2⟩, fun x => ?_⟩
      · have := hB.2.1 r hr
        exact ⟨this.1, fun e => by rw [hc.2]; exact this.2 e⟩
      · have := hB.1
        by_cases h1 : s.1 ≤ x ∧ x < s.2
        · rw [get_in (p := (s, v)) h1.1 h1.2, get_in (by exact h1.1) (by show x < q.1.2; omega)]
        · rw [get_out (p := (s, v)) h1]
          by_cases h2 : q.1.1 ≤ x ∧ x < q.1.2
          · rw [get_in h2.1 h2.2, get_in (by show s.1 ≤ x; omega) (by exact h2.2), hc.2]
          · rw [get_out h2, get_out (by show ¬ (s.1 ≤ x ∧ x < q.1.2); omega)]
    · refine ⟨s.2, q :: B, glu_no A B (s, v) q hc, Int.le_refl _, ⟨hs, fun r hr => ?_, hB⟩, fun _ => rfl⟩
      refine ⟨hsB r hr, fun e => ?_⟩
      have e : s.2 = r.1.1 := e
      rcases List.mem_cons.1 hr with rfl | hr
      · exact fun e2 => hc ⟨e, e2⟩
      · have := (hB.2.1 r hr).1; have := hB.1; have := hsB q (by simp); omega
/-- What lies ahead glued to what is canonical. -/
theorem glu_ahead {A C : List (Sp × V)} (hA : Canon A) (hC : Canon C) (h : ∀ p ∈ A, ∀ q ∈ C, p.1.2 ≤ q.1.1) : Canon (glu A C) ∧ ∀ x, get (glu A C) x = get (A ++ C) x := by
  rcases List.eq_nil_or_concat A with rfl | ⟨A', p, rfl⟩
  · rw [glu_nil_left]; exact ⟨hC, fun _ => rfl⟩
  · rw [List.concat_eq_append] at *
    cases C with
    | nil => rw [glu_nil_right]; exact ⟨hA, fun x => by simp⟩
    | cons q C =>
      have hA1 := canon_append.1 hA
      have hp := hA1.2.1.1
      have hq := hC.1
      have hpq := h p (by simp) q (by simp)
      by_cases hc : p.1.2 = q.1.1 ∧ p.2 = q.2
      · rw [glu_yes A' C p q hc]
        refine ⟨canon_append.2 ⟨hA1.1, ⟨by show p.1.1 < q.1.2; omega, fun r hr => ?_, hC.2.2⟩, fun a ha b hb => ?_⟩, fun x => ?_⟩
        · have := hC.2.1 r hr
          exact ⟨this.1, fun e => by show p.2 ≠ r.2; rw [hc.2]; exact this.2 e⟩
        · have h1 := hA1.2.2 a ha p (by simp)
          rcases List.mem_cons.1 hb with rfl | hb
          · exact h1
          · have h2 := h a (by simp [ha]) b (by simp [hb])
            have h3 := h p (by simp) b (by simp [hb])
            exact ⟨h2, fun e => by omega⟩
        · rw [get_append, List.append_assoc, get_append]
          congr 1
          show _ = get (p :: q :: C) x
          by_cases h1 : p.1.1 ≤ x ∧ x < p.1.2
          · rw [get_in h1.1 h1.2, get_in (by exact h1.1) (by show x < q.1.2; omega)]
          · rw [get_out h1]
            by_cases h2 : q.1.1 ≤ x ∧ x < q.1.2
            · rw [get_in h2.1 h2.2, get_in (by show p.1.1 ≤ x; omega) (by exact h2.2), hc.2]
            · rw [get_out h2, get_out (by show ¬ (p.1.1 ≤ x ∧ x < q.1.2); omega)]
      · rw [glu_no A' C p q hc]
        have e : A' ++ p :: q :: C = (A' ++ [p]) ++ q :: C := by simp
        rw [e]
        refine ⟨canon_append.2 ⟨hA, hC, fun a ha b hb => ⟨h a ha b hb, fun e9 => ?_⟩⟩, fun x => rfl⟩
        have hb' : q.1.1 ≤ b.1.1 ∧ (b = q ∨ q.1.1 < b.1.1) := by
          rcases List.mem_cons.1 hb with rfl | hb
          · exact ⟨Int.le_refl _, .inl rfl⟩
          · have := hC.2.1 b hb; exact ⟨by omega, .inr (by omega)⟩
        rcases List.mem_append.1 ha with ha | ha
        · have := hA1.2.2 a ha p (by simp); omega
        · simp at ha; subst ha
          rcases hb'.2 with rfl | hb2
          · exact fun e2 => hc ⟨e9, e2⟩
          · omega

theorem putC_law {M : List (Sp × V)} (h : Canon M) {s : Sp} (hs : s.1 < s.2) (v : V) : Canon (putC M s v) ∧ ∀ x, get (putC M s v) x = if s.1 ≤ x ∧ x < s.2 then some v else get M x := by
  have hD := drp_canon h s
  have hap := drp_apart (M := M) hs
  have hAB := before_behind s (drp M s)
  have hDs := hD
  rw [← hAB] at hDs
  have hC := canon_append.1 hDs
  have hb : ∀ p ∈ before s (drp M s), p.1.2 ≤ s.1 := fun p hp => by
    have h1 := before_lt p hp
    rcases hap p (by rw [← hAB]; simp [hp]) with h2 | h2
    · exact h2
    · omega
  have hq : ∀ q ∈ behind s (drp M s), s.2 ≤ q.1.1 := fun q hq => by
    have h1 := behind_ge hD.rise q hq
    have h3 := hC.2.1.rise.lt q hq
    rcases hap q (by rw [← hAB]; simp [hq]) with h2 | h2
    · omega
    · exact h2
  obtain ⟨t, B', h1, h2, h3, h4⟩ := glu_behind (A := before s (drp M s)) (v := v) hs hC.2.1 hq
  have e1 : glueAt (before s (drp M s) ++ (s, v) :: behind s (drp M s)) ((before s (drp M s)).length + 1) = before s (drp M s) ++ ((s.1, t), v) :: B' := by
    unfold glueAt
    rw [← h1]
    have e0 : before s (drp M s) ++ (s, v) :: behind s (drp M s) = (before s (drp M s) ++ [(s, v)]) ++ behind s (drp M s) := by simp
    rw [e0, List.take_left' (by simp), List.drop_left' (by simp)]
  have e2 : putC M s v = glu (before s (drp M s)) (((s.1, t), v) :: B') := by
    unfold putC
    simp only [e1]
    unfold glueAt
    rw [List.take_left' rfl, List.drop_left' rfl]
  have hlast : ∀ p ∈ before s (drp M s), ∀ q ∈ ((s.1, t), v) :: B', p.1.2 ≤ q.1.1 := by
    intro p hp q hq
    have := hb p hp
    rcases List.mem_cons.1 hq with rfl | hq
    · exact this
    · have := (h3.2.1 q hq).1; have h5 := h3.1; simp only at this h5; omega
  obtain ⟨g1, g2⟩ := glu_ahead hC.1 h3 hlast
  rw [e2]
  refine ⟨g1, fun x => ?_⟩
  rw [g2, get_append, h4]
  have hd := drp_get h.rise s x
  have e3 : get (drp M s) x = (get (before s (drp M s)) x).or (get (behind s (drp M s)) x) := by
    conv => lhs; rw [← hAB]
    exact get_append _ _ _
  by_cases hx : s.1 ≤ x ∧ x < s.2
  · rw [get_in (p := (s, v)) hx.1 hx.2, if_pos hx]
    have : get (before s (drp M s)) x = none := get_none fun p hp => by have := hb p hp; unfold Sin; omega
    rw [this]; rfl
  · rw [get_out (p := (s, v)) hx, if_neg hx, ← e3, hd, if_neg hx]
end
end Go.Proofs.Ytdijaillcajpaaa
