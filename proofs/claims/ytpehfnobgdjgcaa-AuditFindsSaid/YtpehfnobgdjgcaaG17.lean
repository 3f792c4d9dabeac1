/-
  The program's map of rows of puts.
-/
import Derived.Test.YtpehfnobgdjgcaaG16
namespace Go.Proofs.Ytpehfnobgdjgcaa
open Go.RowKit

/-- A row of puts, as an element. -/
structure PRow where
  a : Option Addr
  n : Nat
  c : Nat
  l : List PutV
deriving Inhabited
def encPR (p : PRow) : List Value := [.slice p.a p.n p.c]
theorem encPR_len (p : PRow) : (encPR p).length = 1 := rfl
theorem encPR_one (p : PRow) : ∀ v ∈ encPR p, v.oneCell' = true := by intro v hv; simp [encPR] at hv; subst hv; rfl
/-- A row of such rows, as a map's value. -/
structure MRow where
  a : Option Addr
  n : Nat
  c : Nat
  l : List PRow
deriving Inhabited
def encMR (m : MRow) : Value := .slice m.a m.n m.c
def MRow.nil : MRow := ⟨none, 0, 0, []⟩
abbrev OwnPR (w : World) (base : Nat) := OwnR encPR 1 w base 32
theorem infoPuts : (Try.prog.info? 32).map (fun i => (i.zero, i.size, i.bytes)) = some (some (.slice none 0 0), 1, 24) := by kernel_rfl

/-- A row of the map is as the lives say. -/
structure RowOk (W : World) (base : Nat) (p : List LifeV) (block id : Int) (m : MRow) : Prop where
  own : OwnPR W base m.a m.n m.c m.l
  says : m.l.map PRow.l = rowsOf p id block
  puts : ∀ q ∈ m.l, OwnP W base q.a q.n q.c q.l
/-- What the map of rows holds behind the lives p. -/
structure HInv (W : World) (base bm : Nat) (L : List (Int × MRow)) (p : List LifeV) (block : Int) : Prop where
  map : MapIs encZ encMR W bm L
  keys : ∀ id, mget L id = none ↔ ∀ y ∈ p, y.sh ≠ id
  row : ∀ id m, mget L id = some m → RowOk W base p block id m
  apart : ∀ id id' m m', mget L id = some m → mget L id' = some m' → id ≠ id' → ∀ i, Blk m.a i → ¬ Blk m'.a i

theorem RowOk.non {W W' : World} {base : Nat} {p : List LifeV} {block id : Int} {m : MRow} (h : RowOk W base p block id m) (k : Kp Non W W') : RowOk W' base p block id m :=
  ⟨h.own.non k, h.says, fun q hq => (h.puts q hq).non k⟩
theorem HInv.non {W W' : World} {base bm : Nat} {L : List (Int × MRow)} {p : List LifeV} {block : Int} (h : HInv W base bm L p block) (k : Kp Non W W') : HInv W' base bm L p block :=
  ⟨h.map.non k, h.keys, fun id m hm => (h.row id m hm).non k, h.apart⟩
theorem RowOk.len {W : World} {base : Nat} {p : List LifeV} {block id : Int} {m : MRow} (h : RowOk W base p block id m) : m.n ≤ p.length := by
  have h1 := h.own.len encPR_len (by omega)
  have h2 := congrArg List.length h.says
  rw [List.length_map] at h2
  have h3 : (rowsOf p id block).length ≤ p.length := by unfold rowsOf; rw [List.length_map]; exact List.length_filter_le _ _
  omega
theorem mget_getD (L : List (Int × MRow)) (id : Int) : ((mget L id).map encMR).getD (.slice none 0 0) = encMR ((mget L id).getD MRow.nil) := by cases mget L id <;> rfl
/-- The row that a look-up finds. -/
theorem HInv.found {W : World} {base bm : Nat} {L : List (Int × MRow)} {p : List LifeV} {block : Int} (h : HInv W base bm L p block) (id : Int) : RowOk W base p block id ((mget L id).getD MRow.nil) := by
  cases hm : mget L id with
  | none => exact ⟨OwnR.nil _ _ _, by rw [rowsOf_nil ((h.keys id).1 hm)]; rfl, fun q hq => by cases hq⟩
  | some m => exact h.row id m hm
theorem blk_tag {W : World} {base base' : Nat} {a b : Option Addr} {n c n' c' : Nat} {l : List PRow} {l' : List PutV} (h : OwnPR W base a n c l) (h' : OwnP W base' b n' c' l') : ∀ i, Blk b i → ¬ Blk a i := by
  intro i hb ha
  obtain ⟨cs, h1⟩ := h.tag i ha
  obtain ⟨cs', h2⟩ := h'.tag i hb
  rw [h1] at h2
  simp only [Option.some.injEq, Obj.cells.injEq] at h2
  exact absurd h2.2.1 (by decide)

/-- One more life. V: the world behind the call of puts and the new element; W3: behind the append; W4: behind the update. -/
theorem HInv.step {V W3 W4 : World} {base bm : Nat} {L : List (Int × MRow)} {p : List LifeV} {block : Int} (h : HInv V base bm L p block) (hb : bm < base) (y : LifeV) {q : PRow} (hq : OwnP V base q.a q.n q.c q.l) (hql : q.l = putsL y block)
    {m : MRow} (hm : m = (mget L y.sh).getD MRow.nil) {a' : Option Addr} {c' : Nat} (hO : OwnPR W3 base a' (m.n + 1) c' (m.l ++ [q])) (hk : Kp (Blk m.a) V W3) (ha : a' = m.a ∨ a' = some ⟨V.heap.size, 0, none⟩)
    (hM : MapIs encZ encMR W4 bm (mput L y.sh ⟨a', m.n + 1, c', m.l ++ [q]⟩)) (hk4 : Kp (One bm) W3 W4) : HInv W4 base bm (mput L y.sh ⟨a', m.n + 1, c', m.l ++ [q]⟩) (p ++ [y]) block := by
  have hF := h.found y.sh
  rw [← hm] at hF
  have hbl := hF.own.blk
  have h4 : ∀ {i : Nat}, base ≤ i → ¬ One bm i := fun hi e => by have : _ = bm := e; omega
  have hP : ∀ {q' : PRow}, OwnP V base q'.a q'.n q'.c q'.l → OwnP W4 base q'.a q'.n q'.c q'.l := fun {q'} hq' =>
    (hq'.kp hk fun i hi => blk_tag hF.own hq' i hi).kp hk4 fun i hi => h4 (hq'.blk i hi).1
  refine ⟨hM, fun id => ?_, fun id m' hm' => ?_, fun id id' m1 m2 h1 h2 hne => ?_⟩
  · rw [mget_put]
    by_cases hid : y.sh = id
    · simp only [hid, if_true]
      constructor
      · intro e; cases e
      · intro e; exact absurd hid (e y (by simp))
    · rw [if_neg hid, h.keys id]
      constructor
      · intro e z hz
        rcases List.mem_append.1 hz with hz | hz
        · exact e z hz
        · simp at hz; subst hz; exact hid
      · exact fun e z hz => e z (List.mem_append.2 (.inl hz))
  · rw [mget_put] at hm'
    by_cases hid : y.sh = id
    · subst hid
      simp only [if_true, Option.some.injEq] at hm'
      subst hm'
      refine ⟨hO.kp hk4 fun i hi => h4 (hO.blk i hi).1, ?_, fun q' hq' => ?_⟩
      · rw [List.map_append, hF.says, rowsOf_snoc, if_pos rfl, ← hql]; rfl
      · rcases List.mem_append.1 hq' with hq' | hq'
        · exact hP (hF.puts q' hq')
        · simp at hq'; subst hq'; exact hP hq
    · rw [if_neg hid] at hm'
      have hr := h.row id m' hm'
      refine ⟨(hr.own.kp hk fun i hi hi' => ?_).kp hk4 fun i hi => h4 (hr.own.blk i hi).1, ?_, fun q' hq' => hP (hr.puts q' hq')⟩
      · cases hg : mget L y.sh with
        | none => rw [hg] at hm; subst hm; obtain ⟨ad, e, _⟩ := hi'; cases e
        | some m0 => rw [hg] at hm; exact h.apart id y.sh m' m hm' (by rw [hg]; exact congrArg some hm.symm) (fun e => hid e.symm) i hi hi'
      · rw [rowsOf_snoc, if_neg hid]; exact hr.says
  · have hnew : ∀ id m', mget L id = some m' → id ≠ y.sh → ∀ i, Blk m'.a i → ¬ Blk a' i := fun id m' hg hne i hi hi' => by
      rcases ha with rfl | rfl
      · cases hg0 : mget L y.sh with
        | none => rw [hg0] at hm; subst hm; obtain ⟨ad, e, _⟩ := hi'; cases e
        | some m0 => rw [hg0] at hm; exact h.apart id y.sh m' m hg (by rw [hg0]; exact congrArg some hm.symm) hne i hi hi'
      · obtain ⟨ad, e, rfl⟩ := hi'
        cases e
        exact absurd ((h.row id m' hg).own.blk _ hi).2 (Nat.lt_irrefl _)
    rw [mget_put] at h1 h2
    by_cases e1 : y.sh = id
    · by_cases e2 : y.sh = id'
      · exact absurd (e1.symm.trans e2) hne
      · rw [if_pos e1] at h1
        rw [if_neg e2] at h2
        cases h1
        exact fun i hi hi' => hnew id' m2 h2 (fun e => e2 e.symm) i hi' hi
    · rw [if_neg e1] at h1
      by_cases e2 : y.sh = id'
      · rw [if_pos e2] at h2
        cases h2
        exact hnew id m1 h1 (fun e => e1 e.symm)
      · rw [if_neg e2] at h2
        exact h.apart id id' m1 m2 h1 h2 hne
theorem tag_ne {α β : Type} {encA : α → List Value} {encB : β → List Value} {k k' : Nat} {W : World} {base base' : Nat} {e e' : TypeId} {a b : Option Addr} {n c n' c' : Nat} {l : List α} {l' : List β} (h : OwnR encA k W base e a n c l) (h' : OwnR encB k' W base' e' b n' c' l') (hne : e ≠ e') : ∀ i, Blk b i → ¬ Blk a i := by
  intro i hb ha
  obtain ⟨cs, h1⟩ := h.tag i ha
  obtain ⟨cs', h2⟩ := h'.tag i hb
  rw [h1] at h2
  simp only [Option.some.injEq, Obj.cells.injEq] at h2
  exact hne h2.2.1
/-- Numbers are appended elsewhere. -/
theorem HInv.ints {W W' : World} {base bm : Nat} {L : List (Int × MRow)} {p : List LifeV} {block : Int} (h : HInv W base bm L p block) (hb : bm < base) {ax : Option Addr} {n cx : Nat} {I : List Int} (hI : OwnI W base ax n cx I) (k : Kp (Blk ax) W W') : HInv W' base bm L p block :=
  ⟨h.map.kp k fun hi => by have := (hI.blk bm hi).1; omega, h.keys, fun id m hm => ⟨(h.row id m hm).own.kp k (tag_ne hI (h.row id m hm).own (by decide)), (h.row id m hm).says, fun q hq => ((h.row id m hm).puts q hq).kp k (tag_ne hI ((h.row id m hm).puts q hq) (by decide))⟩, h.apart⟩
theorem RowOk.zero {W : World} {base : Nat} {p : List LifeV} {block id : Int} {m : MRow} (h : RowOk W base p block id m) : m.n = 0 ↔ ∀ y ∈ p, y.sh ≠ id := by
  have h1 := h.own.len encPR_len (by omega)
  have h2 := congrArg List.length h.says
  rw [List.length_map] at h2
  constructor
  · intro h0 y hy e
    have : rowsOf p id block = [] := List.eq_nil_of_length_eq_zero (by omega)
    unfold rowsOf at this
    have := List.map_eq_nil_iff.1 this
    have := List.filter_eq_nil_iff.1 this y hy
    simp [e] at this
  · intro h0
    rw [rowsOf_nil h0, List.length_nil] at h2
    omega
/-- The numbers of the lives so far. -/
def IdsOf (I : List Int) (p : List LifeV) : Prop := I.Nodup ∧ ∀ z, z ∈ I ↔ ∃ y ∈ p, y.sh = z
theorem IdsOf.new {I : List Int} {p : List LifeV} (h : IdsOf I p) (x : LifeV) (hx : ∀ y ∈ p, y.sh ≠ x.sh) : IdsOf (I ++ [x.sh]) (p ++ [x]) := by
  refine ⟨List.nodup_append.2 ⟨h.1, by simp, fun a ha b hb => ?_⟩, fun z => ?_⟩
  · simp at hb
    subst hb
    obtain ⟨y, hy, rfl⟩ := (h.2 a).1 ha
    exact hx y hy
  · rw [List.mem_append, h.2 z]
    simp only [List.mem_append, List.mem_singleton]
    constructor
    · rintro (⟨y, hy, e⟩ | rfl)
      · exact ⟨y, .inl hy, e⟩
      · exact ⟨x, .inr rfl, rfl⟩
    · rintro ⟨y, hy | rfl, e⟩
      · exact .inl ⟨y, hy, e⟩
      · exact .inr e.symm
theorem IdsOf.old {I : List Int} {p : List LifeV} (h : IdsOf I p) (x : LifeV) (hx : ¬ ∀ y ∈ p, y.sh ≠ x.sh) : IdsOf I (p ++ [x]) := by
  refine ⟨h.1, fun z => ?_⟩
  rw [h.2 z]
  simp only [List.mem_append, List.mem_singleton]
  constructor
  · rintro ⟨y, hy, e⟩; exact ⟨y, .inl hy, e⟩
  · rintro ⟨y, hy | rfl, e⟩
    · exact ⟨y, hy, e⟩
    · apply Classical.byContradiction
      intro hno
      exact hx fun u hu e2 => hno ⟨u, hu, e2.trans e⟩
end Go.Proofs.Ytpehfnobgdjgcaa
