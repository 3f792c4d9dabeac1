/-
  Plain laws of the map of shards: what a change makes of it, as lists.
-/
import Derived.Test.YtdijaillcajpaaaA1
namespace Go.Proofs.Ytdijaillcajpaaa

/-- A shard that there was. -/
structure Org where
  id : Int
  fr : Int
  to : Int
  me : List Int
/-- A shard. -/
structure Shd where
  id : Int
  fr : Int
  to : Int
  me : List Int
  past : List Org
/-- The map, its shards by rising blocks. -/
structure Atl where
  bl : Int
  ep : Int
  nx : Int
  op : List Int
  sh : List Shd
/-- A change. -/
structure Chg where
  ki : Int
  sh : Int
  ot : Int
  at_ : Int
  out : Int
  inn : Int
def Shd.org (s : Shd) : Org := ⟨s.id, s.fr, s.to, s.me⟩
def pc (s : Shd) : Sp × Int := ((s.fr, s.to), s.id)

/-- Rows of members. -/
def Mems (l : List Int) : Prop := (∀ x ∈ l, 0 ≤ x ∧ x < 7) ∧ l.Pairwise (· < ·) ∧ l.length % 2 = 1
instance (l : List Int) : Decidable (Mems l) := by unfold Mems; infer_instance
def memsB (l : List Int) : Bool := decide (Mems l)

/-- The numbers of nodes. -/
def nodes : List Int := [0, 1, 2, 3, 4, 5, 6]
/-- Members with one in the place of another one. -/
def swapL (l : List Int) (out inn : Int) : Option (List Int) :=
  if out ∈ l ∧ inn ∉ l ∧ 0 ≤ inn ∧ inn < 7 then some (nodes.filter fun n => decide ((n ∈ l ∧ n ≠ out) ∨ n = inn)) else none

def namedB (c : Chg) : Bool :=
  decide (1 ≤ c.ki ∧ c.ki ≤ 5) && (decide (c.ki = 1) || decide (c.at_ = 0)) && (decide (c.ki = 2) || decide (c.ot = 0)) && (decide (c.ki = 3) || (decide (c.out = 0) && decide (c.inn = 0))) && (!decide (c.ki = 5) || decide (c.sh = 0))

/-- A row parted at a shard. -/
def cutS : List Shd → Int → Option (List Shd × Shd × List Shd)
  | [], _ => none
  | s :: l, id => if s.id = id then some ([], s, l) else (cutS l id).map fun p => (s :: p.1, p.2)
theorem cutS_some {l : List Shd} {id : Int} {p : List Shd × Shd × List Shd} (h : cutS l id = some p) : l = p.1 ++ p.2.1 :: p.2.2 ∧ p.2.1.id = id ∧ ∀ s ∈ p.1, s.id ≠ id := by
  induction l generalizing p with
  | nil => cases h
  | cons s l ih =>
    unfold cutS at h
    by_cases hs : s.id = id
    · rw [if_pos hs] at h
      cases h
      exact ⟨rfl, hs, fun _ h => by cases h⟩
    · rw [if_neg hs] at h
      cases hc : cutS l id with
      | none => rw [hc] at h; cases h
      | some q =>
        rw [hc] at h
        cases h
        obtain ⟨h1, h2, h3⟩ := ih hc
        refine ⟨by rw [h1]; rfl, h2, fun t ht => ?_⟩
        rcases List.mem_cons.1 ht with rfl | ht
        · exact hs
        · exact h3 t ht
theorem cutS_none {l : List Shd} {id : Int} : cutS l id = none ↔ ∀ s ∈ l, s.id ≠ id := by
  induction l with
  | nil => simp [cutS]
  | cons s l ih =>
    unfold cutS
    by_cases hs : s.id = id
    · rw [if_pos hs]; simp [hs]
    · rw [if_neg hs, Option.map_eq_none_iff, ih]
      simp [hs]
theorem cutS_mk {pre post : List Shd} {s : Shd} (h : ∀ t ∈ pre, t.id ≠ s.id) : cutS (pre ++ s :: post) s.id = some (pre, s, post) := by
  induction pre with
  | nil => simp [cutS]
  | cons t pre ih =>
    rw [List.cons_append, cutS, if_neg (h t List.mem_cons_self), ih fun u hu => h u (List.mem_cons_of_mem _ hu)]
    rfl

/-- What is to be done: the spans and the members of the new shards, the shards that are gone, what stands behind them; or an error. -/
structure Todo where
  sp : List Sp
  me : List Int
  gone : List Shd
  post : List Shd
def planA (l : List Shd) (s : Shd) (post : List Shd) (c : Chg) : Int ⊕ Todo :=
  if c.ki = 1 then (if c.at_ ≤ s.fr ∨ s.to ≤ c.at_ then .inl 1 else .inr ⟨[(s.fr, c.at_), (c.at_, s.to)], s.me, [s], post⟩)
  else if c.ki = 2 then
    match cutS l c.ot with
    | none => .inl 8
    | some q => if q.2.1.fr = s.to then .inr ⟨[(s.fr, q.2.1.to)], s.me, [s, q.2.1], post.tail⟩ else .inl 1
  else if c.ki = 3 then
    match swapL s.me c.out c.inn with
    | none => .inl 1
    | some me => .inr ⟨[(s.fr, s.to)], me, [s], post⟩
  else .inr ⟨[(s.fr, s.to)], s.me, [s], post⟩
/-- New shards. -/
def newS (nx : Int) (me : List Int) (past : List Org) : List Sp → List Shd
  | [] => []
  | p :: r => ⟨nx, p.1, p.2, me, past⟩ :: newS (nx + 1) me past r
def most30 : Int := 1073741824
def applyA (A : Atl) (c : Chg) : Int × Atl :=
  if namedB c = false then (1, A)
  else if c.ki = 5 then (if A.op = [] then (8, A) else (0, { A with op := [] }))
  else if A.op = [] then
    match cutS A.sh c.sh with
    | none => (8, A)
    | some (pre, s, post) =>
      match planA A.sh s post c with
      | .inl e => (e, A)
      | .inr t =>
        if most30 < A.nx ∨ most30 < A.ep then (2, A)
        else (0, { bl := A.bl, ep := A.ep + 1, nx := A.nx + t.sp.length, op := (newS A.nx t.me (t.gone.map Shd.org) t.sp).map (·.id), sh := pre ++ newS A.nx t.me (t.gone.map Shd.org) t.sp ++ t.post })
  else (7, A)

/-- Shards one behind the other, from one block to another. -/
def RowS : Int → List Shd → Int → Prop
  | a, [], b => a = b
  | a, s :: l, b => s.fr = a ∧ s.fr < s.to ∧ RowS s.to l b
theorem RowS.le : ∀ {l : List Shd} {a b : Int}, RowS a l b → a ≤ b
  | [], a, b, h => by have h : a = b := h; omega
  | s :: l, a, b, h => by obtain ⟨h1, h2, h3⟩ := h; have := h3.le; omega
theorem rowS_append : ∀ {l m : List Shd} {a b : Int}, RowS a (l ++ m) b ↔ ∃ c, RowS a l c ∧ RowS c m b
  | [], m, a, b => ⟨fun h => ⟨a, rfl, h⟩, fun ⟨c, h1, h2⟩ => by have h1 : a = c := h1; rw [h1]; exact h2⟩
  | s :: l, m, a, b => by
    show s.fr = a ∧ s.fr < s.to ∧ RowS s.to (l ++ m) b ↔ _
    rw [rowS_append]
    constructor
    · rintro ⟨h1, h2, c, h3, h4⟩; exact ⟨c, ⟨h1, h2, h3⟩, h4⟩
    · rintro ⟨c, ⟨h1, h2, h3⟩, h4⟩; exact ⟨h1, h2, c, h3, h4⟩
theorem RowS.in_ : ∀ {l : List Shd} {a b : Int}, RowS a l b → ∀ s ∈ l, a ≤ s.fr ∧ s.fr < s.to ∧ s.to ≤ b
  | [], _, _, _, _, h => by cases h
  | t :: l, a, b, h, s, hs => by
    obtain ⟨h1, h2, h3⟩ := h
    rcases List.mem_cons.1 hs with rfl | hs
    · have := h3.le; exact ⟨by omega, h2, this⟩
    · have := h3.in_ s hs; exact ⟨by omega, this.2⟩
theorem RowS.len : ∀ {l : List Shd} {a b : Int}, RowS a l b → (l.length : Int) ≤ b - a
  | [], a, b, h => by have h : a = b := h; simp; omega
  | s :: l, a, b, h => by obtain ⟨h1, h2, h3⟩ := h; have := h3.len; simp; omega

/-- Pieces that rise, with numbers each their own. -/
structure RowD (l : List Shd) : Prop where
  rise : Rise (l.map pc)
  ids : (l.map (·.id)).Nodup
theorem RowD.canon {l : List Shd} (h : RowD l) : Canon (l.map pc) := by
  obtain ⟨h1, h2⟩ := h
  induction l with
  | nil => trivial
  | cons s l ih =>
    simp only [List.map_cons, List.nodup_cons] at h2
    refine ⟨h1.1, fun q hq => ⟨h1.2.1 q hq, fun _ e => h2.1 ?_⟩, ih h1.2.2 h2.2⟩
    obtain ⟨t, ht, rfl⟩ := List.mem_map.1 hq
    exact List.mem_map.2 ⟨t, ht, e.symm⟩
theorem RowD.drop {pre post : List Shd} {s : Shd} (h : RowD (pre ++ s :: post)) : RowD (pre ++ post) := by
  obtain ⟨h1, h2⟩ := h
  simp only [List.map_append, List.map_cons] at h1 h2
  constructor
  · rw [List.map_append]
    have ha := rise_append.1 h1
    exact rise_append.2 ⟨ha.1, ha.2.1.2.2, fun p hp q hq => ha.2.2 p hp q (List.mem_cons_of_mem _ hq)⟩
  · rw [List.map_append]
    exact h2.sublist (List.Sublist.append_left (List.sublist_cons_self _ _) _)
theorem get_mid {A B : List (Sp × Int)} {p : Sp × Int} {x : Int} (hx : ¬ Sin p.1 x) : get (A ++ p :: B) x = get (A ++ B) x := by
  rw [get_append, get_append]
  congr 1
  exact get_out hx
theorem get_hole {A B : List (Sp × Int)} {p : Sp × Int} (h : Rise (A ++ p :: B)) {x : Int} (hx : Sin p.1 x) : get (A ++ B) x = none := by
  have ha := rise_append.1 h
  refine get_none fun q hq hs => ?_
  unfold Sin at hx hs
  rcases List.mem_append.1 hq with hq | hq
  · have := ha.2.2 q hq p List.mem_cons_self; omega
  · have := ha.2.1.2.1 q hq; omega
/-- The pieces behind a drop. -/
theorem drp_one {pre post : List Shd} {s : Shd} (h : RowD (pre ++ s :: post)) : drp ((pre ++ s :: post).map pc) (s.fr, s.to) = (pre ++ post).map pc := by
  refine canon_ext (drp_canon h.canon _) h.drop.canon fun x => ?_
  rw [drp_get h.rise]
  have h1 := h.rise
  simp only [List.map_append, List.map_cons] at h1 ⊢
  by_cases hx : s.fr ≤ x ∧ x < s.to
  · rw [if_pos hx, get_hole h1 (p := pc s) hx]
  · rw [if_neg hx, get_mid (p := pc s) hx]
/-- The pieces behind a put. -/
theorem put_one {pre post : List Shd} {s : Shd} (h : RowD (pre ++ s :: post)) : putC ((pre ++ post).map pc) (s.fr, s.to) s.id = (pre ++ s :: post).map pc := by
  have h1 := h.rise
  have hs : s.fr < s.to := h1.lt (pc s) (by simp)
  obtain ⟨g1, g2⟩ := putC_law h.drop.canon (s := (s.fr, s.to)) hs s.id
  refine canon_ext g1 h.canon fun x => ?_
  rw [g2]
  simp only [List.map_append, List.map_cons] at h1 ⊢
  by_cases hx : s.fr ≤ x ∧ x < s.to
  · rw [if_pos hx, get_append, get_in (p := pc s) hx.1 hx.2]
    have : get (pre.map pc) x = none := get_none fun q hq hq2 => by
      have := (rise_append.1 h1).2.2 q hq (pc s) List.mem_cons_self
      have e : (pc s).1.1 = s.fr := rfl
      unfold Sin at hq2
      omega
    rw [this]; rfl
  · rw [if_neg hx, get_mid (p := pc s) hx]

theorem RowS.rise : ∀ {l : List Shd} {a b : Int}, RowS a l b → Rise (l.map pc)
  | [], _, _, _ => trivial
  | s :: l, a, b, h => by
    obtain ⟨h1, h2, h3⟩ := h
    refine ⟨h2, fun q hq => ?_, h3.rise⟩
    obtain ⟨t, ht, rfl⟩ := List.mem_map.1 hq
    exact (h3.in_ t ht).1
end Go.Proofs.Ytdijaillcajpaaa
