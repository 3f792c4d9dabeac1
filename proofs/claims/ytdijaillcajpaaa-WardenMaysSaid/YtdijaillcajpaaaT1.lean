/-
  Plain laws of the map of shards: what may be, and that a change leaves it so.
-/
import Derived.Test.YtdijaillcajpaaaT0
namespace Go.Proofs.Ytdijaillcajpaaa

theorem mem_nodes {x : Int} : x ∈ nodes ↔ 0 ≤ x ∧ x < 7 := by
  unfold nodes
  simp only [List.mem_cons, List.not_mem_nil, or_false]
  omega
theorem nodes_rise : nodes.Pairwise (· < ·) := by decide
theorem nodup_of_lt {l : List Int} (h : l.Pairwise (· < ·)) : l.Nodup := h.imp fun h => by omega
theorem rise_ext {a b : List Int} (ha : a.Pairwise (· < ·)) (hb : b.Pairwise (· < ·)) (h : ∀ x, x ∈ a ↔ x ∈ b) : a = b := by
  induction a generalizing b with
  | nil =>
    cases b with
    | nil => rfl
    | cons y b => exact absurd ((h y).2 List.mem_cons_self) (by simp)
  | cons x a ih =>
    cases b with
    | nil => exact absurd ((h x).1 List.mem_cons_self) (by simp)
    | cons y b =>
      have ha1 := List.pairwise_cons.1 ha
      have hb1 := List.pairwise_cons.1 hb
      have e : x = y := by
        rcases List.mem_cons.1 ((h x).1 List.mem_cons_self) with e | e
        · exact e
        · rcases List.mem_cons.1 ((h y).2 List.mem_cons_self) with e2 | e2
          · exact e2.symm
          · have := hb1.1 x e; have := ha1.1 y e2; omega
      subst e
      congr 1
      refine ih ha1.2 hb1.2 fun z => ?_
      have hz := h z
      rw [List.mem_cons, List.mem_cons] at hz
      constructor
      · intro q
        rcases hz.1 (.inr q) with e | e
        · subst e; have := ha1.1 z q; omega
        · exact e
      · intro q
        rcases hz.2 (.inr q) with e | e
        · subst e; have := hb1.1 z q; omega
        · exact e
def swapF (l : List Int) (out inn : Int) : List Int := nodes.filter fun n => decide ((n ∈ l ∧ n ≠ out) ∨ n = inn)
theorem mem_swapF {l : List Int} {out inn x : Int} (h : Mems l) (hi : 0 ≤ inn ∧ inn < 7) : x ∈ swapF l out inn ↔ (x ∈ l ∧ x ≠ out) ∨ x = inn := by
  unfold swapF
  rw [List.mem_filter, mem_nodes, decide_eq_true_iff]
  constructor
  · exact fun h => h.2
  · intro q
    refine ⟨?_, q⟩
    rcases q with q | q
    · exact h.1 x q.1
    · subst q; exact hi
theorem swapF_rise (l : List Int) (out inn : Int) : (swapF l out inn).Pairwise (· < ·) := nodes_rise.filter _
theorem swapF_perm {l : List Int} {out inn : Int} (h : Mems l) (hn : inn ∉ l) (hi : 0 ≤ inn ∧ inn < 7) : (swapF l out inn).Perm (inn :: l.erase out) := by
  have hd := nodup_of_lt h.2.1
  refine (List.perm_ext_iff_of_nodup (nodup_of_lt (swapF_rise _ _ _)) ?_).2 fun x => ?_
  · rw [List.nodup_cons]
    exact ⟨fun q => hn (List.mem_of_mem_erase q), hd.erase _⟩
  · rw [mem_swapF h hi, List.mem_cons, hd.mem_erase_iff]
    constructor
    · rintro (⟨h1, h2⟩ | h1)
      · exact .inr ⟨h2, h1⟩
      · exact .inl h1
    · rintro (h1 | ⟨h1, h2⟩)
      · exact .inr h1
      · exact .inl ⟨h2, h1⟩
theorem swapL_mems {l r : List Int} {out inn : Int} (h : Mems l) (hs : swapL l out inn = some r) : Mems r := by
  unfold swapL at hs
  split at hs
  · rename_i hc
    obtain ⟨h1, h2, h3⟩ := hc
    have hs : some (swapF l out inn) = some r := hs
    cases hs
    refine ⟨fun x hx => ?_, swapF_rise _ _ _, ?_⟩
    · rcases (mem_swapF h h3).1 hx with q | q
      · exact h.1 x q.1
      · subst q; exact h3
    · rw [(swapF_perm h h2 h3).length_eq, List.length_cons, List.length_erase_of_mem h1]
      have := List.length_pos_of_mem h1
      have h4 := h.2.2
      have e : l.length - 1 + 1 = l.length := by omega
      rw [e]
      exact h4
  · cases hs

/-- Origins as they should be, with numbers below one. -/
def OrgOk (below : Int) (o : Org) : Prop := 1 ≤ o.id ∧ o.id < below ∧ 0 ≤ o.fr ∧ o.fr < o.to ∧ o.to ≤ 256 ∧ Mems o.me
def ChainO : List Org → Prop
  | [] => True
  | [_] => True
  | o :: p :: l => o.to = p.fr ∧ ChainO (p :: l)
/-- A map as it should be. -/
structure Good (A : Atl) : Prop where
  row : RowS 0 A.sh A.bl
  ids : (A.sh.map (·.id)).Nodup
  bd : ∀ s ∈ A.sh, 1 ≤ s.id ∧ s.id < A.nx
  mem : ∀ s ∈ A.sh, Mems s.me
  past : ∀ s ∈ A.sh, s.past.length ≤ 2 ∧ (∀ o ∈ s.past, OrgOk s.id o) ∧ ChainO s.past
  op1 : A.op.Pairwise (· < ·)
  op2 : ∀ x ∈ A.op, ∃ s ∈ A.sh, s.id = x
  op3 : A.op.length ≤ 2
  bl1 : 1 ≤ A.bl
  bl2 : A.bl ≤ 256
  ep1 : 1 ≤ A.ep
  ep2 : A.ep ≤ most30 + 1
  nx1 : 2 ≤ A.nx
  nx2 : A.nx ≤ most30 + 2
theorem Good.rowD {A : Atl} (h : Good A) : RowD A.sh := ⟨h.row.rise, h.ids⟩
theorem Good.len {A : Atl} (h : Good A) : A.sh.length ≤ 256 := by have := h.row.len; have := h.bl2; omega
theorem Good.pos {A : Atl} (h : Good A) : A.sh ≠ [] := fun e => by
  have h1 := h.row
  rw [e] at h1
  have h1 : (0 : Int) = A.bl := h1
  have := h.bl1
  omega

def newA (bl : Int) (me : List Int) : Atl := ⟨bl, 1, 2, [], [⟨1, 0, bl, me, []⟩]⟩
theorem newA_good {bl : Int} {me : List Int} (h1 : 1 ≤ bl) (h2 : bl ≤ 256) (hm : Mems me) : Good (newA bl me) where
  row := ⟨rfl, by show (0 : Int) < bl; omega, rfl⟩
  ids := by simp [newA]
  bd := by intro s hs; simp [newA] at hs; subst hs; simp [newA]
  mem := by intro s hs; simp [newA] at hs; subst hs; exact hm
  past := by intro s hs; simp [newA] at hs; subst hs; exact ⟨by simp, (by intro o ho; cases ho), trivial⟩
  op1 := List.Pairwise.nil
  op2 := by intro x hx; cases hx
  op3 := by simp [newA]
  bl1 := h1
  bl2 := h2
  ep1 := by simp [newA]
  ep2 := by simp [newA, most30]
  nx1 := by simp [newA]
  nx2 := by simp [newA, most30]

/-- Spans one behind the other. -/
def RowP : Int → List Sp → Int → Prop
  | a, [], b => a = b
  | a, s :: l, b => s.1 = a ∧ s.1 < s.2 ∧ RowP s.2 l b
/-- What a plan is. -/
structure PlanOk (A : Atl) (pre : List Shd) (s : Shd) (post : List Shd) (t : Todo) : Prop where
  all : A.sh = pre ++ t.gone ++ t.post
  gone : t.gone = [s] ∧ t.post = post ∨ ∃ o, t.gone = [s, o] ∧ post = o :: t.post ∧ o.fr = s.to
  len : 1 ≤ t.sp.length ∧ t.sp.length ≤ 2
  row : ∃ b, RowP s.fr t.sp b ∧ RowS s.fr t.gone b
  me : Mems t.me
theorem Good.mid {A : Atl} (h : Good A) {pre post : List Shd} {s : Shd} (e : A.sh = pre ++ s :: post) : RowS 0 pre s.fr ∧ s.fr < s.to ∧ RowS s.to post A.bl := by
  have h1 := h.row
  rw [e] at h1
  obtain ⟨c, h2, h3, h4, h5⟩ := rowS_append.1 h1
  rw [← h3] at h2
  exact ⟨h2, h4, h5⟩
theorem plan_ok {A : Atl} (h : Good A) {pre post : List Shd} {s : Shd} {c : Chg} (e : A.sh = pre ++ s :: post) {t : Todo} (ht : planA A.sh s post c = .inr t) : PlanOk A pre s post t := by
  obtain ⟨r1, r2, r3⟩ := h.mid e
  have hs : s ∈ A.sh := by rw [e]; simp
  have hm := h.mem s hs
  unfold planA at ht
  split at ht
  · split at ht
    · cases ht
    · rename_i hc
      simp only [Sum.inr.injEq] at ht
      subst ht
      exact ⟨by simp [e], .inl ⟨rfl, rfl⟩, by simp, ⟨s.to, ⟨rfl, by show s.fr < c.at_; omega, rfl, by show c.at_ < s.to; omega, rfl⟩, rfl, r2, rfl⟩, hm⟩
  · split at ht
    · split at ht
      · cases ht
      · rename_i q hq
        split at ht
        · rename_i ho
          simp only [Sum.inr.injEq] at ht
          subst ht
          obtain ⟨q1, q2, q3⟩ := cutS_some hq
          have hoA : q.2.1 ∈ A.sh := by rw [q1]; simp
          have hpost : post = q.2.1 :: post.tail := by
            have hmo := hoA
            rw [e] at hmo
            rcases List.mem_append.1 hmo with hmo | hmo
            · have := r1.in_ _ hmo; omega
            · rcases List.mem_cons.1 hmo with e1 | hmo
              · rw [e1] at ho; omega
              · cases post with
                | nil => cases hmo
                | cons u r =>
                  obtain ⟨u1, u2, u3⟩ := r3
                  rcases List.mem_cons.1 hmo with e1 | hmo
                  · rw [e1]; rfl
                  · have := u3.in_ _ hmo; omega
          have ho2 : q.2.1.fr < q.2.1.to := (h.row.in_ _ hoA).2.1
          refine ⟨?_, .inr ⟨q.2.1, rfl, hpost, ho⟩, by simp, ⟨q.2.1.to, ⟨rfl, by show s.fr < q.2.1.to; omega, rfl⟩, rfl, r2, ho, ho2, rfl⟩, hm⟩
          show A.sh = pre ++ [s, q.2.1] ++ post.tail
          rw [e]
          conv => lhs; rw [hpost]
          simp
        · cases ht
    · split at ht
      · split at ht
        · cases ht
        · rename_i me hme
          simp only [Sum.inr.injEq] at ht
          subst ht
          exact ⟨by simp [e], .inl ⟨rfl, rfl⟩, by simp, ⟨s.to, ⟨rfl, r2, rfl⟩, rfl, r2, rfl⟩, swapL_mems hm hme⟩
      · simp only [Sum.inr.injEq] at ht
        subst ht
        exact ⟨by simp [e], .inl ⟨rfl, rfl⟩, by simp, ⟨s.to, ⟨rfl, r2, rfl⟩, rfl, r2, rfl⟩, hm⟩

theorem newS_len (me : List Int) (past : List Org) : ∀ (l : List Sp) (nx : Int), (newS nx me past l).length = l.length
  | [], _ => rfl
  | p :: r, nx => by simp [newS, newS_len me past r]
theorem newS_row (me : List Int) (past : List Org) : ∀ (l : List Sp) (nx a b : Int), RowP a l b → RowS a (newS nx me past l) b
  | [], _, _, _, h => h
  | _ :: r, nx, _, _, h => ⟨h.1, h.2.1, newS_row me past r (nx + 1) _ _ h.2.2⟩
theorem newS_in (me : List Int) (past : List Org) : ∀ (l : List Sp) (nx : Int), ∀ s ∈ newS nx me past l, nx ≤ s.id ∧ s.id < nx + l.length ∧ s.me = me ∧ s.past = past
  | [], _, s, h => by cases h
  | p :: r, nx, s, h => by
    rcases List.mem_cons.1 h with rfl | h
    · simp; omega
    · have := newS_in me past r (nx + 1) s h
      simp only [List.length_cons]
      refine ⟨by omega, by omega, this.2.2⟩
theorem newS_ids (me : List Int) (past : List Org) : ∀ (l : List Sp) (nx : Int), ((newS nx me past l).map (·.id)).Pairwise (· < ·)
  | [], _ => List.Pairwise.nil
  | p :: r, nx => by
    refine List.pairwise_cons.2 ⟨fun x hx => ?_, newS_ids me past r (nx + 1)⟩
    obtain ⟨s, hs, rfl⟩ := List.mem_map.1 hx
    have := newS_in me past r (nx + 1) s hs
    show nx < s.id
    omega
/-- What a change has made. -/
def doneA (A : Atl) (pre : List Shd) (t : Todo) : Atl := { bl := A.bl, ep := A.ep + 1, nx := A.nx + t.sp.length, op := (newS A.nx t.me (t.gone.map Shd.org) t.sp).map (·.id), sh := pre ++ newS A.nx t.me (t.gone.map Shd.org) t.sp ++ t.post }
theorem done_good {A : Atl} (h : Good A) {pre post : List Shd} {s : Shd} {t : Todo} (e : A.sh = pre ++ s :: post) (p : PlanOk A pre s post t) (h1 : A.nx ≤ most30) (h2 : A.ep ≤ most30) : Good (doneA A pre t) := by
  obtain ⟨r1, r2, r3⟩ := h.mid e
  obtain ⟨b, b1, b2⟩ := p.row
  have hall := p.all
  have hrow : RowS 0 (pre ++ (t.gone ++ t.post)) A.bl := by rw [← List.append_assoc, ← hall]; exact h.row
  obtain ⟨c, c1, c2⟩ := rowS_append.1 hrow
  have hpost : RowS b t.post A.bl := by
    obtain ⟨d, d1, d2⟩ := rowS_append.1 c2
    have : ∀ (l : List Shd) (a a' x y : Int), l ≠ [] → RowS a l x → RowS a' l y → x = y := by
      intro l
      induction l with
      | nil => intro _ _ _ _ h; exact absurd rfl h
      | cons u l ih =>
        intro a a' x y _ q1 q2
        cases l with
        | nil => have q1 : u.to = x := q1.2.2; have q2 : u.to = y := q2.2.2; omega
        | cons v l => exact ih _ _ _ _ (by simp) q1.2.2 q2.2.2
    have hne : t.gone ≠ [] := by rcases p.gone with ⟨g, _⟩ | ⟨o, g, _⟩ <;> rw [g] <;> simp
    rw [← this _ _ _ _ _ hne d1 b2]
    exact d2
  have hlen := p.len
  have hids : (A.sh.map (·.id)).Nodup := h.ids
  have hpp : ((pre ++ t.post).map (·.id)).Nodup := by
    rw [hall] at hids
    simp only [List.map_append] at hids ⊢
    refine hids.sublist ?_
    rw [List.append_assoc]
    exact List.Sublist.append_left (List.sublist_append_right _ _) _
  have hsub : ∀ u, u ∈ pre ∨ u ∈ t.post → u ∈ A.sh := fun u hu => by
    rw [hall]
    rcases hu with hu | hu <;> simp [hu]
  have hnew := newS_in t.me (t.gone.map Shd.org) t.sp A.nx
  have hgoneA : ∀ g ∈ t.gone, g ∈ A.sh := fun g hg => by rw [hall]; simp [hg]
  have hgl : t.gone.length ≤ 2 := by rcases p.gone with ⟨g, _⟩ | ⟨o, g, _⟩ <;> rw [g] <;> simp
  have hch : ChainO (t.gone.map Shd.org) := by
    rcases p.gone with ⟨g, _⟩ | ⟨o, g, _, ho⟩
    · rw [g]; trivial
    · rw [g]; exact ⟨ho.symm, trivial⟩
  have hmem : ∀ u ∈ (doneA A pre t).sh, u ∈ A.sh ∨ u ∈ newS A.nx t.me (t.gone.map Shd.org) t.sp := fun u hu => by
    have hu : u ∈ pre ++ newS A.nx t.me (t.gone.map Shd.org) t.sp ++ t.post := hu
    rcases List.mem_append.1 hu with hu | hu
    · rcases List.mem_append.1 hu with hu | hu
      · exact .inl (hsub u (.inl hu))
      · exact .inr hu
    · exact .inl (hsub u (.inr hu))
  refine ⟨?_, ?_, ?_, ?_, ?_, newS_ids _ _ _ _, ?_, ?_, h.bl1, h.bl2, ?_, ?_, ?_, ?_⟩
  · show RowS 0 (pre ++ newS A.nx t.me (t.gone.map Shd.org) t.sp ++ t.post) A.bl
    rw [List.append_assoc]
    exact rowS_append.2 ⟨_, r1, rowS_append.2 ⟨b, newS_row _ _ _ _ _ _ b1, hpost⟩⟩
  · show ((pre ++ newS A.nx t.me (t.gone.map Shd.org) t.sp ++ t.post).map (·.id)).Nodup
    rw [List.append_assoc, List.map_append, List.map_append, List.nodup_append]
    rw [List.map_append, List.nodup_append] at hpp
    refine ⟨hpp.1, List.nodup_append.2 ⟨nodup_of_lt (newS_ids _ _ _ _), hpp.2.1, ?_⟩, ?_⟩
    · intro x hx y hy
      obtain ⟨u, hu, rfl⟩ := List.mem_map.1 hx
      obtain ⟨v, hv, rfl⟩ := List.mem_map.1 hy
      have := hnew u hu
      have := h.bd v (hsub v (.inr hv))
      omega
    · intro x hx y hy
      rcases List.mem_append.1 hy with hy | hy
      · obtain ⟨u, hu, rfl⟩ := List.mem_map.1 hx
        obtain ⟨v, hv, rfl⟩ := List.mem_map.1 hy
        have := hnew v hv
        have := h.bd u (hsub u (.inl hu))
        omega
      · exact hpp.2.2 x hx y hy
  · intro u hu
    show 1 ≤ u.id ∧ u.id < A.nx + t.sp.length
    rcases hmem u hu with hu | hu
    · have := h.bd u hu; omega
    · have := hnew u hu; have := h.nx1; omega
  · intro u hu
    rcases hmem u hu with hu | hu
    · exact h.mem u hu
    · rw [(hnew u hu).2.2.1]; exact p.me
  · intro u hu
    rcases hmem u hu with hu | hu
    · exact h.past u hu
    · obtain ⟨n1, n2, n3, n4⟩ := hnew u hu
      rw [n4]
      refine ⟨by simpa using hgl, fun o ho => ?_, hch⟩
      obtain ⟨g, hg, rfl⟩ := List.mem_map.1 ho
      have g1 := h.bd g (hgoneA g hg)
      have g2 := h.row.in_ g (hgoneA g hg)
      have g3 := h.bl2
      exact ⟨g1.1, by show g.id < u.id; omega, g2.1, g2.2.1, by show g.to ≤ 256; omega, h.mem g (hgoneA g hg)⟩
  · intro x hx
    obtain ⟨u, hu, rfl⟩ := List.mem_map.1 hx
    refine ⟨u, ?_, rfl⟩
    show u ∈ pre ++ newS A.nx t.me (t.gone.map Shd.org) t.sp ++ t.post
    simp [hu]
  · show ((newS A.nx t.me (t.gone.map Shd.org) t.sp).map (·.id)).length ≤ 2
    rw [List.length_map, newS_len]; omega
  · show 1 ≤ A.ep + 1; have := h.ep1; omega
  · show A.ep + 1 ≤ _; omega
  · show 2 ≤ A.nx + t.sp.length; have := h.nx1; omega
  · show A.nx + t.sp.length ≤ _; omega
theorem apply_good {A : Atl} (h : Good A) (c : Chg) : Good (applyA A c).2 := by
  unfold applyA
  split
  · exact h
  · split
    · split
      · exact h
      · exact { h with op1 := List.Pairwise.nil, op2 := (by intro x hx; cases hx), op3 := by simp }
    · split
      · split
        · exact h
        · rename_i pre s post hc
          have e := (cutS_some hc).1
          split
          · exact h
          · rename_i t ht
            split
            · exact h
            · rename_i hb
              exact done_good h e (plan_ok h e ht) (by omega) (by omega)
      · exact h
end Go.Proofs.Ytdijaillcajpaaa
