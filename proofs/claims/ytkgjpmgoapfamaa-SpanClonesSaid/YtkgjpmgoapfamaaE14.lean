/-
  The law's first: the first blocks of a loop over a row's.
-/
import Derived.Test.YtkgjpmgoapfamaaE13
import Derived.OwnWalkIn
namespace Go.Proofs.Ytkgjpmgoapfamaa
open Go.RowKit Go.Shelf
attribute [local go_sem] Oper.semAt_some

section
variable {F : Fence} {n0 : Nat} {P : Program} {α : Type} {enc : α → List Value} {k : Nat} {w : World} {ops : Array Oper} {rest : List Oper} {o : Oper} {a : Act} {Q : Exit → Act → World → Prop}
theorem wpListIn_append_row (hgd : o.guard = none) (s x : Operand) (t : TypeId) (ho : o.op = .call { callee := .builtin .append, args := #[s, x], argTypes := #[t, t] })
    (base : Nat) (e : TypeId) (i : TypeInfo) (z : Value) (bts : Nat) (ht : P.underlying t = some (.slice e)) (hi : P.info? e = some i) (hz : i.zero = some z) (hsize : i.size = k) (hby : i.bytes = bts) (hzs : z.cells.size = k) (h0 : 0 < k) (hk : ∀ x, (enc x).length = k) (h1 : ∀ x, ∀ v ∈ enc x, v.oneCell' = true)
    (ax : Option Addr) (n c : Nat) (l : List α) (hs : a.eval s = .slice ax n c) (hown : OwnR enc k w base e ax n c l) (a2 : Option Addr) (m c2 : Nat) (l2 : List α) (hx : a.eval x = .slice a2 m c2) (hb : Reads enc k w a2 m c2 l2)
    (hbd : (n + m) * bts ≤ 140737488355328) (hbig : n + m ≤ 140737488355328) (hbase : base ≤ w.heap.size)
    (h : ∀ a' c' w', OwnR enc k w' base e a' (n + m) c' (l ++ l2) → Kp (Blk ax) w w' → (a' = ax ∨ a' = some ⟨w.heap.size, 0, none⟩) → wpListIn F n0 P ops Q rest (a.put o.dst (.slice a' (n + m) c')) w') : wpListIn F n0 P ops Q (o :: rest) a w := by
  refine wpListIn_plain hgd fun K hK' => ?_
  obtain ⟨v', w', hrun, a', c', rfl, r1, r2, r3⟩ := run_append_row (P := P) w base t o.type e i z bts ht hi hz hsize hby hzs h0 hk h1 ax n c l hown a2 m c2 l2 hb hbd hbig hbase
  unfold Oper.wpIn
  refine ⟨?_, ?_⟩
  · simp [Oper.about, ho, resolve, Target.leads, Sem.run_pure]
  · rw [Oper.semAt_plain F _ _ (by rw [ho]; intro c hc'; cases hc')]
    simp [execOp, ho, resolve, invoke, builtin, hs, hx, hrun, Result.andThen]
    exact hK' _ _ (h a' c' w' r1 r2 r3)
end

theorem KH.of_foot {lo m : Nat} {A B : World} (h : Kp (FP m A) A B) (hf : ∀ k, FP m B k → FP m A k ∨ (A.heap.size ≤ k ∧ k < B.heap.size)) : KH lo m A B :=
  ⟨⟨h.size, fun k o _ hk _ hn => by
    have := (Array.getElem?_eq_some_iff.1 hk).1
    rw [h.block k this hn]
    exact hk, fun k hk => (hf k hk).imp id (·.1)⟩, fun k hk => (hf k hk).imp id (·.2)⟩

/-- A step that turns nothing but a block that is no cells. -/
theorem cells_kept {A B : World} {row : Option Nat} {k : Nat} {cs : Array Value} {e : TypeId} {fr : Nat × Nat} (hg : A.grownBy B row) (hr : ∀ r, row = some r → ∃ o : Obj, A.heap[r]? = some o ∧ o.isCells = false) (h : A.heap[k]? = some (.cells cs e fr)) : B.heap[k]? = some (.cells cs e fr) := by
  refine (hg.block k (Array.getElem?_eq_some_iff.1 h).1 (fun e1 => ?_)).trans h
  obtain ⟨o, ho, hc⟩ := hr k e1.symm
  rw [h] at ho
  cases ho
  cases hc

@[go_sem high] theorem run_seqNil (f : FuncId) (x : Value) (w : World) : (binOp .eql 87 (.func (.func f) #[] #[x]) .nilFunc).run Try.prog w = .ok (.bool false) w := by kernel_rfl
@[go_sem high] theorem run_seq2Nil (f : FuncId) (x : Value) (w : World) : (binOp .eql 56 (.func (.func f) #[] #[x]) .nilFunc).run Try.prog w = .ok (.bool false) w := by kernel_rfl

/-- What the loop knows: out lies in the box B. -/
structure FirstIn (w : World) (B : Nat) (m : Nat) (pre : List Int) (W : World) : Prop where
  ex : ∃ a c, Boxed W B 37 (.slice a pre.length c) ∧ OwnI W (B + 1) a pre.length c pre
  most : Boxed W (B - 1) 3 (.int .i64 m)
  kp : Kp Non w W
theorem FirstIn.own {w : World} {B m b : Nat} (hb : w.heap.size ≤ b) : OwnFrom b (FirstIn w B m) := fun pre A A' row h hg hr => by
  obtain ⟨⟨a, c, hb1, hO⟩, hm, hk⟩ := h
  refine ⟨⟨a, c, cells_kept hg (fun r e => (hr r e).2) hb1, hO.keeps fun g o hgb ho _ => ?_⟩, cells_kept hg (fun r e => (hr r e).2) hm, hk.grown hg (fun k e => .inr (Nat.le_trans hb (hr k e).1))⟩
  obtain ⟨cs, hcs⟩ := hO.tag g hgb
  rw [hcs] at ho
  cases ho
  exact cells_kept hg (fun r e => (hr r e).2) hcs

theorem first_end {w W : World} {D b : Nat} {o o' : Obj} {a : Option Addr} {c : Nat} {l : List Int} (hK : W.heap[D]? = some o) (ho : o.isCells = false) (hD : w.heap.size ≤ D) (hO : OwnI W (w.heap.size + 1 + b) a l.length c l) (hk : Kp Non w W) : RowOf encI 1 3 l w (.returned (.slice a l.length c)) (W.putObj D o') := by
  refine ⟨a, c, rfl, OwnR.keeps (hO.lower (by omega)) fun g ob hg hob hc => ?_, hk.grown (grownBy_putObj' W D o') fun k e => by cases e; exact .inr hD⟩
  refine (World.putObj_heap_other fun e => ?_).trans hob
  subst e
  rw [hK] at hob
  cases hob
  rw [ho] at hc
  cases hc

theorem norm_i64 {l : List Sp} (h : ∀ s ∈ l, -9223372036854775808 ≤ s.1 ∧ s.2 ≤ 9223372036854775807) : ∀ s ∈ norm l, s.1 < s.2 ∧ -9223372036854775808 ≤ s.1 ∧ s.2 ≤ 9223372036854775807 := fun s hs => by
  have hp := (norm_plain l)
  have hlt : s.1 < s.2 := hp.lt s hs
  have h1 : mem l s.1 := (norm_in l _).1 ⟨s, hs, Int.le_refl _, hlt⟩
  have h2 : mem l (s.2 - 1) := (norm_in l _).1 ⟨s, hs, by omega, by omega⟩
  obtain ⟨t, ht, t1, t2⟩ := h1
  obtain ⟨u, hu, u1, u2⟩ := h2
  have := h t ht
  have := h u hu
  exact ⟨hlt, by omega, by omega⟩

set_option maxRecDepth 100000 in
set_option maxHeartbeats 1000000 in
theorem first_calls (a : Option Addr) (n c : Nat) (l : List Sp) (m : Nat) (w : World) (h : Spans w a n c l) (hn : n ≤ 1000000000) (hm : m ≤ 300) (hI : ∀ s ∈ l, -9223372036854775808 ≤ s.1 ∧ s.2 ≤ 9223372036854775807) : Calls Try.prog 28 #[.slice a n c, .int .i64 m] w (RowOf encI 1 3 ((blks (norm l)).take m) w) := by
  refine (callsIn_wide (n := 3)).1 ?_
  have h1 : 1 ≤ 3 := by omega
  refine callsIn_of_wp_marks Try.func28 rfl trivial ?_ rfl
  simp only [Try.ntmps28, List.size_toArray, List.length_cons, List.length_nil, Nat.reduceAdd, Nat.reduceSub, Array.replicate_succ, Array.replicate_zero, List.push_toArray, List.append_toArray, List.nil_append, List.cons_append]
  by_cases hm0 : m = 0
  · subst hm0
    have hkA : Kp Non w ((w.alloc (.cells #[.int .i64 0] 3)).alloc (.cells #[.slice none 0 0] 37)) := ((Kp.refl _ w).alloc _).alloc _
    have e0 : (((0 : Nat) : Int) == 0) = true := rfl
    gi_wp2
    exact ⟨_, results_tmp rfl _ _ _, none, 0, rfl, OwnR.nil _ _ _, hkA⟩
  · have e0 : ((m : Int) == 0) = false := by simp; omega
    obtain ⟨i0, hi0, hz0, hz1, hz2⟩ := info_parts infoI
    have hkA : Kp Non w ((w.alloc (.cells #[.int .i64 m] 3)).alloc (.cells #[.slice none 0 0] 37)) := ((Kp.refl _ w).alloc _).alloc _
    have HBl := Lib.hid (blocks_calls a n c l _ (h.non hkA) hn)
    have bM := (Boxed.new w 3 (.int .i64 m)).alloc (.cells #[.slice none 0 0] 37)
    have bO := Boxed.new (w.alloc (.cells #[.int .i64 m] 3)) 37 (.slice none 0 0)
    rw [World.size_alloc] at bO
    gi_wp2_with (refine ⟨trivial, ?_⟩; gi_at_call 56; refine (callsIn_wide.2 HBl.out).mono ?_; rintro e w1 ⟨bx, a1, c1, rfl, hbx1, hbx2, hbx3, hO1, hk1⟩)
    have hkw1 : Kp Non w w1 := hkA.trans hk1
    have bM1 : Boxed w1 w.heap.size 3 (.int .i64 m) := hk1.heap bM (fun f => f)
    have bO1 : Boxed w1 (w.heap.size + 1) 37 (.slice none 0 0) := hk1.heap bO (fun f => f)
    have hsz : w.heap.size + 2 ≤ w1.heap.size := by have := hk1.size; simp at this; omega
    have hfp : ∀ k, FP (w.heap.size + 1) w1 k → k = w.heap.size + 1 := by
      rintro k (rfl | ⟨i, p, n', c', hp, rfl⟩)
      · rfl
      · have e := cell_of_row w1 (w.heap.size + 1) i _ _ _ bO1
        rw [hp] at e
        match i, e with
        | 0, e => simp at e
        | i + 1, e => simp at e
    have hO2 : OwnS w1 (w.heap.size + 2) a1 (norm l).length c1 (norm l) := hO1.lower (by simp)
    have hN : ∀ s ∈ norm l, s.1 < s.2 ∧ -9223372036854775808 ≤ s.1 ∧ s.2 ≤ 9223372036854775807 := norm_i64 hI
    have hnl := norm_len l
    have hnL : l.length = n := h.len.symm
    have hseq := blocksIt_stops 2 (by omega) (w.heap.size + 2) bx (w.heap.size + 1) (norm l) a1 c1 w1 hbx3 hO2 (by omega) (fun i hi q => by have := hfp i q; have := (hO2.blk i hi).1; omega) (fun k q => by have := hfp k q; omega) hN (by omega) hsz
    refine wpIn_rangeFunc_ownG rfl h1 (gf := 70) (lb := #[.pointer (some ⟨bx, 0, none⟩)]) rfl trivial (enters_of Try.func70 (by kernel_rfl) rfl)
      hseq (fun h k => h.trans k) (fun W l o o' hl h2 h3 h4 => KH.putObj (w := w1) (by omega) W l o o' hl h2 h3 h4) (Below.refl _ _) (fun _ => rfl)
      (fun pre W => pre.length < m ∧ FirstIn w (w.heap.size + 1) m pre W)
      (fun c pre W => (c = .exit 0 ∧ pre.length = m) ∧ FirstIn w (w.heap.size + 1) m pre W)
      (fun s A B row hs hg hr => ⟨hs.1, FirstIn.own (b := w1.heap.size) (by omega) s A B row hs.2 hg hr⟩)
      (fun c s A B row hs hg hr => ⟨hs.1, FirstIn.own (b := w1.heap.size) (by omega) s A B row hs.2 hg hr⟩)
      ⟨by simp; omega, ⟨none, 0, bO1, OwnR.nil _ _ _⟩, bM1, hkw1⟩
      (fun x => { tmps := #[.slice a n c, .int .i64 m, undef, .pointer (some ⟨w.heap.size, 0, none⟩), .slice none 0 0, .pointer (some ⟨w.heap.size + 1, 0, none⟩), .func (.func 70) #[] #[.pointer (some ⟨bx, 0, none⟩)], .int .i64 x, .int .i64 m, .bool false, .slice a n c, .func (.func 70) #[] #[.pointer (some ⟨bx, 0, none⟩)], .func (.func 70) #[] #[.pointer (some ⟨bx, 0, none⟩)], .bool false, .func (.func 70) #[] #[.pointer (some ⟨bx, 0, none⟩)], .int .i64 x, undef, undef, undef, undef, undef, undef, undef, undef, undef], defers := [] }) ?assign ?body ?done ?stop
    case assign =>
      intro l x W K hK
      simp [encN]
      gi_wp2
      exact hK
    case body =>
      rintro lp pre x W ⟨hpm, ⟨⟨a5, c5, hb5, hO5⟩, hbM, hkW⟩⟩ hlt
      have bc5 := hb5.cell
      have bcM := hbM.cell
      have hnB : ¬ Blk a5 (w.heap.size + 1) := fun q => by
        obtain ⟨cs, e1⟩ := hO5.tag _ q
        rw [show W.heap[w.heap.size + 1]? = _ from hb5] at e1
        simp at e1
      have hnM : ¬ Blk a5 w.heap.size := fun q => by have := (hO5.blk _ q).1; omega
      have hkT : Kp Non W (W.alloc (.cells #[.int .i64 x] 3)) := (Kp.refl _ _).alloc _
      have hszW := hkW.size
      have hBW := hb5.lt
      have fin : ∀ a6 c6 w6, OwnR encI 1 w6 (w.heap.size + 2) 3 a6 (pre.length + 1) c6 (pre ++ [x]) → Kp (Blk a5) (W.alloc (.cells #[.int .i64 x] 3)) w6 → (a6 = a5 ∨ a6 = some ⟨(W.alloc (.cells #[.int .i64 x] 3)).heap.size, 0, none⟩) →
          Boxed w6 (w.heap.size + 1) 37 (.slice a5 pre.length c5) ∧ KeepsOthers W (w6.setCell ⟨w.heap.size + 1, 0, none⟩ (.slice a6 (pre.length + 1) c6)) ∧ KH (w.heap.size + 2) (w.heap.size + 1) W (w6.setCell ⟨w.heap.size + 1, 0, none⟩ (.slice a6 (pre.length + 1) c6)) ∧ FirstIn w (w.heap.size + 1) m (pre ++ [x]) (w6.setCell ⟨w.heap.size + 1, 0, none⟩ (.slice a6 (pre.length + 1) c6)) := fun a6 c6 w6 hO6 hk6 hb6 => by
        have hb1 : Boxed w6 (w.heap.size + 1) 37 (.slice a5 pre.length c5) := hk6.heap (hkT.heap hb5 (fun f => f)) hnB
        have hm1 : Boxed w6 w.heap.size 3 (.int .i64 m) := hk6.heap (hkT.heap hbM (fun f => f)) hnM
        have hks : Kp (One (w.heap.size + 1)) w6 (w6.setCell ⟨w.heap.size + 1, 0, none⟩ (.slice a6 (pre.length + 1) c6)) := Kp.setCell (S := One (w.heap.size + 1)) (Kp.refl _ _) (p := ⟨w.heap.size + 1, 0, none⟩) (.inl rfl) _
        have hk56 : Kp (Blk a5) W w6 := hkT.comp hk6 (fun _ _ f => f.elim) (fun _ _ q => q)
        have hb2 := hb1.set (.slice a6 (pre.length + 1) c6)
        have h6B : ¬ Blk a6 (w.heap.size + 1) := fun q => by
          obtain ⟨cs, e1⟩ := hO6.tag _ q
          rw [show w6.heap[w.heap.size + 1]? = _ from hb1] at e1
          simp at e1
        have hfpW : ∀ k, (Blk a5 k ∨ k = w.heap.size + 1) → FP (w.heap.size + 1) W k := by
          rintro k (⟨ad, rfl, rfl⟩ | rfl)
          · exact .inr ⟨0, ad, pre.length, c5, bc5, rfl⟩
          · exact .inl rfl
        refine ⟨hb1, ?_, KH.of_foot (hk56.comp hks (fun i _ q => hfpW i (.inl q)) (fun i _ q => hfpW i (.inr q))) ?_, ⟨⟨a6, c6, ?_, ?_⟩, hks.heap hm1 (fun q => by have : w.heap.size = w.heap.size + 1 := q; omega), ?_⟩⟩
        · refine ((KeepsOthers.alloc W _).trans ⟨hk6.size, fun k o hk ho => ?_⟩).trans (KeepsOthers.setCell _ _ _)
          refine (hk6.block k (Array.getElem?_eq_some_iff.1 hk).1 (fun q => ?_)).trans hk
          obtain ⟨cs, e1⟩ := (hO5.non hkT).tag _ q
          rw [hk] at e1
          cases e1
          cases ho
        · rintro k (rfl | ⟨i, p, n', c', hp, rfl⟩)
          · exact .inl (.inl rfl)
          · have e := cell_of_row _ (w.heap.size + 1) i _ _ _ hb2
            rw [hp] at e
            match i, e with
            | 0, e =>
              simp at e
              obtain ⟨rfl, _, _⟩ := e
              rcases hb6 with rfl | e
              · exact .inl (hfpW _ (.inl ⟨p, rfl, rfl⟩))
              · cases e
                refine .inr ⟨hkT.size, ?_⟩
                exact Nat.lt_of_lt_of_le (hO6.blk _ ⟨_, rfl, rfl⟩).2 hks.size
            | i + 1, e => simp at e
        · simpa using hb2
        · have := hO6.kp hks (fun i q q' => h6B (by have : i = w.heap.size + 1 := q'; rw [← this]; exact q))
          simpa using this
        · refine (hkW.comp hk56 (U := Non) (fun _ _ f => f) (fun i hi q => ?_)).comp hks (fun _ _ f => f) (fun i hi q => ?_)
          · have := (hO5.blk i q).1; omega
          · have : i = w.heap.size + 1 := q; omega
      by_cases hlast : pre.length + 1 = m
      · have e1 : (((pre.length : Int) + 1) == (m : Int)) = true := by simp; omega
        have HL := Lib.hid hlast
        clear hlast
        gi_wp2_with (gi_at_builtin; refine wpListIn_append_row rfl _ _ 37 rfl (w.heap.size + 2) 3 i0 _ 8 Try.underlying37 hi0 hz0 hz1 hz2 rfl (by decide) encI_len encI_one a5 pre.length c5 pre rfl (hO5.non hkT) _ 1 1 [x] rfl (Reads.new rfl rfl) (by omega) (by omega) (by simp; omega) ?_; intro a6 c6 w6 hO6 hq6 hb6; obtain ⟨z1, z2, z3, z4⟩ := fin a6 c6 w6 hO6 hq6 hb6; have y1 := z1.cell; have y2 := z1.frozen; have y3 := (z1.set (.slice a6 (pre.length + 1) c6)).cell; have y4 : (w6.setCell ⟨w.heap.size + 1, 0, none⟩ (.slice a6 (pre.length + 1) c6)).cell? ⟨w.heap.size, 0, none⟩ = some (.int .i64 m) := z4.most.cell; have y5 : w6.cell? ⟨w.heap.size, 0, none⟩ = some (.int .i64 m) := hq6.cell (hkT.cell (show Boxed W w.heap.size 3 (.int .i64 m) from hbM).cell (fun f => f)) hnM)
        exact ⟨z2.from _, ⟨rfl, by simp; exact HL.out⟩, z4⟩
      · have e1 : (((pre.length : Int) + 1) == (m : Int)) = false := by simp; omega
        gi_wp2_with (gi_at_builtin; refine wpListIn_append_row rfl _ _ 37 rfl (w.heap.size + 2) 3 i0 _ 8 Try.underlying37 hi0 hz0 hz1 hz2 rfl (by decide) encI_len encI_one a5 pre.length c5 pre rfl (hO5.non hkT) _ 1 1 [x] rfl (Reads.new rfl rfl) (by omega) (by omega) (by simp; omega) ?_; intro a6 c6 w6 hO6 hq6 hb6; obtain ⟨z1, z2, z3, z4⟩ := fin a6 c6 w6 hO6 hq6 hb6; have y1 := z1.cell; have y2 := z1.frozen; have y3 := (z1.set (.slice a6 (pre.length + 1) c6)).cell; have y4 : (w6.setCell ⟨w.heap.size + 1, 0, none⟩ (.slice a6 (pre.length + 1) c6)).cell? ⟨w.heap.size, 0, none⟩ = some (.int .i64 m) := z4.most.cell; have y5 : w6.cell? ⟨w.heap.size, 0, none⟩ = some (.int .i64 m) := hq6.cell (hkT.cell (show Boxed W w.heap.size 3 (.int .i64 m) from hbM).cell (fun f => f)) hnM)
        exact ⟨z2.from _, z3, by simp; omega, z4⟩
    case done =>
      rintro D ys W hD rfl ⟨hym, ⟨⟨a5, c5, hb5, hO5⟩, hbM, hkW⟩⟩ hK
      have HE := Lib.hid (List.take_of_length_le (Nat.le_of_lt hym))
      have HF := Lib.hid (first_end (o' := .deferred none) hK rfl (by omega : w.heap.size ≤ D) hO5 hkW)
      clear hym
      have bc5 := hb5.cell
      gi_wp2
      refine ⟨by simp, .inl ⟨_, _, rfl, run_takeDeferred hK, ?_⟩⟩
      refine ⟨_, results_tmp rfl _ _ _, ?_⟩
      rw [HE.out]
      exact HF.out
    case stop =>
      rintro D c pre W hD hpre ⟨⟨rfl, hpm⟩, ⟨⟨a5, c5, hb5, hO5⟩, hbM, hkW⟩⟩ hK
      have HE : Hid ((blks (norm l)).take m = pre) := Lib.hid (by
        obtain ⟨t, ht⟩ := hpre
        rw [← ht, ← hpm, List.take_left])
      have HF := Lib.hid (first_end (o' := .deferred none) hK rfl (by omega : w.heap.size ≤ D) hO5 hkW)
      clear hpm
      have bc5 := hb5.cell
      gi_wp2
      refine ⟨by simp, .inl ⟨_, _, rfl, run_takeDeferred hK, ?_⟩⟩
      refine ⟨_, results_tmp rfl _ _ _, ?_⟩
      rw [HE.out]
      exact HF.out
end Go.Proofs.Ytkgjpmgoapfamaa
