/-
  SpanMaps: a Map under any puts and drops tells of any block its value, and its pieces. For every input. (The frame: sframe.py.)
-/
import Derived.Test.YtkgjpmgoapfamaaE18
import Derived.Test.YtkgjpmgoapfamaaE14
import Derived.Test.YtkgjpmgoapfamaaL5
import Derived.Sort.CutIn
namespace Go.Proofs.Ytkgjpmgoapfamaa
open Go.RowKit Go.Shelf
attribute [local go_sem] Oper.semAt_some

theorem results_cell_bool {fn : Func} {p : Tmp} (h : fn.results = #[.cell p 4]) (tmps : Array Value) (w : World) {b : Bool} (ad : Addr) (ht : tmps.getD p undef = .pointer (some ad)) (hc : w.cell? ad = some (.bool b)) :
    (results fn tmps).run Try.prog w = .ok (.bool b) w := by
  have := Try.sizeOf4
  have ht' : tmps[p]?.getD undef = .pointer (some ad) := by simpa using ht
  simp [results, h, ht', go_sem, hc, this]
theorem boxes4 (w3 : World) (v1 v2 v3 v4 : Value) (t1 t2 t3 t4 : TypeId) :
    Boxed ((((w3.alloc (.cells #[v1] t1)).alloc (.cells #[v2] t2)).alloc (.cells #[v3] t3)).alloc (.cells #[v4] t4)) w3.heap.size t1 v1 ∧ Boxed ((((w3.alloc (.cells #[v1] t1)).alloc (.cells #[v2] t2)).alloc (.cells #[v3] t3)).alloc (.cells #[v4] t4)) (w3.heap.size + 1) t2 v2 ∧
    Boxed ((((w3.alloc (.cells #[v1] t1)).alloc (.cells #[v2] t2)).alloc (.cells #[v3] t3)).alloc (.cells #[v4] t4)) (w3.heap.size + 1 + 1) t3 v3 ∧ Boxed ((((w3.alloc (.cells #[v1] t1)).alloc (.cells #[v2] t2)).alloc (.cells #[v3] t3)).alloc (.cells #[v4] t4)) (w3.heap.size + 1 + 1 + 1) t4 v4 ∧
    Kp Non w3 ((((w3.alloc (.cells #[v1] t1)).alloc (.cells #[v2] t2)).alloc (.cells #[v3] t3)).alloc (.cells #[v4] t4)) ∧ ((((w3.alloc (.cells #[v1] t1)).alloc (.cells #[v2] t2)).alloc (.cells #[v3] t3)).alloc (.cells #[v4] t4)).heap.size = w3.heap.size + 4 := by
  have b1 := Boxed.new w3 t1 v1
  have b2 := Boxed.new (w3.alloc (.cells #[v1] t1)) t2 v2
  have b3 := Boxed.new ((w3.alloc (.cells #[v1] t1)).alloc (.cells #[v2] t2)) t3 v3
  have b4 := Boxed.new (((w3.alloc (.cells #[v1] t1)).alloc (.cells #[v2] t2)).alloc (.cells #[v3] t3)) t4 v4
  simp only [World.size_alloc] at b1 b2 b3 b4
  exact ⟨((b1.alloc _).alloc _).alloc _, (b2.alloc _).alloc _, b3.alloc _, b4, ((((Kp.refl _ _).alloc _).alloc _).alloc _).alloc _, by simp⟩

/-- What the loop over the pieces knows. -/
structure EachSt (w : World) (bs : Nat) (M : List (Sp × Int)) (al : Option Addr) (cl : Nat) (av : Option Addr) (cv : Nat) (a1 : Option Addr) (c1 : Nat) (a2 : Option Addr) (c2 : Nat) (k : Nat) (W : World) : Prop where
  bS : Boxed W bs 22 (.slice a1 M.length c1)
  bV : Boxed W (bs + 1) 37 (.slice a2 M.length c2)
  bK : Boxed W (bs + 1 + 1) 3 (.int .i64 k)
  bR : Boxed W w.heap.size 4 (.bool false)
  spans : OwnS W 0 a1 M.length c1 (M.map (·.1))
  vals : OwnI W 0 a2 M.length c2 (M.map (·.2))
  map : MapI W (w.heap.size + 1) M al cl av cv
  kp : Kp (One w.heap.size) w W
  lt1 : ∀ i, Blk a1 i → i < bs
  lt2 : ∀ i, Blk a2 i → i < bs
  ltm : ∀ i, MSI (w.heap.size + 1) al av i → i < bs
theorem OwnR.cellsKept {α : Type} {enc : α → List Value} {k : Nat} {A B : World} {base : Nat} {e : TypeId} {a : Option Addr} {n c : Nat} {l : List α} {row : Option Nat} (h : OwnR enc k A base e a n c l) (hg : A.grownBy B row) (hr : ∀ r, row = some r → ∃ o : Obj, A.heap[r]? = some o ∧ o.isCells = false) : OwnR enc k B base e a n c l :=
  h.keeps fun g o hgb ho _ => by
    obtain ⟨cs, hcs⟩ := h.tag g hgb
    rw [hcs] at ho
    cases ho
    exact cells_kept hg hr hcs
theorem EachSt.own {w : World} {bs b : Nat} {M : List (Sp × Int)} {al : Option Addr} {cl : Nat} {av : Option Addr} {cv : Nat} {a1 : Option Addr} {c1 : Nat} {a2 : Option Addr} {c2 : Nat} (hb : w.heap.size < b) : OwnFrom b (EachSt w bs M al cl av cv a1 c1 a2 c2) := fun _ A B row h hg hr =>
  have hr' : ∀ r, row = some r → ∃ o : Obj, A.heap[r]? = some o ∧ o.isCells = false := fun r e => (hr r e).2
  ⟨cells_kept hg hr' h.bS, cells_kept hg hr' h.bV, cells_kept hg hr' h.bK, cells_kept hg hr' h.bR, h.spans.cellsKept hg hr', h.vals.cellsKept hg hr',
    ⟨cells_kept hg hr' h.map.box, h.map.spans.cellsKept hg hr', h.map.vals.cellsKept hg hr'⟩, h.kp.grown hg (fun k e => .inr (by have := (hr k e).1; omega)), h.lt1, h.lt2, h.ltm⟩

theorem EachSt.kpn {w : World} {bs : Nat} {M : List (Sp × Int)} {al : Option Addr} {cl : Nat} {av : Option Addr} {cv : Nat} {a1 : Option Addr} {c1 : Nat} {a2 : Option Addr} {c2 : Nat} {k : Nat} {W W' : World} (h : EachSt w bs M al cl av cv a1 c1 a2 c2 k W) (q : Kp Non W W') : EachSt w bs M al cl av cv a1 c1 a2 c2 k W' :=
  ⟨q.heap h.bS (fun f => f), q.heap h.bV (fun f => f), q.heap h.bK (fun f => f), q.heap h.bR (fun f => f), h.spans.non q, h.vals.non q, h.map.non q, h.kp.comp q (fun _ _ q => q) (fun _ _ f => f.elim), h.lt1, h.lt2, h.ltm⟩
theorem EachSt.setK {w : World} {bs : Nat} {M : List (Sp × Int)} {al : Option Addr} {cl : Nat} {av : Option Addr} {cv : Nat} {a1 : Option Addr} {c1 : Nat} {a2 : Option Addr} {c2 : Nat} {k : Nat} {W : World} (h : EachSt w bs M al cl av cv a1 c1 a2 c2 k W) (j : Nat) :
    EachSt w bs M al cl av cv a1 c1 a2 c2 j (W.setCell ⟨bs + 1 + 1, 0, none⟩ (.int .i64 j)) ∧ KG (bs + 4) (w.heap.size + 1) W (W.setCell ⟨bs + 1 + 1, 0, none⟩ (.int .i64 j)) := by
  have hk : Kp (One (bs + 1 + 1)) W (W.setCell ⟨bs + 1 + 1, 0, none⟩ (.int .i64 j)) := Kp.setCell (S := One (bs + 1 + 1)) (Kp.refl _ _) (p := ⟨bs + 1 + 1, 0, none⟩) (.inl rfl) _
  have hm := h.ltm _ (.inl rfl)
  have hb : bs < W.heap.size := h.bS.lt
  have hw := h.kp.size
  refine ⟨⟨hk.heap h.bS (fun q => by have q : bs = bs + 1 + 1 := q; omega), hk.heap h.bV (fun q => by have q : bs + 1 = bs + 1 + 1 := q; omega), h.bK.set _, hk.heap h.bR (fun q => by have q : w.heap.size = bs + 1 + 1 := q; omega),
    h.spans.kp hk (fun i q q' => by have := h.lt1 i q; have q' : i = bs + 1 + 1 := q'; omega), h.vals.kp hk (fun i q q' => by have := h.lt2 i q; have q' : i = bs + 1 + 1 := q'; omega),
    h.map.kp hk (fun i q q' => by have := h.ltm i q; have q' : i = bs + 1 + 1 := q'; omega), h.kp.comp hk (fun _ _ q => q) (fun i hi q => by have q : i = bs + 1 + 1 := q; omega), h.lt1, h.lt2, h.ltm⟩,
    KG.of_kp hk h.map.lt (fun i q => by have q : i = bs + 1 + 1 := q; omega)⟩

/-- A value, and whether there is one. -/
def PairOut (rv : Int) (rb : Bool) (w : World) (e : Ending) (w' : World) : Prop := e = .returned (.tuple #[.int .i64 rv, .bool rb]) ∧ Kp Non w w'
set_option maxRecDepth 100000 in
set_option maxHeartbeats 1000000 in
theorem maps_walk (aA : Option Addr) (nA cA : Nat) (lA : List OpD) (aB : Option Addr) (nB cB : Nat) (lB : List Int) (w : World) (hA : Reads encO 4 w aA nA cA lA) (hB : Ints w aB nB cB lB) : Calls Try.prog 8 #[.slice aA nA cA, .slice aB nB cB] w (BoolOut true w) := by
  refine (callsIn_wide (n := 4)).1 ?_
  have h1 : 1 ≤ 4 := by omega
  obtain rfl := hA.len
  obtain rfl := hB.len
  have hcA := hA.cap
  have hmA := hA.max
  have hcB := hB.cap
  have hmB := hB.max
  refine callsIn_of_wp_marks Try.func8 rfl trivial ?_ rfl
  simp only [Try.ntmps8, List.size_toArray, List.length_cons, List.length_nil, Nat.reduceAdd, Nat.reduceSub, Array.replicate_succ, Array.replicate_zero, List.push_toArray, List.append_toArray, List.nil_append, List.cons_append]
  gi_upto_region 3 with (fail)
  iterate 13 (first | go_values | gi_guarded | gi_step | gi_upon | gi_back | go_simp)
  have hkA : Kp Non w (((w.alloc (.cells #[.bool false] 4)).alloc (.cells #[.slice none 0 0, .slice none 0 0] 41)).alloc (.cells #[.slice none 0 0, .slice none 0 0, .slice none 0 0] 45)) := (((Kp.refl _ w).alloc _).alloc _).alloc _
  have hT0 : Two w (w.heap.size + 1) (w.heap.size + 1 + 1) [] [] (((w.alloc (.cells #[.bool false] 4)).alloc (.cells #[.slice none 0 0, .slice none 0 0] 41)).alloc (.cells #[.slice none 0 0, .slice none 0 0, .slice none 0 0] 45)) := by
    have q1 := heap_alloc_new (w.alloc (.cells #[.bool false] 4)) (.cells #[.slice none 0 0, .slice none 0 0] 41)
    have q2 := heap_alloc_new ((w.alloc (.cells #[.bool false] 4)).alloc (.cells #[.slice none 0 0, .slice none 0 0] 41)) (.cells #[.slice none 0 0, .slice none 0 0, .slice none 0 0] 45)
    simp only [World.size_alloc] at q1 q2
    refine ⟨⟨none, 0, none, 0, none, 0, none, 0, none, 0, ⟨((Kp.refl Non _).alloc _).heap q1 (fun f => f), OwnR.nil _ _ _, OwnR.nil _ _ _⟩, ⟨q2, OwnR.nil _ _ _, OwnR.nil _ _ _, OwnR.nil _ _ _⟩, ?_, ?_⟩, hkA.non⟩
    · rintro i (rfl | ⟨_, h, _⟩ | ⟨_, h, _⟩)
      · refine ⟨by omega, ?_⟩
        rintro (h | ⟨_, h, _⟩ | ⟨_, h, _⟩ | ⟨_, h, _⟩)
        · omega
        · cases h
        · cases h
        · cases h
      · cases h
      · cases h
    · rintro i (rfl | ⟨_, h, _⟩ | ⟨_, h, _⟩ | ⟨_, h, _⟩)
      · omega
      · cases h
      · cases h
      · cases h
  have hR0 : Boxed (((w.alloc (.cells #[.bool false] 4)).alloc (.cells #[.slice none 0 0, .slice none 0 0] 41)).alloc (.cells #[.slice none 0 0, .slice none 0 0, .slice none 0 0] 45)) w.heap.size 4 (.bool false) := ((Boxed.new w 4 (.bool false)).alloc _).alloc _
  gi_cut [] from 7 (fun wc => ∃ M ops, Two w (w.heap.size + 1) (w.heap.size + 1 + 1) M ops wc ∧ Tells M ops ∧ M.length ≤ 120 ∧ ops.length ≤ 60 ∧ Boxed wc w.heap.size 4 (.bool false))
  case first =>
    gi_wp2_with fail
    gi_loopw [25] (fun v25 wr => ∃ (k : Nat) (M : List (Sp × Int)) (ops : List Done), k ≤ lA.length ∧ k ≤ 60 ∧ v25 = .int .i64 k ∧ Two w (w.heap.size + 1) (w.heap.size + 1 + 1) M ops wr ∧ Tells M ops ∧ M.length ≤ 2 * k ∧ ops.length ≤ k ∧ Boxed wr w.heap.size 4 (.bool false)) (fun v25 _ => lA.length - (intOf v25).toNat)
    case atStart => exact ⟨0, [], [], by omega, by omega, rfl, hT0, Tells.start, by simp, by simp, hR0⟩
    case round =>
      obtain ⟨k, M, ops, hk, hk6, rfl, hT, hTe, hMl, hol, hRb⟩ := hrel
      by_cases hgo : k < lA.length ∧ k < 60
      · obtain ⟨hlt, hlt6⟩ := hgo
        have g : (k : Int) < (lA.length : Nat) := by omega
        have g6 : (k : Int) < 60 := by omega
        have hrd := hA.non (hT.kp.mono fun i hi (q : i = w.heap.size) => by omega)
        obtain ⟨b, o, rfl⟩ := hrd.there (by omega)
        obtain ⟨c0, c1, c2, c3⟩ := Ops.c hrd hlt
        clear hrd
        generalize lA[k] = op at *
        obtain ⟨s, v, d⟩ := op
        have HTs := Lib.hid (hTe.step (s, v, !d))
        have HMl := Lib.hid (mstep_len hTe.canon.rise (s, v, !d))
        have HOl := Lib.hid (ostep_len ops (s, v, !d))
        have hkB : Kp Non wr (wr.alloc (.cells #[.int .i64 s.1, .int .i64 s.2, .int .i64 v, .bool d] 47)) := (Kp.refl _ _).alloc _
        have hbx := heap_alloc_new wr (.cells #[.int .i64 s.1, .int .i64 s.2, .int .i64 v, .bool d] 47)
        have hT1 := hT.non hkB
        have hR1 : Boxed _ w.heap.size 4 (.bool false) := hRb.alloc (.cells #[.int .i64 s.1, .int .i64 s.2, .int .i64 v, .bool d] 47)
        cases d with
        | true =>
          have HMC := Lib.hid (hT1.mapCall (M' := mstep M (s, v, false)) (f := 29) fun al cl av cv hM => dropI_any _ M s v _ (by omega) al cl av cv hM)
          gi_wp2_with fail
          refine ⟨trivial, ?_⟩
          refine (callsIn_wide.2 (HMC.out)).mono ?_
          rintro e W2 ⟨rfl, hT2, hk2, hop⟩
          have hbx2 := hop _ _ _ hbx
          have hR2 : Boxed W2 w.heap.size 4 (.bool false) := hk2.heap hR1 (fun q => by omega)
          have e0 : W2.cell? ⟨wr.heap.size, 0, none⟩ = some (.int .i64 s.1) := (cell_of_row W2 wr.heap.size 0 _ _ _ hbx2).trans rfl
          have e1 : W2.cell? ⟨wr.heap.size, 1, none⟩ = some (.int .i64 s.2) := (cell_of_row W2 wr.heap.size 1 _ _ _ hbx2).trans rfl
          have e2 : W2.cell? ⟨wr.heap.size, 2, none⟩ = some (.int .i64 v) := (cell_of_row W2 wr.heap.size 2 _ _ _ hbx2).trans rfl
          have e3 : W2.cell? ⟨wr.heap.size, 3, none⟩ = some (.bool true) := (cell_of_row W2 wr.heap.size 3 _ _ _ hbx2).trans rfl
          have HDC := Lib.hid (hT2.docCall (f := 31) (args := #[.pointer (some ⟨w.heap.size + 1 + 1, 0, none⟩), valS s, .int .i64 v, .bool false]) (ops' := ostep ops (s, v, false)) fun bl dl bv dv bo d hM => rDo_calls _ ops bl dl bv dv bo d s v false W2 hM (by omega))
          gi_wp2_with fail
          refine ⟨trivial, ?_⟩
          refine (callsIn_wide.2 (HDC.out)).mono ?_
          rintro e W3 ⟨rfl, hT3, hk3, _⟩
          have hR3 : Boxed W3 w.heap.size 4 (.bool false) := hk3.heap hR2 (fun q => by omega)
          gi_wp2_with fail
          go_roundw
          case rel => exact ⟨k + 1, _, _, by omega, by omega, by go_num, hT3, HTs.out, by have := HMl.out; simp only [Bool.not_true] at this; omega, by have := HOl.out; simp only [Bool.not_true] at this; omega, hR3⟩
          case measure => simp [intOf]; omega
        | false =>
          have HMC := Lib.hid (hT1.mapCall (M' := mstep M (s, v, true)) (f := 30) fun al cl av cv hM => putI_any _ M s v _ (by omega) al cl av cv hM)
          gi_wp2_with fail
          refine ⟨trivial, ?_⟩
          refine (callsIn_wide.2 (HMC.out)).mono ?_
          rintro e W2 ⟨rfl, hT2, hk2, hop⟩
          have hbx2 := hop _ _ _ hbx
          have hR2 : Boxed W2 w.heap.size 4 (.bool false) := hk2.heap hR1 (fun q => by omega)
          have e0 : W2.cell? ⟨wr.heap.size, 0, none⟩ = some (.int .i64 s.1) := (cell_of_row W2 wr.heap.size 0 _ _ _ hbx2).trans rfl
          have e1 : W2.cell? ⟨wr.heap.size, 1, none⟩ = some (.int .i64 s.2) := (cell_of_row W2 wr.heap.size 1 _ _ _ hbx2).trans rfl
          have e2 : W2.cell? ⟨wr.heap.size, 2, none⟩ = some (.int .i64 v) := (cell_of_row W2 wr.heap.size 2 _ _ _ hbx2).trans rfl
          have e3 : W2.cell? ⟨wr.heap.size, 3, none⟩ = some (.bool false) := (cell_of_row W2 wr.heap.size 3 _ _ _ hbx2).trans rfl
          have HDC := Lib.hid (hT2.docCall (f := 31) (args := #[.pointer (some ⟨w.heap.size + 1 + 1, 0, none⟩), valS s, .int .i64 v, .bool true]) (ops' := ostep ops (s, v, true)) fun bl dl bv dv bo d hM => rDo_calls _ ops bl dl bv dv bo d s v true W2 hM (by omega))
          gi_wp2_with fail
          refine ⟨trivial, ?_⟩
          refine (callsIn_wide.2 (HDC.out)).mono ?_
          rintro e W3 ⟨rfl, hT3, hk3, _⟩
          have hR3 : Boxed W3 w.heap.size 4 (.bool false) := hk3.heap hR2 (fun q => by omega)
          gi_wp2_with fail
          go_roundw
          case rel => exact ⟨k + 1, _, _, by omega, by omega, by go_num, hT3, HTs.out, by have := HMl.out; simp only [Bool.not_false] at this; omega, by have := HOl.out; simp only [Bool.not_false] at this; omega, hR3⟩
          case measure => simp [intOf]; omega
      · have hex : (k < lA.length ∧ 60 ≤ k) ∨ k = lA.length := by omega
        have hrd := hA.non (hT.kp.mono fun i hi (q : i = w.heap.size) => by omega)
        have hML : M.length ≤ 120 := by omega
        have hOL : ops.length ≤ 60 := by omega
        clear hgo hMl hol
        rcases hex with ⟨hlt, hge⟩ | rfl
        case inl =>
          have g : (k : Int) < (lA.length : Nat) := by omega
          have g6 : ¬ (k : Int) < 60 := by omega
          obtain ⟨b, o, rfl⟩ := hrd.there (by omega)
          obtain ⟨c0, c1, c2, c3⟩ := Ops.c hrd hlt
          clear hrd
          generalize lA[k] = op at *
          obtain ⟨s, v, d⟩ := op
          have hT1 := hT.non ((Kp.refl Non wr).alloc (.cells #[.int .i64 s.1, .int .i64 s.2, .int .i64 v, .bool d] 47))
          have hR1 : Boxed _ w.heap.size 4 (.bool false) := hRb.alloc (.cells #[.int .i64 s.1, .int .i64 s.2, .int .i64 v, .bool d] 47)
          clear hT hRb
          gi_wp2_with fail
          gi_meet
          case rel => exact ⟨M, ops, hT1, hTe, hML, hOL, hR1⟩
        case inr =>
          gi_wp2_with fail
          gi_meet
          case rel => exact ⟨M, ops, hT, hTe, hML, hOL, hRb⟩
  case rest =>
    obtain ⟨M, ops, hT1, hTe, hMl, hol, hR1⟩ := hcut
    obtain ⟨W, rfl⟩ : ∃ W, W = wc := ⟨_, rfl⟩
    obtain ⟨al, cl, av, cv, bl, dl, bv, dv, bo, d_, hM, hX, hMS, hRS⟩ := hT1.ex
    have hkW := hT1.kp
    have HSay := Lib.hid hTe.say
    have HPc := Lib.hid hTe.pieces
    have hBW := hB.non (hkW.mono fun i hi (q : i = w.heap.size) => by omega)
    clear hT1 hTe
    gi_wp2_with fail
    gi_loopw [54] (fun v54 wx => ∃ k : Nat, k ≤ lB.length ∧ v54 = .int .i64 k ∧ Kp Non W wx) (fun v54 _ => lB.length - (intOf v54).toNat)
    case atStart => exact ⟨0, by omega, rfl, Kp.refl _ _⟩
    case round =>
      obtain ⟨k, hk, rfl, hkr⟩ := hrel
      by_cases hlt : k < lB.length
      · have g : (k : Int) < (lB.length : Nat) := by omega
        have hBr := hBW.non hkr
        obtain ⟨b, o, rfl⟩ := hBr.there (by omega)
        have c0 := Ints.c hBr hlt
        generalize lB[k] = z at *
        have hG1 : Calls Try.prog 32 #[.pointer (some ⟨w.heap.size + 1, 0, none⟩), .int .i64 z] wr (PairOut ((get M z).getD 0) (get M z).isSome wr) := getI_calls _ M al cl av cv z wr (hM.non hkr)
        have hG2 : ∀ W', Kp Non W W' → Calls Try.prog 33 #[.pointer (some ⟨w.heap.size + 1 + 1, 0, none⟩), .int .i64 z] W' (PairOut ((getD ops z).getD 0) (getD ops z).isSome W') := fun W' hW' => rGet_calls _ ops bl dl bv dv bo d_ z W' (hX.non hW') (by omega)
        rw [HSay.out z] at hG1
        generalize (getD ops z).getD 0 = rv at *
        generalize (getD ops z).isSome = rb at *
        have HG1 := Lib.hid hG1
        have HG2 := Lib.hid hG2
        clear hG1 hG2
        gi_wp2_with fail
        refine ⟨trivial, ?_⟩
        refine (callsIn_wide.2 (HG1.out)).mono ?_
        rintro e W2 ⟨rfl, hk2⟩
        gi_wp2_with fail
        refine ⟨trivial, ?_⟩
        refine (callsIn_wide.2 (HG2.out W2 (hkr.trans hk2))).mono ?_
        rintro e W3 ⟨rfl, hk3⟩
        by_cases h200 : (k : Int) < 200
        · gi_wp2_with fail
          go_roundw
          case rel => exact ⟨k + 1, by omega, by go_num, hkr.trans (hk2.trans hk3)⟩
          case measure => simp [intOf]; omega
        · have hd : decide ((k : Int) < 200) = false := by simp; omega
          gi_wp2_with fail
          go_roundw
          case rel => exact ⟨k + 1, by omega, by go_num, hkr.trans (hk2.trans hk3)⟩
          case measure => simp [intOf]; omega
      · obtain rfl : k = lB.length := by omega
        have HP := Lib.hid (rPieces_calls _ ops bl dl bv dv bo d_ wr (hX.non hkr) (by omega))
        rw [HPc.out] at HP
        have hMr := hM.non hkr
        have hRr : Boxed wr w.heap.size 4 (.bool false) := hkr.heap hR1 (fun f => f)
        have hkr := hkW.comp hkr (U := One w.heap.size) (fun _ _ q => q) (fun _ _ f => f.elim)
        gi_wp2_with fail
        refine ⟨trivial, ?_⟩
        refine (callsIn_wide.2 (HP.out)).mono ?_
        rintro e w3 ⟨a1, c1, a2, c2, rfl, hO1, hO2, hk3⟩
        have hR3 : Boxed w3 w.heap.size 4 (.bool false) := hk3.heap hRr (fun f => f)
        have hM3 := hMr.non hk3
        have hkw3 := hkr.comp hk3 (U := One w.heap.size) (fun _ _ q => q) (fun _ _ f => f.elim)
        clear hRr hMr hkr hM hX hMS hRS hkW hBW hR1 HSay HPc HP
        gi_wp2_with fail
        refine ⟨trivial, ?_⟩
        refine (callsIn_wide.2 (eachI_calls _ _)).mono ?_
        rintro e w4 ⟨rfl, hw4⟩
        gi_wp2_with fail
        obtain ⟨bS, bV, bK, bP, hkN, hsz⟩ := boxes4 w3 (.slice a1 M.length c1) (.slice a2 M.length c2) (.int .i64 0) (.pointer (some ⟨w.heap.size + 1, 0, none⟩)) 22 37 3 61
        generalize hW5 : (((w3.alloc (.cells #[.slice a1 M.length c1] 22)).alloc (.cells #[.slice a2 M.length c2] 37)).alloc (.cells #[.int .i64 0] 3)).alloc (.cells #[.pointer (some ⟨w.heap.size + 1, 0, none⟩)] 61) = W5 at *
        have hM5 := hM3.non hkN
        have hR5 : Boxed W5 w.heap.size 4 (.bool false) := hkN.heap hR3 (fun f => f)
        have hkw5 := hkw3.comp hkN (U := One w.heap.size) (fun _ _ q => q) (fun _ _ f => f.elim)
        have hS5 := (hO1.non hkN).lower (Nat.zero_le _)
        have hV5 := (hO2.non hkN).lower (Nat.zero_le _)
        have hrb : w.heap.size < w3.heap.size := hR3.lt
        have hmb : w.heap.size + 1 < w3.heap.size := hM3.lt
        clear hW5 hR3 hkw3
        refine wpIn_rangeFunc_ownH rfl h1 (gf := 60) (lb := #[.pointer (some ⟨w3.heap.size + 1 + 1 + 1, 0, none⟩)]) rfl trivial (enters_of Try.func60 (by kernel_rfl) rfl)
          (eachItI_stops 3 (by omega) W5.heap.size (w3.heap.size + 1 + 1 + 1) (w.heap.size + 1) M al cl av cv W5 (Nat.le_refl _) bP.cell hM5 (by omega)) (fun h k => h.trans k) (fun W l o o' hl h2 h3 h4 => KG.putObj (w := W5) hM5.lt W l o o' hl h2 h3 h4) (Below.refl _ _) (fun _ => rfl)
          (fun pre W => pre = M.take pre.length ∧ EachSt w w3.heap.size M al cl av cv a1 c1 a2 c2 pre.length W)
          (fun c pre _ => c = .ret ∧ ¬ pre <+: M)
          (fun s A B row hs hg hr => ⟨hs.1, EachSt.own (b := W5.heap.size) (by omega) _ A B row hs.2 hg hr⟩)
          (fun c s A B row hs _ _ => hs)
          ⟨by simp, bS, bV, bK, hR5, hS5, hV5, hM5, hkw5, fun i q => (hO1.blk i q).2, fun i q => (hO2.blk i q).2, fun i q => hM3.old i q⟩
          (fun x a' W => ∃ b, a' = { tmps := #[.slice aA lA.length cA, .slice aB lB.length cB, undef, undef, .pointer (some ⟨w.heap.size, 0, none⟩), .pointer (some ⟨w.heap.size + 1, 0, none⟩), .pointer (some ⟨w.heap.size + 1 + 1, 0, none⟩), u7, u8, u9, u10, u11, u12, u13, u14, .pointer (some ⟨w3.heap.size, 0, none⟩), .pointer (some ⟨w3.heap.size + 1, 0, none⟩), .pointer (some ⟨w3.heap.size + 1 + 1, 0, none⟩), .func (.func 60) #[] #[.pointer (some ⟨w3.heap.size + 1 + 1 + 1, 0, none⟩)], .pointer (some ⟨b, 0, none⟩), .int .i64 x.2, u21, u22, u23, u24, u25, u26, u27, u28, u29, u30, u31, u32, u33, u34, u35, u36, u37, u38, u39, u40, u41, u42, u43, u44, u45, u46, u47, u48, u49, u50, u51, .slice aB lB.length cB, .int .i64 (lB.length : Int), .int .i64 (lB.length : Int), .bool false, u56, u57, u58, u59, u60, u61, u62, u63, u64, u65, u66, u67, u68, u69, u70, u71, u72, u73, u74, u75, u76, u77, u78, u79, u80, u81, u82, .tuple #[.slice a1 M.length c1, .slice a2 M.length c2], .pointer (some ⟨w.heap.size + 1 + 1, 0, none⟩), .tuple #[.slice a1 M.length c1, .slice a2 M.length c2], .slice a1 M.length c1, .slice a2 M.length c2, .func (.func 60) #[] #[.pointer (some ⟨w3.heap.size + 1 + 1 + 1, 0, none⟩)], .func (.func 60) #[] #[.pointer (some ⟨w3.heap.size + 1 + 1 + 1, 0, none⟩)], .bool false, .func (.func 60) #[] #[.pointer (some ⟨w3.heap.size + 1 + 1 + 1, 0, none⟩)], valS x.1, .int .i64 x.2, u94, u95, u96, u97, u98, u99, u100, u101, u102, u103, u104, u105, u106, u107, u108, u109, u110, u111, u112, u113, u114, u115, u116, u117, u118, u119, u120, u121, u122, u123, u124, u125, u126, u127], defers := [] } ∧ BoxS W b x.1)
          (fun x a' _ A B row hs hg hr => by
            obtain ⟨b, e, hb⟩ := hs
            exact ⟨b, e, cells_kept hg (fun r e => (hr r e).2) hb⟩) ?assign ?body ?done ?stop
        case assign =>
          intro lp pre x W K hI hK
          simp [encsI]
          gi_wp2
          have hkA2 : Kp Non W (W.alloc (.cells #[.int .i64 x.1.1, .int .i64 x.1.2] 30)) := (Kp.refl _ _).alloc _
          exact hK _ _ ((KeepsOthers.alloc W _).from _) (KG.of_kp hkA2 hI.2.map.lt (fun _ f => f.elim)) ⟨hI.1, hI.2.kpn hkA2⟩ ⟨W.heap.size, rfl, BoxS.new W x.1⟩
        case body =>
          rintro lp pre x a' W hl hrec ⟨hpre, hE⟩ ⟨b, rfl, hbx⟩ hlt
          have x0 := hE.bS.cell
          have x1 := hE.bV.cell
          have x2 := hE.bK.cell
          have f2 := hE.bK.frozen
          have xR := hE.bR.cell
          have fR := hE.bR.frozen
          have z0 := hbx.c0
          have z1 := hbx.c1
          have hRS := hE.spans.reads encS_len (by omega)
          have hRV := hE.vals.reads encI_len (by omega)
          have hcS := hRS.cap
          have hmS := hRS.max
          have hcV := hRV.cap
          have hmV := hRV.max
          obtain ⟨gS, oS, hgS⟩ := hRS.there (by omega)
          obtain ⟨gV, oV, hgV⟩ := hRV.there (by omega)
          rw [hgS] at hRS
          rw [hgV] at hRV
          have y0 := Spans.c0 hRS (j := pre.length) (by simpa using hlt)
          have y1 := Spans.c1 hRS (j := pre.length) (by simpa using hlt)
          have v0 := Ints.c hRV (j := pre.length) (by simpa using hlt)
          simp only [List.getElem_map] at y0 y1 v0
          rw [hgS] at x0
          rw [hgV] at x1
          have HPre := Lib.hid (fun (h : x = M[pre.length]) => (show pre ++ [x] = M.take (pre ++ [x]).length by rw [List.length_append, List.length_singleton, List.take_succ_eq_append_getElem hlt, ← h, ← hpre]))
          have HNot := Lib.hid (fun (h : x ≠ M[pre.length]) (q : (pre ++ [x]) <+: M) => h (by
            obtain ⟨t, ht⟩ := q
            have : (pre ++ [x] ++ t)[pre.length]? = M[pre.length]? := by rw [ht]
            rw [List.append_assoc, List.getElem?_append_right (Nat.le_refl _), Nat.sub_self, List.getElem?_eq_getElem hlt] at this
            simpa using this))
          have hd : decide (M.length ≤ pre.length) = false := by simp; omega
          have HE := Lib.hid hE
          have HW5 := Lib.hid hsz
          have hmb2 := hE.map.lt
          clear hRS hRV hgS hgV hpre hE bS bV bK bP hR5 hM5 hS5 hV5 hkw5 hbx hO1 hO2 hM3
          generalize M[pre.length] = p at *
          obtain ⟨⟨s1, s2⟩, xv⟩ := x
          obtain ⟨⟨t1, t2⟩, pv⟩ := p
          simp only at y0 y1 v0 z0 z1
          by_cases e1 : s1 = t1
          · by_cases e2 : s2 = t2
            · subst e1
              subst e2
              by_cases e3 : xv = pv
              · subst e3
                gi_wp2
                refine wpIn_region_chain [0,0,0,0,0,0,0,0,0,0,0,0,0,0,0,0,0,0,0,0] (by kernel_rfl) (fun _ => trivial) (by kernel_rfl) (by kernel_rfl) (fun w' => w'.cell? ⟨w3.heap.size + 1 + 1, 0, none⟩ = some (.int .i64 pre.length) ∧ w'.cell? ⟨w3.heap.size, 0, none⟩ = some (.slice (some ⟨gS, oS, none⟩) M.length c1) ∧ w'.cell? ⟨w3.heap.size + 1, 0, none⟩ = some (.slice (some ⟨gV, oV, none⟩) M.length c2) ∧ w'.cell? ⟨b, 0, none⟩ = some (.int .i64 s1) ∧ w'.cell? ⟨b, 1, none⟩ = some (.int .i64 s2) ∧ w'.cell? ⟨gS, oS + pre.length * 2, none⟩ = some (.int .i64 s1) ∧ w'.cell? ⟨gS, oS + pre.length * 2 + 1, none⟩ = some (.int .i64 s2) ∧ w'.cell? ⟨gV, oV + pre.length, none⟩ = some (.int .i64 xv)) ⟨x2, x0, x1, z0, z1, y0, y1, v0⟩ ?_
                iterate 5 ((with_reducible refine pure_kI rfl ?_); intro K hK; apply Exists.intro; refine ⟨fun w' hC => ?_, ?_⟩; (obtain ⟨g1, g2, g3, g4, g5, g6, g7, g8⟩ := hC; go_simp; rfl); go_simp; refine hK _ ?_; clear hK K)
                iterate 6 ((with_reducible refine pure_kyI (by simp [Region.wanted, yielded]) ?_); intro K hK; apply Exists.intro; refine ⟨fun w' hC => ?_, ?_⟩; (obtain ⟨g1, g2, g3, g4, g5, g6, g7, g8⟩ := hC; go_simp; rfl); go_simp; refine hK _ ?_; clear hK K)
                iterate 2 ((with_reducible refine pure_kI rfl ?_); intro K hK; apply Exists.intro; refine ⟨fun w' hC => ?_, ?_⟩; (obtain ⟨g1, g2, g3, g4, g5, g6, g7, g8⟩ := hC; go_simp; rfl); go_simp; refine hK _ ?_; clear hK K)
                iterate 6 ((with_reducible refine pure_kyI (by simp [Region.wanted, yielded]) ?_); intro K hK; apply Exists.intro; refine ⟨fun w' hC => ?_, ?_⟩; (obtain ⟨g1, g2, g3, g4, g5, g6, g7, g8⟩ := hC; go_simp; rfl); go_simp; refine hK _ ?_; clear hK K)
                iterate 1 ((with_reducible refine pure_kI rfl ?_); intro K hK; apply Exists.intro; refine ⟨fun w' hC => ?_, ?_⟩; (obtain ⟨g1, g2, g3, g4, g5, g6, g7, g8⟩ := hC; go_simp; rfl); go_simp; refine hK _ ?_; clear hK K)
                with_reducible refine pure_nilI ?_
                repeat (with_reducible refine chain_skip0I ?_)
                with_reducible refine chain_nilI ?_
                have hK := Lib.hid (HE.out.setK (pre.length + 1))
                have hw1 : IntKind.i64.wrap ((pre.length : Int) + 1) = ((pre.length + 1 : Nat) : Int) := by rw [IntKind.wrap_i64] <;> omega
                gi_wp2
                obtain ⟨h1, h2⟩ := hK.out
                have hd := Kp.drew (Kp.refl Non (W.setCell ⟨w3.heap.size + 1 + 1, 0, none⟩ (.int .i64 ((pre.length + 1 : Nat) : Int))))
                refine ⟨⟨((KeepsOthers.setCell W _ _).from 0).size, fun k o _ ho hc => ((KeepsOthers.setCell W _ _).from 0).same k o (Nat.zero_le _) ho hc⟩, ?_, HPre.out trivial, ?_⟩
                · rw [HW5.out]; exact h2.trans (KG.of_kp hd h1.map.lt (fun _ f => f.elim))
                · rw [List.length_append, List.length_singleton]; exact h1.kpn hd
              · have hn := HNot.out (fun q => e3 (by simpa using congrArg Prod.snd q))
                have HN := Lib.hid hn
                have hne : (xv != pv) = true := by simp; exact e3
                clear hn HNot HPre
                gi_wp2
                refine wpIn_region_chain [0,0,0,0,0,0,0,0,0,0,0,0,0,0,0,0,0,0,0,0] (by kernel_rfl) (fun _ => trivial) (by kernel_rfl) (by kernel_rfl) (fun w' => w'.cell? ⟨w3.heap.size + 1 + 1, 0, none⟩ = some (.int .i64 pre.length) ∧ w'.cell? ⟨w3.heap.size, 0, none⟩ = some (.slice (some ⟨gS, oS, none⟩) M.length c1) ∧ w'.cell? ⟨w3.heap.size + 1, 0, none⟩ = some (.slice (some ⟨gV, oV, none⟩) M.length c2) ∧ w'.cell? ⟨b, 0, none⟩ = some (.int .i64 s1) ∧ w'.cell? ⟨b, 1, none⟩ = some (.int .i64 s2) ∧ w'.cell? ⟨gS, oS + pre.length * 2, none⟩ = some (.int .i64 s1) ∧ w'.cell? ⟨gS, oS + pre.length * 2 + 1, none⟩ = some (.int .i64 s2) ∧ w'.cell? ⟨gV, oV + pre.length, none⟩ = some (.int .i64 pv)) ⟨x2, x0, x1, z0, z1, y0, y1, v0⟩ ?_
                iterate 5 ((with_reducible refine pure_kI rfl ?_); intro K hK; apply Exists.intro; refine ⟨fun w' hC => ?_, ?_⟩; (obtain ⟨g1, g2, g3, g4, g5, g6, g7, g8⟩ := hC; go_simp; rfl); go_simp; refine hK _ ?_; clear hK K)
                iterate 6 ((with_reducible refine pure_kyI (by simp [Region.wanted, yielded]) ?_); intro K hK; apply Exists.intro; refine ⟨fun w' hC => ?_, ?_⟩; (obtain ⟨g1, g2, g3, g4, g5, g6, g7, g8⟩ := hC; go_simp; rfl); go_simp; refine hK _ ?_; clear hK K)
                iterate 2 ((with_reducible refine pure_kI rfl ?_); intro K hK; apply Exists.intro; refine ⟨fun w' hC => ?_, ?_⟩; (obtain ⟨g1, g2, g3, g4, g5, g6, g7, g8⟩ := hC; go_simp; rfl); go_simp; refine hK _ ?_; clear hK K)
                iterate 6 ((with_reducible refine pure_kyI (by simp [Region.wanted, yielded]) ?_); intro K hK; apply Exists.intro; refine ⟨fun w' hC => ?_, ?_⟩; (obtain ⟨g1, g2, g3, g4, g5, g6, g7, g8⟩ := hC; go_simp; rfl); go_simp; refine hK _ ?_; clear hK K)
                iterate 1 ((with_reducible refine pure_kI rfl ?_); intro K hK; apply Exists.intro; refine ⟨fun w' hC => ?_, ?_⟩; (obtain ⟨g1, g2, g3, g4, g5, g6, g7, g8⟩ := hC; go_simp; rfl); go_simp; refine hK _ ?_; clear hK K)
                with_reducible refine pure_nilI ?_
                repeat (with_reducible refine chain_skip0I ?_)
                with_reducible refine chain_nilI ?_
                gi_wp2
                exact ⟨⟨((KeepsOthers.setCell W _ _).from 0).size, fun k o _ ho hc => ((KeepsOthers.setCell W _ _).from 0).same k o (Nat.zero_le _) ho hc⟩, rfl, HN.out⟩
            · have hn := HNot.out (fun q => e2 (by simpa using congrArg (fun z => z.1.2) q))
              have HN := Lib.hid hn
              have hne : decide (s2 = t2) = false := decide_eq_false e2
              clear hn HNot HPre
              subst e1
              gi_wp2
              refine wpIn_region_chain [0,0,0,0,0,0,0,0,0,0,0,0,0,0,0,0,0,0,0,0] (by kernel_rfl) (fun _ => trivial) (by kernel_rfl) (by kernel_rfl) (fun w' => w'.cell? ⟨w3.heap.size + 1 + 1, 0, none⟩ = some (.int .i64 pre.length) ∧ w'.cell? ⟨w3.heap.size, 0, none⟩ = some (.slice (some ⟨gS, oS, none⟩) M.length c1) ∧ w'.cell? ⟨w3.heap.size + 1, 0, none⟩ = some (.slice (some ⟨gV, oV, none⟩) M.length c2) ∧ w'.cell? ⟨b, 0, none⟩ = some (.int .i64 s1) ∧ w'.cell? ⟨b, 1, none⟩ = some (.int .i64 s2) ∧ w'.cell? ⟨gS, oS + pre.length * 2, none⟩ = some (.int .i64 s1) ∧ w'.cell? ⟨gS, oS + pre.length * 2 + 1, none⟩ = some (.int .i64 t2) ∧ w'.cell? ⟨gV, oV + pre.length, none⟩ = some (.int .i64 pv)) ⟨x2, x0, x1, z0, z1, y0, y1, v0⟩ ?_
              iterate 5 ((with_reducible refine pure_kI rfl ?_); intro K hK; apply Exists.intro; refine ⟨fun w' hC => ?_, ?_⟩; (obtain ⟨g1, g2, g3, g4, g5, g6, g7, g8⟩ := hC; go_simp; rfl); go_simp; refine hK _ ?_; clear hK K)
              iterate 6 ((with_reducible refine pure_kyI (by simp [Region.wanted, yielded]) ?_); intro K hK; apply Exists.intro; refine ⟨fun w' hC => ?_, ?_⟩; (obtain ⟨g1, g2, g3, g4, g5, g6, g7, g8⟩ := hC; go_simp; rfl); go_simp; refine hK _ ?_; clear hK K)
              iterate 2 ((with_reducible refine pure_kI rfl ?_); intro K hK; apply Exists.intro; refine ⟨fun w' hC => ?_, ?_⟩; (obtain ⟨g1, g2, g3, g4, g5, g6, g7, g8⟩ := hC; go_simp; rfl); go_simp; refine hK _ ?_; clear hK K)
              iterate 6 ((with_reducible refine pure_knI (by simp [Region.wanted, yielded]) ?_); intro K hK; go_simp; refine hK _ ?_; clear hK K)
              iterate 1 ((with_reducible refine pure_kI rfl ?_); intro K hK; apply Exists.intro; refine ⟨fun w' hC => ?_, ?_⟩; (obtain ⟨g1, g2, g3, g4, g5, g6, g7, g8⟩ := hC; go_simp; rfl); go_simp; refine hK _ ?_; clear hK K)
              with_reducible refine pure_nilI ?_
              repeat (with_reducible refine chain_skip0I ?_)
              with_reducible refine chain_nilI ?_
              gi_wp2
              exact ⟨⟨((KeepsOthers.setCell W _ _).from 0).size, fun k o _ ho hc => ((KeepsOthers.setCell W _ _).from 0).same k o (Nat.zero_le _) ho hc⟩, rfl, HN.out⟩
          · have hn := HNot.out (fun q => e1 (by simpa using congrArg (fun z => z.1.1) q))
            have HN := Lib.hid hn
            have hne : decide (s1 = t1) = false := decide_eq_false e1
            clear hn HNot HPre
            gi_wp2
            refine wpIn_region_chain [0,0,0,0,0,0,0,0,0,0,0,0,0,0,0,0,0,0,0,0] (by kernel_rfl) (fun _ => trivial) (by kernel_rfl) (by kernel_rfl) (fun w' => w'.cell? ⟨w3.heap.size + 1 + 1, 0, none⟩ = some (.int .i64 pre.length) ∧ w'.cell? ⟨w3.heap.size, 0, none⟩ = some (.slice (some ⟨gS, oS, none⟩) M.length c1) ∧ w'.cell? ⟨w3.heap.size + 1, 0, none⟩ = some (.slice (some ⟨gV, oV, none⟩) M.length c2) ∧ w'.cell? ⟨b, 0, none⟩ = some (.int .i64 s1) ∧ w'.cell? ⟨b, 1, none⟩ = some (.int .i64 s2) ∧ w'.cell? ⟨gS, oS + pre.length * 2, none⟩ = some (.int .i64 t1) ∧ w'.cell? ⟨gS, oS + pre.length * 2 + 1, none⟩ = some (.int .i64 t2) ∧ w'.cell? ⟨gV, oV + pre.length, none⟩ = some (.int .i64 pv)) ⟨x2, x0, x1, z0, z1, y0, y1, v0⟩ ?_
            iterate 5 ((with_reducible refine pure_kI rfl ?_); intro K hK; apply Exists.intro; refine ⟨fun w' hC => ?_, ?_⟩; (obtain ⟨g1, g2, g3, g4, g5, g6, g7, g8⟩ := hC; go_simp; rfl); go_simp; refine hK _ ?_; clear hK K)
            iterate 6 ((with_reducible refine pure_kyI (by simp [Region.wanted, yielded]) ?_); intro K hK; apply Exists.intro; refine ⟨fun w' hC => ?_, ?_⟩; (obtain ⟨g1, g2, g3, g4, g5, g6, g7, g8⟩ := hC; go_simp; rfl); go_simp; refine hK _ ?_; clear hK K)
            iterate 2 ((with_reducible refine pure_kI rfl ?_); intro K hK; apply Exists.intro; refine ⟨fun w' hC => ?_, ?_⟩; (obtain ⟨g1, g2, g3, g4, g5, g6, g7, g8⟩ := hC; go_simp; rfl); go_simp; refine hK _ ?_; clear hK K)
            iterate 6 ((with_reducible refine pure_knI (by simp [Region.wanted, yielded]) ?_); intro K hK; go_simp; refine hK _ ?_; clear hK K)
            iterate 1 ((with_reducible refine pure_kI rfl ?_); intro K hK; apply Exists.intro; refine ⟨fun w' hC => ?_, ?_⟩; (obtain ⟨g1, g2, g3, g4, g5, g6, g7, g8⟩ := hC; go_simp; rfl); go_simp; refine hK _ ?_; clear hK K)
            with_reducible refine pure_nilI ?_
            repeat (with_reducible refine chain_skip0I ?_)
            with_reducible refine chain_nilI ?_
            gi_wp2
            exact ⟨⟨((KeepsOthers.setCell W _ _).from 0).size, fun k o _ ho hc => ((KeepsOthers.setCell W _ _).from 0).same k o (Nat.zero_le _) ho hc⟩, rfl, HN.out⟩
        case done =>
          rintro D ys W hD rfl ⟨hpq, hE⟩ hK
          clear hpq hw4
          have x0 := hE.bS.cell
          have x2 := hE.bK.cell
          have xR := hE.bR.cell
          have HL := Lib.hid (fun W' (q : Kp Non W W') => lenI_calls (w.heap.size + 1) ys al cl av cv W' (hE.map.non q) (by omega))
          have HE := Lib.hid hE
          have heq : ((ys.length : Int) == (ys.length : Int)) = true := beq_self_eq_true _
          have HD := Lib.hid hK
          clear hE bS bV bK bP hR5 hM5 hS5 hV5 hkw5 hO1 hO2 hM3 hsz hK heq
          gi_wp2
          refine wpIn_region_chain [0,0,0,0,0,1,0,2,2,2,2,2,2] (by kernel_rfl) (fun _ => trivial) (by kernel_rfl) (by kernel_rfl) (fun w' => w'.cell? ⟨w3.heap.size + 1 + 1, 0, none⟩ = some (.int .i64 ys.length) ∧ w'.cell? ⟨w3.heap.size, 0, none⟩ = some (.slice a1 ys.length c1)) ⟨x2, x0⟩ ?_
          iterate 5 ((with_reducible refine pure_kI rfl ?_); intro K hK; apply Exists.intro; refine ⟨fun w' hC => ?_, ?_⟩; (obtain ⟨g1, g2⟩ := hC; go_simp; rfl); go_simp; refine hK _ ?_; clear hK K)
          iterate 1 (with_reducible refine pure_skipI ?_)
          iterate 1 ((with_reducible refine pure_kyI (by simp [Region.wanted, yielded]) ?_); intro K hK; apply Exists.intro; refine ⟨fun w' hC => ?_, ?_⟩; (obtain ⟨g1, g2⟩ := hC; go_simp; rfl); go_simp; refine hK _ ?_; clear hK K)
          iterate 6 (with_reducible refine pure_skipI ?_)
          with_reducible refine pure_nilI ?_
          repeat (with_reducible refine chain_skip0I ?_)
          with_reducible refine chain_kyI (by simp [Region.wanted, yielded]) fun K hK => ?_
          go_simp
          have hkd := Kp.drew (Kp.refl Non W)
          refine ⟨trivial, ?_⟩
          refine (callsIn_wide.2 (HL.out _ hkd)).mono ?_
          rintro e w6 ⟨rfl, hk6⟩
          have hk6 := hkd.trans hk6
          refine hK _ _ (fun _ => ⟨hk6.cell x2 (fun f => f), hk6.cell x0 (fun f => f)⟩) ?_
          clear hK K
          repeat (with_reducible refine chain_skip0I ?_)
          with_reducible refine chain_kyI (by simp [Region.wanted, yielded]) fun K hK => ?_
          go_simp
          refine hK _ _ (fun h => by cases h) ?_
          clear hK K
          repeat (with_reducible refine chain_skip0I ?_)
          with_reducible refine chain_stepI rfl fun K hK => ?_
          go_simp
          refine hK _ _ (fun h => by cases h) ?_
          clear hK K
          repeat (with_reducible refine chain_skip0I ?_)
          with_reducible refine chain_stepI rfl fun K hK => ?_
          go_simp
          refine hK _ _ (fun h => by cases h) ?_
          clear hK K
          with_reducible refine chain_kyI (by simp [Region.wanted, yielded]) fun K hK => ?_
          go_simp
          refine ⟨trivial, ?_⟩
          refine (callsIn_wide.2 (lives_true w6)).mono ?_
          rintro e w7 ⟨rfl, hk7⟩
          have hk7 := hk6.trans hk7
          have xR7 := hk7.cell xR (fun f => f)
          have fR7 : w7.frozen? ⟨w.heap.size, 0, none⟩ = false := (HE.out.kpn hk7).bR.frozen
          refine hK _ _ (fun h => by cases h) ?_
          clear hK K
          repeat (with_reducible refine chain_skip0I ?_)
          with_reducible refine chain_stepI rfl fun K hK => ?_
          go_simp
          refine hK _ _ (fun h => by cases h) ?_
          clear hK K
          repeat (with_reducible refine chain_skip0I ?_)
          with_reducible refine chain_stepI rfl fun K hK => ?_
          go_simp
          refine hK _ _ (fun h => by cases h) ?_
          clear hK K
          with_reducible refine chain_nilI ?_
          gi_wp2
          have hRf : Boxed (w7.setCell ⟨w.heap.size, 0, none⟩ (.bool true)) w.heap.size 4 (.bool true) := (HE.out.kpn hk7).bR.set (.bool true)
          have hks : Kp (One w.heap.size) w7 (w7.setCell ⟨w.heap.size, 0, none⟩ (.bool true)) := Kp.setCell (S := One w.heap.size) (Kp.refl _ _) (p := ⟨w.heap.size, 0, none⟩) (.inl rfl) _
          have hD7 : (w7.setCell ⟨w.heap.size, 0, none⟩ (.bool true)).heap[D]? = some (.deferred (some [])) := hks.heap (hk7.heap HD.out (fun f => f)) (fun q => by have q : D = w.heap.size := q; have := hkN.size; omega)
          have hDne : D ≠ w.heap.size := fun q => by have := hkN.size; omega
          refine ⟨by simp, .inl ⟨_, _, rfl, run_takeDeferred hD7, ?_⟩⟩
          have hRg : ((w7.setCell ⟨w.heap.size, 0, none⟩ (.bool true)).putObj D (.deferred none)).cell? ⟨w.heap.size, 0, none⟩ = some (.bool true) := by
            have := hRf.cell
            rw [← this]
            simp only [World.cell?]
            rw [World.putObj_heap_other (fun e => hDne e.symm)]
          refine ⟨_, results_cell_bool rfl _ _ _ rfl hRg, rfl, ?_⟩
          exact ((HE.out.kp.comp (hk7.comp hks (U := One w.heap.size) (fun _ _ f => f.elim) (fun _ _ q => q)) (fun _ _ q => q) (fun _ _ q => q)).grown (grownBy_putObj' _ D _) (fun k e => by cases e; exact .inr (by have := hkN.size; omega))).mono fun i hi (q : i = w.heap.size) => by omega
        case stop =>
          rintro D c pre W hD hpre ⟨_, hn⟩ hK
          exact absurd hpre hn
open Go.ChangeShapes Go.WideShapes Go.ChangeAt
set_option maxRecDepth 100000 in
theorem span_maps_lifted (os : Os) (started : os.Started) (H : Type) (enc : TypeId × Value → H) :
    ReturnsInHanded {} Try.checked os 8 .any (Rows.spanMapsSpec.pre6 enc Try.prog Try.f8 Rows.spanMapsRow.domain false) (Rows.spanMapsSpec.post enc Try.prog Try.f8 false true false false) := by
  refine returnsInHanded_of_change_sized (C := Try.checked) own started (by kernel_rfl) Try.func8
    (ChangeSpec.witness6 (enc := enc) (C := Try.checked) false ⟨#[], #[.slice none 0 0, .slice none 0 0], []⟩ 8 (by kernel_rfl) (by kernel_rfl) (by kernel_rfl) (by kernel_rfl)) ?_
  intro W base args ds gs before hval0 hW hcnd _ _
  have hval : ∀ (j : Nat) t v, Try.f8.params[j]? = some t → args[j]? = some v → Value.okWide Try.prog W .any base t v := hval0
  have hW' := hW
  obtain ⟨p, q, hA0, hV, rfl, hfz, hnd⟩ := hW
  have hA : DataW.TrodAll enc Try.prog W 0 (fun _ => true) true Try.f8.params.toList args.toList ds p := hA0
  rw [Try.params8] at hA hval
  obtain ⟨v0, vs0, d0, ds0, p0, q0, hargs, rfl, rfl, h0, r0⟩ := trodAll_cons hA
  obtain ⟨v1, vs1, d1, ds1, p1, q1, rfl, rfl, rfl, h1, r1⟩ := trodAll_cons r0
  obtain ⟨rfl, rfl, rfl⟩ := trodAll_nil r1
  obtain rfl : args = #[v0, v1] := by cases args; simp_all
  obtain ⟨rfl, rfl⟩ := trodVars_none hV
  have lt0 : ∀ x ∈ p0, x.block < W.heap.size := by obtain ⟨m, hm⟩ := h0; exact DataW.trod_lt m _ _ _ hm
  have k0 := h0
  obtain ⟨a0, n0, c0, rfl⟩ := okWide_slice Try.underlying39 (hval 0 39 v0 rfl rfl)
  obtain ⟨l0, b0, i0⟩ := ops_in h0
  have lt1 : ∀ x ∈ p1, x.block < W.heap.size := by obtain ⟨m, hm⟩ := h1; exact DataW.trod_lt m _ _ _ hm
  have k1 := h1
  obtain ⟨a1, n1, c1, rfl⟩ := okWide_slice Try.underlying37 (hval 1 37 v1 rfl rfl)
  obtain ⟨l1, b1, i1⟩ := ints_in h1
  clear hA0 hval0
  refine (maps_walk a0 n0 c0 l0 a1 n1 c1 l1 W b0 b1).mono fun e W' ⟨he, hk⟩ => ?_
  have bel := hk.below
  subst he
  exact ⟨_, rfl, _, _, _, [], _, [], hW', trodAll_mk1 (shut_bool Try.underlying4 _), (trodAll_cons_mk (Below.trod laidOut (by kernel_rfl) (of_decide_eq_true (by kernel_rfl)) k0 bel lt0)
    (trodAll_cons_mk (Below.trod laidOut (by kernel_rfl) (of_decide_eq_true (by kernel_rfl)) k1 bel lt1)
    trodAll_mk0)), rfl, bel.frame _, fun h => by cases h⟩

theorem span_maps : Rows.SpanMapsSaid :=
  OpenClaim.holds_of_wide 8 Try.f8 rfl rfl rfl rfl rfl rfl rfl ⟨rfl, rfl, rfl, rfl, rfl⟩ rfl rfl rfl rfl rfl (by kernel_rfl) Try.func8 (by kernel_rfl)
    (of_decide_eq_true (by kernel_rfl)) (by unfold Func.isWrapper; first | (rw [if_pos (by decide +kernel)]; kernel_rfl) | (rw [if_neg (by decide +kernel)]; exact ⟨rfl, rfl⟩))
    (fun os started H enc _ => span_maps_lifted os started H enc)
#print axioms span_maps
end Go.Proofs.Ytkgjpmgoapfamaa
