/-
  SpanClones: a clone and its original go on apart; a loop goes over what there was when it began; a Map that there isn't has nothing. For every input. (The frame: sframe.py.)
-/
import Derived.Test.YtkgjpmgoapfamaaE19
import Derived.Test.YtkgjpmgoapfamaaE14
import Derived.Test.YtkgjpmgoapfamaaL5
import Derived.Sort.CutIn
namespace Go.Proofs.Ytkgjpmgoapfamaa
open Go.RowKit Go.Shelf
attribute [local go_sem] Oper.semAt_some

theorem OwnR.cellsKept {α : Type} {enc : α → List Value} {k : Nat} {A B : World} {base : Nat} {e : TypeId} {a : Option Addr} {n c : Nat} {l : List α} {row : Option Nat} (h : OwnR enc k A base e a n c l) (hg : A.grownBy B row) (hr : ∀ r, row = some r → ∃ o : Obj, A.heap[r]? = some o ∧ o.isCells = false) : OwnR enc k B base e a n c l :=
  h.keeps fun g o hgb ho _ => by
    obtain ⟨cs, hcs⟩ := h.tag g hgb
    rw [hcs] at ho
    cases ho
    exact cells_kept hg hr hcs
theorem kf6 {W W' : World} (h : Kp Non W W') (b : Nat) (v : Value) {B : Nat} : KeepsFrom B W (W'.setCell ⟨b, 0, none⟩ v) :=
  (KeepsFrom.trans ⟨h.size, fun _ _ _ ho _ => h.heap ho (fun f => f)⟩ ((KeepsOthers.setCell W' _ _).from B))
/-- A Map m in blocks of the call's own, and the two arguments' boxes. -/
structure OneSt (w : World) (at_ : Int) (op : OpD) (m : Nat) (M : List (Sp × Int)) (W : World) : Prop where
  ex : ∃ al cl av cv, MapI W m M al cl av cv ∧ ∀ i, MSI m al av i → w.heap.size + 1 < i
  bA : Boxed W w.heap.size 60 (.int .u64 at_)
  bO : W.heap[w.heap.size + 1]? = some (.cells #[.int .i64 op.1.1, .int .i64 op.1.2, .int .i64 op.2.1, .bool op.2.2] 47 (0, 0))
  kp : Kp Non w W
theorem OneSt.non {w W W' : World} {at_ : Int} {op : OpD} {m : Nat} {M : List (Sp × Int)} (h : OneSt w at_ op m M W) (k : Kp Non W W') : OneSt w at_ op m M W' := by
  obtain ⟨al, cl, av, cv, h1, h2⟩ := h.ex
  exact ⟨⟨al, cl, av, cv, h1.non k, h2⟩, k.heap h.bA (fun f => f), k.heap h.bO (fun f => f), h.kp.trans k⟩
theorem OneSt.mapCall {w W : World} {at_ : Int} {op : OpD} {m : Nat} {M M' : List (Sp × Int)} {f : FuncId} {args : Array Value} (h : OneSt w at_ op m M W) (hc : ∀ al cl av cv, MapI W m M al cl av cv → Calls Try.prog f args W (MapOutI m M' al av W)) :
    Calls Try.prog f args W fun e W' => e = .returned (.tuple #[]) ∧ OneSt w at_ op m M' W' := by
  obtain ⟨al, cl, av, cv, h1, h2⟩ := h.ex
  refine (hc al cl av cv h1).mono ?_
  rintro e W' ⟨he, al', cl', av', cv', q1, q2, q3⟩
  have hw := h.kp.size
  have hO := heap_lt h.bO
  refine ⟨he, ⟨al', cl', av', cv', q1, fun i hi => ?_⟩, q2.heap h.bA (fun q => by have := h2 _ q; omega), q2.heap h.bO (fun q => by have := h2 _ q; omega), h.kp.comp q2 (fun _ _ f => f) (fun i hi q => by have := h2 i q; omega)⟩
  rcases q3 i hi with q | q
  · exact h2 i q
  · omega

theorem KG.of_kpF {lo m : Nat} {S : Nat → Prop} {A B : World} (h : Kp S A B) (hS : ∀ i, S i → FP m A i ∨ i < lo) (hf : ∀ k, FP m B k → FP m A k ∨ A.heap.size ≤ k) : KG lo m A B :=
  ⟨h.size, fun k o hl hk _ hn => by
    rw [h.block k (Array.getElem?_eq_some_iff.1 hk).1 (fun q => by
      rcases hS k q with q | q
      · exact hn q
      · omega)]
    exact hk, hf⟩
theorem MapI.fp {w : World} {m : Nat} {M : List (Sp × Int)} {al : Option Addr} {cl : Nat} {av : Option Addr} {cv : Nat} (h : MapI w m M al cl av cv) {i : Nat} (hi : MSI m al av i) : FP m w i := by
  rcases hi with rfl | ⟨ad, rfl, rfl⟩ | ⟨ad, rfl, rfl⟩
  · exact .inl rfl
  · exact .inr ⟨0, ad, _, _, h.c0, rfl⟩
  · exact .inr ⟨1, ad, _, _, h.c1, rfl⟩

/-- What the loop over the clone's pieces knows, while the Map itself is changed. -/
structure CloneSt (w : World) (at_ : Int) (op : OpD) (bk c : Nat) (M0 : List (Sp × Int)) (al1 : Option Addr) (cl1 : Nat) (av1 : Option Addr) (cv1 : Nat) (n k : Nat) (W : World) : Prop where
  ex : ∃ M al cl av cv, MapI W (w.heap.size + 1 + 1) M al cl av cv ∧ Canon M ∧ M.length ≤ n ∧ ∀ i, MSI (w.heap.size + 1 + 1) al av i → w.heap.size + 1 < i ∧ i ≠ bk ∧ ¬ MSI c al1 av1 i
  clone : MapI W c M0 al1 cl1 av1 cv1
  bK : Boxed W bk 3 (.int .i64 k)
  bA : Boxed W w.heap.size 60 (.int .u64 at_)
  bO : W.heap[w.heap.size + 1]? = some (.cells #[.int .i64 op.1.1, .int .i64 op.1.2, .int .i64 op.2.1, .bool op.2.2] 47 (0, 0))
  kp : Kp Non w W
  low : ∀ i, MSI c al1 av1 i → w.heap.size + 1 < i ∧ i ≠ bk
  bkl : w.heap.size + 1 < bk
section
variable {w W W' : World} {at_ : Int} {op : OpD} {bk c : Nat} {M0 : List (Sp × Int)} {al1 : Option Addr} {cl1 : Nat} {av1 : Option Addr} {cv1 : Nat} {n k : Nat}
theorem CloneSt.kpn (h : CloneSt w at_ op bk c M0 al1 cl1 av1 cv1 n k W) (q : Kp Non W W') : CloneSt w at_ op bk c M0 al1 cl1 av1 cv1 n k W' := by
  obtain ⟨M, al, cl, av, cv, h1, h2, h3, h4⟩ := h.ex
  exact ⟨⟨M, al, cl, av, cv, h1.non q, h2, h3, h4⟩, h.clone.non q, q.heap h.bK (fun f => f), q.heap h.bA (fun f => f), q.heap h.bO (fun f => f), h.kp.trans q, h.low, h.bkl⟩
theorem CloneSt.weaken {n' : Nat} (h : CloneSt w at_ op bk c M0 al1 cl1 av1 cv1 n k W) (hn : n ≤ n') : CloneSt w at_ op bk c M0 al1 cl1 av1 cv1 n' k W := by
  obtain ⟨M, al, cl, av, cv, h1, h2, h3, h4⟩ := h.ex
  exact ⟨⟨M, al, cl, av, cv, h1, h2, Nat.le_trans h3 hn, h4⟩, h.clone, h.bK, h.bA, h.bO, h.kp, h.low, h.bkl⟩
theorem CloneSt.own {b : Nat} (hb : w.heap.size < b) : OwnFrom b (fun (p : Nat × Nat) => CloneSt w at_ op bk c M0 al1 cl1 av1 cv1 p.1 p.2) := fun p A B row h hg hr => by
  have hr' : ∀ r, row = some r → ∃ o : Obj, A.heap[r]? = some o ∧ o.isCells = false := fun r e => (hr r e).2
  obtain ⟨M, al, cl, av, cv, h1, h2, h3, h4⟩ := h.ex
  exact ⟨⟨M, al, cl, av, cv, ⟨cells_kept hg hr' h1.box, h1.spans.cellsKept hg hr', h1.vals.cellsKept hg hr'⟩, h2, h3, h4⟩, ⟨cells_kept hg hr' h.clone.box, h.clone.spans.cellsKept hg hr', h.clone.vals.cellsKept hg hr'⟩, cells_kept hg hr' h.bK, cells_kept hg hr' h.bA, cells_kept hg hr' h.bO,
    h.kp.grown hg (fun k e => .inr (by have := (hr k e).1; omega)), h.low, h.bkl⟩
/-- A span's box that the Map does not point to. -/
def Lone (m b : Nat) (s : Sp) (W : World) : Prop := BoxS W b s ∧ ¬ FP m W b ∧ ∃ cs, W.heap[m]? = some (.cells cs 41 (0, 0))
theorem CloneSt.mapCall {b : Nat} {s : Sp} {f : FuncId} {args : Array Value} (h : CloneSt w at_ op bk c M0 al1 cl1 av1 cv1 n k W) (hc : ∀ M al cl av cv, Canon M → M.length ≤ n → MapI W (w.heap.size + 1 + 1) M al cl av cv → ∃ M', Canon M' ∧ M'.length ≤ n + 2 ∧ Calls Try.prog f args W (MapOutI (w.heap.size + 1 + 1) M' al av W)) (hb : Lone (w.heap.size + 1 + 1) b s W) (lo : Nat) :
    Calls Try.prog f args W fun e W' => e = .returned (.tuple #[]) ∧ CloneSt w at_ op bk c M0 al1 cl1 av1 cv1 (n + 2) k W' ∧ Lone (w.heap.size + 1 + 1) b s W' ∧ KeepsFrom 0 W W' ∧ KG lo (w.heap.size + 1 + 1) W W' := by
  obtain ⟨M, al, cl, av, cv, h1, h2, h3, h4⟩ := h.ex
  obtain ⟨M', hM', hl, hcc⟩ := hc M al cl av cv h2 h3 h1
  refine hcc.mono ?_
  rintro e W' ⟨he, al', cl', av', cv', q1, q2, q3⟩
  have hw := h.kp.size
  have hO := heap_lt h.bO
  have hK := h.bK.lt
  have hfoot : ∀ k, FP (w.heap.size + 1 + 1) W' k → FP (w.heap.size + 1 + 1) W k ∨ W.heap.size ≤ k := fun k hk => (q3 k (q1.foot hk)).imp (fun q => h1.fp q) id
  refine ⟨he, ⟨⟨M', al', cl', av', cv', q1, hM', hl, fun i hi => ?_⟩, h.clone.kp q2 (fun i hi q => (h4 i q).2.2 hi), q2.heap h.bK (fun q => (h4 _ q).2.1 rfl), q2.heap h.bA (fun q => by have := (h4 _ q).1; omega), q2.heap h.bO (fun q => by have := (h4 _ q).1; omega), h.kp.comp q2 (fun _ _ f => f) (fun i hi q => by have := (h4 i q).1; omega), h.low, h.bkl⟩,
    ⟨hb.1.kp q2 (fun q => hb.2.1 (h1.fp q)), fun q => ?_, ⟨_, q1.box⟩⟩, ⟨q2.size, fun k o _ ho hoc => ?_⟩, KG.of_kpF q2 (fun i q => .inl (h1.fp q)) hfoot⟩
  · rcases q3 i hi with q | q
    · exact h4 i q
    · exact ⟨by omega, by omega, fun hm => by have := h.clone.old i hm; omega⟩
  · rcases hfoot b q with q | q
    · exact hb.2.1 q
    · have := hb.1.lt; omega
  · refine q2.heap ho fun q => ?_
    rcases q with rfl | q | q
    · rw [h1.box] at ho; cases ho; cases hoc
    · obtain ⟨cs, e⟩ := h1.spans.tag _ q
      rw [e] at ho; cases ho; cases hoc
    · obtain ⟨cs, e⟩ := h1.vals.tag _ q
      rw [e] at ho; cases ho; cases hoc
theorem CloneSt.setK (h : CloneSt w at_ op bk c M0 al1 cl1 av1 cv1 n k W) (j : Nat) (hm : bk ≠ w.heap.size + 1 + 1) {lo : Nat} (hlo : bk < lo) :
    CloneSt w at_ op bk c M0 al1 cl1 av1 cv1 n j (W.setCell ⟨bk, 0, none⟩ (.int .i64 j)) ∧ KG lo (w.heap.size + 1 + 1) W (W.setCell ⟨bk, 0, none⟩ (.int .i64 j)) := by
  have hk : Kp (One bk) W (W.setCell ⟨bk, 0, none⟩ (.int .i64 j)) := Kp.setCell (S := One bk) (Kp.refl _ _) (p := ⟨bk, 0, none⟩) (.inl rfl) _
  obtain ⟨M, al, cl, av, cv, h1, h2, h3, h4⟩ := h.ex
  have hbk := h.bkl
  have hw := h.kp.size
  refine ⟨⟨⟨M, al, cl, av, cv, h1.kp hk (fun i q q' => (h4 i q).2.1 q'), h2, h3, h4⟩, h.clone.kp hk (fun i q q' => (h.low i q).2 q'), h.bK.set _, hk.heap h.bA (fun q => by have q : w.heap.size = bk := q; omega), hk.heap h.bO (fun q => by have q : w.heap.size + 1 = bk := q; omega), h.kp.comp hk (fun _ _ f => f) (fun i hi q => by have q : i = bk := q; omega), h.low, h.bkl⟩,
    KG.of_kpF hk (fun i q => .inr (by have q : i = bk := q; omega)) (fun k q => .inl (FP.kp hk h1.lt (fun q => hm q.symm) q))⟩
end

/-- What is known behind the loop. -/
structure Fin_ (w : World) (op : OpD) (bk D : Nat) (j : Nat) (W : World) : Prop where
  bK : Boxed W bk 3 (.int .i64 j)
  bO : W.heap[w.heap.size + 1]? = some (.cells #[.int .i64 op.1.1, .int .i64 op.1.2, .int .i64 op.2.1, .bool op.2.2] 47 (0, 0))
  kp : Kp Non w W
  bkl : w.heap.size + 1 < bk
  dfr : W.heap[D]? = some (.deferred (some []))
theorem Fin_.kp_ {w W W' : World} {op : OpD} {bk D j : Nat} {S : Nat → Prop} (h : Fin_ w op bk D j W) (k : Kp S W W') (hS : ∀ i, S i → w.heap.size + 1 < i) (hb : ¬ S bk) (hd : ¬ S D) : Fin_ w op bk D j W' :=
  ⟨k.heap h.bK hb, k.heap h.bO (fun q => by have := hS _ q; omega), h.kp.comp k (fun _ _ f => f) (fun i hi q => by have := hS i q; omega), h.bkl, k.heap h.dfr hd⟩
theorem Fin_.kpn {w W W' : World} {op : OpD} {bk D j : Nat} (h : Fin_ w op bk D j W) (k : Kp Non W W') : Fin_ w op bk D j W' := h.kp_ k (fun _ f => f.elim) (fun f => f) (fun f => f)
theorem Fin_.op {w W : World} {op : OpD} {bk D j : Nat} (h : Fin_ w op bk D j W) : W.cell? ⟨w.heap.size + 1, 0, none⟩ = some (.int .i64 op.1.1) ∧ W.cell? ⟨w.heap.size + 1, 1, none⟩ = some (.int .i64 op.1.2) ∧ W.cell? ⟨w.heap.size + 1, 2, none⟩ = some (.int .i64 op.2.1) :=
  ⟨(cell_of_row W _ 0 _ _ _ h.bO).trans rfl, (cell_of_row W _ 1 _ _ _ h.bO).trans rfl, (cell_of_row W _ 2 _ _ _ h.bO).trans rfl⟩

set_option maxRecDepth 100000 in
set_option maxHeartbeats 1000000 in
theorem clones_walk (aA : Option Addr) (nA cA : Nat) (lA : List OpD) (at_ : Int) (op : OpD) (w : World) (hA : Reads encO 4 w aA nA cA lA) (hat : 0 ≤ at_) (hat2 : at_ < 18446744073709551616) : Calls Try.prog 9 #[.slice aA nA cA, .int .u64 at_, .agg #[.int .i64 op.1.1, .int .i64 op.1.2, .int .i64 op.2.1, .bool op.2.2]] w (BoolOut true w) := by
  refine (callsIn_wide (n := 4)).1 ?_
  have h1 : 1 ≤ 4 := by omega
  obtain rfl := hA.len
  have hcA := hA.cap
  have hmA := hA.max
  refine callsIn_of_wp_marks Try.func9 rfl trivial ?_ rfl
  simp only [Try.ntmps9, List.size_toArray, List.length_cons, List.length_nil, Nat.reduceAdd, Nat.reduceSub, Array.replicate_succ, Array.replicate_zero, List.push_toArray, List.append_toArray, List.nil_append, List.cons_append]
  gi_upto_region 2 with (fail)
  iterate 13 (first | go_values | gi_guarded | gi_step | gi_upon | gi_back | go_simp)
  have hT0 : OneSt w at_ op (w.heap.size + 1 + 1) [] (((w.alloc (.cells #[.int .u64 at_] 60)).alloc (.cells #[.int .i64 op.1.1, .int .i64 op.1.2, .int .i64 op.2.1, .bool op.2.2] 47)).alloc (.cells #[.slice none 0 0, .slice none 0 0] 41)) := by
    have q1 := heap_alloc_new (w.alloc (.cells #[.int .u64 at_] 60)) (.cells #[.int .i64 op.1.1, .int .i64 op.1.2, .int .i64 op.2.1, .bool op.2.2] 47)
    have q2 := heap_alloc_new ((w.alloc (.cells #[.int .u64 at_] 60)).alloc (.cells #[.int .i64 op.1.1, .int .i64 op.1.2, .int .i64 op.2.1, .bool op.2.2] 47)) (.cells #[.slice none 0 0, .slice none 0 0] 41)
    simp only [World.size_alloc] at q1 q2
    refine ⟨⟨none, 0, none, 0, ⟨q2, OwnR.nil _ _ _, OwnR.nil _ _ _⟩, ?_⟩, ((Boxed.new w 60 (.int .u64 at_)).alloc _).alloc _, ((Kp.refl Non _).alloc _).heap q1 (fun f => f), (((Kp.refl _ w).alloc _).alloc _).alloc _⟩
    rintro i (rfl | ⟨_, h, _⟩ | ⟨_, h, _⟩)
    · omega
    · cases h
    · cases h
  gi_cut [] from 8 (fun wc => ∃ M, OneSt w at_ op (w.heap.size + 1 + 1) M wc ∧ Canon M ∧ M.length ≤ 120)
  case first =>
    gi_wp2_with fail
    gi_loopw [24] (fun v24 wr => ∃ (k : Nat) (M : List (Sp × Int)), k ≤ lA.length ∧ v24 = .int .i64 k ∧ OneSt w at_ op (w.heap.size + 1 + 1) M wr ∧ Canon M ∧ M.length ≤ 2 * k ∧ M.length ≤ 120) (fun v24 _ => lA.length - (intOf v24).toNat)
    case atStart => exact ⟨0, [], by omega, rfl, hT0, trivial, by simp, by simp⟩
    case round =>
      obtain ⟨k, M, hk, rfl, hT, hCn, hMl, hM2⟩ := hrel
      have hrd := hA.non hT.kp
      by_cases hlt : k < lA.length
      · have g : (k : Int) < (lA.length : Nat) := by omega
        obtain ⟨b, o, rfl⟩ := hrd.there (by omega)
        obtain ⟨c0, c1, c2, c3⟩ := Ops.c hrd hlt
        clear hrd
        generalize lA[k] = oq at *
        obtain ⟨s, v, d⟩ := oq
        have hT1 := hT.non ((Kp.refl Non wr).alloc (.cells #[.int .i64 s.1, .int .i64 s.2, .int .i64 v, .bool d] 47))
        by_cases h60 : k < 60
        · have g6 : (k : Int) < 60 := by omega
          have HPC := Lib.hid (hT1.mapCall (M' := gstep M s v true) (f := 30) fun al cl av cv hM => putI_gen _ M s v _ (by omega) al cl av cv hM)
          gi_wp2_with fail
          refine ⟨trivial, ?_⟩
          refine (callsIn_wide.2 (HPC.out)).mono ?_
          rintro e W2 ⟨rfl, hT2⟩
          gi_wp2_with fail
          go_roundw
          case rel => exact ⟨k + 1, _, by omega, by go_num, hT2, gstep_canon hCn _ _ _, by have := gstep_len hCn.rise s v true; omega, by have := gstep_len hCn.rise s v true; omega⟩
          case measure => simp [intOf]; omega
        · have g6 : decide ((k : Int) < 60) = false := by simp; omega
          gi_wp2_with fail
          go_roundw
          case rel => exact ⟨k + 1, M, by omega, by go_num, hT1, hCn, by omega, hM2⟩
          case measure => simp [intOf]; omega
      · obtain rfl : k = lA.length := by omega
        gi_wp2_with fail
        gi_meet
        case rel => exact ⟨M, hT, hCn, hM2⟩
  case rest =>
    obtain ⟨M, hT1, hCn, hMl⟩ := hcut
    obtain ⟨W, rfl⟩ : ∃ W, W = wc := ⟨_, rfl⟩
    obtain ⟨al, cl, av, cv, hM, hMS⟩ := hT1.ex
    have HC := Lib.hid (cloneI_calls _ M al cl av cv W hM (by omega))
    gi_wp2_with fail
    refine ⟨trivial, ?_⟩
    refine (callsIn_wide.2 (HC.out)).mono ?_
    rintro e W2 ⟨c, al1, cl1, av1, cv1, rfl, hC2, hk2, hcs⟩
    have HL := Lib.hid (lenI_calls _ M al cl av cv W2 (hM.non hk2) (by omega))
    gi_wp2_with fail
    refine ⟨trivial, ?_⟩
    refine (callsIn_wide.2 (HL.out)).mono ?_
    rintro e W3 ⟨rfl, hk3⟩
    gi_wp2_with fail
    refine ⟨trivial, ?_⟩
    refine (callsIn_wide.2 (eachI_calls _ _)).mono ?_
    rintro e W4 ⟨rfl, hW4⟩
    gi_wp2_with fail
    have bK := (Boxed.new W3 3 (.int .i64 0)).alloc (.cells #[.pointer (some ⟨w.heap.size + 1 + 1, 0, none⟩)] 61)
    have bP := Boxed.new (W3.alloc (.cells #[.int .i64 0] 3)) 61 (.pointer (some ⟨w.heap.size + 1 + 1, 0, none⟩))
    rw [World.size_alloc] at bP
    have hkN : Kp Non W3 ((W3.alloc (.cells #[.int .i64 0] 3)).alloc (.cells #[.pointer (some ⟨w.heap.size + 1 + 1, 0, none⟩)] 61)) := ((Kp.refl _ _).alloc _).alloc _
    have hsz : ((W3.alloc (.cells #[.int .i64 0] 3)).alloc (.cells #[.pointer (some ⟨w.heap.size + 1 + 1, 0, none⟩)] 61)).heap.size = W3.heap.size + 1 + 1 := by simp
    generalize (W3.alloc (.cells #[.int .i64 0] 3)).alloc (.cells #[.pointer (some ⟨w.heap.size + 1 + 1, 0, none⟩)] 61) = W5 at *
    have hk5 := (hk2.trans hk3).trans hkN
    have hM5 := hM.non hk5
    have hC3 := hC2.non hk3
    have hC5 := hC3.non hkN
    have hol := hM.old
    have hW3 : W.heap.size ≤ W3.heap.size := (hk2.trans hk3).size
    have hO1 := heap_lt hT1.bO
    have hSt : CloneSt w at_ op W3.heap.size c M al1 cl1 av1 cv1 (120 + 4 * 0) 0 W5 := ⟨⟨M, al, cl, av, cv, hM5, hCn, by omega, fun i q => ⟨hMS i q, fun e => by have := hol i q; omega, fun q' => by have := hol i q; have := hcs i q'; omega⟩⟩, hC5, bK, hk5.heap hT1.bA (fun f => f), hk5.heap hT1.bO (fun f => f), hT1.kp.trans hk5, fun i q => ⟨by have := hcs i q; omega, fun e => by have := hC3.old i q; omega⟩, by omega⟩
    have hm1 : w.heap.size + 1 + 1 < W3.heap.size := Nat.lt_of_lt_of_le hM.lt hW3
    clear hM hMS hC2 hk2 hcs HC HL hk3 hW4 bK hkN hk5 hC3 hC5 hol hW3 hO1 hT1
    refine wpIn_rangeFunc_ownH rfl h1 (gf := 60) (lb := #[.pointer (some ⟨W3.heap.size + 1, 0, none⟩)]) rfl trivial (enters_of Try.func60 (by kernel_rfl) rfl)
      (eachItI_stops 3 (by omega) W5.heap.size (W3.heap.size + 1) (w.heap.size + 1 + 1) M al cl av cv W5 (Nat.le_refl _) bP.cell hM5 (by omega)) (fun h k => h.trans k) (fun W l o o' hl h2 h3 h4 => KG.putObj (w := W5) hM5.lt W l o o' hl h2 h3 h4) (Below.refl _ _) (fun _ => rfl)
      (fun pre W => CloneSt w at_ op W3.heap.size c M al1 cl1 av1 cv1 (120 + 4 * pre.length) pre.length W)
      (fun _ _ _ => False)
      (fun s A B row hs hg hr => CloneSt.own (b := W5.heap.size) (by omega) (120 + 4 * s.length, s.length) A B row hs hg hr)
      (fun c s A B row hs _ _ => hs)
      hSt
      (fun x a' W => ∃ b, a' = { tmps := #[.slice aA lA.length cA, .int .u64 at_, .agg #[.int .i64 op.1.1, .int .i64 op.1.2, .int .i64 op.2.1, .bool op.2.2], undef, .pointer (some ⟨w.heap.size, 0, none⟩), .pointer (some ⟨w.heap.size + 1, 0, none⟩), .bool false, .pointer (some ⟨w.heap.size + 1 + 1, 0, none⟩), u8, u9, .pointer (some ⟨c, 0, none⟩), .int .i64 (M.length : Int), .pointer (some ⟨W3.heap.size, 0, none⟩), .func (.func 60) #[] #[.pointer (some ⟨W3.heap.size + 1, 0, none⟩)], .pointer (some ⟨b, 0, none⟩), u15, u16, u17, u18, u19, u20, u21, u22, u23, u24, u25, u26, u27, u28, u29, u30, u31, u32, u33, u34, u35, u36, .pointer (some ⟨c, 0, none⟩), .int .i64 (M.length : Int), .func (.func 60) #[] #[.pointer (some ⟨W3.heap.size + 1, 0, none⟩)], .func (.func 60) #[] #[.pointer (some ⟨W3.heap.size + 1, 0, none⟩)], .bool false, .func (.func 60) #[] #[.pointer (some ⟨W3.heap.size + 1, 0, none⟩)], valS x.1, .int .i64 x.2, u45, u46, u47, u48, u49, u50, u51, u52, u53, u54, u55, u56, u57, u58, u59, u60, u61, u62, u63, u64, u65, u66, u67, u68, u69, u70, u71, u72, u73, u74, u75, u76, u77, u78, u79, u80, u81, u82, u83, u84, u85, u86, u87, u88, u89, u90, u91, u92, u93, u94, u95, u96, u97, u98, u99, u100, u101, u102, u103, u104, u105, u106, u107, u108, u109, u110, u111, u112, u113, u114, u115, u116, u117, u118, u119, u120, u121, u122, u123, u124, u125, u126, u127, u128, u129, u130, u131, u132, u133, u134, u135, u136, u137, u138, u139, u140, u141, u142, u143, u144, u145, u146, u147], defers := [] } ∧ Lone (w.heap.size + 1 + 1) b x.1 W)
      (fun x a' _ A B row hs hg hr => by
        obtain ⟨b, e, hb, hf, cs, hm⟩ := hs
        have hmB := cells_kept hg (fun r e => (hr r e).2) hm
        refine ⟨b, e, cells_kept hg (fun r e => (hr r e).2) hb, fun q => hf ?_, cs, hmB⟩
        rcases q with rfl | ⟨i, p, n, c, hp, rfl⟩
        · exact .inl rfl
        · refine .inr ⟨i, p, n, c, ?_, rfl⟩
          rw [← hp]
          simp only [World.cell?, hm, hmB]) ?assign ?body ?done ?stop
    case assign =>
      intro lp pre x W K hI hK
      simp [encsI]
      gi_wp2
      obtain ⟨M', al', cl', av', cv', q1, q2, q3, q4⟩ := hI.ex
      have hkA2 : Kp Non W (W.alloc (.cells #[.int .i64 x.1.1, .int .i64 x.1.2] 30)) := (Kp.refl _ _).alloc _
      exact hK _ _ ((KeepsOthers.alloc W _).from _) (KG.of_kp hkA2 q1.lt (fun _ f => f.elim)) (hI.kpn hkA2) ⟨W.heap.size, rfl, BoxS.new W x.1, fun q => by
        have := q1.old _ (q1.foot (FP.kp hkA2 q1.lt (fun f => f) q)); omega, _, (q1.non hkA2).box⟩
    case body =>
      rintro lp pre x a' W hl hrec hE ⟨b, rfl, hLo⟩ hlt
      have z0 := hLo.1.c0
      have z1 := hLo.1.c1
      have xK := hE.bK.cell
      have xA := hE.bA.cell
      have o0 : W.cell? ⟨w.heap.size + 1, 0, none⟩ = some (.int .i64 op.1.1) := (cell_of_row W _ 0 _ _ _ hE.bO).trans rfl
      have o1 : W.cell? ⟨w.heap.size + 1, 1, none⟩ = some (.int .i64 op.1.2) := (cell_of_row W _ 1 _ _ _ hE.bO).trans rfl
      have o2 : W.cell? ⟨w.heap.size + 1, 2, none⟩ = some (.int .i64 op.2.1) := (cell_of_row W _ 2 _ _ _ hE.bO).trans rfl
      have HW5 := Lib.hid hsz
      have HE := Lib.hid hE
      have HLo := Lib.hid hLo
      have hlp : pre.length ≤ 120 := by omega
      have hw1 : IntKind.i64.wrap ((pre.length : Int) + 1) = ((pre.length + 1 : Nat) : Int) := by rw [IntKind.wrap_i64] <;> omega
      clear hsz hE hLo bP hM5 hSt
      by_cases hq : (pre.length : Int) = at_ % 4
      · have e1 : ((pre.length : Int) == at_ % 4) = true := by rw [hq]; exact beq_self_eq_true _
        have HP := Lib.hid (HE.out.mapCall (f := 30) (args := #[.pointer (some ⟨w.heap.size + 1 + 1, 0, none⟩), valS op.1, .int .i64 op.2.1]) (fun M al cl av cv hCn hl hM => ⟨gstep M op.1 op.2.1 true, gstep_canon hCn _ _ _, by have := gstep_len hCn.rise op.1 op.2.1 true; omega, putI_gen _ M op.1 op.2.1 W (by omega) al cl av cv hM⟩) HLo.out W5.heap.size)
        clear hq
        gi_wp2_with fail
        refine ⟨trivial, ?_⟩
        refine (callsIn_wide.2 (HP.out)).mono ?_
        rintro e W2 ⟨rfl, hE2, hLo2, hkf2, hkg2⟩
        have y0 := hLo2.1.c0
        have y1 := hLo2.1.c1
        have yK := hE2.bK.cell
        have HD := Lib.hid (hE2.mapCall (f := 29) (args := #[.pointer (some ⟨w.heap.size + 1 + 1, 0, none⟩), valS x.1]) (fun M al cl av cv hCn hl hM => ⟨gstep M x.1 0 false, gstep_canon hCn _ _ _, by have := gstep_len hCn.rise x.1 0 false; omega, dropI_gen _ M x.1 0 W2 (by omega) al cl av cv hM⟩) hLo2 W5.heap.size)
        clear hE2 hLo2
        gi_wp2_with fail
        refine ⟨trivial, ?_⟩
        refine (callsIn_wide.2 (HD.out)).mono ?_
        rintro e W6 ⟨rfl, hE3, _, hkf3, hkg3⟩
        have hkf4 : KeepsFrom 0 W W6 := hkf2.trans hkf3
        have hkg4 : KG W5.heap.size (w.heap.size + 1 + 1) W W6 := hkg2.trans hkg3
        have uK := hE3.bK.cell
        have uF := hE3.bK.frozen
        have HSet := Lib.hid ((hE3.weaken (n' := 120 + 4 * (pre.length + 1)) (by omega)).setK (pre.length + 1) (by omega) (lo := W5.heap.size) (by have := HW5.out; omega))
        clear hE3 hkg3 hkf3
        gi_wp2
        obtain ⟨q1, q2⟩ := HSet.out
        refine ⟨⟨(hkf4.trans ((KeepsOthers.setCell W6 _ _).from 0)).size, fun k o _ ho hc => (hkf4.trans ((KeepsOthers.setCell W6 _ _).from 0)).same k o (Nat.zero_le _) ho hc⟩, hkg4.trans q2, ?_⟩
        have el : (pre ++ [x]).length = pre.length + 1 := by simp
        show CloneSt w at_ op W3.heap.size c M al1 cl1 av1 cv1 (120 + 4 * (pre ++ [x]).length) (pre ++ [x]).length _
        rw [el]
        exact q1
      · have e1 : ((pre.length : Int) == at_ % 4) = false := by simp; exact hq
        obtain ⟨W2, rfl⟩ : ∃ W2, W2 = W := ⟨_, rfl⟩
        have hE2 := HE.out
        have hLo2 := HLo.out
        clear hq
        have y0 := hLo2.1.c0
        have y1 := hLo2.1.c1
        have yK := hE2.bK.cell
        have HD := Lib.hid (hE2.mapCall (f := 29) (args := #[.pointer (some ⟨w.heap.size + 1 + 1, 0, none⟩), valS x.1]) (fun M al cl av cv hCn hl hM => ⟨gstep M x.1 0 false, gstep_canon hCn _ _ _, by have := gstep_len hCn.rise x.1 0 false; omega, dropI_gen _ M x.1 0 W2 (by omega) al cl av cv hM⟩) hLo2 W5.heap.size)
        clear hE2 hLo2
        gi_wp2_with fail
        refine ⟨trivial, ?_⟩
        refine (callsIn_wide.2 (HD.out)).mono ?_
        rintro e W6 ⟨rfl, hE3, _, hkf3, hkg3⟩
        have hkf4 : KeepsFrom 0 W2 W6 := (fun x => x) hkf3
        have hkg4 : KG W5.heap.size (w.heap.size + 1 + 1) W2 W6 := (fun x => x) hkg3
        have uK := hE3.bK.cell
        have uF := hE3.bK.frozen
        have HSet := Lib.hid ((hE3.weaken (n' := 120 + 4 * (pre.length + 1)) (by omega)).setK (pre.length + 1) (by omega) (lo := W5.heap.size) (by have := HW5.out; omega))
        clear hE3 hkg3 hkf3
        gi_wp2
        obtain ⟨q1, q2⟩ := HSet.out
        refine ⟨⟨(hkf4.trans ((KeepsOthers.setCell W6 _ _).from 0)).size, fun k o _ ho hc => (hkf4.trans ((KeepsOthers.setCell W6 _ _).from 0)).same k o (Nat.zero_le _) ho hc⟩, hkg4.trans q2, ?_⟩
        have el : (pre ++ [x]).length = pre.length + 1 := by simp
        show CloneSt w at_ op W3.heap.size c M al1 cl1 av1 cv1 (120 + 4 * (pre ++ [x]).length) (pre ++ [x]).length _
        rw [el]
        exact q1
    case done =>
      rintro D ys W hD rfl hE hK
      have hwD0 : w.heap.size ≤ D := by omega
      have hFin : Fin_ w op W3.heap.size D ys.length W := ⟨hE.bK, hE.bO, hE.kp, hE.bkl, hK⟩
      have hCl := hE.clone
      have hlow := hE.low
      have xK := hFin.bK.cell
      have hne : ((ys.length : Int) != (ys.length : Int)) = false := by simp
      have HL := Lib.hid (lenI_calls c ys al1 cl1 av1 cv1 W hCl (by omega))
      clear hE hK hSt hM5 bP
      gi_wp2_with fail
      refine ⟨trivial, ?_⟩
      refine (callsIn_wide.2 (HL.out)).mono ?_
      rintro e W6 ⟨rfl, hk6⟩
      have hF6 := hFin.kpn hk6
      have hC6 := hCl.non hk6
      obtain ⟨o0, o1, o2⟩ := hF6.op
      have HP := Lib.hid (putI_gen c ys op.1 op.2.1 W6 (by omega) al1 cl1 av1 cv1 hC6)
      clear hFin hCl xK hk6 HL
      gi_wp2_with fail
      refine ⟨trivial, ?_⟩
      refine (callsIn_wide.2 (HP.out)).mono ?_
      rintro e W7 ⟨rfl, al2, cl2, av2, cv2, hC7, hk7, _⟩
      have hF7 := hF6.kp_ hk7 (fun i q => (hlow i q).1) (fun q => (hlow _ q).2 rfl) (fun q => by
        have := hF6.dfr
        rcases q with rfl | q | q
        · rw [hC6.box] at this; cases this
        · obtain ⟨cs, e⟩ := hC6.spans.tag _ q
          rw [e] at this; cases this
        · obtain ⟨cs, e⟩ := hC6.vals.tag _ q
          rw [e] at this; cases this)
      clear hF6 hC6 o0 o1 o2 hk7 HP
      obtain ⟨o0, o1, o2⟩ := hF7.op
      have HG := Lib.hid (getI_calls c _ al2 cl2 av2 cv2 op.1.1 W7 hC7)
      have HR := Lib.hid (fun (h : op.1.1 < op.1.2) => (show get (gstep ys op.1 op.2.1 true) op.1.1 = some op.2.1 by rw [gstep_get hCn, if_pos ⟨Int.le_refl _, h⟩]; rfl))
      clear hC7
      generalize get (gstep ys op.1 op.2.1 true) op.1.1 = r at *
      gi_wp2_with fail
      refine ⟨trivial, ?_⟩
      refine (callsIn_wide.2 (HG.out)).mono ?_
      rintro e W8 ⟨rfl, hk8⟩
      have hF8 := hF7.kpn hk8
      clear hF7 o0 o1 o2 hk8 HG
      obtain ⟨o0, o1, o2⟩ := hF8.op
      gi_wp2_with fail
      refine ⟨trivial, ?_⟩
      refine (callsIn_wide.2 (putI_nil op.1 op.2.1 W8)).mono ?_
      rintro e W9 ⟨rfl, hk9⟩
      have hF9 := hF8.kpn hk9
      clear hF8 o0 o1 o2 hk9
      obtain ⟨o0, o1, o2⟩ := hF9.op
      gi_wp2_with fail
      refine ⟨trivial, ?_⟩
      refine (callsIn_wide.2 (dropI_nil op.1 W9)).mono ?_
      rintro e W10 ⟨rfl, hk10⟩
      have hF10 := hF9.kpn hk10
      clear hF9 o0 o1 o2 hk10
      obtain ⟨o0, o1, o2⟩ := hF10.op
      gi_wp2_with fail
      refine ⟨trivial, ?_⟩
      refine (callsIn_wide.2 (getI_nil op.1.1 W10)).mono ?_
      rintro e W11 ⟨rfl, hk11⟩
      have hF11 := hF10.kpn hk11
      have xK := hF11.bK.cell
      have fK := hF11.bK.frozen
      clear hF10 o0 o1 o2 hk11
      gi_wp2_with fail
      refine ⟨trivial, ?_⟩
      refine (callsIn_wide.2 (eachI_calls _ _)).mono ?_
      rintro e W12 ⟨rfl, hW12⟩
      gi_wp2_with fail
      have bP := Boxed.new (W11.setCell ⟨W3.heap.size, 0, none⟩ (.int .i64 0)) 61 (.pointer none)
      have hkS : Kp (One W3.heap.size) W11 (W11.setCell ⟨W3.heap.size, 0, none⟩ (.int .i64 0)) := Kp.setCell (S := One W3.heap.size) (Kp.refl _ _) (p := ⟨W3.heap.size, 0, none⟩) (.inl rfl) _
      have hss : (W11.setCell ⟨W3.heap.size, 0, none⟩ (.int .i64 0)).heap.size = W11.heap.size := by simp
      rw [hss] at bP
      have hDb : D ≠ W3.heap.size := fun e => by
        have h1 := hF11.dfr
        rw [e, show W11.heap[W3.heap.size]? = _ from hF11.bK] at h1
        cases h1
      have hF12 : Fin_ w op W3.heap.size D 0 ((W11.setCell ⟨W3.heap.size, 0, none⟩ (.int .i64 0)).alloc (.cells #[.pointer none] 61)) :=
        (Fin_.kpn ⟨hF11.bK.set _, hkS.heap hF11.bO (fun q => by have q : w.heap.size + 1 = W3.heap.size := q; have := hF11.bkl; omega), hF11.kp.comp hkS (fun _ _ f => f) (fun i hi q => by have q : i = W3.heap.size := q; have := hF11.bkl; omega), hF11.bkl, hkS.heap hF11.dfr hDb⟩ ((Kp.refl Non _).alloc _))
      have hDl : D < W11.heap.size := heap_lt hF11.dfr
      have hsz12 : ((W11.setCell ⟨W3.heap.size, 0, none⟩ (.int .i64 0)).alloc (.cells #[.pointer none] 61)).heap.size = W11.heap.size + 1 := by simp
      clear hF11 hkS hss xK fK hW12
      generalize (W11.setCell ⟨W3.heap.size, 0, none⟩ (.int .i64 0)).alloc (.cells #[.pointer none] 61) = W13 at *
      refine wpIn_rangeFunc_ownH rfl h1 (gf := 60) (lb := #[.pointer (some ⟨W11.heap.size, 0, none⟩)]) rfl trivial (enters_of Try.func60 (by kernel_rfl) rfl)
        (eachItI_nothing 3 (by omega) W11.heap.size W13 (fun _ _ => True) bP.cell) (fun _ _ => trivial) (fun _ _ _ _ _ _ _ _ => trivial) (Below.refl _ _) (fun _ => rfl)
        (fun _ W => Fin_ w op W3.heap.size D 0 W)
        (fun _ _ _ => False)
        (fun s A B row hs hg hr => ⟨cells_kept hg (fun r e => (hr r e).2) hs.bK, cells_kept hg (fun r e => (hr r e).2) hs.bO, hs.kp.grown hg (fun k e => .inr (by have := (hr k e).1; have := heap_lt hF12.bO; omega)), hs.bkl, (hg.block D (heap_lt hs.dfr) (fun e => by have := (hr D e.symm).1; omega)).trans hs.dfr⟩)
        (fun c s A B row hs _ _ => hs)
        hF12
        (fun _ _ _ => True)
        (fun _ _ _ _ _ _ _ _ _ => trivial) ?assign2 ?body2 ?done2 ?stop2
      case assign2 =>
        intro lp pre x W K hI hK
        simp [encsI]
        gi_wp2
        exact hK _ _ (KeepsFrom.refl _ _) trivial hI trivial
      case body2 =>
        intro lp pre x a' W _ _ _ _ hlt
        exact absurd hlt (Nat.not_lt_zero _)
      case stop2 =>
        rintro D c pre W _ _ h _
        exact h.elim
      case done2 =>
        rintro D2 zs W14 hD2 rfl hF hK2
        obtain ⟨o0, o1, o2⟩ := hF.op
        have xK := hF.bK.cell
        have HF := Lib.hid hF
        have HK2 := Lib.hid hK2
        have HD2 := Lib.hid (show W11.heap.size + 1 ≤ D2 by omega)
        clear hF hK2 hF12 bP hsz12 hD2
        have HX : Hid (op.1.1 < op.1.2 → r.getD 0 = op.2.1 ∧ r.isSome = true) := Lib.hid fun h => by rw [HR.out h]; exact ⟨rfl, rfl⟩
        clear HR
        generalize r.getD 0 = rv at *
        generalize r.isSome = rb at *
        gi_upto_region 34 with (fail)
        gi_cut [21] from 109 (fun v21 wc => v21 = .bool true ∧ wc = W14)
        case first =>
          by_cases hlt : op.1.1 < op.1.2
          · obtain ⟨rfl, rfl⟩ := HX.out hlt
            have he : (op.2.1 == op.2.1) = true := beq_self_eq_true _
            clear HX
            gi_wp2_with fail
            gi_meet
            case rel => exact ⟨rfl, rfl⟩
          · have hd : decide (op.1.2 ≤ op.1.1) = true := by simp; omega
            clear HX
            cases rb with
            | false =>
              gi_wp2_with fail
              gi_meet
              case rel => exact ⟨rfl, rfl⟩
            | true =>
              by_cases hv : rv = op.2.1
              · have he : (rv == op.2.1) = true := by rw [hv]; exact beq_self_eq_true _
                clear hv
                gi_wp2_with fail
                gi_meet
                case rel => exact ⟨rfl, rfl⟩
              · have he : (rv == op.2.1) = false := by simp; exact hv
                gi_wp2_with fail
                gi_meet
                case rel => exact ⟨rfl, rfl⟩
        case rest =>
          obtain ⟨rfl, rfl⟩ := hcut
          gi_wp2_with fail
          refine ⟨trivial, ?_⟩
          refine (callsIn_wide.2 (lenI_nil _)).mono ?_
          rintro e V1 ⟨rfl, hv1⟩
          gi_wp2_with fail
          refine ⟨trivial, ?_⟩
          refine (callsIn_wide.2 (cloneI_nil _)).mono ?_
          rintro e V2 ⟨c2, al3, cl3, av3, cv3, rfl, hN, hv2, _⟩
          gi_wp2_with fail
          refine ⟨trivial, ?_⟩
          refine (callsIn_wide.2 (lenI_calls c2 [] al3 cl3 av3 cv3 _ hN (by simp))).mono ?_
          rintro e V3 ⟨rfl, hv3⟩
          gi_wp2_with fail
          refine ⟨trivial, ?_⟩
          refine (callsIn_wide.2 (lives_true V3)).mono ?_
          rintro e V4 ⟨rfl, hv4⟩
          gi_wp2
          have hvk := ((hv1.trans hv2).trans hv3).trans hv4
          have hF4 := HF.out.kpn hvk
          have hK4 : V4.heap[D2]? = some (.deferred (some [])) := hvk.heap HK2.out (fun f => f)
          have hne2 : D ≠ D2 := by have := HD2.out; omega
          have hw2 : w.heap.size ≤ D2 := by have := HD2.out; have := hF4.bkl; omega
          have hwD : w.heap.size ≤ D := hwD0
          refine ⟨by simp, .inl ⟨_, _, rfl, run_takeDeferred hK4, ?_⟩⟩
          have hD5 : (V4.putObj D2 (.deferred none)).heap[D]? = some (.deferred (some [])) := (World.putObj_heap_other hne2).trans hF4.dfr
          refine ⟨by simp, .inl ⟨_, _, rfl, run_takeDeferred hD5, ?_⟩⟩
          refine ⟨_, results_tmp rfl _ _ _, rfl, ?_⟩
          exact (hF4.kp.grown (grownBy_putObj' _ D2 _) (fun k e => by cases e; exact .inr hw2)).grown (grownBy_putObj' _ D _) (fun k e => by cases e; exact .inr hwD)
    case stop =>
      rintro D c pre W _ _ h _
      exact h.elim
open Go.ChangeShapes Go.WideShapes Go.ChangeAt
set_option maxRecDepth 100000 in
theorem span_clones_lifted (os : Os) (started : os.Started) (H : Type) (enc : TypeId × Value → H) :
    ReturnsInHanded {} Try.checked os 9 .any (Rows.spanClonesSpec.pre6 enc Try.prog Try.f9 Rows.spanClonesRow.domain false) (Rows.spanClonesSpec.post enc Try.prog Try.f9 false true false false) := by
  refine returnsInHanded_of_change_sized (C := Try.checked) own started (by kernel_rfl) Try.func9
    (ChangeSpec.witness6 (enc := enc) (C := Try.checked) false ⟨#[], #[.slice none 0 0, .int .u64 0, .agg #[.int .i64 0, .int .i64 0, .int .i64 0, .bool false]], []⟩ 8 (by kernel_rfl) (by kernel_rfl) (by kernel_rfl) (by kernel_rfl)) ?_
  intro W base args ds gs before hval0 hW hcnd _ _
  have hval : ∀ (j : Nat) t v, Try.f9.params[j]? = some t → args[j]? = some v → Value.okWide Try.prog W .any base t v := hval0
  have hW' := hW
  obtain ⟨p, q, hA0, hV, rfl, hfz, hnd⟩ := hW
  have hA : DataW.TrodAll enc Try.prog W 0 (fun _ => true) true Try.f9.params.toList args.toList ds p := hA0
  rw [Try.params9] at hA hval
  obtain ⟨v0, vs0, d0, ds0, p0, q0, hargs, rfl, rfl, h0, r0⟩ := trodAll_cons hA
  obtain ⟨v1, vs1, d1, ds1, p1, q1, rfl, rfl, rfl, h1, r1⟩ := trodAll_cons r0
  obtain ⟨v2, vs2, d2, ds2, p2, q2, rfl, rfl, rfl, h2, r2⟩ := trodAll_cons r1
  obtain ⟨rfl, rfl, rfl⟩ := trodAll_nil r2
  obtain rfl : args = #[v0, v1, v2] := by cases args; simp_all
  obtain ⟨rfl, rfl⟩ := trodVars_none hV
  have lt0 : ∀ x ∈ p0, x.block < W.heap.size := by obtain ⟨m, hm⟩ := h0; exact DataW.trod_lt m _ _ _ hm
  have k0 := h0
  obtain ⟨a0, n0, c0, rfl⟩ := okWide_slice Try.underlying39 (hval 0 39 v0 rfl rfl)
  obtain ⟨l0, b0, i0⟩ := ops_in h0
  have lt1 : ∀ x ∈ p1, x.block < W.heap.size := by obtain ⟨m, hm⟩ := h1; exact DataW.trod_lt m _ _ _ hm
  have k1 := h1
  obtain ⟨a1, rfl, _, _, w1⟩ := open_int Try.underlying60 (hval 1 60 v1 rfl rfl) h1
  simp only [Lit.wf, Bool.and_eq_true, decide_eq_true_eq] at w1
  have lt2 : ∀ x ∈ p2, x.block < W.heap.size := by obtain ⟨m, hm⟩ := h2; exact DataW.trod_lt m _ _ _ hm
  have k2 := h2
  obtain ⟨o2, rfl, i2⟩ := op_in (hval 2 47 v2 rfl rfl) h2
  clear hA0 hval0
  refine (clones_walk a0 n0 c0 l0 a1 o2 W b0 w1.1 (by rw [show IntKind.u64.max = 18446744073709551615 by kernel_rfl] at w1; omega)).mono fun e W' ⟨he, hk⟩ => ?_
  have bel := hk.below
  subst he
  exact ⟨_, rfl, _, _, _, [], _, [], hW', trodAll_mk1 (shut_bool Try.underlying4 _), (trodAll_cons_mk (Below.trod laidOut (by kernel_rfl) (of_decide_eq_true (by kernel_rfl)) k0 bel lt0)
    (trodAll_cons_mk (Below.trod laidOut (by kernel_rfl) (of_decide_eq_true (by kernel_rfl)) k1 bel lt1)
    (trodAll_cons_mk (Below.trod laidOut (by kernel_rfl) (of_decide_eq_true (by kernel_rfl)) k2 bel lt2)
    trodAll_mk0))), rfl, bel.frame _, fun h => by cases h⟩

theorem span_clones : Rows.SpanClonesSaid :=
  OpenClaim.holds_of_wide 9 Try.f9 rfl rfl rfl rfl rfl rfl rfl ⟨rfl, rfl, rfl, rfl, rfl⟩ rfl rfl rfl rfl rfl (by kernel_rfl) Try.func9 (by kernel_rfl)
    (of_decide_eq_true (by kernel_rfl)) (by unfold Func.isWrapper; first | (rw [if_pos (by decide +kernel)]; kernel_rfl) | (rw [if_neg (by decide +kernel)]; exact ⟨rfl, rfl⟩))
    (fun os started H enc _ => span_clones_lifted os started H enc)
#print axioms span_clones
end Go.Proofs.Ytkgjpmgoapfamaa
