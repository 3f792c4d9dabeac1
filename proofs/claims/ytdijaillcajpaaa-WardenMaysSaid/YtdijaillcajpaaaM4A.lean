/-
  (*Map).Each: the iterator. (Turned out of m_M4.)
-/
import Derived.Test.YtdijaillcajpaaaN0
namespace Go.Proofs.Ytdijaillcajpaaa
open Go.RowKit Go.Shelf
variable {U : MapU}
attribute [local go_sem] Oper.semAt_some

def encsI (p : Sp × Int) : Array Value := #[valS p.1, .int .i64 p.2]

theorem FP.kp {m : Nat} {S : Nat → Prop} {A B : World} (h : Kp S A B) (hm : m < A.heap.size) (hS : ¬ S m) {k : Nat} (hk : FP m B k) : FP m A k := by
  rcases hk with rfl | ⟨i, p, n, c, hp, rfl⟩
  · exact .inl rfl
  · refine .inr ⟨i, p, n, c, ?_, rfl⟩
    have := h.block m hm hS
    rw [← hp]
    simp only [World.cell?, this]
theorem MapI.kg {lo m c : Nat} {A B : World} {M : List (Sp × Int)} {al : Option Addr} {cl : Nat} {av : Option Addr} {cv : Nat} (h : MapI A c M al cl av cv) (hg : KG lo m A B) (hf : ∀ i, MSI c al av i → lo ≤ i ∧ ¬ FP m A i) : MapI B c M al cl av cv :=
  ⟨hg.keep _ _ (hf c (.inl rfl)).1 h.box rfl (hf c (.inl rfl)).2, h.spans.keeps fun g o hb ho hc => hg.keep g o (hf g (.inr (.inl hb))).1 ho hc (hf g (.inr (.inl hb))).2,
    h.vals.keeps fun g o hb ho hc => hg.keep g o (hf g (.inr (.inr hb))).1 ho hc (hf g (.inr (.inr hb))).2⟩

/-- Each: a function value. -/
theorem eachA_calls (p : Option Addr) (w : World) : Calls Try.prog 49 #[.pointer p] w fun e w' => e = .returned (.func (.func 73) #[] #[.pointer (some ⟨w.heap.size, 0, none⟩)]) ∧ w' = w.alloc (.cells #[.pointer p] 133) := by
  go_enter Try.func49, Try.ntmps49
  go_wp2_with fail
  go_ret
  exact ⟨rfl, rfl⟩

set_option maxRecDepth 100000 in
set_option maxHeartbeats 1000000 in
/-- The iterator of a Map that there is. -/
theorem eachItA_one (n : Nat) (hn : 1 ≤ n) (l lo Bm m : Nat) (M : List (Sp × Int)) (al : Option Addr) (cl : Nat) (av : Option Addr) (cv : Nat) (W : World) (hlo : lo ≤ W.heap.size) (hb : W.cell? ⟨Bm, 0, none⟩ = some (.pointer (some ⟨m, 4, none⟩)))
    (hM : MapA U W m M al cl av cv) (m0 : Nat) (hm0 : m0 < W.heap.size) (hfo : ∀ i, FP m0 W i → i < W.heap.size) (hl : M.length ≤ 1000000000000) (J Jx : List (Sp × Int) → World → Prop) (hJ : AbidesFrom W.heap.size J)
    (hY : ∀ pre x W1, J pre W1 → pre.length < M.length → YieldAt Fence.wide (n - 1) Try.prog l #[valS x.1, .int .i64 x.2] W1 fun e W' =>
      (e = .returned (.bool true) ∧ J (pre ++ [x]) W' ∧ KG lo m0 W1 W') ∨ (e = .returned (.bool false) ∧ Jx (pre ++ [x]) W'))
    (h0 : J [] W) :
    CallsIn Fence.wide n Try.prog 73 #[.func (.yield l) #[] #[], .pointer (some ⟨Bm, 0, none⟩)] W fun e W' => (∃ v, e = .returned v) ∧
      ((∃ ys, ys = M ∧ J ys W') ∨ (∃ pre, pre <+: M ∧ Jx pre W')) := by
  refine callsIn_of_wp Try.func73 rfl trivial ?_ rfl
  simp only [Try.ntmps73, List.size_toArray, List.length_cons, List.length_nil, Nat.reduceAdd, Nat.reduceSub, Array.replicate_succ, Array.replicate_zero, List.push_toArray, List.append_toArray, List.nil_append, List.cons_append]
  have HC := Lib.hid ((callsIn_wide (n := n - 1)).2 (cloneA_calls m M al cl av cv W hM hl))
  gi_wp2_with (refine ⟨trivial, ?_⟩; gi_at_call 74; refine (HC.out).mono ?_; rintro e W1 ⟨c, al1, cl1, av1, cv1, rfl, hC1, hk1, hs1⟩; have cc0 := hC1.c0; have cc1 := hC1.c1)
  have hf : ∀ i, MSI c al1 av1 i → lo ≤ i ∧ ¬ FP m0 W1 i := fun i hi => ⟨Nat.le_trans hlo (hs1 i hi), fun h => by
    have := hfo i (FP.kp hk1 hm0 (fun f => f) h)
    have := hs1 i hi
    omega⟩
  gi_loopw [13] (fun v13 wr => ∃ k : Nat, k ≤ M.length ∧ v13 = .int .i64 k ∧ J (M.take k) wr ∧ KG lo m0 W1 wr) (fun v13 _ => M.length - (intOf v13).toNat)
  case atStart => exact ⟨0, by omega, rfl, by simpa using hJ _ _ _ _ h0 hk1.grow (fun r e => by cases e), KG.refl _ _ _⟩
  case round =>
    obtain ⟨k, hk, rfl, hJs, hg⟩ := hrel
    by_cases hlt : k < M.length
    · have g : (k : Int) < (M.length : Nat) := by omega
      have hMr := hC1.kg hg hf
      have hMl : (M.map (·.1)).length = M.length := by simp
      have hMl2 : (M.map (·.2)).length = M.length := by simp
      have hRS := hMr.spans.reads encS_len (by omega)
      have hRV := hMr.vals.reads encI_len (by omega)
      have hcS := hRS.cap
      have hmS := hRS.max
      have hcV := hRV.cap
      have hmV := hRV.max
      have hkN : Kp Non wr (wr.alloc (.cells #[.int .i64 M[k].1.1, .int .i64 M[k].1.2] 36)) := (Kp.refl _ wr).alloc _
      have hkD : Kp Non wr (wr.alloc (.cells #[.int .i64 M[k].1.1, .int .i64 M[k].1.2] 36)).drew := hkN.drew
      have mr0 := hMr.c0
      have m1 := (hMr.non hkD).c1
      obtain ⟨bl, ol, rfl⟩ := hRS.there (by omega)
      obtain ⟨bv, ov, rfl⟩ := hRV.there (by omega)
      have c0 := Spans.c0 hRS (j := k) (by rw [hMl]; exact hlt)
      have c1 := Spans.c1 hRS (j := k) (by rw [hMl]; exact hlt)
      have v0 := Ints.c (hRV.non hkD) (j := k) (by rw [hMl2]; exact hlt)
      simp only [List.getElem_map] at c0 c1 v0
      have n0 : (wr.alloc (.cells #[.int .i64 M[k].1.1, .int .i64 M[k].1.2] 36)).drew.cell? ⟨wr.heap.size, 0, none⟩ = some (.int .i64 M[k].1.1) := (cell_new (w := wr) (cur := #[.int .i64 M[k].1.1, .int .i64 M[k].1.2]) (e := 36) (fr := (0, 0)) rfl 0)
      have n1 : (wr.alloc (.cells #[.int .i64 M[k].1.1, .int .i64 M[k].1.2] 36)).drew.cell? ⟨wr.heap.size, 1, none⟩ = some (.int .i64 M[k].1.2) := (cell_new (w := wr) (cur := #[.int .i64 M[k].1.1, .int .i64 M[k].1.2]) (e := 36) (fr := (0, 0)) rfl 1)
      have hJ2 : J (M.take k) (wr.alloc (.cells #[.int .i64 M[k].1.1, .int .i64 M[k].1.2] 36)).drew := hJ _ _ _ _ hJs hkD.grow (fun r e => by cases e)
      have HY := Lib.hid (hY (M.take k) M[k] _ hJ2 (by simp; omega))
      have HT := Lib.hid (List.take_succ_eq_append_getElem hlt)
      have HKG : KG lo m0 wr (wr.alloc (.cells #[.int .i64 M[k].1.1, .int .i64 M[k].1.2] 36)).drew := KG.of_kp hkD (Nat.lt_of_lt_of_le hm0 (Nat.le_trans hk1.size hg.size)) (fun _ f => f.elim)
      clear hMr hJ2 hkD hkN
      generalize M[k] = p at *
      gi_wp2
      refine wpIn_region_chain [0,0,0,0,0,0,0,0,0,2,2] (by kernel_rfl) (fun _ => trivial) (by kernel_rfl) (by kernel_rfl) (fun w' => w'.cell? ⟨wr.heap.size, 0, none⟩ = some (.int .i64 p.1.1) ∧ w'.cell? ⟨wr.heap.size, 1, none⟩ = some (.int .i64 p.1.2) ∧ w'.cell? ⟨c, 1, none⟩ = some (.slice (some ⟨bv, ov, none⟩) M.length cv1) ∧ w'.cell? ⟨bv, ov + k, none⟩ = some (.int .i64 p.2)) ⟨n0, n1, m1, v0⟩ ?_
      repeat (first | (with_reducible refine pure_skipI ?_) | ((with_reducible refine pure_kI rfl ?_); intro K hK; apply Exists.intro; refine ⟨fun w' hC => ?_, ?_⟩; (obtain ⟨g1, g2, g3, g4⟩ := hC; go_simp; rfl); go_simp; refine hK _ ?_; clear hK K))
      with_reducible refine pure_nilI ?_
      repeat (with_reducible refine chain_skip0I ?_)
      with_reducible refine chain_stepI rfl fun K hK => ?_
      obtain ⟨fn, tmps, assign, body, hy, hR⟩ := HY.out
      go_simp
      refine hR.mono ?_
      rintro e W3 (⟨rfl, hJ3, hk3⟩ | ⟨rfl, hJx3⟩)
      · refine hK _ _ (fun h => by cases h) ?_
        clear hK K
        repeat (with_reducible refine chain_skip0I ?_)
        with_reducible refine chain_stepI rfl fun K hK => ?_
        go_simp
        refine hK _ _ (fun h => by cases h) ?_
        clear hK K
        with_reducible refine chain_nilI ?_
        gi_wp2
        go_roundw
        case rel => exact ⟨k + 1, by omega, by go_num, by rw [HT.out]; exact hJ3, hg.trans (HKG.trans hk3)⟩
        case measure => simp [intOf]; omega
      · refine hK _ _ (fun h => by cases h) ?_
        clear hK K
        repeat (with_reducible refine chain_skip0I ?_)
        with_reducible refine chain_stepI rfl fun K hK => ?_
        go_simp
        refine hK _ _ (fun h => by cases h) ?_
        clear hK K
        with_reducible refine chain_nilI ?_
        gi_wp2
        refine bodyPost_ret (results_none rfl _ _ _) rfl ?_
        exact ⟨⟨_, rfl⟩, .inr ⟨M.take k ++ [p], by rw [← HT.out]; exact List.take_prefix _ _, hJx3⟩⟩
    · obtain rfl : k = M.length := by omega
      gi_wp2
      go_end0
      exact ⟨⟨_, rfl⟩, .inl ⟨_, rfl, by simpa using hJs⟩⟩

/-- The iterator's contract. -/
theorem eachItA_stops (n : Nat) (hn : 1 ≤ n) (lo Bm m : Nat) (M : List (Sp × Int)) (al : Option Addr) (cl : Nat) (av : Option Addr) (cv : Nat) (w : World) (hlo : lo ≤ w.heap.size) (hb : w.cell? ⟨Bm, 0, none⟩ = some (.pointer (some ⟨m, 4, none⟩)))
    (hM : MapA U w m M al cl av cv) (m0 : Nat) (hm0 : m0 < w.heap.size) (hfo : ∀ i, FP m0 w i → i < w.heap.size) (hl : M.length ≤ 1000000000000) :
    SeqStopsK Fence.wide n Try.prog 73 #[.pointer (some ⟨Bm, 0, none⟩)] encsI (KG lo m0) (fun ys => ys = M) (fun pre => pre <+: M) M.length w := fun l J Jx W hW hJ _ hY h0 => by
  have hk : Kp Non w W := Kp.of_below hW
  exact eachItA_one n hn l lo Bm m M al cl av cv W (Nat.le_trans hlo hW.size) (hk.cell hb (fun f => f)) (hM.non hk) m0 (Nat.lt_of_lt_of_le hm0 hk.size) (fun i hi => Nat.lt_of_lt_of_le (hfo i (FP.kp hk hm0 (fun f => f) hi)) hk.size) hl J Jx hJ hY h0

end Go.Proofs.Ytdijaillcajpaaa
