/-
  Blocks: the iterator.
-/
import Derived.Test.YtkgjpmgoapfamaaE12
import Derived.Test.YtkgjpmgoapfamaaN0
namespace Go.Proofs.Ytkgjpmgoapfamaa
open Go.RowKit Go.Shelf
attribute [local go_sem] Oper.semAt_some

def encN (x : Int) : Array Value := #[.int .i64 x]
/-- The blocks of a span, rising. -/
def rng (s : Sp) : List Int := (List.range (s.2 - s.1).toNat).map fun i : Nat => s.1 + (i : Int)
def blks (l : List Sp) : List Int := l.flatMap rng
theorem rng_len (s : Sp) : (rng s).length = (s.2 - s.1).toNat := by simp [rng]
theorem rng_at (s : Sp) {j : Nat} (h : j < (rng s).length) : (rng s)[j] = s.1 + (j : Int) := by simp [rng]
theorem blks_split {l : List Sp} {k : Nat} (h : k < l.length) : blks l = blks (l.take k) ++ rng l[k] ++ blks (l.drop (k + 1)) := by
  conv => lhs; rw [show l = l.take k ++ (l[k] :: l.drop (k + 1)) by rw [← List.drop_eq_getElem_cons h, List.take_append_drop]]
  simp only [blks, List.flatMap_append, List.flatMap_cons, List.append_assoc]
theorem blks_snoc {l : List Sp} {k : Nat} (h : k < l.length) : blks (l.take (k + 1)) = blks (l.take k) ++ rng l[k] := by
  rw [List.take_succ_eq_append_getElem h]; simp only [blks, List.flatMap_append, List.flatMap_cons, List.flatMap_nil, List.append_nil]

/-- KG, and what the block points to is there. -/
structure KH (lo m : Nat) (A B : World) : Prop where
  kg : KG lo m A B
  old : ∀ k, FP m B k → FP m A k ∨ k < B.heap.size
theorem KH.trans {lo m : Nat} {A B C : World} (h : KH lo m A B) (k : KH lo m B C) : KH lo m A C := ⟨h.kg.trans k.kg, fun i hi => by
  rcases k.old i hi with q | q
  · rcases h.old i q with q | q
    · exact .inl q
    · exact .inr (Nat.lt_of_lt_of_le q k.kg.size)
  · exact .inr q⟩
theorem FP.kp {m : Nat} {S : Nat → Prop} {A B : World} (h : Kp S A B) (hm : m < A.heap.size) (hS : ¬ S m) {k : Nat} (hk : FP m B k) : FP m A k := by
  rcases hk with rfl | ⟨i, p, n, c, hp, rfl⟩
  · exact .inl rfl
  · refine .inr ⟨i, p, n, c, ?_, rfl⟩
    have := h.block m hm hS
    rw [← hp]
    simp only [World.cell?, this]
theorem KH.of_kp {lo m : Nat} {S : Nat → Prop} {A B : World} (h : Kp S A B) (hm : m < A.heap.size) (hS : ∀ i, S i → i < lo ∧ i ≠ m) : KH lo m A B :=
  ⟨KG.of_kp h hm hS, fun _ hk => .inl (FP.kp h hm (fun s => (hS m s).2 rfl) hk)⟩
theorem KH.refl (lo m : Nat) (A : World) : KH lo m A A := ⟨KG.refl _ _ _, fun _ h => .inl h⟩
theorem KH.putObj {lo m : Nat} {w : World} (hm : m < w.heap.size) (W : World) (l : Nat) (o o' : Obj) (hl : w.heap.size ≤ l) (h : W.heap[l]? = some o) (hc : o.isCells = false) (hw : o.isWalk = false) : KH lo m W (W.putObj l o') :=
  ⟨KG.putObj hm W l o o' hl h hc hw, fun k hk => by
    left
    rcases hk with rfl | ⟨i, p, n, c, hp, rfl⟩
    · exact .inl rfl
    · refine .inr ⟨i, p, n, c, ?_, rfl⟩
      have hne : m ≠ l := by omega
      rw [← hp]
      simp only [World.cell?, World.putObj_heap_other (Ne.symm hne.symm)]⟩

set_option maxRecDepth 100000 in
set_option maxHeartbeats 1000000 in
theorem blocksIt_one (n : Nat) (hn : 1 ≤ n) (l lo Bm m : Nat) (R : List Sp) (a : Option Addr) (c : Nat) (W : World) (hb : W.cell? ⟨Bm, 0, none⟩ = some (.slice a R.length c))
    (hO : OwnS W lo a R.length c R) (hm : m < W.heap.size) (hlm : lo ≤ W.heap.size) (hf : ∀ i, Blk a i → ¬ FP m W i) (hfo : ∀ k, FP m W k → k < W.heap.size) (hR : ∀ s ∈ R, s.1 < s.2 ∧ -9223372036854775808 ≤ s.1 ∧ s.2 ≤ 9223372036854775807) (hl : R.length ≤ 1000000000000)
    (J Jx : List Int → World → Prop) (hJ : AbidesFrom W.heap.size J)
    (hY : ∀ pre x W1, J pre W1 → pre.length < (blks R).length → YieldAt Fence.wide (n - 1) Try.prog l (encN x) W1 fun e W' =>
      (e = .returned (.bool true) ∧ J (pre ++ [x]) W' ∧ KH lo m W1 W') ∨ (e = .returned (.bool false) ∧ Jx (pre ++ [x]) W'))
    (h0 : J [] W) :
    CallsIn Fence.wide n Try.prog 70 #[.func (.yield l) #[] #[], .pointer (some ⟨Bm, 0, none⟩)] W fun e W' => (∃ v, e = .returned v) ∧
      ((∃ ys, ys = blks R ∧ J ys W') ∨ (∃ pre, pre <+: blks R ∧ Jx pre W')) := by
  have hcp := (hO.reads encS_len (by omega)).cap
  have hmx := (hO.reads encS_len (by omega)).max
  refine callsIn_of_wp Try.func70 rfl trivial ?_ rfl
  simp only [Try.ntmps70, List.size_toArray, List.length_cons, List.length_nil, Nat.reduceAdd, Nat.reduceSub, Array.replicate_succ, Array.replicate_zero, List.push_toArray, List.append_toArray, List.nil_append, List.cons_append]
  gi_wp2
  gi_loopw [8] (fun v8 wr => ∃ k : Nat, k ≤ R.length ∧ v8 = .int .i64 k ∧ J (blks (R.take k)) wr ∧ KH lo m W wr) (fun v8 _ => R.length - (intOf v8).toNat)
  case atStart => exact ⟨0, by omega, rfl, by simpa [blks] using h0, KH.refl _ _ _⟩
  case round =>
    obtain ⟨k, hk, rfl, hJs, hg⟩ := hrel
    by_cases hlt : k < R.length
    · have g : (k : Int) < (R.length : Nat) := by omega
      have hOr := hO.keeps (w' := wr) fun i o hi ho hc => hg.kg.keep i o (hO.blk i hi).1 ho hc (hf i hi)
      have hRd := hOr.reads encS_len (by omega)
      obtain ⟨b, o, rfl⟩ := hRd.there (by omega)
      have c0 := Spans.c0 hRd hlt
      have c1 := Spans.c1 hRd hlt
      have hbd := hR R[k] (List.getElem_mem hlt)
      have HSp := Lib.hid (blks_split hlt)
      have HSn := Lib.hid (blks_snoc hlt)
      have hkN : Kp Non wr (wr.alloc (.cells #[.int .i64 R[k].1, .int .i64 R[k].2] 30)) := (Kp.refl _ wr).alloc _
      have hJ2 : J (blks (R.take k)) (wr.alloc (.cells #[.int .i64 R[k].1, .int .i64 R[k].2] 30)) := hJ _ _ _ _ hJs hkN.grow (fun r e => by cases e)
      have hmr : m < wr.heap.size := Nat.lt_of_lt_of_le hm hg.kg.size
      have HKG : KH lo m wr (wr.alloc (.cells #[.int .i64 R[k].1, .int .i64 R[k].2] 30)) := KH.of_kp hkN hmr (fun _ f => f.elim)
      have hbx := BoxS.new wr R[k]
      have hlr : lo ≤ wr.heap.size := Nat.le_trans hlm hg.kg.size
      clear hOr hRd hJs
      generalize R[k] = s at *
      have hfp : ¬ FP m (wr.alloc (.cells #[.int .i64 s.1, .int .i64 s.2] 30)) wr.heap.size := fun hfp => by
        rcases hg.old _ (FP.kp hkN hmr (fun f => f) hfp) with q | q
        · have := hfo _ q; have := hg.kg.size; omega
        · omega
      gi_wp2
      gi_loopw [5] (fun v5 wi => ∃ j : Nat, j ≤ (rng s).length ∧ v5 = .int .i64 (s.1 + (j : Int)) ∧ J (blks (R.take k) ++ (rng s).take j) wi ∧ KH lo m (wr.alloc (.cells #[.int .i64 s.1, .int .i64 s.2] 30)) wi) (fun v5 _ => (rng s).length - (intOf v5 - s.1).toNat)
      case atStart => exact ⟨0, by omega, by simp, by simpa using hJ2, KH.refl _ _ _⟩
      case round =>
        obtain ⟨j, hj, rfl, hJi, hgi⟩ := hrel
        have hrl := rng_len s
        have b1 := KG.cell hgi.kg hlr hfp hbx.c1
        by_cases hjl : j < (rng s).length
        · have g2 : s.1 + (j : Int) < s.2 := by omega
          have HT := Lib.hid (List.take_succ_eq_append_getElem hjl)
          have HA := Lib.hid (rng_at s hjl)
          have HY := Lib.hid (hY _ (rng s)[j] _ hJi (by rw [HSp.out]; simp only [List.length_append, List.length_take]; omega))
          rw [HA.out] at HY
          obtain ⟨fn, tmps, assign, body, hy, hR⟩ := HY.out
          simp only [encN] at hy
          have hwj : IntKind.i64.wrap (s.1 + (j : Int) + 1) = s.1 + ((j + 1 : Nat) : Int) := by rw [IntKind.wrap_i64] <;> omega
          gi_wp2
          refine hR.mono ?_
          rintro e W3 (⟨rfl, hJ3, hk3⟩ | ⟨rfl, hJx3⟩)
          · gi_wp2
            go_roundw
            case rel =>
              refine ⟨j + 1, by omega, rfl, ?_, hgi.trans hk3⟩
              rw [HT.out, HA.out, ← List.append_assoc]
              exact hJ3
            case measure => simp [intOf]; omega
          · gi_wp2
            refine bodyPost_ret (results_none rfl _ _ _) rfl ?_
            refine ⟨⟨_, rfl⟩, .inr ⟨_, ?_, hJx3⟩⟩
            rw [← HA.out, List.append_assoc, ← HT.out, HSp.out, List.append_assoc]
            exact (List.prefix_append_right_inj _).2 ((List.take_prefix _ _).trans (List.prefix_append _ _))
        · obtain rfl : j = (rng s).length := by omega
          have g2 : ¬ s.1 + ((rng s).length : Int) < s.2 := by omega
          have e2 : s.1 + ((rng s).length : Int) = s.2 := by omega
          gi_wp2
          go_roundw
          case rel => exact ⟨k + 1, by omega, by go_num, by rw [HSn.out]; simpa using hJi, hg.trans (HKG.trans hgi)⟩
          case measure => simp [intOf]; omega
    · obtain rfl : k = R.length := by omega
      gi_wp2
      go_end0
      exact ⟨⟨_, rfl⟩, .inl ⟨_, rfl, by simpa using hJs⟩⟩

/-- The iterator's contract. -/
theorem blocksIt_stops (n : Nat) (hn : 1 ≤ n) (lo Bm m : Nat) (R : List Sp) (a : Option Addr) (c : Nat) (w : World) (hb : w.cell? ⟨Bm, 0, none⟩ = some (.slice a R.length c))
    (hO : OwnS w lo a R.length c R) (hm : m < w.heap.size) (hf : ∀ i, Blk a i → ¬ FP m w i) (hfo : ∀ k, FP m w k → k < w.heap.size) (hR : ∀ s ∈ R, s.1 < s.2 ∧ -9223372036854775808 ≤ s.1 ∧ s.2 ≤ 9223372036854775807) (hl : R.length ≤ 1000000000000) (hlm : lo ≤ w.heap.size) :
    SeqStopsK Fence.wide n Try.prog 70 #[.pointer (some ⟨Bm, 0, none⟩)] encN (KH lo m) (fun ys => ys = blks R) (fun pre => pre <+: blks R) (blks R).length w := fun l J Jx W hW hJ _ hY h0 => by
  have hk : Kp Non w W := Kp.of_below hW
  exact blocksIt_one n hn l lo Bm m R a c W (hk.cell hb (fun f => f)) (hO.non hk) (Nat.lt_of_lt_of_le hm hW.size) (Nat.le_trans hlm hW.size) (fun i hi h => hf i hi (FP.kp hk hm (fun f => f) h))
    (fun k h => Nat.lt_of_lt_of_le (hfo k (FP.kp hk hm (fun f => f) h)) hW.size) hR hl J Jx hJ hY h0

set_option maxRecDepth 100000 in
set_option maxHeartbeats 400000 in
/-- Blocks: a function value; the plain row lies in a box. -/
theorem blocks_calls (a : Option Addr) (n c : Nat) (l : List Sp) (w : World) (h : Spans w a n c l) (hn : n ≤ 1000000000) : Calls Try.prog 56 #[.slice a n c] w fun e w' =>
    ∃ bx a' c', e = .returned (.func (.func 70) #[] #[.pointer (some ⟨bx, 0, none⟩)]) ∧ w.heap.size ≤ bx ∧ bx < w'.heap.size ∧ w'.cell? ⟨bx, 0, none⟩ = some (.slice a' (norm l).length c') ∧ OwnS w' w.heap.size a' (norm l).length c' (norm l) ∧ Kp Non w w' := by
  go_enter Try.func56, Try.ntmps56
  go_wp2_with fail
  refine (norm_calls a n c l w h (by omega)).mono ?_
  rintro e w1 ⟨a', c', rfl, hO1, hk1⟩
  go_wp2_with fail
  go_ret
  have hkA : Kp Non w1 (w1.alloc (.cells #[.slice a' (norm l).length c'] 22)) := (Kp.refl _ _).alloc _
  exact ⟨w1.heap.size, a', c', rfl, hk1.size, by simp, cell_new (w := w1) (cur := #[.slice a' (norm l).length c']) (e := 22) (fr := (0, 0)) rfl 0, hO1.non hkA, hk1.trans hkA⟩
end Go.Proofs.Ytkgjpmgoapfamaa
