/-
  AuditOrders: two writes, one done ahead of the other's beginning, that were executed the other way round, are found; and a read that tells what was put over ahead of its beginning. For every input. (The frame: sframe.py.)
-/
import Derived.Test.YtpehfnobgdjgcaaQ1
import Derived.Test.YtpehfnobgdjgcaaO0
namespace Go.Proofs.Ytpehfnobgdjgcaa
open Go.RowKit

abbrev oD (k u : Int) (b be en : Int) (s : Nat) (t : UInt8) : DeedV := ⟨k, u, 2, b, b + 1, ⟨some ⟨s, 0, none⟩, 1, 1, [wtext t]⟩, be, en, ⟨none, 0, 0, []⟩⟩
abbrev oR (i : Int) (x : DeedV) : RanV := ⟨(0, i), ⟨x.op, x.cl, x.sq, x.fr, x.to, x.da⟩, ⟨true, ⟨none, 0, 0, []⟩⟩⟩
theorem BxR.new2 (w : World) (x : RanV) : ∃ V, w.alloc (.cells #[.int .i64 x.ref.1, .int .i64 x.ref.2, .int .i64 x.cmd.op, .int .i64 x.cmd.cl, .int .i64 x.cmd.sq, .int .i64 x.cmd.fr, .int .i64 x.cmd.to, .slice x.cmd.da.a x.cmd.da.n x.cmd.da.c, .bool x.rep.ok, .slice x.rep.da.a x.rep.da.n x.rep.da.c] 61) = V ∧ Bx V w.heap.size 61 (encRan x) ∧ Kp Non w V := ⟨_, rfl, Bx.new w _ (encRan x), (Kp.refl Non w).alloc _⟩
theorem BxR.cells {W : World} {b : Nat} {x : RanV} (h : Bx W b 61 (encRan x)) : W.cell? ⟨b, 0, none⟩ = some (.int .i64 x.ref.1) ∧ W.cell? ⟨b, 1, none⟩ = some (.int .i64 x.ref.2) ∧ W.cell? ⟨b, 2, none⟩ = some (.int .i64 x.cmd.op) ∧ W.cell? ⟨b, 3, none⟩ = some (.int .i64 x.cmd.cl) ∧ W.cell? ⟨b, 4, none⟩ = some (.int .i64 x.cmd.sq) ∧ W.cell? ⟨b, 5, none⟩ = some (.int .i64 x.cmd.fr) ∧ W.cell? ⟨b, 6, none⟩ = some (.int .i64 x.cmd.to) ∧ W.cell? ⟨b, 7, none⟩ = some (.slice x.cmd.da.a x.cmd.da.n x.cmd.da.c) ∧ W.cell? ⟨b, 8, none⟩ = some (.bool x.rep.ok) ∧ W.cell? ⟨b, 9, none⟩ = some (.slice x.rep.da.a x.rep.da.n x.rep.da.c) :=
  ⟨h.c rfl, h.c rfl, h.c rfl, h.c rfl, h.c rfl, h.c rfl, h.c rfl, h.c rfl, h.c rfl, h.c rfl⟩

theorem wp_chain6 {w : World} {o0 o1 o2 o3 o4 o5 : Obj} {c : Code} {a : Act} {Q : Exit → Act → World → Prop}
    (h : ∀ V, V.heap[w.heap.size]? = some o0 → V.heap[w.heap.size + 1]? = some o1 → V.heap[w.heap.size + 1 + 1]? = some o2 → V.heap[w.heap.size + 1 + 1 + 1]? = some o3 → V.heap[w.heap.size + 1 + 1 + 1 + 1]? = some o4 → V.heap[w.heap.size + 1 + 1 + 1 + 1 + 1]? = some o5 → V.heap.size = w.heap.size + 1 + 1 + 1 + 1 + 1 + 1 → Kp Non w V → c.wp Try.prog Q a V) :
    c.wp Try.prog Q a ((((((w.alloc o0).alloc o1).alloc o2).alloc o3).alloc o4).alloc o5) := by
  have st : ∀ (W : World) (o : Obj) {i : Nat} {x : Obj}, W.heap[i]? = some x → (W.alloc o).heap[i]? = some x := fun W o i x hx => ((Kp.refl Non W).alloc o).heap hx fun f => f
  have nw : ∀ (W : World) (o : Obj) {i : Nat}, i = W.heap.size → (W.alloc o).heap[i]? = some o := fun W o i hi => by rw [hi]; exact heap_alloc_new W o
  have z : ∀ (W : World) (o : Obj), (W.alloc o).heap.size = W.heap.size + 1 := fun W o => World.size_alloc W o
  refine h _ ?_ ?_ ?_ ?_ ?_ ?_ ?_ (((((((Kp.refl Non w).alloc _).alloc _).alloc _).alloc _).alloc _).alloc _)
  · exact st _ _ (st _ _ (st _ _ (st _ _ (st _ _ (nw _ _ rfl)))))
  · exact st _ _ (st _ _ (st _ _ (st _ _ (nw _ _ (by rw [z])))))
  · exact st _ _ (st _ _ (st _ _ (nw _ _ (by rw [z, z]))))
  · exact st _ _ (st _ _ (nw _ _ (by rw [z, z, z])))
  · exact st _ _ (nw _ _ (by rw [z, z, z, z]))
  · exact nw _ _ (by rw [z, z, z, z, z])
  · rw [z, z, z, z, z, z]
theorem calls_chain1 {w : World} {o0 : Obj} {f : FuncId} {vs : Array Value} {Q : Ending → World → Prop}
    (h : ∀ V, V.heap[w.heap.size]? = some o0 → V.heap.size = w.heap.size + 1 → Kp Non w V → Calls Try.prog f vs V Q) :
    Calls Try.prog f vs (w.alloc o0) Q := by
  have st : ∀ (W : World) (o : Obj) {i : Nat} {x : Obj}, W.heap[i]? = some x → (W.alloc o).heap[i]? = some x := fun W o i x hx => ((Kp.refl Non W).alloc o).heap hx fun f => f
  have nw : ∀ (W : World) (o : Obj) {i : Nat}, i = W.heap.size → (W.alloc o).heap[i]? = some o := fun W o i hi => by rw [hi]; exact heap_alloc_new W o
  have z : ∀ (W : World) (o : Obj), (W.alloc o).heap.size = W.heap.size + 1 := fun W o => World.size_alloc W o
  refine h _ ?_ ?_ ((Kp.refl Non w).alloc _)
  · exact nw _ _ rfl
  · rw [z]
abbrev oRd (b g be : Int) (s : Nat) : DeedV := ⟨3, 1, 1, b, b + 1, ⟨none, 0, 0, []⟩, be, 4 + 2 * (1 + g), ⟨some ⟨s, 0, none⟩, 1, 1, [wtext 49]⟩⟩
abbrev oL (c : Nat) (x y : RanV) : LifeV := ⟨0, 1, ⟨some ⟨c, 0, none⟩, 2, 2, [x, y]⟩⟩
abbrev oA (b g : Int) (s : Nat) : DeedV := oD 1 1 b 1 (1 + (1 + g)) s 49
abbrev oB (b g : Int) (s : Nat) : DeedV := oD 2 1 b (2 + (1 + g)) (2 + 2 * (1 + g)) s 50
section
variable {b g : Int}
def p1 : PutV := ⟨1, 1, 1, (0, 1), wtext 49⟩
def p2 : PutV := ⟨1, 2, 1, (0, 2), wtext 50⟩
theorem off_self (b : Int) : offN b b = 0 := by simp [offN]
theorem put_a (s : Nat) : putM 1 b (oR 1 (oA b g s)) = some p1 := by simp [putM, okPut, putOf, off_self, textAt, p1]; omega
theorem put_b (s : Nat) : putM 1 b (oR 2 (oB b g s)) = some p2 := by simp [putM, okPut, putOf, off_self, textAt, p2]; omega
theorem put_no {k i : Int} (x : DeedV) (h1 : x.fr = b) (h2 : x.to = b + 1) (hk : k ≠ b) : putM 1 k (oR i x) = none := by
  have : okPut (oR i x) k = false := by
    by_cases h : k < b
    · simp [okPut, h1, h]
    · have : b + 1 ≤ k := by omega
      simp [okPut, h2, this]
  simp [putM, this]
theorem puts_r (s1 s2 c : Nat) : putsL (oL c (oR 1 (oA b g s1)) (oR 2 (oB b g s2))) b = [p1, p2] := by simp only [putsL, List.filterMap_cons, List.filterMap_nil, put_a, put_b]
theorem puts_w (s1 s2 c : Nat) : putsL (oL c (oR 2 (oB b g s2)) (oR 1 (oA b g s1))) b = [p2, p1] := by simp only [putsL, List.filterMap_cons, List.filterMap_nil, put_a, put_b]
theorem puts_no {k : Int} (x y : DeedV) (i j : Int) (c : Nat) (h1 : x.fr = b ∧ x.to = b + 1) (h2 : y.fr = b ∧ y.to = b + 1) (hk : k ≠ b) : putsL (oL c (oR i x) (oR j y)) k = [] := by
  simp only [putsL, List.filterMap_cons, List.filterMap_nil, put_no x h1.1 h1.2 hk, put_no y h2.1 h2.2 hk]
theorem eff_r : effL [p1, p2] = [p1, p2] := rfl
theorem eff_w : effL [p2, p1] = [p2, p1] := rfl
theorem ix_a (s1 s2 : Nat) (r : List DeedV) : ixOf (oA b g s1 :: oB b g s2 :: r) p1 = some 0 := by simp [ixOf, List.findIdx?_cons, deedIs, p1]
theorem ix_b (s1 s2 : Nat) (r : List DeedV) : ixOf (oA b g s1 :: oB b g s2 :: r) p2 = some 1 := by simp [ixOf, List.findIdx?_cons, deedIs, p2]
theorem d_a (s1 s2 : Nat) (r : List DeedV) : dOf (oA b g s1 :: oB b g s2 :: r) p1 = oA b g s1 := by simp [dOf, ix_a]
theorem d_b (s1 s2 : Nat) (r : List DeedV) : dOf (oA b g s1 :: oB b g s2 :: r) p2 = oB b g s2 := by simp [dOf, ix_b]
theorem ask_a (s : Nat) : askedB (oA b g s) p1 b = true := by simp [askedB, off_self, textAt, p1]; omega
theorem ask_b (s : Nat) : askedB (oB b g s) p2 b = true := by simp [askedB, off_self, textAt, p2]; omega
theorem asked_r (hg : 0 ≤ g ∧ g ≤ 99) (s1 s2 : Nat) (r : List DeedV) : askedAllB (oA b g s1 :: oB b g s2 :: r) [p1, p2] b = true := by
  refine askedAll_yes fun i p h => ?_
  match i, h with
  | 0, h =>
    simp at h
    subst h
    simp [okAt, ix_a, d_a, ask_a, byL]
  | 1, h =>
    simp at h
    subst h
    simp [okAt, ix_b, d_b, d_a, ask_b, byL, aheadB]
    omega
theorem asked_w (hg : 0 ≤ g ∧ g ≤ 99) (s1 s2 : Nat) (r : List DeedV) : askedAllB (oA b g s1 :: oB b g s2 :: r) [p2, p1] b = false := by
  refine askedAll_no (i := 1) (p := p1) rfl ?_
  simp [okAt, ix_a, d_a, d_b, byL, aheadB]
  omega
theorem by_r (s1 s2 : Nat) (r : List DeedV) : byL (oA b g s1 :: oB b g s2 :: r) [p1, p2] = [oA b g s1, oB b g s2] := by simp [byL, d_a, d_b]
theorem in_self (x : DeedV) (h1 : x.fr = b) (h2 : x.to = b + 1) : inB x b = true := by simp [inB, h1, h2]; omega
theorem not_in {k : Int} {x : DeedV} (h1 : x.fr = b) (h2 : x.to = b + 1) (hk : k ≠ b) : inB x k = false := by
  by_cases h : k < b
  · simp [inB, h1, h]
  · have : b + 1 ≤ k := by omega
    simp [inB, h2, this]
/-- Of another block nothing is told. -/
theorem lin_else {k : Int} {ds : List DeedV} {x y : DeedV} {i j : Int} {c : Nat} (hd : ∀ d ∈ ds, d.fr = b ∧ d.to = b + 1) (h1 : x.fr = b ∧ x.to = b + 1) (h2 : y.fr = b ∧ y.to = b + 1) (hk : k ≠ b) : linB ds [oL c (oR i x) (oR j y)] k = true := by
  rw [lin_one, puts_no x y i j c h1 h2 hk]
  have e : effL [] = [] := rfl
  rw [e]
  have no : ∀ (i : Nat) d, ds[i]? = some d → inB d k = true → False := fun i d hi hb => by
    have := hd d (List.mem_of_getElem? hi)
    rw [not_in this.1 this.2 hk] at hb
    cases hb
  exact places_yes (fun _ => 0) (askedAll_yes fun i p h => by simp at h) (fun i d hi _ hb _ => (no i d hi hb).elim) (fun i d hi _ hb _ => (no i d hi hb).elim)
theorem o_bad (_ : 0 ≤ b ∧ b ≤ 255) (be : Int) (s1 s2 s3 : Nat) : ∀ d ∈ [oA b g s1, oB b g s2, oRd b g be s3], badB d = false := by
  intro d hd
  rcases List.mem_cons.1 hd with rfl | hd
  · simp [badB]
  rcases List.mem_cons.1 hd with rfl | hd
  · simp [badB]
  obtain rfl := List.mem_singleton.1 hd
  have : offN (b + 1) b = 1 := by unfold offN; rw [show b + 1 - b = 1 by omega]; rfl
  simp [badB, this]
  omega
theorem o_span (be : Int) (s1 s2 s3 : Nat) : ∀ d ∈ [oA b g s1, oB b g s2, oRd b g be s3], d.fr = b ∧ d.to = b + 1 := by
  intro d hd
  rcases List.mem_cons.1 hd with rfl | hd
  · exact ⟨rfl, rfl⟩
  rcases List.mem_cons.1 hd with rfl | hd
  · exact ⟨rfl, rfl⟩
  obtain rfl := List.mem_singleton.1 hd
  exact ⟨rfl, rfl⟩
theorem two_in {P : DeedV → Prop} {x y z : DeedV} (h : ∀ d ∈ [x, y, z], P d) : ∀ d ∈ [x, y], P d := fun d hd => h d (by
  rcases List.mem_cons.1 hd with rfl | hd
  · simp
  · obtain rfl := List.mem_singleton.1 hd
    simp)
theorem cnt_a (s : Nat) : cntOf [p1, p2] (oA b g s) = 1 := by simp [cntOf, cntT, deedIs, p1, p2]
theorem cnt_b (s : Nat) : cntOf [p1, p2] (oB b g s) = 1 := by simp [cntOf, cntT, deedIs, p1, p2]
theorem o_right (hb : 0 ≤ b ∧ b ≤ 255) (hg : 0 ≤ g ∧ g ≤ 99) (s1 s2 c : Nat) : checkB 256 [oA b g s1, oB b g s2] [oL c (oR 1 (oA b g s1)) (oR 2 (oB b g s2))] = (0, true) := by
  refine checkB_yes (two_in (o_bad hb 0 s1 s2 0)) fun k _ => ?_
  by_cases hk : (k : Int) = b
  · rw [hk, lin_one, puts_r, eff_r]
    refine places_yes (fun _ => 0) (asked_r hg s1 s2 []) (fun i d hi _ _ _ => ?_) (fun i d hi _ _ h1 => ?_)
    · match i, hi with
      | 0, hi => cases hi; exact cnt_a s1
      | 1, hi => cases hi; exact cnt_b s2
    · match i, hi with
      | 0, hi => cases hi; simp at h1
      | 1, hi => cases hi; simp at h1
  · exact lin_else (two_in (o_span 0 s1 s2 0)) ⟨rfl, rfl⟩ ⟨rfl, rfl⟩ hk
theorem o_wrong (hb : 0 ≤ b ∧ b ≤ 255) (hg : 0 ≤ g ∧ g ≤ 99) (s1 s2 c : Nat) : checkB 256 [oA b g s1, oB b g s2] [oL c (oR 2 (oB b g s2)) (oR 1 (oA b g s1))] = (b, false) := by
  obtain ⟨k, rfl⟩ := Int.eq_ofNat_of_zero_le hb.1
  refine checkB_at (k := k) (two_in (o_bad hb 0 s1 s2 0)) (by omega) (by omega) (fun j hj => lin_else (b := k) (two_in (o_span 0 s1 s2 0)) ⟨rfl, rfl⟩ ⟨rfl, rfl⟩ (by omega)) ?_
  rw [lin_one, puts_w, eff_w, placesB, asked_w hg s1 s2 []]
  rfl
theorem o_old (hb : 0 ≤ b ∧ b ≤ 255) (hg : 0 ≤ g ∧ g ≤ 99) (s1 s2 s3 c : Nat) : checkB 256 [oA b g s1, oB b g s2, oRd b g (3 + 2 * (1 + g)) s3] [oL c (oR 1 (oA b g s1)) (oR 2 (oB b g s2))] = (b, false) := by
  obtain ⟨k, rfl⟩ := Int.eq_ofNat_of_zero_le hb.1
  refine checkB_at (k := k) (o_bad hb _ s1 s2 s3) (by omega) (by omega) (fun j hj => lin_else (b := k) (o_span _ s1 s2 s3) ⟨rfl, rfl⟩ ⟨rfl, rfl⟩ (by omega)) ?_
  rw [lin_one, puts_r, eff_r, places_no (m := 2) (d := oRd k g (3 + 2 * (1 + g)) s3) rfl (by show (0 : Int) < 4 + 2 * (1 + g); omega) (in_self _ rfl rfl) fun st => step_read rfl rfl fun n hn hl => ?_]
  · rfl
  · have h2 : lowT [oA k g s1, oB k g s2] (oRd k g (3 + 2 * (1 + g)) s3) 2 = 2 := by
      simp [lowT, aheadB]
      omega
    have hn : 2 ≤ n := by rw [by_r, show [oA k g s1, oB k g s2].length = 2 from rfl, h2] at hn; exact hn
    obtain rfl : n = 2 := by have : n ≤ 2 := hl; omega
    rw [off_self]
    exact (show ¬ wtext 50 = wtext 49 by decide)
theorem o_early (hb : 0 ≤ b ∧ b ≤ 255) (hg : 0 ≤ g ∧ g ≤ 99) (s1 s2 s3 c : Nat) : checkB 256 [oA b g s1, oB b g s2, oRd b g 2 s3] [oL c (oR 1 (oA b g s1)) (oR 2 (oB b g s2))] = (0, true) := by
  refine checkB_yes (o_bad hb 2 s1 s2 s3) fun k _ => ?_
  by_cases hk : (k : Int) = b
  · rw [hk, lin_one, puts_r, eff_r]
    refine places_yes (fun _ => 1) (asked_r hg s1 s2 [_]) (fun i d hi _ _ h23 => ?_) (fun i d hi _ _ h1 => ?_)
    · match i, hi with
      | 0, hi => cases hi; exact cnt_a s1
      | 1, hi => cases hi; exact cnt_b s2
      | 2, hi => cases hi; simp at h23
    · match i, hi with
      | 0, hi => cases hi; simp at h1
      | 1, hi => cases hi; simp at h1
      | 2, hi =>
        cases hi
        rw [off_self, by_r]
        refine ⟨Nat.one_pos, (show 1 ≤ 2 by decide), rfl, fun j x hj ha => ?_, fun _ _ _ _ => Nat.le_refl _, fun j x hj hx => ?_⟩
        · match j, hj with
          | 0, _ => exact Nat.le_refl _
          | 1, hj => cases hj; simp [aheadB] at ha; omega
        · match j, hx with
          | 0, hx => cases hx; show (1 : Int) ≤ 4 + 2 * (1 + g); omega
          | 1, _ => omega
  · exact lin_else (o_span 2 s1 s2 s3) ⟨rfl, rfl⟩ ⟨rfl, rfl⟩ hk
end
set_option maxRecDepth 100000 in
set_option maxHeartbeats 1000000 in
theorem orders_walk (x y : Int) (hx : 0 ≤ x ∧ x ≤ 18446744073709551615) (hy : 0 ≤ y ∧ y ≤ 18446744073709551615) (w : World) : Calls Try.prog 8 #[.int .u64 x, .int .u64 y] w (BoolOut true w) := by
  have hg : 0 ≤ x % 100 ∧ x % 100 ≤ 99 := by omega
  have hb : 0 ≤ y % 256 ∧ y % 256 ≤ 255 := by omega
  go_enter Try.func8, Try.ntmps8
  go_wp2_with fail
  generalize x % 100 = g at *
  generalize y % 256 = b at *
  refine (awrite_calls 1 49 (.inl ⟨rfl, rfl⟩) b 1 (1 + (1 + g)) ⟨hb.1, by omega⟩ w).mono ?_
  rintro e w1 ⟨s1, hs1, hl1, rfl, T1, k1⟩
  simp only [valDeed, Tx.v, Tx.nil]
  have HN := Lib.hid (BxD.new2 w1 (oD 1 1 b 1 (1 + (1 + g)) s1 49))
  have HS1 := Lib.hid (And.intro hs1 hl1)
  have HT1 := Lib.hid T1
  clear hs1 hl1 T1
  go_wp2_with fail
  obtain ⟨V1, eV, hB7, kV⟩ := HN.out
  rw [eV]
  have HB7 := Lib.hid hB7
  have HZ7 : Hid (w1.heap.size < V1.heap.size) := Lib.hid hB7.lt
  have k1 := k1.trans kV
  have HT1 := Lib.hid (HT1.out.non kV)
  clear eV HN kV hB7
  generalize w1.heap.size = b7 at *
  refine (awrite_calls 2 50 (.inr ⟨rfl, rfl⟩) b (2 + (1 + g)) (2 + 2 * (1 + g)) ⟨hb.1, by omega⟩ V1).mono ?_
  rintro e w2 ⟨s2, hs2, hl2, rfl, T2, k2⟩
  simp only [valDeed, Tx.v, Tx.nil]
  have HN := Lib.hid (BxD.new2 w2 (oD 2 1 b (2 + (1 + g)) (2 + 2 * (1 + g)) s2 50))
  have HS2 := Lib.hid (And.intro hs2 hl2)
  have HB7 := Lib.hid (Bx.non HB7.out k2)
  have HT1 := Lib.hid (HT1.out.non k2)
  have HT2 := Lib.hid T2
  have k2 := k1.trans k2
  clear hs2 hl2 T2 k1
  have HV : Hid (b7 < w2.heap.size) := Lib.hid HB7.out.lt
  obtain ⟨V2, eV, hB8, kV⟩ := HN.out
  have HE := Lib.hid eV
  have HB7 := Lib.hid (Bx.non HB7.out kV)
  have HT1 := Lib.hid (HT1.out.non kV)
  have HT2 := Lib.hid (HT2.out.non kV)
  obtain ⟨n0, n1, n2, n3, n4, n5, n6, n7, n8⟩ := BxD.cells HB7.out
  clear eV HN
  go_upto_region 5 with (fail)
  rw [HE.out]
  have k2 := k2.trans kV
  clear HE kV
  generalize w2.heap.size = b8 at *
  have HB7 := Lib.hid fun W (r : Kp Non V2 W) => Bx.non HB7.out r
  have HB8 := Lib.hid fun W (r : Kp Non V2 W) => Bx.non hB8 r
  have HT1 := Lib.hid fun W (r : Kp Non V2 W) => HT1.out.non r
  have HT2 := Lib.hid fun W (r : Kp Non V2 W) => HT2.out.non r
  have HK2 := Lib.hid k2
  clear hB8 k2
  generalize hd1 : oD 1 1 b 1 (1 + (1 + g)) s1 49 = d1 at *
  generalize hd2 : oD 2 1 b (2 + (1 + g)) (2 + 2 * (1 + g)) s2 50 = d2 at *
  have HR1 := Lib.hid fun W => aran_calls 1 d1 W
  have HR2 := Lib.hid fun W => aran_calls 2 d2 W
  rw [← hd1] at HR1 n0 n1 n2 n3 n4 n5 n6 n7 n8
  rw [← hd2] at HR2
  simp only [valDeed, valRan, Tx.v, Tx.nil] at HR1 HR2
  go_wp2_with fail
  refine (HR1.out V2).mono ?_
  rintro e w3 ⟨rfl, k3⟩
  have HN := Lib.hid (BxR.new2 w3 (oR 1 d1))
  rw [← hd1] at HN
  obtain ⟨V3, eV, hB9, kV⟩ := HN.out
  have HE := Lib.hid eV
  have k3 := k3.trans kV
  obtain ⟨n0, n1, n2, n3, n4, n5, n6, n7, n8⟩ := BxD.cells (HB8.out _ k3)
  rw [← hd2] at n0 n1 n2 n3 n4 n5 n6 n7 n8
  clear eV HN kV
  go_upto_region 6 with (fail)
  rw [HE.out]
  clear HE
  have HZ9 : Hid (w3.heap.size < V3.heap.size) := Lib.hid hB9.lt
  generalize w3.heap.size = b9 at *
  go_wp2_with fail
  refine (HR2.out V3).mono ?_
  rintro e w4 ⟨rfl, k4⟩
  have HN := Lib.hid (BxR.new2 w4 (oR 2 d2))
  rw [← hd2] at HN
  obtain ⟨V4, eV, hB10, kV⟩ := HN.out
  have HE := Lib.hid eV
  have hB9 := Bx.non hB9 (k4.trans kV)
  have k4 := k3.trans (k4.trans kV)
  obtain ⟨m0, m1, m2, m3, m4, m5, m6, m7, m8, m9⟩ := BxR.cells hB9
  obtain ⟨q0, q1, q2, q3, q4, q5, q6, q7, q8, q9⟩ := BxR.cells hB10
  obtain ⟨n0, n1, n2, n3, n4, n5, n6, n7, n8⟩ := BxD.cells (HB7.out _ k4)
  obtain ⟨u0, u1, u2, u3, u4, u5, u6, u7, u8⟩ := BxD.cells (HB8.out _ k4)
  rw [← hd1] at n0 n1 n2 n3 n4 n5 n6 n7 n8
  rw [← hd2] at u0 u1 u2 u3 u4 u5 u6 u7 u8
  clear eV HN kV
  go_upto_region 7 with (fail)
  rw [HE.out]
  clear HE
  have HZ10 : Hid (w4.heap.size < V4.heap.size) := Lib.hid hB10.lt
  generalize w4.heap.size = b10 at *
  have z10 : b10 < V4.heap.size := HZ10.out
  have z9 : b9 < V4.heap.size := hB9.lt
  have z8 : b8 < V4.heap.size := (HB8.out _ k4).lt
  have z7 : b7 < V4.heap.size := (HB7.out _ k4).lt
  go_upto_region 10 with (fail)
  refine wp_chain6 fun V5 f0 f1 f2 f3 f4 f5 hz5 k45 => ?_
  obtain ⟨c, hc⟩ : ∃ c, V4.heap.size = c := ⟨_, rfl⟩
  rw [hc] at f0 f1 f2 f3 f4 f5 hz5 z7 z8 ⊢
  have HW : Hid (w.heap.size ≤ c) := Lib.hid (by have := HK2.out.size; have := (k4).size; omega)
  have HZ : Hid (b7 < c ∧ b8 < c ∧ s1 < c ∧ s2 < c ∧ V5.heap.size = c + 1 + 1 + 1 + 1 + 1 + 1) := Lib.hid (by have := HS1.out; have := HS2.out; omega)
  have k25 := k4.trans k45
  clear HS1 HS2 HZ7 HV HZ9 HZ10 z10 z9 z8 z7 hc k4 k45 hB9 hB10 m0 m1 m2 m3 m4 m5 m6 m7 m8 m9 q0 q1 q2 q3 q4 q5 q6 q7 q8 q9 n0 n1 n2 n3 n4 n5 n6 n7 n8 u0 u1 u2 u3 u4 u5 u6 u7 u8 HR1 HR2 hz5
  have hda1 : d1.da = ⟨some ⟨s1, 0, none⟩, 1, 1, [wtext 49]⟩ := by rw [← hd1]
  have hda2 : d2.da = ⟨some ⟨s2, 0, none⟩, 1, 1, [wtext 50]⟩ := by rw [← hd2]
  have hre1 : d1.re = ⟨none, 0, 0, []⟩ := by rw [← hd1]
  have hre2 : d2.re = ⟨none, 0, 0, []⟩ := by rw [← hd2]
  have th1 : ∀ W, Kp Non V2 W → (oR 1 d1).there W := fun W r => ⟨by show d1.da.there W; rw [hda1]; exact HT1.out W r, Tx.nil_there W⟩
  have th2 : ∀ W, Kp Non V2 W → (oR 2 d2).there W := fun W r => ⟨by show d2.da.there W; rw [hda2]; exact HT2.out W r, Tx.nil_there W⟩
  have de1 : ∀ W, Kp Non V2 W → d1.there W := fun W r => ⟨by rw [hda1]; exact HT1.out W r, by rw [hre1]; exact Tx.nil_there W⟩
  have de2 : ∀ W, Kp Non V2 W → d2.there W := fun W r => ⟨by rw [hda2]; exact HT2.out W r, by rw [hre2]; exact Tx.nil_there W⟩
  have HLr : Hid (Lives V5 (some ⟨c + 1, 0, none⟩) 1 1 [oL c (oR 1 d1) (oR 2 d2)]) := Lib.hid ⟨Reads.blk encLife_len (by omega) [_] f1 rfl (show 1 ≤ maxLen by decide), fun x hx => by
    obtain rfl := List.mem_singleton.1 hx
    exact ⟨Reads.blk encRan_len (by omega) [oR 1 d1, oR 2 d2] f0 (by rw [← hd1, ← hd2]; rfl) (show 2 ≤ maxLen by decide), fun x hx => by
      rcases List.mem_cons.1 hx with rfl | hx
      · exact th1 _ k25
      · obtain rfl := List.mem_singleton.1 hx
        exact th2 _ k25⟩⟩
  have HLw : Hid (Lives V5 (some ⟨c + 1 + 1 + 1, 0, none⟩) 1 1 [oL (c + 1 + 1) (oR 2 d2) (oR 1 d1)]) := Lib.hid ⟨Reads.blk encLife_len (by omega) [_] f3 rfl (show 1 ≤ maxLen by decide), fun x hx => by
    obtain rfl := List.mem_singleton.1 hx
    exact ⟨Reads.blk encRan_len (by omega) [oR 2 d2, oR 1 d1] f2 (by rw [← hd1, ← hd2]; rfl) (show 2 ≤ maxLen by decide), fun x hx => by
      rcases List.mem_cons.1 hx with rfl | hx
      · exact th2 _ k25
      · obtain rfl := List.mem_singleton.1 hx
        exact th1 _ k25⟩⟩
  have HT3 : Hid (Texts V5 (some ⟨c + 1 + 1 + 1 + 1, 0, none⟩) 1 1 [wtext 49]) := Lib.hid (Reads.blk encT_len (by omega) [_] f4 rfl (show 1 ≤ maxLen by decide))
  have HB13 : Hid (BxD V5 (c + 1 + 1 + 1 + 1 + 1) (oRd b g (3 + 2 * (1 + g)) (c + 1 + 1 + 1 + 1))) := Lib.hid f5
  have HP1 : Hid (∀ c, checkB 256 [d1, d2] [oL c (oR 1 d1) (oR 2 d2)] = (0, true)) := Lib.hid (by rw [← hd1, ← hd2]; exact fun c => o_right hb hg s1 s2 c)
  have HP2 : Hid (∀ c, checkB 256 [d1, d2] [oL c (oR 2 d2) (oR 1 d1)] = (b, false)) := Lib.hid (by rw [← hd1, ← hd2]; exact fun c => o_wrong hb hg s1 s2 c)
  have HP3 : Hid (∀ c s, checkB 256 [d1, d2, oRd b g (3 + 2 * (1 + g)) s] [oL c (oR 1 d1) (oR 2 d2)] = (b, false)) := Lib.hid (by rw [← hd1, ← hd2]; exact fun c s => o_old hb hg s1 s2 s c)
  have HP4 : Hid (∀ c s, checkB 256 [d1, d2, oRd b g 2 s] [oL c (oR 1 d1) (oR 2 d2)] = (0, true)) := Lib.hid (by rw [← hd1, ← hd2]; exact fun c s => o_early hb hg s1 s2 s c)
  have HA : Hid (d1.da.a = some ⟨s1, 0, none⟩ ∧ d2.da.a = some ⟨s2, 0, none⟩ ∧ d1.re.a = none ∧ d2.re.a = none) := Lib.hid ⟨by rw [hda1], by rw [hda2], by rw [hre1], by rw [hre2]⟩
  clear hd1 hd2
  have HDe := Lib.hid (And.intro de1 de2)
  have HK25 := Lib.hid k25
  clear f0 f1 f2 f3 f4 f5 hda1 hda2 hre1 hre2 th1 th2 de1 de2
  obtain ⟨n0, n1, n2, n3, n4, n5, n6, n7, n8⟩ := BxD.cells (HB7.out _ k25)
  obtain ⟨u0, u1, u2, u3, u4, u5, u6, u7, u8⟩ := BxD.cells (HB8.out _ k25)
  have z1 : b7 < V5.heap.size := by have := HZ.out; omega
  have z2 : b8 < V5.heap.size := by have := HZ.out; omega
  go_wp2_with fail
  refine calls_chain1 fun V6 f0 hz6 k56 => ?_
  have HC := Lib.hid (check_calls 256 (some ⟨V5.heap.size, 0, none⟩) 2 [d1, d2] (some ⟨c + 1, 0, none⟩) 1 [oL c (oR 1 d1) (oR 2 d2)] V6 ⟨Reads.blk encDeed_len (by omega) [d1, d2] f0 rfl (show 2 ≤ maxLen by decide), fun x hx => by
    rcases List.mem_cons.1 hx with rfl | hx
    · exact HDe.out.1 _ (k25.trans k56)
    · obtain rfl := List.mem_singleton.1 hx
      exact HDe.out.2 _ (k25.trans k56)⟩ (HLr.out.non k56) (show 2 ≤ 20 by decide) (show 1 ≤ 12 by decide) (fun y hy => by obtain rfl := List.mem_singleton.1 hy; exact (show 2 ≤ 1000 by decide)))
  rw [HP1.out] at HC
  have HK := Lib.hid k56
  clear k56 hz6 f0 n0 n1 n2 n3 n4 n5 n6 n7 n8 u0 u1 u2 u3 u4 u5 u6 u7 u8 z1 z2
  refine HC.out.mono ?_
  rintro e w6 ⟨rfl, k6⟩
  have k56 := HK.out.trans k6
  have k26 := k25.trans k56
  clear HC HK k6
  obtain ⟨n0, n1, n2, n3, n4, n5, n6, n7, n8⟩ := BxD.cells (HB7.out _ k26)
  obtain ⟨u0, u1, u2, u3, u4, u5, u6, u7, u8⟩ := BxD.cells (HB8.out _ k26)
  have z1 : b7 < w6.heap.size := (HB7.out _ k26).lt
  have z2 : b8 < w6.heap.size := (HB8.out _ k26).lt
  go_wp2_with fail
  refine calls_chain1 fun V7 f0 hz7 k67 => ?_
  have HC := Lib.hid (check_calls 256 (some ⟨w6.heap.size, 0, none⟩) 2 [d1, d2] (some ⟨c + 1 + 1 + 1, 0, none⟩) 1 [oL (c + 1 + 1) (oR 2 d2) (oR 1 d1)] V7 ⟨Reads.blk encDeed_len (by omega) [d1, d2] f0 rfl (show 2 ≤ maxLen by decide), fun x hx => by
    rcases List.mem_cons.1 hx with rfl | hx
    · exact HDe.out.1 _ (k26.trans k67)
    · obtain rfl := List.mem_singleton.1 hx
      exact HDe.out.2 _ (k26.trans k67)⟩ (HLw.out.non (k56.trans k67)) (show 2 ≤ 20 by decide) (show 1 ≤ 12 by decide) (fun y hy => by obtain rfl := List.mem_singleton.1 hy; exact (show 2 ≤ 1000 by decide)))
  rw [HP2.out] at HC
  have HK := Lib.hid (k56.trans k67)
  clear k26 k56 k67 hz7 f0 n0 n1 n2 n3 n4 n5 n6 n7 n8 u0 u1 u2 u3 u4 u5 u6 u7 u8 z1 z2
  refine HC.out.mono ?_
  rintro e w7 ⟨rfl, k7⟩
  have k57 := HK.out.trans k7
  have k27 := k25.trans k57
  clear HC HK k7
  obtain ⟨n0, n1, n2, n3, n4, n5, n6, n7, n8⟩ := BxD.cells (HB7.out _ k27)
  obtain ⟨u0, u1, u2, u3, u4, u5, u6, u7, u8⟩ := BxD.cells (HB8.out _ k27)
  obtain ⟨q0, q1, q2, q3, q4, q5, q6, q7, q8⟩ := BxD.cells (Bx.non HB13.out k57)
  have z1 : b7 < w7.heap.size := (HB7.out _ k27).lt
  have z2 : b8 < w7.heap.size := (HB8.out _ k27).lt
  have z3 : c + 1 + 1 + 1 + 1 + 1 < w7.heap.size := (Bx.non HB13.out k57).lt
  go_wp2_with fail
  refine calls_chain1 fun V8 f0 hz8 k78 => ?_
  have HC := Lib.hid (check_calls 256 (some ⟨w7.heap.size, 0, none⟩) 3 [d1, d2, oRd b g (3 + 2 * (1 + g)) (c + 1 + 1 + 1 + 1)] (some ⟨c + 1, 0, none⟩) 1 [oL c (oR 1 d1) (oR 2 d2)] V8 ⟨Reads.blk encDeed_len (by omega) [d1, d2, oRd b g (3 + 2 * (1 + g)) (c + 1 + 1 + 1 + 1)] f0 rfl (show 3 ≤ maxLen by decide), fun x hx => by
    rcases List.mem_cons.1 hx with rfl | hx
    · exact HDe.out.1 _ (k27.trans k78)
    · rcases List.mem_cons.1 hx with rfl | hx
      · exact HDe.out.2 _ (k27.trans k78)
      · obtain rfl := List.mem_singleton.1 hx
        exact ⟨Tx.nil_there _, HT3.out.non (k57.trans k78)⟩⟩ (HLr.out.non (k57.trans k78)) (show 3 ≤ 20 by decide) (show 1 ≤ 12 by decide) (fun y hy => by obtain rfl := List.mem_singleton.1 hy; exact (show 2 ≤ 1000 by decide)))
  rw [HP3.out] at HC
  have HK := Lib.hid (k57.trans k78)
  clear k27 k57 k78 hz8 f0 n0 n1 n2 n3 n4 n5 n6 n7 n8 u0 u1 u2 u3 u4 u5 u6 u7 u8 q0 q1 q2 q3 q4 q5 q6 q7 q8 z1 z2 z3
  refine HC.out.mono ?_
  rintro e w8 ⟨rfl, k8⟩
  have k58 := HK.out.trans k8
  have k28 := k25.trans k58
  clear HC HK k8
  have hb13 := Bx.non HB13.out k58
  obtain ⟨q0, q1, q2, q3, q4, q5, q6, q7, q8⟩ := BxD.cells hb13
  have hfz := Bx.f hb13 6
  have hst := hb13.set 6 (.int .i64 2)
  go_upto_region 14 with (fail)
  obtain ⟨W9, hW9⟩ : ∃ W, w8.setCell ⟨c + 1 + 1 + 1 + 1 + 1, 6, none⟩ (.int .i64 2) = W := ⟨_, rfl⟩
  rw [hW9] at hst ⊢
  obtain ⟨hb9, k89⟩ := hst
  have hz9 : W9.heap.size = w8.heap.size := by rw [← hW9]; exact World.size_setCell _ _ _
  have hB : BxD W9 (c + 1 + 1 + 1 + 1 + 1) (oRd b g 2 (c + 1 + 1 + 1 + 1)) := hb9
  have h7 := Bx.kp (HB7.out _ k28) k89 (by show _ ≠ _; have := HZ.out; omega)
  have h8 := Bx.kp (HB8.out _ k28) k89 (by show _ ≠ _; have := HZ.out; omega)
  have HL9 : Hid (Lives W9 (some ⟨c + 1, 0, none⟩) 1 1 [oL c (oR 1 d1) (oR 2 d2)]) := Lib.hid ((HLr.out.non k58).far k89 (not_one (by omega)) fun y hy => by
    obtain rfl := List.mem_singleton.1 hy
    refine ⟨not_one (by omega), fun x hx => ?_⟩
    rcases List.mem_cons.1 hx with rfl | hx
    · exact ⟨by show ∀ i, Blk d1.da.a i → _; rw [HA.out.1]; exact not_one (by have := HZ.out; omega), fun i hi => by obtain ⟨ad, e, _⟩ := hi; cases e⟩
    · obtain rfl := List.mem_singleton.1 hx
      exact ⟨by show ∀ i, Blk d2.da.a i → _; rw [HA.out.2.1]; exact not_one (by have := HZ.out; omega), fun i hi => by obtain ⟨ad, e, _⟩ := hi; cases e⟩)
  have HD1 : Hid (d1.there W9 ∧ d2.there W9) := Lib.hid ⟨⟨Reads.kp (HDe.out.1 _ k28).1 k89 (by rw [HA.out.1]; exact not_one (by have := HZ.out; omega)), Reads.kp (HDe.out.1 _ k28).2 k89 (by rw [HA.out.2.2.1]; exact fun i hi => by obtain ⟨ad, e, _⟩ := hi; cases e)⟩,
    ⟨Reads.kp (HDe.out.2 _ k28).1 k89 (by rw [HA.out.2.1]; exact not_one (by have := HZ.out; omega)), Reads.kp (HDe.out.2 _ k28).2 k89 (by rw [HA.out.2.2.2]; exact fun i hi => by obtain ⟨ad, e, _⟩ := hi; cases e)⟩⟩
  have HT9 : Hid (Texts W9 (some ⟨c + 1 + 1 + 1 + 1, 0, none⟩) 1 1 [wtext 49]) := Lib.hid ((HT3.out.non k58).kp k89 (not_one (by omega)))
  have HK29 : Hid (Kp Non w W9) := Lib.hid ((HK2.out.trans k28).newer k89 fun i hi => by have : i = _ := hi; have := HZ.out; have := HW.out; omega)
  clear HW k89 hb9 hW9 HDe HT3 HB13 HLr HLw HB7 HB8 HT1 HT2 k58 k28 HK25 k25 hfz hb13 q0 q1 q2 q3 q4 q5 q6 q7 q8
  obtain ⟨n0, n1, n2, n3, n4, n5, n6, n7, n8⟩ := BxD.cells h7
  obtain ⟨u0, u1, u2, u3, u4, u5, u6, u7, u8⟩ := BxD.cells h8
  obtain ⟨q0, q1, q2, q3, q4, q5, q6, q7, q8⟩ := BxD.cells hB
  have z1 : b7 < W9.heap.size := h7.lt
  have z2 : b8 < W9.heap.size := h8.lt
  have z3 : c + 1 + 1 + 1 + 1 + 1 < W9.heap.size := hB.lt
  clear hz9 h7 h8 hB
  go_wp2_with fail
  refine calls_chain1 fun V10 f0 hz10 k910 => ?_
  have HC := Lib.hid (check_calls 256 (some ⟨W9.heap.size, 0, none⟩) 3 [d1, d2, oRd b g 2 (c + 1 + 1 + 1 + 1)] (some ⟨c + 1, 0, none⟩) 1 [oL c (oR 1 d1) (oR 2 d2)] V10 ⟨Reads.blk encDeed_len (by omega) [d1, d2, oRd b g 2 (c + 1 + 1 + 1 + 1)] f0 rfl (show 3 ≤ maxLen by decide), fun x hx => by
    rcases List.mem_cons.1 hx with rfl | hx
    · exact HD1.out.1.non k910
    · rcases List.mem_cons.1 hx with rfl | hx
      · exact HD1.out.2.non k910
      · obtain rfl := List.mem_singleton.1 hx
        exact ⟨Tx.nil_there _, HT9.out.non k910⟩⟩ (HL9.out.non k910) (show 3 ≤ 20 by decide) (show 1 ≤ 12 by decide) (fun y hy => by obtain rfl := List.mem_singleton.1 hy; exact (show 2 ≤ 1000 by decide)))
  rw [HP4.out] at HC
  have HK := Lib.hid (HK29.out.trans k910)
  clear k910 hz10 f0 n0 n1 n2 n3 n4 n5 n6 n7 n8 u0 u1 u2 u3 u4 u5 u6 u7 u8 q0 q1 q2 q3 q4 q5 q6 q7 q8 z1 z2 z3
  refine HC.out.mono ?_
  rintro e w10 ⟨rfl, k10⟩
  have k10 := HK.out.trans k10
  clear HC HK
  have hbb : (b == b) = true := by simp
  go_wp2_with fail
  refine (alives_calls w10).mono ?_
  rintro e w11 ⟨rfl, k11⟩
  go_wp2_with fail
  go_ret
  exact ⟨rfl, k10.trans k11⟩
open Go.ChangeShapes Go.WideShapes Go.ChangeAt
set_option maxRecDepth 100000 in
theorem audit_orders_lifted (os : Os) (started : os.Started) (H : Type) (enc : TypeId × Value → H) :
    ReturnsInHanded {} Try.checked os 8 .any (Rows.auditOrdersSpec.pre6 enc Try.prog Try.f8 Rows.auditOrdersRow.domain false) (Rows.auditOrdersSpec.post enc Try.prog Try.f8 false true false false) := by
  refine returnsInHanded_of_change_sized (C := Try.checked) own started (by kernel_rfl) Try.func8
    (ChangeSpec.witness6 (enc := enc) (C := Try.checked) false ⟨#[], #[.int .u64 0, .int .u64 0], []⟩ 8 (by kernel_rfl) (by kernel_rfl) (by kernel_rfl) (by kernel_rfl)) ?_
  intro W base args ds gs before hval0 hW hcnd _ _
  have hval : ∀ (j : Nat) t v, Try.f8.params[j]? = some t → args[j]? = some v → Value.okWide Try.prog W .any base t v := hval0
  have hW' := hW
  obtain ⟨p, q, hA0, hV, rfl, hfz, hnd⟩ := hW
  have hA : DataW.TrodAll enc Try.prog W 0 (fun _ => true) true Try.f8.params.toList args.toList ds p := hA0
  rw [Try.params8] at hA hval
  obtain ⟨v0, vs0, d0, ds0, p0, q0, hargs, rfl, rfl, h0, r0⟩ := trodAll_cons hA
  obtain ⟨v1, vs1, d1, ds1, p1, q1, rfl, rfl, rfl, h1, r1⟩ := trodAll_cons r0
  obtain ⟨rfl, rfl, rfl⟩ := trodAll_nil r1
  obtain rfl : args = #[v0, v1] := by cases args; simp_all
  obtain ⟨rfl, rfl⟩ := trodVars_none hV
  have lt0 : ∀ x ∈ p0, x.block < W.heap.size := by obtain ⟨m, hm⟩ := h0; exact DataW.trod_lt m _ _ _ hm
  have k0 := h0
  obtain ⟨a0, rfl, _, _, w0⟩ := open_int Try.underlying51 (hval 0 51 v0 rfl rfl) h0
  simp only [Lit.wf, Bool.and_eq_true, decide_eq_true_eq] at w0
  have lt1 : ∀ x ∈ p1, x.block < W.heap.size := by obtain ⟨m, hm⟩ := h1; exact DataW.trod_lt m _ _ _ hm
  have k1 := h1
  obtain ⟨a1, rfl, _, _, w1⟩ := open_int Try.underlying51 (hval 1 51 v1 rfl rfl) h1
  simp only [Lit.wf, Bool.and_eq_true, decide_eq_true_eq] at w1
  clear hA0 hval0
  refine (orders_walk a0 a1 w0 w1 W).mono fun e W' ⟨he, hk⟩ => ?_
  have bel := hk.below
  subst he
  exact ⟨_, rfl, _, _, _, [], _, [], hW', trodAll_mk1 (shut_bool Try.underlying4 _), (trodAll_cons_mk (Below.trod laidOut (by kernel_rfl) (of_decide_eq_true (by kernel_rfl)) k0 bel lt0)
    (trodAll_cons_mk (Below.trod laidOut (by kernel_rfl) (of_decide_eq_true (by kernel_rfl)) k1 bel lt1)
    trodAll_mk0)), rfl, bel.frame _, fun h => by cases h⟩

theorem audit_orders : Rows.AuditOrdersSaid :=
  OpenClaim.holds_of_wide 8 Try.f8 rfl rfl rfl rfl rfl rfl rfl ⟨rfl, rfl, rfl, rfl, rfl⟩ rfl rfl rfl rfl rfl (by kernel_rfl) Try.func8 (by kernel_rfl)
    (of_decide_eq_true (by kernel_rfl)) (by unfold Func.isWrapper; first | (rw [if_pos (by decide +kernel)]; kernel_rfl) | (rw [if_neg (by decide +kernel)]; exact ⟨rfl, rfl⟩))
    (fun os started H enc _ => audit_orders_lifted os started H enc)
#print axioms audit_orders
end Go.Proofs.Ytpehfnobgdjgcaa
