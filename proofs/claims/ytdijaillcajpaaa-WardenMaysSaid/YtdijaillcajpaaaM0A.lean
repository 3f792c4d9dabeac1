/-
  A Map in memory, and (*Map).Drop. (Printed by gen_map.py.)
-/
import Derived.Test.YtdijaillcajpaaaC2
namespace Go.Proofs.Ytdijaillcajpaaa
open Go.RowKit

/-- The other cells of the block. -/
structure MapU where
  u0 : Value
  u1 : Value
  u2 : Value
  u3 : Value
  u6 : Value
variable {U : MapU}
/-- At the cells 4 and 5 of the block m lies a Map that holds the pieces M. -/
structure MapA (U : MapU) (w : World) (m : Nat) (M : List (Sp × Int)) (al : Option Addr) (cl : Nat) (av : Option Addr) (cv : Nat) : Prop where
  box : w.heap[m]? = some (.cells #[U.u0, U.u1, U.u2, U.u3, .slice al M.length cl, .slice av M.length cv, U.u6] 91 (0, 0))
  spans : OwnS w 0 al M.length cl (M.map (·.1))
  vals : OwnI w 0 av M.length cv (M.map (·.2))
/-- The blocks that a Map's calls may change. -/
def MSA (m : Nat) (al av : Option Addr) (i : Nat) : Prop := i = m ∨ Blk al i ∨ Blk av i
section
variable {w w' : World} {m : Nat} {M : List (Sp × Int)} {al : Option Addr} {cl : Nat} {av : Option Addr} {cv : Nat}
theorem MapA.c0 (h : MapA U w m M al cl av cv) : w.cell? ⟨m, 4, none⟩ = some (.slice al M.length cl) := (cell_of_row w m 4 _ _ _ h.box).trans rfl
theorem MapA.c1 (h : MapA U w m M al cl av cv) : w.cell? ⟨m, 5, none⟩ = some (.slice av M.length cv) := (cell_of_row w m 5 _ _ _ h.box).trans rfl
theorem MapA.fz (h : MapA U w m M al cl av cv) (i : Nat) : w.frozen? ⟨m, i, none⟩ = false := by
  have := h.box
  simp [World.frozen?, this]
theorem MapA.lt (h : MapA U w m M al cl av cv) : m < w.heap.size := heap_lt h.box
theorem MapA.ml (h : MapA U w m M al cl av cv) : ∀ i, Blk al i → i ≠ m := fun i hi e => by
  obtain ⟨cs, hc⟩ := h.spans.tag i hi
  rw [e, h.box] at hc
  simp at hc
theorem MapA.mv (h : MapA U w m M al cl av cv) : ∀ i, Blk av i → i ≠ m := fun i hi e => by
  obtain ⟨cs, hc⟩ := h.vals.tag i hi
  rw [e, h.box] at hc
  simp at hc
theorem MapA.lv (h : MapA U w m M al cl av cv) : ∀ i, Blk al i → ¬ Blk av i := fun i hi hj => by
  obtain ⟨cs, hc⟩ := h.spans.tag i hi
  obtain ⟨cs', hc'⟩ := h.vals.tag i hj
  rw [hc'] at hc
  simp at hc
theorem MapA.old (h : MapA U w m M al cl av cv) : ∀ i, MSA m al av i → i < w.heap.size := by
  rintro i (rfl | hi | hi)
  · exact h.lt
  · exact (h.spans.blk i hi).2
  · exact (h.vals.blk i hi).2
theorem MapA.kp {S : Nat → Prop} (h : MapA U w m M al cl av cv) (k : Kp S w w') (hn : ∀ i, MSA m al av i → ¬ S i) : MapA U w' m M al cl av cv :=
  ⟨k.heap h.box (hn m (.inl rfl)), h.spans.kp k (fun i hi => hn i (.inr (.inl hi))), h.vals.kp k (fun i hi => hn i (.inr (.inr hi)))⟩
theorem MapA.non (h : MapA U w m M al cl av cv) (k : Kp Non w w') : MapA U w' m M al cl av cv := h.kp k fun _ _ f => f
end
/-- What a call that writes leaves. -/
def MapOutA (U : MapU) (m : Nat) (M : List (Sp × Int)) (al av : Option Addr) (w : World) (e : Ending) (w' : World) : Prop :=
  e = .returned (.tuple #[]) ∧ ∃ al' cl' av' cv', MapA U w' m M al' cl' av' cv' ∧ Kp (MSA m al av) w w' ∧ ∀ i, MSA m al' av' i → MSA m al av i ∨ w.heap.size ≤ i
/-- Nothing comes out, and no old block differs. -/
def NilA (w : World) (e : Ending) (w' : World) : Prop := e = .returned (.tuple #[]) ∧ Kp Non w w'

theorem sub_lenA (x s : Sp) : (sub x s).length ≤ 2 := by
  have h := cut_len (norm [x]) (norm [s])
  have h1 := norm_len [x]
  have h2 := norm_len [s]
  simp at h1 h2
  have h3 : (norm [x]).length * ((norm [s]).length + 1) ≤ 1 * 2 := Nat.mul_le_mul h1 (by omega)
  unfold sub cutN
  omega
theorem drp_lenA (M : List (Sp × Int)) (s : Sp) : (drp M s).length ≤ 2 * M.length := by
  induction M with
  | nil => simp [drp]
  | cons p M ih =>
    have := sub_lenA p.1 s
    show (((sub p.1 s).map fun y => (y, p.2)) ++ drp M s).length ≤ _
    simp only [List.length_append, List.length_map, List.length_cons]
    omega

set_option maxRecDepth 100000 in
theorem dropA_nil (s : Sp) (w : World) : Calls Try.prog 47 #[.pointer none, valS s] w (NilA w) := by
  go_enter Try.func47, Try.ntmps47
  go_wp2_with fail
  go_end0
  exact ⟨rfl, (Kp.refl _ _).alloc _⟩

set_option maxRecDepth 100000 in
theorem dropA_none (m : Nat) (s : Sp) (hs : s.2 ≤ s.1) (w : World) : Calls Try.prog 47 #[.pointer (some ⟨m, 4, none⟩), valS s] w (NilA w) := by
  have HE := Lib.hid (fun W => empty_calls s W)
  rw [full_no hs] at HE
  go_enter Try.func47, Try.ntmps47
  go_wp2_with fail
  refine (HE.out _).mono ?_
  rintro e w1 ⟨rfl, hk1⟩
  go_wp2_with fail
  go_end0
  exact ⟨rfl, ((Kp.refl _ _).alloc _).trans hk1⟩

/-- What the region of two appends reads. -/
structure DropCA (bx m : Nat) (y : Sp) (bv ov n cv k : Nat) (v : Int) (W : World) : Prop where
  g1 : W.cell? ⟨bx, 0, none⟩ = some (.int .i64 y.1)
  g2 : W.cell? ⟨bx, 1, none⟩ = some (.int .i64 y.2)
  g3 : W.cell? ⟨m, 5, none⟩ = some (.slice (some ⟨bv, ov, none⟩) n cv)
  g4 : W.cell? ⟨bv, ov + k, none⟩ = some (.int .i64 v)
theorem DropCA.kp {bx m : Nat} {y : Sp} {bv ov n cv k : Nat} {v : Int} {S : Nat → Prop} {W W' : World} (h : DropCA bx m y bv ov n cv k v W) (q : Kp S W W') (h1 : ¬ S bx) (h2 : ¬ S m) (h3 : ¬ S bv) : DropCA bx m y bv ov n cv k v W' :=
  ⟨q.cell h.g1 h1, q.cell h.g2 h1, q.cell h.g3 h2, q.cell h.g4 h3⟩
theorem DropCA.non {bx m : Nat} {y : Sp} {bv ov n cv k : Nat} {v : Int} {W W' : World} (h : DropCA bx m y bv ov n cv k v W) (q : Kp Non W W') : DropCA bx m y bv ov n cv k v W' := h.kp q (fun f => f) (fun f => f) (fun f => f)

set_option maxRecDepth 100000 in
set_option maxHeartbeats 1000000 in
theorem dropA_calls (m : Nat) (M : List (Sp × Int)) (al : Option Addr) (cl : Nat) (av : Option Addr) (cv : Nat) (s : Sp) (w : World) (hM : MapA U w m M al cl av cv) (hs : s.1 < s.2) (hl : M.length ≤ 1000000) :
    Calls Try.prog 47 #[.pointer (some ⟨m, 4, none⟩), valS s] w (MapOutA U m (drp M s) al av w) := by
  obtain ⟨i0, hi0, hz0, hz1, hz2⟩ := info_parts infoS
  obtain ⟨j0, hj0, hy0, hy1, hy2⟩ := info_parts infoI
  have HE := Lib.hid (fun W => empty_calls s W)
  rw [full_yes hs] at HE
  go_enter Try.func47, Try.ntmps47
  go_wp2_with fail
  refine (HE.out _).mono ?_
  rintro e w1 ⟨rfl, hk1⟩
  have hkb : Kp Non w w1 := ((Kp.refl _ _).alloc _).trans hk1
  have hM1 := hM.non hkb
  have hbs := (BoxS.new w s).non hk1
  have m0 := hM1.c0
  clear hk1 HE
  generalize hbz : w.heap.size = bs at *
  have HBZ := Lib.hid hbz
  clear hbz
  go_wp2_with fail
  have hRS := hM1.spans.reads encS_len (by omega)
  have hRV := hM1.vals.reads encI_len (by omega)
  have hcS := hRS.cap
  have hmS := hRS.max
  have hcV := hRV.cap
  have hmV := hRV.max
  have hMl : (M.map (·.1)).length = M.length := by simp
  have hMl2 : (M.map (·.2)).length = M.length := by simp
  go_loopw [4, 5, 21] (fun v4 v5 v21 wr => ∃ (k : Nat) (L : List (Sp × Int)) (a4 : Option Addr) (c4 : Nat) (a5 : Option Addr) (c5 : Nat), k ≤ M.length ∧ v21 = .int .i64 k ∧ L = drp (M.take k) s ∧ v4 = .slice a4 L.length c4 ∧ v5 = .slice a5 L.length c5 ∧ OwnS wr w1.heap.size a4 L.length c4 (L.map (·.1)) ∧ OwnI wr w1.heap.size a5 L.length c5 (L.map (·.2)) ∧ Kp Non w1 wr) (fun _ _ v21 _ => M.length - (intOf v21).toNat)
  case atStart => exact ⟨0, [], none, 0, none, 0, by omega, rfl, rfl, rfl, rfl, OwnR.nil _ _ _, OwnR.nil _ _ _, Kp.refl _ _⟩
  case round =>
    obtain ⟨k, L, a4, c4, a5, c5, hk, rfl, hL, rfl, rfl, hO4, hO5, hkr⟩ := hrel
    have HL := Lib.hid hL
    have hLl : L.length ≤ 2 * k := by
      rw [hL]
      have := drp_lenA (M.take k) s
      rw [List.length_take, Nat.min_eq_left hk] at this
      exact this
    clear hL
    by_cases hlt : k < M.length
    · have g : (k : Int) < (M.length : Nat) := by omega
      have hMr := hM1.non hkr
      have hRSr := hRS.non hkr
      obtain ⟨bl, ol, rfl⟩ := hRS.there (by omega)
      have c0 := Spans.c0 hRSr (j := k) (by rw [hMl]; exact hlt)
      have c1 := Spans.c1 hRSr (j := k) (by rw [hMl]; exact hlt)
      simp only [List.getElem_map] at c0 c1
      have hbr := hbs.non hkr
      have b0 := hbr.c0
      have b1 := hbr.c1
      have HO4 := Lib.hid hO4
      have HO5 := Lib.hid hO5
      have HD : Hid (drp (M.take (k + 1)) s = drp (M.take k) s ++ (sub M[k].1 s).map fun y => (y, M[k].2)) := Lib.hid (by
        rw [List.take_succ_eq_append_getElem hlt]; unfold drp; rw [List.flatMap_append]; simp)
      have HV := Lib.hid (fun (W : World) (hW : Kp Non w1 W) (bv ov : Nat) (hav : av = some ⟨bv, ov, none⟩) => Ints.c ((hav ▸ hRV).non hW) (j := k) (by rw [hMl2]; exact hlt))
      simp only [List.getElem_map] at HV
      clear hO4 hO5 hMr hRSr
      generalize M[k] = pk at *
      obtain ⟨x, v⟩ := pk
      have hk2 : Kp Non wr (((wr.alloc (.cells #[.int .i64 x.1, .int .i64 x.2] 36)).alloc (.cells #[.int .i64 x.1, .int .i64 x.2] 36)).alloc (.cells #[.int .i64 s.1, .int .i64 s.2] 36)) := (((Kp.refl _ _).alloc _).alloc _).alloc _
      have hbsl := hbr.lt
      have n1 : ¬ bs = wr.heap.size := by omega
      have n2 : ¬ bs = wr.heap.size + 1 := by omega
      go_wp2_with fail
      have hs1 : Spans (((wr.alloc (.cells #[.int .i64 x.1, .int .i64 x.2] 36)).alloc (.cells #[.int .i64 x.1, .int .i64 x.2] 36)).alloc (.cells #[.int .i64 s.1, .int .i64 s.2] 36)) (some ⟨wr.heap.size + 1, 0, none⟩) 1 1 [x] :=
        Reads.non (Reads.new (by simp) rfl) ((Kp.refl _ _).alloc _)
      have hs2 : Spans (((wr.alloc (.cells #[.int .i64 x.1, .int .i64 x.2] 36)).alloc (.cells #[.int .i64 x.1, .int .i64 x.2] 36)).alloc (.cells #[.int .i64 s.1, .int .i64 s.2] 36)) (some ⟨wr.heap.size + 1 + 1, 0, none⟩) 1 1 [s] :=
        Reads.new (by simp) rfl
      refine (cut_calls _ 1 1 [x] _ 1 1 [s] _ hs1 hs2 (by omega) (by omega) (by omega)).mono ?_
      rintro e w2 ⟨aY, cY, rfl, hY, hk3⟩
      rw [show cutN [x] [s] = sub x s from rfl] at *
      have hk4 : Kp Non wr w2 := ((((Kp.refl Non wr).alloc _).alloc _).alloc _).trans hk3
      have hYR := hY.reads encS_len (by omega)
      have hYl := sub_lenA x s
      have hcY := hYR.cap
      have hmY := hYR.max
      have hkr2 := hkr.trans hk4
      have s4 : ∀ i, Blk a4 i → ¬ Blk aY i := fun i q q' => by
        have h1 := (HO4.out.blk i q).2
        have h2 := (hY.blk i q').1
        simp at h2
        omega
      have s5 : ∀ i, Blk a5 i → ¬ Blk aY i := fun i q q' => by
        have h1 := (HO5.out.blk i q).2
        have h2 := (hY.blk i q').1
        simp at h2
        omega
      have HP4 := Lib.hid (HO4.out.non hk4)
      have HP5 := Lib.hid (HO5.out.non hk4)
      clear hk3 hY c0 c1 b0 b1 hbr n1 n2 HO4 HO5 hk4
      generalize sub x s = Y at *
      go_wp2_with fail
      go_loopw [4, 5, 32] (fun v4 v5 v32 wq => ∃ (j : Nat) (L' : List (Sp × Int)) (d4 : Option Addr) (e4 : Nat) (d5 : Option Addr) (e5 : Nat), j ≤ Y.length ∧ v32 = .int .i64 j ∧ L' = L ++ (Y.take j).map (fun y => (y, v)) ∧ v4 = .slice d4 L'.length e4 ∧ v5 = .slice d5 L'.length e5 ∧ OwnS wq w1.heap.size d4 L'.length e4 (L'.map (·.1)) ∧ OwnI wq w1.heap.size d5 L'.length e5 (L'.map (·.2)) ∧ Spans wq aY Y.length cY Y ∧ (∀ i, Blk d4 i → ¬ Blk aY i) ∧ (∀ i, Blk d5 i → ¬ Blk aY i) ∧ Kp Non w1 wq) (fun _ _ v32 _ => Y.length - (intOf v32).toNat)
      case atStart => exact ⟨0, L, a4, c4, a5, c5, by omega, rfl, by simp, rfl, rfl, HP4.out, HP5.out, hYR, s4, s5, hkr2⟩
      case round =>
        obtain ⟨j, L', d4, e4, d5, e5, hj, rfl, hL', rfl, rfl, hP4, hP5, hYq, t4, t5, hk1q⟩ := hrel
        have HL' := Lib.hid hL'
        have hLl' : L'.length ≤ L.length + j := by rw [hL']; simp; omega
        clear hL' HP4 HP5
        by_cases hlj : j < Y.length
        · obtain ⟨bY, oY, rfl⟩ := hYq.there (by omega)
          have y0 := Spans.c0 hYq hlj
          have y1 := Spans.c1 hYq hlj
          obtain ⟨bv, ov, rfl⟩ := hRV.there (by omega)
          have v0 := HV.out wr hk1q bv ov rfl
          have m1 := (hM1.non hk1q).c1
          have gj : (j : Int) < (Y.length : Nat) := by omega
          have HTY := Lib.hid (List.take_succ_eq_append_getElem hlj)
          have hmlt := hM1.lt
          have hvlt := (hM1.vals.blk bv ⟨_, rfl, rfl⟩).2
          generalize Y[j] = y at *
          go_wp2_with fail
          have hbx := BoxS.new wr y
          have hkb2 : Kp Non wr (wr.alloc (.cells #[.int .i64 y.1, .int .i64 y.2] 36)) := (Kp.refl _ _).alloc _
          have hnd : ¬ Blk d4 wr.heap.size ∧ ¬ Blk d4 m ∧ ¬ Blk d4 bv := ⟨fun q => by have := (hP4.blk _ q).2; omega, fun q => by have := (hP4.blk _ q).1; omega, fun q => by have := (hP4.blk _ q).1; omega⟩
          have hd54 : ∀ i, Blk d5 i → ¬ Blk d4 i := fun i q q' => by
            obtain ⟨cs, e1⟩ := hP4.tag i q'
            obtain ⟨cs', e2⟩ := hP5.tag i q
            rw [e2] at e1
            simp at e1
          have HY := Lib.hid (hYq.non hkb2)
          have hfr4 : ∀ i, Blk d4 i → w1.heap.size ≤ i := fun i q => (hP4.blk i q).1
          have hfr5 : ∀ i, Blk d5 i → w1.heap.size ≤ i := fun i q => (hP5.blk i q).1
          have hYlt : bY < wr.heap.size := hYq.lt (by omega) encS_len (by omega) bY ⟨_, rfl, rfl⟩
          have HC : Hid (DropCA wr.heap.size m y bv ov M.length cv k v (wr.alloc (.cells #[.int .i64 y.1, .int .i64 y.2] 36))) := Lib.hid ⟨hbx.c0, hbx.c1, hkb2.cell m1 (fun f => f), hkb2.cell v0 (fun f => f)⟩
          have HP4 := Lib.hid (hP4.non hkb2)
          have HP5 := Lib.hid (hP5.non hkb2)
          have hd4l : ∀ i, Blk d4 i → i < wr.heap.size := fun i q => (hP4.blk i q).2
          have hd5l : ∀ i, Blk d5 i → i < wr.heap.size := fun i q => (hP5.blk i q).2
          have hbxl := hbx.lt
          clear hbx hP4 hP5 y0 y1 v0 m1 hYq
          generalize wr.heap.size = bx at *
          generalize wr.alloc (.cells #[.int .i64 y.1, .int .i64 y.2] 36) = wb at *
          refine wp_region_free [0,0,1,1,0,0,0,0,0,0,0,0,1,2,2,2] (by kernel_rfl) (by kernel_rfl) (DropCA bx m y bv ov M.length cv k v) (HC.out.non ((Kp.refl _ _).drew)) [2,3,12,13,14,15] rfl ?_
          repeat (first | (with_reducible refine pure_skip ?_) | ((with_reducible refine pure_k rfl ?_); intro K hK; apply Exists.intro; refine ⟨fun w' hC => ?_, ?_⟩; (obtain ⟨g1, g2, g3, g4⟩ := hC; go_simp; rfl); go_simp; refine hK _ ?_; clear hK K))
          with_reducible refine pure_nil ?_
          show wpFree _ _ _ _ _ 6 _ _ _
          refine free_two 2 12 (by kernel_rfl) ?_ ?_
          · skip
            refine free_at _ rfl rfl 1 rfl rfl fun K hK => ?_
            go_simp
            refine hK _ _ (fun _ => HC.out.non (Kp.drew (Kp.alloc (Kp.refl Non wb) (Obj.cells #[.int .i64 y.1, .int .i64 y.2] 36 (0, 0))))) ?_
            clear hK K
            refine free_two 3 12 (by kernel_rfl) ?_ ?_
            · skip
              refine free_at _ rfl rfl 1 rfl rfl fun K hK => ?_
              refine wp_append_row _ _ 54 rfl w1.heap.size 36 i0 _ 16 Try.underlying54 hi0 hz0 hz1 hz2 rfl (by decide) encS_len encS_one d4 L'.length e4 (L'.map (·.1)) rfl (HP4.out.non ?_) _ 1 1 [y] rfl ?_ (by omega) (by omega) ?_ ?_
              exact (Kp.drew (Kp.alloc (Kp.refl Non wb) (Obj.cells #[.int .i64 y.1, .int .i64 y.2] 36 (0, 0))))
              (refine Reads.non (Reads.new ?_ ?_) (Kp.drew (Kp.refl _ _)); (rfl); (rfl))
              exact Nat.le_trans hk1q.size (Nat.le_trans hkb2.size ((Kp.drew (Kp.alloc (Kp.refl Non wb) (Obj.cells #[.int .i64 y.1, .int .i64 y.2] 36 (0, 0))))).size)
              intro p4 q4 w4 hO4 hk4 hb4
              have hK1 := (Kp.drew (Kp.alloc (Kp.refl Non wb) (Obj.cells #[.int .i64 y.1, .int .i64 y.2] 36 (0, 0))))
              have hK4 := hK1.comp (U := Blk d4) hk4 (fun _ _ f => f.elim) (fun _ _ q => q)
              have HC4 := Lib.hid (HC.out.kp hK4 hnd.1 hnd.2.1 hnd.2.2)
              have HB4 : p4 = d4 ∨ ∃ n4, p4 = some ⟨n4, 0, none⟩ ∧ wb.heap.size ≤ n4 := hb4.imp id fun q => ⟨_, q, hK1.size⟩
              have hd45 : ∀ i, Blk p4 i → ¬ Blk d5 i := fun i q q' => by
                obtain ⟨cs, e1⟩ := hO4.tag i q
                obtain ⟨cs', e2⟩ := (HP5.out.kp hK4 hd54).tag i q'
                rw [e2] at e1
                simp at e1
              refine hK _ _ (fun _ => HC4.out) ?_
              clear hK K
              refine free_one 12 (by kernel_rfl) ?_
              refine free_at _ rfl rfl 1 rfl rfl fun K hK => ?_
              go_simp
              refine hK _ _ (fun _ => HC4.out.non (Kp.alloc (Kp.refl _ _) _)) ?_
              clear hK K
              refine free_one 13 (by kernel_rfl) ?_
              refine free_at _ rfl rfl 2 rfl rfl fun K hK => ?_
              refine wp_append_row _ _ 37 rfl w1.heap.size 3 j0 _ 8 Try.underlying37 hj0 hy0 hy1 hy2 rfl (by decide) encI_len encI_one d5 L'.length e5 (L'.map (·.2)) rfl (HP5.out.kp ?_ hd54) _ 1 1 [v] rfl ?_ (by omega) (by omega) ?_ ?_
              exact (hK4.alloc (Obj.cells #[.int .i64 v] 3 (0, 0)))
              (refine Reads.new ?_ ?_; (rfl); (rfl))
              exact Nat.le_trans hk1q.size (Nat.le_trans hkb2.size ((hK4.alloc (Obj.cells #[.int .i64 v] 3 (0, 0)))).size)
              intro p5 q5 w5 hO5 hk5 hb5
              have hK2 := (hK4.alloc (Obj.cells #[.int .i64 v] 3 (0, 0)))
              have HB5 : p5 = d5 ∨ ∃ n5, p5 = some ⟨n5, 0, none⟩ ∧ wb.heap.size ≤ n5 := hb5.imp id fun q => ⟨_, q, hK2.size⟩
              refine hK _ _ (fun h => by cases h) ?_
              clear hK K
              refine free_one 14 (by kernel_rfl) ?_
              refine free_at _ rfl rfl 2 rfl rfl fun K hK => ?_
              go_simp
              refine hK _ _ (fun h => by cases h) ?_
              clear hK K
              refine free_one 15 (by kernel_rfl) ?_
              refine free_at _ rfl rfl 2 rfl rfl fun K hK => ?_
              go_simp
              refine hK _ _ (fun h => by cases h) ?_
              clear hK K
              refine free_nil ?_
              have hO45 := hO4.kp ((Kp.alloc (Kp.refl Non w4) (Obj.cells #[.int .i64 v] 3 (0, 0))).comp (U := Blk d5) hk5 (fun _ _ f => f.elim) (fun _ _ q => q)) hd45
              have hkall := hK2.comp (U := fun i => Blk d4 i ∨ Blk d5 i) hk5 (fun _ _ q => .inl q) (fun _ _ q => .inr q)
              have hkend : Kp Non w1 w5 := (hk1q.trans hkb2).comp hkall (fun _ _ f => f) (fun i hi q => by
                rcases q with q | q
                · have := hfr4 i q; omega
                · have := hfr5 i q; omega)
              have hYend := HY.out.kp hkall (fun i q q' => by rcases q' with q' | q'; exact t4 i q' q; exact t5 i q' q)
              have hYb := (Reads.lt HY.out (by omega) encS_len (by omega) bY ⟨_, rfl, rfl⟩)
              have u4 : ∀ i, Blk p4 i → ¬ Blk (some (⟨bY, oY, none⟩ : Addr)) i := fun i q => by
                rcases HB4 with rfl | ⟨n4, rfl, hn4⟩
                · exact t4 i q
                · intro q'
                  obtain ⟨ad, z1, rfl⟩ := q
                  obtain ⟨ad', z2, z3⟩ := q'
                  cases z1; cases z2
                  have z3 : bY = n4 := z3
                  omega
              have u5 : ∀ i, Blk p5 i → ¬ Blk (some (⟨bY, oY, none⟩ : Addr)) i := fun i q => by
                rcases HB5 with rfl | ⟨n5, rfl, hn5⟩
                · exact t5 i q
                · intro q'
                  obtain ⟨ad, z1, rfl⟩ := q
                  obtain ⟨ad', z2, z3⟩ := q'
                  cases z1; cases z2
                  have z3 : bY = n5 := z3
                  omega
              clear hK2 hk5 hb5 hkall
              go_wp2_with fail
              go_roundw
              case rel =>
                refine ⟨j + 1, L' ++ [(y, v)], p4, q4, p5, q5, by omega, by go_num, ?_, by simp, by simp, by simpa using hO45, by simpa using hO5, hYend, u4, u5, hkend⟩
                rw [HL'.out, HTY.out]
                simp
              case measure => simp [intOf]; omega
            · skip
              refine free_at _ rfl rfl 1 rfl rfl fun K hK => ?_
              go_simp
              refine hK _ _ (fun _ => HC.out.non (Kp.drew (Kp.alloc (Kp.alloc (Kp.refl Non wb) (Obj.cells #[.int .i64 y.1, .int .i64 y.2] 36 (0, 0))) (Obj.cells #[.int .i64 v] 3 (0, 0))))) ?_
              clear hK K
              refine free_one 3 (by kernel_rfl) ?_
              refine free_at _ rfl rfl 1 rfl rfl fun K hK => ?_
              refine wp_append_row _ _ 54 rfl w1.heap.size 36 i0 _ 16 Try.underlying54 hi0 hz0 hz1 hz2 rfl (by decide) encS_len encS_one d4 L'.length e4 (L'.map (·.1)) rfl (HP4.out.non ?_) _ 1 1 [y] rfl ?_ (by omega) (by omega) ?_ ?_
              exact (Kp.drew (Kp.alloc (Kp.alloc (Kp.refl Non wb) (Obj.cells #[.int .i64 y.1, .int .i64 y.2] 36 (0, 0))) (Obj.cells #[.int .i64 v] 3 (0, 0))))
              (refine Reads.non (Reads.new ?_ ?_) (Kp.drew (Kp.alloc (Kp.refl _ _) _)); (rfl); (rfl))
              exact Nat.le_trans hk1q.size (Nat.le_trans hkb2.size ((Kp.drew (Kp.alloc (Kp.alloc (Kp.refl Non wb) (Obj.cells #[.int .i64 y.1, .int .i64 y.2] 36 (0, 0))) (Obj.cells #[.int .i64 v] 3 (0, 0))))).size)
              intro p4 q4 w4 hO4 hk4 hb4
              have hK1 := (Kp.drew (Kp.alloc (Kp.alloc (Kp.refl Non wb) (Obj.cells #[.int .i64 y.1, .int .i64 y.2] 36 (0, 0))) (Obj.cells #[.int .i64 v] 3 (0, 0))))
              have hK4 := hK1.comp (U := Blk d4) hk4 (fun _ _ f => f.elim) (fun _ _ q => q)
              have HC4 := Lib.hid (HC.out.kp hK4 hnd.1 hnd.2.1 hnd.2.2)
              have HB4 : p4 = d4 ∨ ∃ n4, p4 = some ⟨n4, 0, none⟩ ∧ wb.heap.size ≤ n4 := hb4.imp id fun q => ⟨_, q, hK1.size⟩
              have hd45 : ∀ i, Blk p4 i → ¬ Blk d5 i := fun i q q' => by
                obtain ⟨cs, e1⟩ := hO4.tag i q
                obtain ⟨cs', e2⟩ := (HP5.out.kp hK4 hd54).tag i q'
                rw [e2] at e1
                simp at e1
              refine hK _ _ (fun _ => HC4.out) ?_
              clear hK K
              refine free_one 13 (by kernel_rfl) ?_
              refine free_at _ rfl rfl 2 rfl rfl fun K hK => ?_
              refine wp_append_row _ _ 37 rfl w1.heap.size 3 j0 _ 8 Try.underlying37 hj0 hy0 hy1 hy2 rfl (by decide) encI_len encI_one d5 L'.length e5 (L'.map (·.2)) rfl (HP5.out.kp ?_ hd54) _ 1 1 [v] rfl ?_ (by omega) (by omega) ?_ ?_
              exact hK4
              (refine Reads.kp (Reads.non (Reads.new ?_ ?_) (Kp.drew (Kp.refl _ _))) hk4 ?_; (simp); (rfl); (intro i q q'; obtain ⟨ad, z1, rfl⟩ := q; cases z1; have z2 := hd4l _ q'; simp at z2; omega))
              exact Nat.le_trans hk1q.size (Nat.le_trans hkb2.size (hK4).size)
              intro p5 q5 w5 hO5 hk5 hb5
              have hK2 := hK4
              have HB5 : p5 = d5 ∨ ∃ n5, p5 = some ⟨n5, 0, none⟩ ∧ wb.heap.size ≤ n5 := hb5.imp id fun q => ⟨_, q, hK2.size⟩
              refine hK _ _ (fun h => by cases h) ?_
              clear hK K
              refine free_one 14 (by kernel_rfl) ?_
              refine free_at _ rfl rfl 2 rfl rfl fun K hK => ?_
              go_simp
              refine hK _ _ (fun h => by cases h) ?_
              clear hK K
              refine free_one 15 (by kernel_rfl) ?_
              refine free_at _ rfl rfl 2 rfl rfl fun K hK => ?_
              go_simp
              refine hK _ _ (fun h => by cases h) ?_
              clear hK K
              refine free_nil ?_
              have hO45 := hO4.kp hk5 hd45
              have hkall := hK2.comp (U := fun i => Blk d4 i ∨ Blk d5 i) hk5 (fun _ _ q => .inl q) (fun _ _ q => .inr q)
              have hkend : Kp Non w1 w5 := (hk1q.trans hkb2).comp hkall (fun _ _ f => f) (fun i hi q => by
                rcases q with q | q
                · have := hfr4 i q; omega
                · have := hfr5 i q; omega)
              have hYend := HY.out.kp hkall (fun i q q' => by rcases q' with q' | q'; exact t4 i q' q; exact t5 i q' q)
              have hYb := (Reads.lt HY.out (by omega) encS_len (by omega) bY ⟨_, rfl, rfl⟩)
              have u4 : ∀ i, Blk p4 i → ¬ Blk (some (⟨bY, oY, none⟩ : Addr)) i := fun i q => by
                rcases HB4 with rfl | ⟨n4, rfl, hn4⟩
                · exact t4 i q
                · intro q'
                  obtain ⟨ad, z1, rfl⟩ := q
                  obtain ⟨ad', z2, z3⟩ := q'
                  cases z1; cases z2
                  have z3 : bY = n4 := z3
                  omega
              have u5 : ∀ i, Blk p5 i → ¬ Blk (some (⟨bY, oY, none⟩ : Addr)) i := fun i q => by
                rcases HB5 with rfl | ⟨n5, rfl, hn5⟩
                · exact t5 i q
                · intro q'
                  obtain ⟨ad, z1, rfl⟩ := q
                  obtain ⟨ad', z2, z3⟩ := q'
                  cases z1; cases z2
                  have z3 : bY = n5 := z3
                  omega
              clear hK2 hk5 hb5 hkall
              go_wp2_with fail
              go_roundw
              case rel =>
                refine ⟨j + 1, L' ++ [(y, v)], p4, q4, p5, q5, by omega, by go_num, ?_, by simp, by simp, by simpa using hO45, by simpa using hO5, hYend, u4, u5, hkend⟩
                rw [HL'.out, HTY.out]
                simp
              case measure => simp [intOf]; omega
          · skip
            refine free_at _ rfl rfl 1 rfl rfl fun K hK => ?_
            go_simp
            refine hK _ _ (fun _ => HC.out.non (Kp.drew (Kp.alloc (Kp.refl Non wb) (Obj.cells #[.int .i64 v] 3 (0, 0))))) ?_
            clear hK K
            refine free_one 2 (by kernel_rfl) ?_
            refine free_at _ rfl rfl 1 rfl rfl fun K hK => ?_
            go_simp
            refine hK _ _ (fun _ => HC.out.non (Kp.drew (Kp.alloc (Kp.alloc (Kp.refl Non wb) (Obj.cells #[.int .i64 v] 3 (0, 0))) (Obj.cells #[.int .i64 y.1, .int .i64 y.2] 36 (0, 0))))) ?_
            clear hK K
            refine free_one 3 (by kernel_rfl) ?_
            refine free_at _ rfl rfl 1 rfl rfl fun K hK => ?_
            refine wp_append_row _ _ 54 rfl w1.heap.size 36 i0 _ 16 Try.underlying54 hi0 hz0 hz1 hz2 rfl (by decide) encS_len encS_one d4 L'.length e4 (L'.map (·.1)) rfl (HP4.out.non ?_) _ 1 1 [y] rfl ?_ (by omega) (by omega) ?_ ?_
            exact (Kp.drew (Kp.alloc (Kp.alloc (Kp.refl Non wb) (Obj.cells #[.int .i64 v] 3 (0, 0))) (Obj.cells #[.int .i64 y.1, .int .i64 y.2] 36 (0, 0))))
            (refine Reads.non (Reads.new ?_ ?_) (Kp.drew (Kp.refl _ _)); (simp); (rfl))
            exact Nat.le_trans hk1q.size (Nat.le_trans hkb2.size ((Kp.drew (Kp.alloc (Kp.alloc (Kp.refl Non wb) (Obj.cells #[.int .i64 v] 3 (0, 0))) (Obj.cells #[.int .i64 y.1, .int .i64 y.2] 36 (0, 0))))).size)
            intro p4 q4 w4 hO4 hk4 hb4
            have hK1 := (Kp.drew (Kp.alloc (Kp.alloc (Kp.refl Non wb) (Obj.cells #[.int .i64 v] 3 (0, 0))) (Obj.cells #[.int .i64 y.1, .int .i64 y.2] 36 (0, 0))))
            have hK4 := hK1.comp (U := Blk d4) hk4 (fun _ _ f => f.elim) (fun _ _ q => q)
            have HC4 := Lib.hid (HC.out.kp hK4 hnd.1 hnd.2.1 hnd.2.2)
            have HB4 : p4 = d4 ∨ ∃ n4, p4 = some ⟨n4, 0, none⟩ ∧ wb.heap.size ≤ n4 := hb4.imp id fun q => ⟨_, q, hK1.size⟩
            have hd45 : ∀ i, Blk p4 i → ¬ Blk d5 i := fun i q q' => by
              obtain ⟨cs, e1⟩ := hO4.tag i q
              obtain ⟨cs', e2⟩ := (HP5.out.kp hK4 hd54).tag i q'
              rw [e2] at e1
              simp at e1
            refine hK _ _ (fun _ => HC4.out) ?_
            clear hK K
            refine free_one 13 (by kernel_rfl) ?_
            refine free_at _ rfl rfl 2 rfl rfl fun K hK => ?_
            refine wp_append_row _ _ 37 rfl w1.heap.size 3 j0 _ 8 Try.underlying37 hj0 hy0 hy1 hy2 rfl (by decide) encI_len encI_one d5 L'.length e5 (L'.map (·.2)) rfl (HP5.out.kp ?_ hd54) _ 1 1 [v] rfl ?_ (by omega) (by omega) ?_ ?_
            exact hK4
            (refine Reads.kp (Reads.non (Reads.new ?_ ?_) (Kp.drew (Kp.alloc (Kp.refl _ _) _))) hk4 ?_; (rfl); (rfl); (intro i q q'; obtain ⟨ad, z1, rfl⟩ := q; cases z1; have z2 := hd4l _ q'; simp at z2; omega))
            exact Nat.le_trans hk1q.size (Nat.le_trans hkb2.size (hK4).size)
            intro p5 q5 w5 hO5 hk5 hb5
            have hK2 := hK4
            have HB5 : p5 = d5 ∨ ∃ n5, p5 = some ⟨n5, 0, none⟩ ∧ wb.heap.size ≤ n5 := hb5.imp id fun q => ⟨_, q, hK2.size⟩
            refine hK _ _ (fun h => by cases h) ?_
            clear hK K
            refine free_one 14 (by kernel_rfl) ?_
            refine free_at _ rfl rfl 2 rfl rfl fun K hK => ?_
            go_simp
            refine hK _ _ (fun h => by cases h) ?_
            clear hK K
            refine free_one 15 (by kernel_rfl) ?_
            refine free_at _ rfl rfl 2 rfl rfl fun K hK => ?_
            go_simp
            refine hK _ _ (fun h => by cases h) ?_
            clear hK K
            refine free_nil ?_
            have hO45 := hO4.kp hk5 hd45
            have hkall := hK2.comp (U := fun i => Blk d4 i ∨ Blk d5 i) hk5 (fun _ _ q => .inl q) (fun _ _ q => .inr q)
            have hkend : Kp Non w1 w5 := (hk1q.trans hkb2).comp hkall (fun _ _ f => f) (fun i hi q => by
              rcases q with q | q
              · have := hfr4 i q; omega
              · have := hfr5 i q; omega)
            have hYend := HY.out.kp hkall (fun i q q' => by rcases q' with q' | q'; exact t4 i q' q; exact t5 i q' q)
            have hYb := (Reads.lt HY.out (by omega) encS_len (by omega) bY ⟨_, rfl, rfl⟩)
            have u4 : ∀ i, Blk p4 i → ¬ Blk (some (⟨bY, oY, none⟩ : Addr)) i := fun i q => by
              rcases HB4 with rfl | ⟨n4, rfl, hn4⟩
              · exact t4 i q
              · intro q'
                obtain ⟨ad, z1, rfl⟩ := q
                obtain ⟨ad', z2, z3⟩ := q'
                cases z1; cases z2
                have z3 : bY = n4 := z3
                omega
            have u5 : ∀ i, Blk p5 i → ¬ Blk (some (⟨bY, oY, none⟩ : Addr)) i := fun i q => by
              rcases HB5 with rfl | ⟨n5, rfl, hn5⟩
              · exact t5 i q
              · intro q'
                obtain ⟨ad, z1, rfl⟩ := q
                obtain ⟨ad', z2, z3⟩ := q'
                cases z1; cases z2
                have z3 : bY = n5 := z3
                omega
            clear hK2 hk5 hb5 hkall
            go_wp2_with fail
            go_roundw
            case rel =>
              refine ⟨j + 1, L' ++ [(y, v)], p4, q4, p5, q5, by omega, by go_num, ?_, by simp, by simp, by simpa using hO45, by simpa using hO5, hYend, u4, u5, hkend⟩
              rw [HL'.out, HTY.out]
              simp
            case measure => simp [intOf]; omega
        · obtain rfl : j = Y.length := by omega
          have HQ4 := Lib.hid hP4
          have HQ5 := Lib.hid hP5
          clear hP4 hP5
          go_wp2_with fail
          go_roundw
          case rel =>
            refine ⟨k + 1, L', d4, e4, d5, e5, by omega, by go_num, ?_, rfl, rfl, HQ4.out, HQ5.out, hk1q⟩
            rw [HL'.out, HD.out, HL.out, List.take_of_length_le (Nat.le_refl _)]
          case measure => simp [intOf]; omega
    · obtain rfl : k = M.length := by omega
      have hMr := hM1.non hkr
      have q0 := hMr.c0
      have q1 := hMr.c1
      have f0 := hMr.fz 4
      have f1 := hMr.fz 5
      have hml := hMr.lt
      have hbox := hMr.box
      have hm4 : ∀ i, Blk a4 i → ¬ One m i := fun i q q' => by
        obtain ⟨cs, e1⟩ := hO4.tag i q
        rw [show i = m from q', hbox] at e1
        simp at e1
      have hm5 : ∀ i, Blk a5 i → ¬ One m i := fun i q q' => by
        obtain ⟨cs, e1⟩ := hO5.tag i q
        rw [show i = m from q', hbox] at e1
        simp at e1
      have b1 := heap_setCell_same wr m 4 _ _ (.slice a4 L.length c4) hbox
      have b2 := heap_setCell_same _ m 5 _ _ (.slice a5 L.length c5) b1
      have hkS : Kp (One m) wr ((wr.setCell ⟨m, 4, none⟩ (.slice a4 L.length c4)).setCell ⟨m, 5, none⟩ (.slice a5 L.length c5)) :=
        Kp.setCell (S := One m) (Kp.setCell (S := One m) (Kp.refl _ _) (p := ⟨m, 4, none⟩) (.inl rfl) _) (p := ⟨m, 5, none⟩) (.inl rfl) _
      have hout : MapA U ((wr.setCell ⟨m, 4, none⟩ (.slice a4 L.length c4)).setCell ⟨m, 5, none⟩ (.slice a5 L.length c5)) m L a4 c4 a5 c5 :=
        ⟨b2, (hO4.lower (Nat.zero_le _)).kp hkS hm4, (hO5.lower (Nat.zero_le _)).kp hkS hm5⟩
      have hLd : L = drp M s := by
        have := HL.out
        rw [List.take_of_length_le (Nat.le_refl _)] at this
        exact this
      have HOut := Lib.hid hout
      have h4b := fun i q => (hO4.blk i q).1
      have h5b := fun i q => (hO5.blk i q).1
      have HLd := Lib.hid hLd
      clear hLd b1 b2 hbox hO4 hO5 hout hMr
      go_wp2_with fail
      go_end0
      rw [← HLd.out]
      refine ⟨rfl, a4, c4, a5, c5, HOut.out, ((hkb.trans hkr).comp hkS (fun _ _ f => f.elim) (fun i hi q => .inl q)), fun i q => ?_⟩
      have hkz := hkb.size
      rcases q with q | q | q
      · exact .inl (.inl q)
      · have := h4b i q; exact .inr (by omega)
      · have := h5b i q; exact .inr (by omega)
end Go.Proofs.Ytdijaillcajpaaa
