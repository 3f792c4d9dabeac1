/-
  The document's Map: Pieces.
-/
import Derived.Test.YtkgjpmgoapfamaaE16
namespace Go.Proofs.Ytkgjpmgoapfamaa
open Go.RowKit

/-- What Pieces has laid behind i parts. -/
def pl (g : Int → Option Int) (E : List Int) (i : Nat) : List (Sp × Int) := (segs (E.take (i + 1))).foldl (pstep g) []
theorem pl_zero (g : Int → Option Int) (E : List Int) : pl g E 0 = [] := by cases E <;> rfl
theorem pl_succ (g : Int → Option Int) {E : List Int} {i : Nat} (h : i + 1 < E.length) : pl g E (i + 1) = pstep g (pl g E i) (E[i], E[i + 1]) := by
  have e1 : E.take (i + 1) = E.take i ++ [E[i]] := List.take_succ_eq_append_getElem (by omega)
  have e2 : E.take (i + 1 + 1) = E.take i ++ [E[i], E[i + 1]] := by rw [List.take_succ_eq_append_getElem h, e1, List.append_assoc]; rfl
  unfold pl
  rw [e2, segs_snoc, ← e1, List.foldl_append]
  rfl
theorem pl_last {g : Int → Option Int} {E : List Int} {i : Nat} (h : E.length ≤ i + 1) : pl g E i = piecesM g E := by
  unfold pl piecesM
  rw [List.take_of_length_le h]
theorem pstep_len (g : Int → Option Int) (out : List (Sp × Int)) (s : Sp) : (pstep g out s).length ≤ out.length + 1 := by
  unfold pstep
  split
  · omega
  · have := glu_len out [(s, by assumption)]
    simpa using this
theorem pl_len (g : Int → Option Int) (E : List Int) (i : Nat) : (pl g E i).length ≤ i := by
  induction i with
  | zero => rw [pl_zero]; simp
  | succ i ih =>
    by_cases h : i + 1 < E.length
    · rw [pl_succ g h]
      have := pstep_len g (pl g E i) (E[i], E[i + 1])
      omega
    · have e1 : pl g E (i + 1) = piecesM g E := pl_last (by omega)
      rw [e1, ← pl_last (g := g) (i := i) (by omega)]; omega

/-- Two rows: the pieces, and their values. -/
def PiecesOut (P : List (Sp × Int)) (w : World) (e : Ending) (w' : World) : Prop :=
  ∃ a1 c1 a2 c2, e = .returned (.tuple #[.slice a1 P.length c1, .slice a2 P.length c2]) ∧ OwnS w' w.heap.size a1 P.length c1 (P.map (·.1)) ∧ OwnI w' w.heap.size a2 P.length c2 (P.map (·.2)) ∧ Kp Non w w'

set_option maxRecDepth 100000 in
set_option maxHeartbeats 1000000 in
theorem rPieces_calls (b : Nat) (ops : List Done) (al : Option Addr) (cl : Nat) (av : Option Addr) (cv : Nat) (ao : Option Addr) (co : Nat) (w : World) (hM : RMap w b ops al cl av cv ao co) (hl : ops.length ≤ 1000) :
    Calls Try.prog 34 #[.pointer (some ⟨b, 0, none⟩)] w (PiecesOut (piecesM (getD ops) (endsL [ops.map (·.1)])) w) := by
  obtain ⟨i0, hi0, hz0, hz1, hz2⟩ := info_parts infoS
  obtain ⟨j0, hj0, hy0, hy1, hy2⟩ := info_parts infoI
  have m0 := hM.c0
  have hkA : Kp Non w (w.alloc (.cells #[.slice al ops.length cl] 22)) := (Kp.refl _ w).alloc _
  have hRS := hM.spans.reads encS_len (by omega)
  have hR : Rows2 (w.alloc (.cells #[.slice al ops.length cl] 22)) (some ⟨w.heap.size, 0, none⟩) 1 1 [((al, ops.length, cl), ops.map (·.1))] :=
    ⟨Reads.newL encR_len rfl rfl rfl (by simp), fun r hr => by
      simp only [List.mem_cons, List.not_mem_nil, or_false] at hr
      subst hr
      exact hRS.non hkA⟩
  have HE := Lib.hid (ends_calls _ 1 1 _ _ hR (by omega) (fun r hr => by
      simp only [List.mem_cons, List.not_mem_nil, or_false] at hr
      subst hr
      simpa using hl))
  simp only [List.map_cons, List.map_nil] at HE
  have hel : (endsL [ops.map (·.1)]).length ≤ 2000 := by
    have := fold_len (ops.map (·.1)) []
    simp at this
    show ((ops.map (·.1)).foldl estep []).length ≤ 2000
    omega
  have HG := Lib.hid (fun W x (hW : Kp Non w W) => rGet_calls b ops al cl av cv ao co x W (hM.non hW) (by omega))
  clear hR
  generalize endsL [ops.map (·.1)] = E at *
  generalize getD ops = g at *
  go_enter Try.func34, Try.ntmps34
  go_wp2_with fail
  refine HE.out.mono ?_
  rintro e w1 ⟨a1, c1, rfl, hO1, hk1⟩
  have hk1' : Kp Non w w1 := hkA.trans hk1
  have hIE := hO1.reads encI_len (by omega)
  have hEc := hIE.cap
  have hEm := hIE.max
  clear HE hk1 hkA
  go_wp2_with fail
  go_loopw [5, 6, 7] (fun v5 v6 v7 wr => ∃ (i : Nat) (P : List (Sp × Int)) (a5 : Option Addr) (c5 : Nat) (a6 : Option Addr) (c6 : Nat), i ≤ E.length ∧ v7 = .int .i64 i ∧ v5 = .slice a5 P.length c5 ∧ v6 = .slice a6 P.length c6 ∧ Hid (P = pl g E i) ∧ OwnS wr w1.heap.size a5 P.length c5 (P.map (·.1)) ∧ OwnI wr w1.heap.size a6 P.length c6 (P.map (·.2)) ∧ Kp Non w1 wr) (fun _ _ v7 _ => E.length - (intOf v7).toNat)
  case atStart => exact ⟨0, [], none, 0, none, 0, by omega, rfl, rfl, rfl, Lib.hid (pl_zero g E).symm, OwnR.nil _ _ _, OwnR.nil _ _ _, Kp.refl _ _⟩
  case round =>
    obtain ⟨i, P, a5, c5, a6, c6, hi, rfl, rfl, rfl, HP, hS, hV, hkr⟩ := hrel
    have hol : P.length ≤ i := by rw [HP.out]; exact pl_len g E i
    have hwi : IntKind.i64.wrap ((i : Int) + 1) = (i : Int) + 1 := by rw [IntKind.wrap_i64] <;> omega
    by_cases hlt : i + 1 < E.length
    · have g1 : (i : Int) + 1 < (E.length : Nat) := by omega
      have gz : (0 : Int) ≤ (i : Int) + 1 := by omega
      have g0 : (i : Int) < (E.length : Nat) := by omega
      obtain ⟨b1, o1, rfl⟩ := hIE.there (by omega)
      have c0 := Ints.c (hIE.non hkr) (j := i) (by omega)
      have c1 := Ints.c (hIE.non hkr) (j := i + 1) hlt
      have HPn := Lib.hid (pl_succ g hlt)
      rw [← HP.out] at HPn
      generalize E[i] = e at *
      generalize E[i + 1] = f at *
      have HGe := Lib.hid (HG.out wr e (hk1'.trans hkr))
      have HPn : Hid (pl g E (i + 1) = match g e with | none => P | some v => glu P [((e, f), v)]) := Lib.hid HPn.out
      generalize g e = q at *
      cases q with
      | none =>
        go_wp2_with fail
        refine HGe.out.mono ?_
        rintro e w2 ⟨rfl, hk2⟩
        have hkr2 := hkr.trans hk2
        have hS2 := hS.non hk2
        have hV2 := hV.non hk2
        go_wp2_with fail
        go_roundw
        case rel => exact ⟨i + 1, P, a5, c5, a6, c6, by omega, by go_num, rfl, rfl, Lib.hid (by rw [HPn.out]), hS2, hV2, hkr2⟩
        case measure => simp [intOf]; omega
      | some v =>
        have HPn : Hid (pl g E (i + 1) = glu P [((e, f), v)]) := Lib.hid HPn.out
        go_wp2_with fail
        refine HGe.out.mono ?_
        rintro e' w2 ⟨rfl, hk2⟩
        have hkr2 : Kp Non w1 w2 := hkr.trans hk2
        have hsz2 := hkr2.size
        have c0 := hk2.cell c0 (fun f => f)
        have c1 := hk2.cell c1 (fun f => f)
        have hS2 := hS.non hk2
        have hV2 := hV.non hk2
        clear hS hV HGe HG
        rcases List.eq_nil_or_concat P with hP | ⟨ot, t, hP⟩
        · have HN : Hid (P.length = 0) := Lib.hid (by rw [hP]; rfl)
          have HX : Hid (pl g E (i + 1) = P ++ [((e, f), v)]) := Lib.hid (by rw [HPn.out, hP, glu_nil_left]; rfl)
          rw [HN.out] at hS2 hV2 hol ⊢
          have HS := Lib.hid hS2
          have HV := Lib.hid hV2
          clear hP hS2 hV2
          go_wp2_with fail
          go_quiet (fail)
          go_wp2_with fail
          obtain ⟨W, hW⟩ : ∃ W, w2.drewN nq = W := ⟨_, rfl⟩
          have hkW : Kp Non w2 W := by rw [← hW]; exact (Kp.refl _ _).drewN _
          rw [hW]
          have z0 := hkW.drew.cell c0 (fun f => f)
          have z1 := hkW.drew.cell c1 (fun f => f)
          refine wp_region_chain [0,0,0,0,0,0,0,0,0,0,0,1,2,2] (by kernel_rfl) (by kernel_rfl) (fun w' => w'.cell? ⟨b1, o1 + i, none⟩ = some (.int .i64 e) ∧ w'.cell? ⟨b1, o1 + (i + 1), none⟩ = some (.int .i64 f)) ⟨z0, z1⟩ ?_
          repeat (first | (with_reducible refine pure_skip ?_) | ((with_reducible refine pure_k rfl ?_); intro K hK; apply Exists.intro; refine ⟨fun w' hC => ?_, ?_⟩; (obtain ⟨q1, q2⟩ := hC; go_simp; rfl); go_simp; refine hK _ ?_; clear hK K))
          with_reducible refine pure_nil ?_
          repeat (with_reducible refine chain_skip0 ?_)
          with_reducible refine chain_step rfl fun K hK => ?_
          go_simp
          refine hK _ _ (fun _ => ⟨(hkW.alloc _).drew.cell c0 (fun f => f), (hkW.alloc _).drew.cell c1 (fun f => f)⟩) ?_
          clear hK K
          repeat (with_reducible refine chain_skip0 ?_)
          with_reducible refine chain_step rfl fun K hK => ?_
          refine wp_append_row _ _ 22 rfl w1.heap.size 30 i0 _ 16 Try.underlying22 hi0 hz0 hz1 hz2 rfl (by decide) encS_len encS_one a5 0 c5 (P.map (·.1)) rfl (HS.out.non (hkW.alloc _).drew) _ 1 1 [(e, f)] rfl ((Reads.new (w := W) (cur := #[.int .i64 e, .int .i64 f]) (e := 30) (fr := (0, 0)) (x := (e, f)) rfl rfl).non ((Kp.refl _ _).drew)) (by omega) (by omega) (Nat.le_trans hsz2 (hkW.alloc _).drew.size) ?_
          intro a7 c7 w7 hO7 hk7 _
          refine hK _ _ (fun h => by cases h) ?_
          clear hK K
          repeat (with_reducible refine chain_skip0 ?_)
          with_reducible refine chain_step rfl fun K hK => ?_
          go_simp
          refine hK _ _ (fun h => by cases h) ?_
          clear hK K
          with_reducible refine chain_nil ?_
          have hkW7 : Kp Non w1 w7 := (hkr2.trans (hkW.alloc _).drew).comp hk7 (fun _ _ f => f) (fun i hi q => by have := (HS.out.blk i q).1; omega)
          have hV7 := (HV.out.non (hkW.alloc _).drew).kp hk7 (fun i q q' => rows_apart HS.out HV.out (by decide) i q' q)
          have HV7 := Lib.hid hV7
          have HO7 := Lib.hid hO7
          clear hV7 hO7
          go_wp2_with (at_builtin; refine wpList_append_row rfl _ _ 37 rfl w1.heap.size 3 j0 _ 8 Try.underlying37 hj0 hy0 hy1 hy2 rfl (by decide) encI_len encI_one a6 0 c6 (P.map (·.2)) rfl (HV7.out.non ((Kp.refl _ _).alloc _)) _ 1 1 [v] rfl (Reads.new rfl rfl) (by omega) (by omega) (Nat.le_trans hkW7.size (by simp)) ?_; intro a8 c8 w8 hO8 hk8 _)
          have hkT : Kp Non w7 (w7.alloc (.cells #[.int .i64 v] 3)) := (Kp.refl _ _).alloc _
          have hkW8 : Kp Non w1 w8 := (hkW7.trans hkT).comp hk8 (fun _ _ f => f) (fun i hi q => by have := (HV7.out.blk i q).1; omega)
          have hS8 := (HO7.out.non hkT).kp hk8 (fun i q q' => rows_apart (HV7.out.non hkT) (HO7.out.non hkT) (by decide) i q' q)
          go_roundw
          case rel =>
            refine ⟨i + 1, P ++ [((e, f), v)], a7, c7, a8, c8, by omega, by go_num, ?_, ?_, Lib.hid HX.out.symm, ?_, ?_, hkW8⟩
            · rw [List.length_append, HN.out]; rfl
            · rw [List.length_append, HN.out]; rfl
            · rw [List.length_append, HN.out, List.map_append]; exact hS8
            · rw [List.length_append, HN.out, List.map_append]; exact hO8
          case measure => simp [intOf]; omega
        · rw [List.concat_eq_append] at hP
          have HN : Hid (P.length = ot.length + 1) := Lib.hid (by rw [hP]; simp)
          have hl1 : (P.map (·.1)).length = ot.length + 1 := by rw [hP]; simp
          have hl2 : (P.map (·.2)).length = ot.length + 1 := by rw [hP]; simp
          have he1 : (P.map (·.1))[ot.length]'(by omega) = t.1 := by simp [hP]
          have he2 : (P.map (·.2))[ot.length]'(by omega) = t.2 := by simp [hP]
          rw [HN.out] at hS2 hV2 hol ⊢
          have hRo := hS2.reads encS_len (by omega)
          have hRv := hV2.reads encI_len (by omega)
          rcases hS2.lie with ⟨h1, h2, _⟩ | ⟨gg, cur, rfl, hgg, _⟩
          · omega
          obtain ⟨bv, ov, rfl⟩ := hRv.there (by omega)
          have y1 := Spans.c1 hRo (j := ot.length) (by omega)
          have u1 := Ints.c hRv (j := ot.length) (by omega)
          rw [he1, Nat.zero_add] at y1
          rw [he2] at u1
          have f1 := hS2.fz rfl (ot.length * 2 + 1)
          have HS := Lib.hid hS2
          have HV := Lib.hid hV2
          have hoc := hRo.cap
          have hvc := hRv.cap
          have hom := hRo.max
          have hvm := hRv.max
          have hwk : IntKind.i64.wrap (ot.length : Int) = (ot.length : Int) := by rw [IntKind.wrap_i64] <;> omega
          have gI : (ot.length : Int) < (ot.length : Int) + 1 := by omega
          have HPe := Lib.hid hP
          clear hS2 hV2 hRo hRv hl1 hl2 he1 he2 hP
          by_cases hle : t.1.2 = e
          · by_cases hve : t.2 = v
            · have HX : Hid (pl g E (i + 1) = ot ++ [((t.1.1, f), v)]) := Lib.hid (by rw [HPn.out, HPe.out, glu_yes ot [] t _ ⟨hle, hve⟩, ← hve])
              have HSm : Hid (P.map (·.1) = ot.map (·.1) ++ [t.1]) := Lib.hid (by rw [HPe.out]; simp)
              have HVm : Hid (P.map (·.2) = ot.map (·.2) ++ [v]) := Lib.hid (by rw [HPe.out, ← hve]; simp)
              subst hle
              subst hve
              go_wp2_with fail
              go_quiet (fail)
              go_wp2_with fail
              have hkq : Kp Non w2 (w2.drewN nq) := (Kp.refl _ _).drewN _
              have hS3 := HS.out.non hkq
              have hV3 := HV.out.non hkq
              rw [HSm.out] at hS3
              have hst := hS3.set (ot.length * 2 + 1) (.int .i64 f) (by
                have := flat_to (ot.map (·.1)) t.1 f
                rw [List.length_map] at this
                exact this)
              have hks : Kp (One gg) (w2.drewN nq) ((w2.drewN nq).setCell ⟨gg, ot.length * 2 + 1, none⟩ (.int .i64 f)) := Kp.setCell (S := One gg) (Kp.refl _ _) (p := ⟨gg, ot.length * 2 + 1, none⟩) (.inl rfl) _
              have hV4 := hV3.kp hks (fun i q (q' : i = gg) => rows_apart HV.out HS.out (by decide) i q (by rw [q']; exact ⟨_, rfl, rfl⟩))
              have h7 := (HS.out.blk gg ⟨_, rfl, rfl⟩).1
              refine ⟨⟨i + 1, ot ++ [((t.1.1, f), t.2)], some ⟨gg, 0, none⟩, c5, some ⟨bv, ov, none⟩, c6, by omega, by simp, by simp, by simp, Lib.hid HX.out.symm, ?_, ?_, (hkr2.trans hkq).comp hks (fun _ _ f => f) (fun i hi (q : i = gg) => by omega)⟩, by simp [intOf]; omega⟩
              · simpa using hst
              · rw [HVm.out] at hV4
                simpa using hV4
            · have HX : Hid (pl g E (i + 1) = P ++ [((e, f), v)]) := Lib.hid (by rw [HPn.out, HPe.out, glu_no ot [] t _ (fun h => hve h.2)]; simp)
              have hne : (t.2 == v) = false := by simp; exact hve
              subst hle
              go_wp2_with fail
              go_quiet (fail)
              go_wp2_with fail
              obtain ⟨W, hW⟩ : ∃ W, w2.drewN nq = W := ⟨_, rfl⟩
              have hkW : Kp Non w2 W := by rw [← hW]; exact (Kp.refl _ _).drewN _
              rw [hW]
              have z0 := hkW.drew.cell c0 (fun f => f)
              have z1 := hkW.drew.cell c1 (fun f => f)
              refine wp_region_chain [0,0,0,0,0,0,0,0,0,0,0,1,2,2] (by kernel_rfl) (by kernel_rfl) (fun w' => w'.cell? ⟨b1, o1 + i, none⟩ = some (.int .i64 t.1.2) ∧ w'.cell? ⟨b1, o1 + (i + 1), none⟩ = some (.int .i64 f)) ⟨z0, z1⟩ ?_
              repeat (first | (with_reducible refine pure_skip ?_) | ((with_reducible refine pure_k rfl ?_); intro K hK; apply Exists.intro; refine ⟨fun w' hC => ?_, ?_⟩; (obtain ⟨q1, q2⟩ := hC; go_simp; rfl); go_simp; refine hK _ ?_; clear hK K))
              with_reducible refine pure_nil ?_
              repeat (with_reducible refine chain_skip0 ?_)
              with_reducible refine chain_step rfl fun K hK => ?_
              go_simp
              refine hK _ _ (fun _ => ⟨(hkW.alloc _).drew.cell c0 (fun f => f), (hkW.alloc _).drew.cell c1 (fun f => f)⟩) ?_
              clear hK K
              repeat (with_reducible refine chain_skip0 ?_)
              with_reducible refine chain_step rfl fun K hK => ?_
              refine wp_append_row _ _ 22 rfl w1.heap.size 30 i0 _ 16 Try.underlying22 hi0 hz0 hz1 hz2 rfl (by decide) encS_len encS_one (some ⟨gg, 0, none⟩) (ot.length + 1) c5 (P.map (·.1)) rfl (HS.out.non (hkW.alloc _).drew) _ 1 1 [(t.1.2, f)] rfl ((Reads.new (w := W) (cur := #[.int .i64 t.1.2, .int .i64 f]) (e := 30) (fr := (0, 0)) (x := (t.1.2, f)) rfl rfl).non ((Kp.refl _ _).drew)) (by omega) (by omega) (Nat.le_trans hsz2 (hkW.alloc _).drew.size) ?_
              intro a7 c7 w7 hO7 hk7 _
              refine hK _ _ (fun h => by cases h) ?_
              clear hK K
              repeat (with_reducible refine chain_skip0 ?_)
              with_reducible refine chain_step rfl fun K hK => ?_
              go_simp
              refine hK _ _ (fun h => by cases h) ?_
              clear hK K
              with_reducible refine chain_nil ?_
              have hkW7 : Kp Non w1 w7 := (hkr2.trans (hkW.alloc _).drew).comp hk7 (fun _ _ f => f) (fun i hi q => by have := (HS.out.blk i q).1; omega)
              have hV7 := (HV.out.non (hkW.alloc _).drew).kp hk7 (fun i q q' => rows_apart HS.out HV.out (by decide) i q' q)
              have HV7 := Lib.hid hV7
              have HO7 := Lib.hid hO7
              clear hV7 hO7
              go_wp2_with (at_builtin; refine wpList_append_row rfl _ _ 37 rfl w1.heap.size 3 j0 _ 8 Try.underlying37 hj0 hy0 hy1 hy2 rfl (by decide) encI_len encI_one (some ⟨bv, ov, none⟩) (ot.length + 1) c6 (P.map (·.2)) rfl (HV7.out.non ((Kp.refl _ _).alloc _)) _ 1 1 [v] rfl (Reads.new rfl rfl) (by omega) (by omega) (Nat.le_trans hkW7.size (by simp)) ?_; intro a8 c8 w8 hO8 hk8 _)
              have hkT : Kp Non w7 (w7.alloc (.cells #[.int .i64 v] 3)) := (Kp.refl _ _).alloc _
              have hkW8 : Kp Non w1 w8 := (hkW7.trans hkT).comp hk8 (fun _ _ f => f) (fun i hi q => by have := (HV7.out.blk i q).1; omega)
              have hS8 := (HO7.out.non hkT).kp hk8 (fun i q q' => rows_apart (HV7.out.non hkT) (HO7.out.non hkT) (by decide) i q' q)
              go_roundw
              case rel =>
                refine ⟨i + 1, P ++ [((t.1.2, f), v)], a7, c7, a8, c8, by omega, by go_num, ?_, ?_, Lib.hid HX.out.symm, ?_, ?_, hkW8⟩
                · rw [List.length_append, HN.out]; rfl
                · rw [List.length_append, HN.out]; rfl
                · rw [List.length_append, HN.out, List.map_append]; exact hS8
                · rw [List.length_append, HN.out, List.map_append]; exact hO8
              case measure => simp [intOf]; omega
          · have HX : Hid (pl g E (i + 1) = P ++ [((e, f), v)]) := Lib.hid (by rw [HPn.out, HPe.out, glu_no ot [] t _ (fun h => hle h.1)]; simp)
            have hne : (t.1.2 == e) = false := by simp; exact hle
            go_wp2_with fail
            go_quiet (fail)
            go_wp2_with fail
            obtain ⟨W, hW⟩ : ∃ W, w2.drewN nq = W := ⟨_, rfl⟩
            have hkW : Kp Non w2 W := by rw [← hW]; exact (Kp.refl _ _).drewN _
            rw [hW]
            have z0 := hkW.drew.cell c0 (fun f => f)
            have z1 := hkW.drew.cell c1 (fun f => f)
            refine wp_region_chain [0,0,0,0,0,0,0,0,0,0,0,1,2,2] (by kernel_rfl) (by kernel_rfl) (fun w' => w'.cell? ⟨b1, o1 + i, none⟩ = some (.int .i64 e) ∧ w'.cell? ⟨b1, o1 + (i + 1), none⟩ = some (.int .i64 f)) ⟨z0, z1⟩ ?_
            repeat (first | (with_reducible refine pure_skip ?_) | ((with_reducible refine pure_k rfl ?_); intro K hK; apply Exists.intro; refine ⟨fun w' hC => ?_, ?_⟩; (obtain ⟨q1, q2⟩ := hC; go_simp; rfl); go_simp; refine hK _ ?_; clear hK K))
            with_reducible refine pure_nil ?_
            repeat (with_reducible refine chain_skip0 ?_)
            with_reducible refine chain_step rfl fun K hK => ?_
            go_simp
            refine hK _ _ (fun _ => ⟨(hkW.alloc _).drew.cell c0 (fun f => f), (hkW.alloc _).drew.cell c1 (fun f => f)⟩) ?_
            clear hK K
            repeat (with_reducible refine chain_skip0 ?_)
            with_reducible refine chain_step rfl fun K hK => ?_
            refine wp_append_row _ _ 22 rfl w1.heap.size 30 i0 _ 16 Try.underlying22 hi0 hz0 hz1 hz2 rfl (by decide) encS_len encS_one (some ⟨gg, 0, none⟩) (ot.length + 1) c5 (P.map (·.1)) rfl (HS.out.non (hkW.alloc _).drew) _ 1 1 [(e, f)] rfl ((Reads.new (w := W) (cur := #[.int .i64 e, .int .i64 f]) (e := 30) (fr := (0, 0)) (x := (e, f)) rfl rfl).non ((Kp.refl _ _).drew)) (by omega) (by omega) (Nat.le_trans hsz2 (hkW.alloc _).drew.size) ?_
            intro a7 c7 w7 hO7 hk7 _
            refine hK _ _ (fun h => by cases h) ?_
            clear hK K
            repeat (with_reducible refine chain_skip0 ?_)
            with_reducible refine chain_step rfl fun K hK => ?_
            go_simp
            refine hK _ _ (fun h => by cases h) ?_
            clear hK K
            with_reducible refine chain_nil ?_
            have hkW7 : Kp Non w1 w7 := (hkr2.trans (hkW.alloc _).drew).comp hk7 (fun _ _ f => f) (fun i hi q => by have := (HS.out.blk i q).1; omega)
            have hV7 := (HV.out.non (hkW.alloc _).drew).kp hk7 (fun i q q' => rows_apart HS.out HV.out (by decide) i q' q)
            have HV7 := Lib.hid hV7
            have HO7 := Lib.hid hO7
            clear hV7 hO7
            go_wp2_with (at_builtin; refine wpList_append_row rfl _ _ 37 rfl w1.heap.size 3 j0 _ 8 Try.underlying37 hj0 hy0 hy1 hy2 rfl (by decide) encI_len encI_one (some ⟨bv, ov, none⟩) (ot.length + 1) c6 (P.map (·.2)) rfl (HV7.out.non ((Kp.refl _ _).alloc _)) _ 1 1 [v] rfl (Reads.new rfl rfl) (by omega) (by omega) (Nat.le_trans hkW7.size (by simp)) ?_; intro a8 c8 w8 hO8 hk8 _)
            have hkT : Kp Non w7 (w7.alloc (.cells #[.int .i64 v] 3)) := (Kp.refl _ _).alloc _
            have hkW8 : Kp Non w1 w8 := (hkW7.trans hkT).comp hk8 (fun _ _ f => f) (fun i hi q => by have := (HV7.out.blk i q).1; omega)
            have hS8 := (HO7.out.non hkT).kp hk8 (fun i q q' => rows_apart (HV7.out.non hkT) (HO7.out.non hkT) (by decide) i q' q)
            go_roundw
            case rel =>
              refine ⟨i + 1, P ++ [((e, f), v)], a7, c7, a8, c8, by omega, by go_num, ?_, ?_, Lib.hid HX.out.symm, ?_, ?_, hkW8⟩
              · rw [List.length_append, HN.out]; rfl
              · rw [List.length_append, HN.out]; rfl
              · rw [List.length_append, HN.out, List.map_append]; exact hS8
              · rw [List.length_append, HN.out, List.map_append]; exact hO8
            case measure => simp [intOf]; omega
    · have HX : Hid (P = piecesM g E) := Lib.hid (by rw [HP.out]; exact pl_last (by omega))
      have g1 : ¬ (i : Int) + 1 < (E.length : Nat) := by omega
      go_wp2_with fail
      go_ret2
      rw [← HX.out]
      exact ⟨a5, c5, a6, c6, rfl, hS.lower hk1'.size, hV.lower hk1'.size, hk1'.trans hkr⟩
end Go.Proofs.Ytkgjpmgoapfamaa
