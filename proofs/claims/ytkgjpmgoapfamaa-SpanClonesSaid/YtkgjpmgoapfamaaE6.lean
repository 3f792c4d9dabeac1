/-
  The document's Build.
-/
import Derived.Test.YtkgjpmgoapfamaaE5
namespace Go.Proofs.Ytkgjpmgoapfamaa
open Go.RowKit

/-- What Build has laid behind i parts. -/
def bl (g : Int → Bool) (E : List Int) (i : Nat) : List Sp := ((segs (E.take (i + 1))).filter fun s => g s.1).foldl nstep []
theorem bl_zero (g : Int → Bool) (E : List Int) : bl g E 0 = [] := by
  cases E <;> rfl
theorem bl_succ (g : Int → Bool) {E : List Int} {i : Nat} (h : i + 1 < E.length) : bl g E (i + 1) = if g E[i] then nstep (bl g E i) (E[i], E[i + 1]) else bl g E i := by
  have e1 : E.take (i + 1) = E.take i ++ [E[i]] := List.take_succ_eq_append_getElem (by omega)
  have e2 : E.take (i + 1 + 1) = E.take i ++ [E[i], E[i + 1]] := by rw [List.take_succ_eq_append_getElem h, e1, List.append_assoc]; rfl
  unfold bl
  rw [e2, segs_snoc, ← e1, List.filter_append, List.foldl_append, List.filter_cons]
  cases g E[i] <;> rfl
theorem bl_to {g : Int → Bool} {E : List Int} (hE : RiseI E) : ∀ {i : Nat} (h : i < E.length), ∀ t ∈ bl g E i, t.2 ≤ E[i] := by
  intro i
  induction i with
  | zero => intro h t ht; rw [bl_zero] at ht; cases ht
  | succ i ih =>
    intro h t ht
    have hlt : E[i] < E[i + 1] := (List.pairwise_iff_getElem.1 hE) i (i + 1) (by omega) h (by omega)
    rw [bl_succ g h] at ht
    split at ht
    · rcases List.eq_nil_or_concat (bl g E i) with e | ⟨o, u, e⟩
      · rw [e, nstep_nil] at ht
        rw [List.mem_singleton.1 ht]
        exact Int.le_refl _
      · rw [List.concat_eq_append] at e
        have hu := ih (by omega) u (by rw [e]; exact List.mem_append.2 (.inr (List.mem_singleton.2 rfl)))
        have ho : ∀ v ∈ o, v.2 ≤ E[i] := fun v hv => ih (by omega) v (by rw [e]; exact List.mem_append.2 (.inl hv))
        by_cases hle : E[i] ≤ u.2
        · rw [e, nstep_join hle] at ht
          rcases List.mem_append.1 ht with ht | ht
          · have := ho t ht; omega
          · rw [List.mem_singleton.1 ht]
            show (if u.2 < E[i + 1] then E[i + 1] else u.2) ≤ _
            split <;> omega
        · rw [e, nstep_more (by show u.2 < E[i]; omega)] at ht
          rcases List.mem_append.1 ht with ht | ht
          · rcases List.mem_append.1 ht with ht | ht
            · have := ho t ht; omega
            · rw [List.mem_singleton.1 ht]; omega
          · rw [List.mem_singleton.1 ht]
            exact Int.le_refl _
    · have := ih (by omega) t ht
      omega
theorem bl_last {g : Int → Bool} {E : List Int} {i : Nat} (h : E.length ≤ i + 1) : bl g E i = buildL g E := by
  unfold bl buildL
  rw [List.take_of_length_le h]
theorem bl_len (g : Int → Bool) (E : List Int) (i : Nat) : (bl g E i).length ≤ i := by
  induction i with
  | zero => rw [bl_zero]; simp
  | succ i ih =>
    by_cases h : i + 1 < E.length
    · rw [bl_succ g h]
      split
      · have := nstep_len (bl g E i) (E[i], E[i + 1])
        omega
      · omega
    · have e1 : bl g E (i + 1) = buildL g E := bl_last (by omega)
      by_cases h2 : E.length ≤ i + 1
      · rw [e1, ← bl_last (g := g) h2]; omega
      · omega

set_option maxRecDepth 100000 in
set_option maxHeartbeats 1000000 in
theorem build_calls (g : Int → Bool) (a : Option Addr) (n c : Nat) (E : List Int) (a' : Option Addr) (n' c' : Nat) (w : World) (h : Ints w a n c E) (h' : Bools w a' n' c' (E.map g)) (hr : RiseI E) (hn : n ≤ 1000000000) : Calls Try.prog 52 #[.slice a n c, .slice a' n' c'] w (SpansOut (buildL g E) w) := by
  obtain rfl := h.len
  have hln : n' = E.length := by rw [h'.len, List.length_map]
  subst hln
  obtain ⟨i0, hi0, hz0, hz1, hz2⟩ := info_parts infoS
  have hc := h.cap
  have hm := h.max
  have hc' := h'.cap
  have hm' := h'.max
  have HR := Lib.hid hr
  clear hr
  go_enter Try.func52, Try.ntmps52
  go_wp2_with fail
  go_loopw [5, 6] (fun v5 v6 wr => ∃ (i : Nat) (out : List Sp) (a5 : Option Addr) (c5 : Nat), i ≤ E.length ∧ v6 = .int .i64 i ∧ v5 = .slice a5 out.length c5 ∧ Hid (out = bl g E i) ∧ OwnS wr w.heap.size a5 out.length c5 out ∧ Kp Non w wr) (fun _ v6 _ => E.length - (intOf v6).toNat)
  case atStart => exact ⟨0, [], none, 0, by omega, rfl, rfl, Lib.hid (bl_zero g E).symm, OwnR.nil _ _ _, Kp.refl _ _⟩
  case round =>
    obtain ⟨i, out, a5, c5, hi, rfl, rfl, HO, hO, hkr⟩ := hrel
    have hol : out.length ≤ i := by rw [HO.out]; exact bl_len g E i
    have hwi : IntKind.i64.wrap ((i : Int) + 1) = (i : Int) + 1 := by rw [IntKind.wrap_i64] <;> omega
    by_cases hlt : i + 1 < E.length
    · have g1 : (i : Int) + 1 < (E.length : Nat) := by omega
      have gz : (0 : Int) ≤ (i : Int) + 1 := by omega
      have g0 : (i : Int) < (E.length : Nat) := by omega
      obtain ⟨b, o, rfl⟩ := h.there (by omega)
      obtain ⟨b', o', rfl⟩ := h'.there (by omega)
      have c0 := Ints.c (h.non hkr) (j := i) (by omega)
      have c1 := Ints.c (h.non hkr) (j := i + 1) hlt
      have d0 := Bools.c (h'.non hkr) (j := i) (by simp; omega)
      simp only [List.getElem_map] at d0
      have HN := Lib.hid (bl_succ g hlt)
      have hee : E[i] < E[i + 1] := (List.pairwise_iff_getElem.1 HR.out) i (i + 1) (by omega) hlt (by omega)
      have HT := Lib.hid (fun (t : Sp) (ht : t ∈ out) => bl_to (g := g) HR.out (i := i) (by omega) t (by rw [← HO.out]; exact ht))
      rw [← HO.out] at HN
      generalize E[i] = e at *
      generalize E[i + 1] = f at *
      generalize g e = kp at *
      cases kp with
      | false =>
        go_wp2_with fail
        go_roundw
        case rel => exact ⟨i + 1, out, a5, c5, by omega, by go_num, rfl, Lib.hid (by rw [HN.out]; rfl), hO, hkr⟩
        case measure => simp [intOf]; omega
      | true =>
        rcases List.eq_nil_or_concat out with rfl | ⟨ot, t, rfl⟩
        · rw [show ([] : List Sp).length = 0 from rfl] at *
          go_wp2_with fail
          go_quiet (fail)
          go_wp2_with fail
          have HX : Hid (bl g E (i + 1) = [(e, f)]) := Lib.hid (by have h0 := HN.out; (first | rw [if_pos trivial] at h0 | rw [if_pos rfl] at h0); rw [h0, nstep_nil])
          obtain ⟨W, hW⟩ : ∃ W, wr.drewN nq = W := ⟨_, rfl⟩
          have hkW : Kp Non wr W := by rw [← hW]; exact (Kp.refl _ _).drewN _
          rw [hW]
          have z0 := hkW.drew.cell c0 (fun f => f)
          have z1 := hkW.drew.cell c1 (fun f => f)
          refine wp_region_chain [0,0,0,0,0,0,0,0,0,0,0,1,2,2] (by kernel_rfl) (by kernel_rfl) (fun w' => w'.cell? ⟨b, o + i, none⟩ = some (.int .i64 e) ∧ w'.cell? ⟨b, o + (i + 1), none⟩ = some (.int .i64 f)) ⟨z0, z1⟩ ?_
          repeat (first | (with_reducible refine pure_skip ?_) | ((with_reducible refine pure_k rfl ?_); intro K hK; apply Exists.intro; refine ⟨fun w' hC => ?_, ?_⟩; (obtain ⟨q1, q2⟩ := hC; go_simp; rfl); go_simp; refine hK _ ?_; clear hK K))
          with_reducible refine pure_nil ?_
          repeat (with_reducible refine chain_skip0 ?_)
          with_reducible refine chain_step rfl fun K hK => ?_
          go_simp
          refine hK _ _ (fun _ => ⟨(hkW.alloc _).drew.cell c0 (fun f => f), (hkW.alloc _).drew.cell c1 (fun f => f)⟩) ?_
          clear hK K
          repeat (with_reducible refine chain_skip0 ?_)
          with_reducible refine chain_step rfl fun K hK => ?_
          refine wp_append_row _ _ 22 rfl w.heap.size 30 i0 _ 16 Try.underlying22 hi0 hz0 hz1 hz2 rfl (by decide) encS_len encS_one a5 0 c5 [] rfl (hO.non (hkW.alloc _).drew) _ 1 1 [(e, f)] rfl ((Reads.new (w := W) (cur := #[.int .i64 e, .int .i64 f]) (e := 30) (fr := (0, 0)) (x := (e, f)) rfl rfl).non ((Kp.refl _ _).drew)) (by omega) (by omega) ?_ ?_
          · exact Nat.le_trans hkr.size (hkW.alloc _).drew.size
          intro a6 c6 w6 hO6 hk6 _
          refine hK _ _ (fun h => by cases h) ?_
          clear hK K
          repeat (with_reducible refine chain_skip0 ?_)
          with_reducible refine chain_step rfl fun K hK => ?_
          go_simp
          refine hK _ _ (fun h => by cases h) ?_
          clear hK K
          with_reducible refine chain_nil ?_
          go_wp2_with fail
          go_roundw
          case rel =>
            refine ⟨i + 1, _, a6, c6, by omega, by go_num, ?_, Lib.hid HX.out.symm, ?_, (hkr.trans (hkW.alloc _).drew).comp hk6 (fun _ _ f => f) (fun i hi q => ?_)⟩
            · simp
            · simpa using hO6
            · have := (hO.blk i q).1; omega
          case measure => simp [intOf]; omega
        · rw [List.concat_eq_append] at *
          have ho : (ot ++ [t]).length = ot.length + 1 := by simp
          have hte := HT.out t (List.mem_append.2 (.inr (List.mem_singleton.2 rfl)))
          rw [ho] at hO hol ⊢
          have hRo := hO.reads encS_len (by omega)
          rcases hO.lie with ⟨h1, h2, _⟩ | ⟨gg, cur, rfl, hgg, _⟩
          · omega
          have y1 := Spans.c1 hRo (j := ot.length) (by omega)
          simp only [List.getElem_append_right (Nat.le_refl _), Nat.sub_self, List.getElem_cons_zero, Nat.zero_add] at y1
          have f1 := hO.fz rfl (ot.length * 2 + 1)
          have HOw := Lib.hid hO
          have hgl := (hO.blk gg ⟨_, rfl, rfl⟩).2
          have hoc := hRo.cap
          clear hO hRo
          have hwk : IntKind.i64.wrap (ot.length : Int) = (ot.length : Int) := by rw [IntKind.wrap_i64] <;> omega
          have gI : (ot.length : Int) < (ot.length : Int) + 1 := by omega
          by_cases hle : t.2 = e
          · have HX : Hid (bl g E (i + 1) = ot ++ [(t.1, f)]) := Lib.hid (by
              have h0 := HN.out
              (first | rw [if_pos trivial] at h0 | rw [if_pos rfl] at h0)
              rw [h0, nstep_join (by show e ≤ t.2; omega)]
              show ot ++ [(t.1, if t.2 < f then f else t.2)] = _
              rw [if_pos (by omega)])
            subst hle
            go_wp2_with fail
            go_quiet (fail)
            go_wp2_with fail
            go_roundw
            case rel =>
              have hst := ((HOw.out.non ((Kp.refl Non wr).drewN nq)).set (ot.length * 2 + 1) (.int .i64 f) (flat_to ot t f))
              refine ⟨i + 1, ot ++ [(t.1, f)], some ⟨gg, 0, none⟩, c5, by omega, by go_num, by simp, Lib.hid HX.out.symm, by simpa using hst, (hkr.drewN nq).comp (Kp.setCell (S := One gg) (Kp.refl _ _) (p := ⟨gg, ot.length * 2 + 1, none⟩) (.inl rfl) _) (fun _ _ f => f) (fun i hi q => ?_)⟩
              have h7 := (HOw.out.blk gg ⟨_, rfl, rfl⟩).1
              have q : i = gg := q
              omega
            case measure => simp [intOf]; omega
          · have HX : Hid (bl g E (i + 1) = ot ++ [t] ++ [(e, f)]) := Lib.hid (by have h0 := HN.out; (first | rw [if_pos trivial] at h0 | rw [if_pos rfl] at h0); rw [h0, nstep_more (by show t.2 < e; omega)])
            have hne : (t.2 == e) = false := by simp; exact hle
            go_wp2_with fail
            go_quiet (fail)
            go_wp2_with fail
            obtain ⟨W, hW⟩ : ∃ W, wr.drewN nq = W := ⟨_, rfl⟩
            have hkW : Kp Non wr W := by rw [← hW]; exact (Kp.refl _ _).drewN _
            rw [hW]
            have z0 := hkW.drew.cell c0 (fun f => f)
            have z1 := hkW.drew.cell c1 (fun f => f)
            refine wp_region_chain [0,0,0,0,0,0,0,0,0,0,0,1,2,2] (by kernel_rfl) (by kernel_rfl) (fun w' => w'.cell? ⟨b, o + i, none⟩ = some (.int .i64 e) ∧ w'.cell? ⟨b, o + (i + 1), none⟩ = some (.int .i64 f)) ⟨z0, z1⟩ ?_
            repeat (first | (with_reducible refine pure_skip ?_) | ((with_reducible refine pure_k rfl ?_); intro K hK; apply Exists.intro; refine ⟨fun w' hC => ?_, ?_⟩; (obtain ⟨q1, q2⟩ := hC; go_simp; rfl); go_simp; refine hK _ ?_; clear hK K))
            with_reducible refine pure_nil ?_
            repeat (with_reducible refine chain_skip0 ?_)
            with_reducible refine chain_step rfl fun K hK => ?_
            go_simp
            refine hK _ _ (fun _ => ⟨(hkW.alloc _).drew.cell c0 (fun f => f), (hkW.alloc _).drew.cell c1 (fun f => f)⟩) ?_
            clear hK K
            repeat (with_reducible refine chain_skip0 ?_)
            with_reducible refine chain_step rfl fun K hK => ?_
            refine wp_append_row _ _ 22 rfl w.heap.size 30 i0 _ 16 Try.underlying22 hi0 hz0 hz1 hz2 rfl (by decide) encS_len encS_one (some ⟨gg, 0, none⟩) (ot.length + 1) c5 (ot ++ [t]) rfl (HOw.out.non (hkW.alloc _).drew) _ 1 1 [(e, f)] rfl ((Reads.new (w := W) (cur := #[.int .i64 e, .int .i64 f]) (e := 30) (fr := (0, 0)) (x := (e, f)) rfl rfl).non ((Kp.refl _ _).drew)) (by omega) (by omega) ?_ ?_
            · exact Nat.le_trans hkr.size (hkW.alloc _).drew.size
            intro a6 c6 w6 hO6 hk6 _
            refine hK _ _ (fun h => by cases h) ?_
            clear hK K
            repeat (with_reducible refine chain_skip0 ?_)
            with_reducible refine chain_step rfl fun K hK => ?_
            go_simp
            refine hK _ _ (fun h => by cases h) ?_
            clear hK K
            with_reducible refine chain_nil ?_
            go_wp2_with fail
            go_roundw
            case rel =>
              refine ⟨i + 1, _, a6, c6, by omega, by go_num, ?_, Lib.hid HX.out.symm, ?_, (hkr.trans (hkW.alloc _).drew).comp hk6 (fun _ _ f => f) (fun i hi q => ?_)⟩
              · simp
              · simpa using hO6
              · have := (HOw.out.blk i q).1; omega
            case measure => simp [intOf]; omega
    · have HX : Hid (out = buildL g E) := Lib.hid (by rw [HO.out]; exact bl_last (by omega))
      have g1 : ¬ (i : Int) + 1 < (E.length : Nat) := by omega
      go_wp2_with fail
      go_ret
      rw [← HX.out]
      exact ⟨a5, c5, rfl, hO, hkr⟩
end Go.Proofs.Ytkgjpmgoapfamaa
