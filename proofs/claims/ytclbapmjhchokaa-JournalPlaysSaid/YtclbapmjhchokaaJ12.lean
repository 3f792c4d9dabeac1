/-
  A journal's calls: Add, whole.
-/
import Derived.Test.YtclbapmjhchokaaJ11
namespace Go.Proofs.Ytclbapmjhchokaa
open Go.RowKit
variable {F : Nat → Prop}
section
variable {b0 : Nat} {w : World} {j d : Nat} {s : St} {J : JSt} {ra : Option Addr}

/-- Three boxes. -/
theorem box3 (w : World) (v1 v2 v3 : Value) (t1 t2 t3 : TypeId) :
    Box (((w.alloc (.cells #[v1] t1)).alloc (.cells #[v2] t2)).alloc (.cells #[v3] t3)) w.heap.size v1 t1 ∧ Box (((w.alloc (.cells #[v1] t1)).alloc (.cells #[v2] t2)).alloc (.cells #[v3] t3)) (w.heap.size + 1) v2 t2 ∧
      Box (((w.alloc (.cells #[v1] t1)).alloc (.cells #[v2] t2)).alloc (.cells #[v3] t3)) (w.heap.size + 2) v3 t3 := by
  obtain ⟨h1, h2⟩ := box2 w v1 v2 t1 t2
  refine ⟨h1.kp ((Kp.refl Non _).alloc _) (fun f => f), h2.kp ((Kp.refl Non _).alloc _) (fun f => f), ?_⟩
  have := Box.new ((w.alloc (.cells #[v1] t1)).alloc (.cells #[v2] t2)) v3 t3
  simpa using this

set_option maxHeartbeats 1000000 in
theorem jadd_calls (h : Jou F b0 w j d s J ra) (hok : s.ok) (a : Option Addr) (n c : Nat) (r : List UInt8) (hb : Bytes w a n c r) (hsz : sizes J.recs ≤ 1000000000000) : Calls Try.prog 47 #[.pointer (some ⟨j, 0, none⟩), .slice a n c] w (JPost F b0 j d ra (jadd s J r) w) := by
  have hmf := mfunc
  have HO := Lib.hid hok
  have h4 := h.cells4.1
  have HN := Lib.hid hb.len
  clear hok
  by_cases hJ : J.down = true
  · have HQ := Lib.hid (show jadd s J r = (7, s, J) by unfold jadd; rw [if_pos hJ])
    rw [hJ] at h4
    generalize jadd s J r = Q at *
    clear hJ
    go_enter Try.func47, Try.ntmps47
    go_wp2_with fail
    have hk0 : Kp Non w (((w.alloc (.cells #[.pointer (some ⟨j, 0, none⟩)] 56)).alloc (.cells #[.slice a n c] 22)).alloc (.cells #[.slice none 0 0] 22)) := (((Kp.refl _ _).alloc _).alloc _).alloc _
    refine (try_down j _ _ _ (hk0.cell h4 (fun f => f))).mono ?_
    rintro e w1 ⟨rfl, rfl⟩
    go_wp2_with fail
    go_ret
    rw [HQ.out]
    exact JPost.same h rfl hk0
  · have hJ' : J.down = false := by simpa using hJ
    have HQ := Lib.hid (show jadd s J r = ((japp s r).1, (japp s r).2, if (japp s r).1 = 0 then { J with recs := J.recs ++ [r] } else tell J (japp s r).1) by
      unfold jadd
      rw [if_neg hJ])
    rw [hJ'] at h4
    have HJ := Lib.hid hJ'
    generalize jadd s J r = Q at *
    clear hJ hJ'
    go_enter Try.func47, Try.ntmps47
    go_wp2_with fail
    have hk0 : Kp Non w (((w.alloc (.cells #[.pointer (some ⟨j, 0, none⟩)] 56)).alloc (.cells #[.slice a n c] 22)).alloc (.cells #[.slice none 0 0] 22)) := (((Kp.refl _ _).alloc _).alloc _).alloc _
    obtain ⟨hx, hr, hf⟩ := box3 w (.pointer (some ⟨j, 0, none⟩)) (.slice a n c) (.slice none 0 0) 56 22 22
    have hb' := hb.non hk0
    have H := h.non hk0
    have hd0 := h.dev.lt
    have hold := h.old
    have hz := hk0.size
    have hq0 := hk0.cell h4 (fun f => f)
    have hbr : ¬ Blk ra (w.heap.size + 1) := fun q => by have := (hold _ (.inr (.inr q))).2; omega
    have hbf : ¬ Blk ra (w.heap.size + 2) := fun q => by have := (hold _ (.inr (.inr q))).2; omega
    have hbfj : w.heap.size + 2 ≠ j := fun q => by have := (hold j (.inr (.inl rfl))).2; omega
    generalize hW : (((w.alloc (.cells #[.pointer (some ⟨j, 0, none⟩)] 56)).alloc (.cells #[.slice a n c] 22)).alloc (.cells #[.slice none 0 0] 22)) = W at *
    have hfnb := hf.noB (NB.slice _ _ _)
    -- what the asking leaves
    have hstep : ∀ w1, Asked F d (w.heap.size + 2) (japp s r).2 r W w1 → Jou F b0 w1 j d (japp s r).2 J ra ∧ Kp (JS d j ra) w w1 ∧ Bytes w1 a n c r ∧ Box w1 w.heap.size (.pointer (some ⟨j, 0, none⟩)) 56 ∧ Box w1 (w.heap.size + 1) (.slice a n c) 22 := by
      rintro w1 ⟨hd1, hk1, _⟩
      have hnb : NoB (fun k => k = d ∨ k = w.heap.size + 2) W := by
        rintro ad b hc (q | q)
        · exact H.dev.noB ad b hc q
        · exact hfnb ad b hc q
      refine ⟨?_, ?_, hb'.nob hk1 hnb, hx.kp hk1 ?_, hr.kp hk1 ?_⟩
      · obtain ⟨rc, ia, ic, vs, h5⟩ := H
        refine ⟨rc, ia, ic, vs, hk1.heap h5.row ?_, hd1, h5.image.nob hk1 hnb, h5.ai, h5.rows.kp hk1 ?_, h5.recs.kp hk1 hnb, h5.fd, h5.fj, h5.fr, h5.bd, h5.bj, h5.br⟩
        · rintro (q | q)
          · exact h5.jd q
          · exact hbfj q.symm
        · rintro i hi (q | q)
          · exact h5.rd (q ▸ hi)
          · exact hbf (q ▸ hi)
      · exact hk0.comp hk1 (fun _ _ f => f.elim) (fun i hi q => by
          rcases q with q | q
          · exact .inl q
          · omega)
      · rintro (q | q) <;> omega
      · rintro (q | q) <;> omega
    have HS := Lib.hid hstep
    clear hstep
    refine (try_calls j 87 88 #[] _ _ (japp s r).1 (fun w1 => Asked F d (w.heap.size + 2) (japp s r).2 r W w1)
      (fun w2 => ∃ ra', (∀ k, Blk ra' k → Blk ra k ∨ w.heap.size ≤ k) ∧ Jou F b0 w2 j d (japp s r).2 { J with recs := J.recs ++ [r] } ra' ∧ Kp (JS d j ra) w w2) W hq0 (by intro w; simp [go_sem]) (by intro w; simp [go_sem]) ?_ ?_ ?_).mono ?_
    · exact add_asks w.heap.size (w.heap.size + 1) (w.heap.size + 2) a n c r none 0 0 hx hr hf H HO.out hb' (by omega)
    · rintro h0 w1 hp
      obtain ⟨h1, k1, hb1, hx1, hr1⟩ := HS.out w1 hp
      have hle : r.length ≤ 1048576 := Classical.byContradiction fun hn => by
        unfold japp at h0
        rw [if_pos (by omega)] at h0
        cases h0
      obtain ⟨fa, fc, hf1⟩ := hp.2.2 hle
      refine (add_does w.heap.size (w.heap.size + 1) (w.heap.size + 2) a n c r fa fc hx1 hr1 hf1 h1 hb1 (by have := HN.out; omega) hsz hbr hbf).mono ?_
      rintro e w2 ⟨rfl, ra', q1, q2, q3⟩
      have hs1 := k1.size
      exact ⟨rfl, ra', fun k hk => (q1 k hk).imp_right fun q => Nat.le_trans hs1 q, q2, k1.comp q3 (fun _ _ q => q) (fun _ _ q => by
        rcases q with q | q | q
        · exact .inr (.inl q)
        · exact .inr (.inl q)
        · exact .inr (.inr q))⟩
    · rintro w1 hp
      have h5 := (HS.out w1 hp).1.cells4
      rw [HJ.out] at h5
      exact h5
    rintro e w1 hp
    have he := hp.1
    have hp' : JPost F b0 j d ra ((japp s r).1, (japp s r).2, if (japp s r).1 = 0 then { J with recs := J.recs ++ [r] } else tell J (japp s r).1) w e w1 :=
      JPost.of_try hp (fun w2 h2 => ⟨(HS.out w2 h2).1, (HS.out w2 h2).2.1⟩) (fun _ h2 => h2)
    subst he
    have HP := Lib.hid hp'
    clear hp hp'
    go_wp2_with fail
    go_ret
    rw [HQ.out]
    exact HP.out
end
end Go.Proofs.Ytclbapmjhchokaa
