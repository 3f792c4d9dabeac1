/-
  span.Cut, span.Gaps.
-/
import Derived.Test.YtdijaillcajpaaaB5
namespace Go.Proofs.Ytdijaillcajpaaa
open Go.RowKit

theorem insS_len (s : Sp) (l : List Sp) : (insS s l).length = l.length + 1 := by
  induction l with
  | nil => rfl
  | cons t l ih => unfold insS; split <;> simp [ih]
theorem sortS_len (l : List Sp) : (sortS l).length = l.length := by
  induction l with
  | nil => rfl
  | cons s l ih => simp [sortS, insS_len, ih]
theorem norm_len (l : List Sp) : (norm l).length ≤ l.length := by
  have h1 := nfold_len (sortS (l.filter full)) []
  rw [sortS_len] at h1
  have h2 := List.length_filter_le full l
  unfold norm
  simp only [List.length_nil] at h1
  omega
theorem skip_len (f : Int) (b : List Sp) : (skip f b).length ≤ b.length := by
  induction b with
  | nil => exact Nat.le_refl _
  | cons t b ih => unfold skip; split <;> simp <;> omega
theorem one_len (s : Sp) : (one s).length ≤ 1 := by unfold one; split <;> simp
theorem bite_len (s : Sp) (b : List Sp) : (bite s b).length ≤ b.length + 1 := by
  induction b generalizing s with
  | nil => unfold bite; have := one_len s; simp; omega
  | cons t b ih =>
    unfold bite
    split
    · have := ih (t.2, s.2); have := one_len (s.1, t.1); simp; omega
    · have := one_len s; simp; omega
theorem cut_len (a b : List Sp) : (cut a b).length ≤ a.length * (b.length + 1) := by
  induction a generalizing b with
  | nil => simp [cut]
  | cons s a ih =>
    unfold cut
    have h1 := bite_len s (skip s.1 b)
    have h2 := ih (skip s.1 b)
    have h3 := skip_len s.1 b
    have h4 : a.length * ((skip s.1 b).length + 1) ≤ a.length * (b.length + 1) := Nat.mul_le_mul_left _ (by omega)
    rw [List.length_append, List.length_cons, Nat.add_mul, Nat.one_mul]
    omega

/-- A box of a span. -/
def BoxS (W : World) (b : Nat) (s : Sp) : Prop := W.heap[b]? = some (.cells #[.int .i64 s.1, .int .i64 s.2] 36 (0, 0))
theorem BoxS.new (w : World) (s : Sp) : BoxS (w.alloc (.cells #[.int .i64 s.1, .int .i64 s.2] 36)) w.heap.size s := heap_alloc_new w _
theorem BoxS.non {W W' : World} {b : Nat} {s : Sp} (h : BoxS W b s) (k : Kp Non W W') : BoxS W' b s := k.heap h (fun f => f)
theorem BoxS.kp {S : Nat → Prop} {W W' : World} {b : Nat} {s : Sp} (h : BoxS W b s) (k : Kp S W W') (hn : ¬ S b) : BoxS W' b s := k.heap h hn
theorem BoxS.c0 {W : World} {b : Nat} {s : Sp} (h : BoxS W b s) : W.cell? ⟨b, 0, none⟩ = some (.int .i64 s.1) := (cell_of_row W b 0 _ _ _ h).trans rfl
theorem BoxS.c1 {W : World} {b : Nat} {s : Sp} (h : BoxS W b s) : W.cell? ⟨b, 1, none⟩ = some (.int .i64 s.2) := (cell_of_row W b 1 _ _ _ h).trans rfl
theorem BoxS.fz {W : World} {b : Nat} {s : Sp} (h : BoxS W b s) (i : Nat) : W.frozen? ⟨b, i, none⟩ = false := by
  unfold BoxS at h
  simp [World.frozen?, h]
theorem BoxS.lt {W : World} {b : Nat} {s : Sp} (h : BoxS W b s) : b < W.heap.size := heap_lt h
theorem BoxS.set {W : World} {b : Nat} {s : Sp} (h : BoxS W b s) (x : Int) : BoxS (W.setCell ⟨b, 0, none⟩ (.int .i64 x)) b (x, s.2) := by
  have := heap_setCell_same W b 0 _ _ (.int .i64 x) h
  exact this

theorem skip_stop {f : Int} {b : List Sp} {q : Nat} (hq : q < b.length) (h : f < b[q].2) : skip f (b.drop q) = b.drop q := by
  rw [List.drop_eq_getElem_cons hq, skip, if_neg (by omega)]
theorem skip_go {f : Int} {b : List Sp} {q : Nat} (hq : q < b.length) (h : b[q].2 ≤ f) : skip f (b.drop (q + 1)) = skip f (b.drop q) := by
  conv => rhs; rw [List.drop_eq_getElem_cons hq, skip, if_pos h]
theorem bite_stop {s : Sp} {b : List Sp} {i : Nat} (hi : i < b.length) (h : s.2 ≤ b[i].1) : bite s (b.drop i) = one s := by
  rw [List.drop_eq_getElem_cons hi, bite, if_neg (by omega)]
theorem bite_go {s : Sp} {b : List Sp} {i : Nat} (hi : i < b.length) (h : b[i].1 < s.2) : bite s (b.drop i) = one (s.1, b[i].1) ++ bite (b[i].2, s.2) (b.drop (i + 1)) := by
  rw [List.drop_eq_getElem_cons hi, bite, if_pos h]

set_option maxRecDepth 100000 in
set_option maxHeartbeats 1000000 in
theorem cut_calls (a : Option Addr) (n c : Nat) (la : List Sp) (b : Option Addr) (m cb : Nat) (lb : List Sp) (w : World) (ha : Spans w a n c la) (hb : Spans w b m cb lb) (hn : n ≤ 1000000000000) (hm : m ≤ 1000000000000) (hnm : n * (m + 1) ≤ 1000000000000) :
    Calls Try.prog 71 #[.slice a n c, .slice b m cb] w (SpansOut (cutN la lb) w) := by
  obtain rfl := ha.len
  obtain rfl := hb.len
  obtain ⟨i0, hi0, hz0, hz1, hz2⟩ := info_parts infoS
  go_enter Try.func71, Try.ntmps71
  go_wp2_with fail
  refine (norm_calls b lb.length cb lb w hb hm).mono ?_
  rintro e w1 ⟨b1, cb1, rfl, hB1, hk1⟩
  go_wp2_with fail
  refine (norm_calls a la.length c la w1 (ha.non hk1) hn).mono ?_
  rintro e w2 ⟨a1, ca1, rfl, hA2, hk2⟩
  have hA := hA2.reads encS_len (by omega)
  have hB := (hB1.non hk2).reads encS_len (by omega)
  have hkp := hk1.trans hk2
  have hRl : (cut (norm la) (norm lb)).length ≤ 1000000000000 := by
    have h1 := cut_len (norm la) (norm lb)
    have h2 : (norm la).length * ((norm lb).length + 1) ≤ la.length * (lb.length + 1) := Nat.mul_le_mul (norm_len la) (by have := norm_len lb; omega)
    omega
  have HR : Hid (cut (norm la) (norm lb) = cutN la lb) := Lib.hid rfl
  have hAl := norm_len la
  have hBl := norm_len lb
  clear hA2 hB1 hk1 hk2 ha hb hnm
  generalize norm la = A at *
  generalize norm lb = B at *
  generalize hcR : cut A B = R at *
  have HC := Lib.hid hcR
  have hcA := hA.cap
  have hmA := hA.max
  have hcB := hB.cap
  have hmB := hB.max
  clear hcR
  go_wp2_with fail
  go_loopw [5, 6, 15] (fun v5 v6 v15 wr => ∃ (p q : Nat) (out : List Sp) (a5 : Option Addr) (c5 : Nat), p ≤ A.length ∧ q ≤ B.length ∧ v15 = .int .i64 p ∧ v6 = .int .i64 q ∧ v5 = .slice a5 out.length c5 ∧ out ++ cut (A.drop p) (B.drop q) = R ∧ OwnS wr w2.heap.size a5 out.length c5 out ∧ Kp Non w2 wr) (fun _ _ v15 _ => A.length - (intOf v15).toNat)
  case atStart => exact ⟨0, 0, [], none, 0, by omega, by omega, rfl, rfl, rfl, HC.out, OwnR.nil _ _ _, Kp.refl _ _⟩
  case round =>
    obtain ⟨p, q, out, a5, c5, hp, hq, rfl, rfl, rfl, hout, hO, hkr⟩ := hrel
    have HT := Lib.hid hout
    clear hout
    by_cases hlt : p < A.length
    · have g : (p : Int) < (A.length : Nat) := by omega
      obtain ⟨ba, oa, rfl⟩ := hA.there (by omega)
      have hAr := hA.non hkr
      have c0 := Spans.c0 hAr hlt
      have c1 := Spans.c1 hAr hlt
      have HA := Lib.hid hAr
      have HE := Lib.hid (List.drop_eq_getElem_cons hlt)
      have HOr := Lib.hid hO
      clear hAr hO
      generalize hs : A[p] = s at *
      clear hs
      go_wp2_with fail
      have hbx := BoxS.new wr s
      have hkb : Kp Non w2 (wr.alloc (.cells #[.int .i64 s.1, .int .i64 s.2] 36)) := hkr.alloc _
      have hob := HOr.out.non (Kp.alloc (Kp.refl Non wr) (.cells #[.int .i64 s.1, .int .i64 s.2] 36))
      have hob2 : ∀ i, Blk a5 i → i ≠ wr.heap.size := fun i hi => by have := (HOr.out.blk i hi).2; omega
      have hb2 : w2.heap.size ≤ wr.heap.size := hkr.size
      clear HOr HA c0 c1 hkr
      generalize wr.heap.size = bx at *
      generalize wr.alloc (.cells #[.int .i64 s.1, .int .i64 s.2] 36) = wb at *
      go_loopw [6] (fun v6 wx => ∃ q' : Nat, q' ≤ B.length ∧ v6 = .int .i64 q' ∧ skip s.1 (B.drop q') = skip s.1 (B.drop q) ∧ BoxS wx bx s ∧ OwnS wx w2.heap.size a5 out.length c5 out ∧ Kp Non w2 wx) (fun v6 _ => B.length - (intOf v6).toNat)
      case atStart => exact ⟨q, hq, rfl, rfl, hbx, hob, hkb⟩
      case round =>
        obtain ⟨q', hq', rfl, hsk, hbx', hO', hkx⟩ := hrel
        have x0 := hbx'.c0
        have x1 := hbx'.c1
        have HB := Lib.hid (hB.non hkx)
        have HS := Lib.hid hsk
        have HX := Lib.hid hbx'
        have HOx := Lib.hid hO'
        clear hsk hbx' hO'
        by_cases hstop : q' = B.length ∨ ∃ h : q' < B.length, s.1 < B[q'].2
        · -- the first span of b that ends behind s.From, or none
          have hend : skip s.1 (B.drop q') = B.drop q' := by
            rcases hstop with rfl | ⟨h1, h2⟩
            · rw [List.drop_of_length_le (Nat.le_refl _)]; rfl
            · exact skip_stop h1 h2
          have HD := Lib.hid (hend.symm.trans HS.out)
          clear hend
          have HY := Lib.hid (fun nq => hkx.drewN nq)
          rcases hstop with rfl | ⟨hlq, hgt⟩
          · go_wp2_with fail
            go_quiet (fail)
            go_wp2_with fail
            have hxy : Kp Non wr (wr.drewN nq) := (Kp.refl _ _).drewN _
            have hkx2 : Kp Non w2 (wr.drewN nq) := hkx.trans hxy
            have hbx2 := HX.out.non hxy
            have hob3 := HOx.out.non hxy
            clear hkx HX HOx HS HB hxy x0 x1
            generalize wr.drewN nq = wy at *
            go_loopw [5, 9] (fun v5 v9 wz => ∃ (i : Nat) (s' : Sp) (out' : List Sp) (a6 : Option Addr) (c6 : Nat), i ≤ B.length ∧ v9 = .int .i64 i ∧ v5 = .slice a6 out'.length c6 ∧ s'.2 = s.2 ∧ out' ++ bite s' (B.drop i) = out ++ bite s (B.drop B.length) ∧ BoxS wz bx s' ∧ OwnS wz w2.heap.size a6 out'.length c6 out' ∧ (∀ j, Blk a6 j → j ≠ bx) ∧ Kp Non w2 wz) (fun _ v9 _ => B.length - (intOf v9).toNat)
            case atStart => exact ⟨B.length, s, out, a5, c5, hq', rfl, rfl, rfl, rfl, hbx2, hob3, hob2, hkx2⟩
            case round =>
              obtain ⟨i, s', out', a6, c6, hi, rfl, rfl, hs2, hbt, hbz, hoz, hdz, hkz⟩ := hrel
              have x0 := hbz.c0
              have x1 := hbz.c1
              have xf := hbz.fz 0
              have HBT := Lib.hid hbt
              have HBz := Lib.hid hbz
              have HOz := Lib.hid hoz
              have HB := Lib.hid (hB.non hkz)
              clear hbt hbz hoz
              have hol : (out ++ bite s (B.drop B.length)).length ≤ R.length := by
                have e1 := congrArg List.length HT.out
                rw [HE.out] at e1
                unfold cut at e1
                rw [← HD.out] at e1
                simp only [List.length_append] at e1 ⊢
                omega
              by_cases hstop : i = B.length ∨ ∃ h : i < B.length, s.2 ≤ B[i].1
              · have hend : bite s' (B.drop i) = one s' := by
                  rcases hstop with rfl | ⟨h1, h2⟩
                  · rw [List.drop_of_length_le (Nat.le_refl _)]; rfl
                  · exact bite_stop h1 (by omega)
                have HN : Hid ((out' ++ one s') ++ cut (A.drop (p + 1)) (B.drop B.length) = R) := Lib.hid (by
                  rw [← HT.out, HE.out]
                  conv => rhs; unfold cut
                  rw [← HD.out, ← List.append_assoc, ← HBT.out, hend])
                clear hend
                have HSZ := Lib.hid hs2
                rcases hstop with rfl | ⟨hlq2, hge2⟩
                · clear hs2
                  go_wp2_with fail
                  go_quiet (fail)
                  go_wp2_with fail
                  refine (empty_calls s' _).mono ?_
                  rintro e w3 ⟨rfl, hk3⟩
                  have hkd : Kp Non wr w3 := (Kp.drewN (Kp.refl Non wr) _).trans hk3
                  have hO8 := HOz.out.non hkd
                  have hb8 := HBz.out.non hkd
                  have hk8 : Kp Non w2 w3 := hkz.trans hkd
                  have z0 := hb8.c0
                  have z1 := hb8.c1
                  have HO8 := Lib.hid hO8
                  have hl8 : (out' ++ one s').length ≤ R.length := by
                    have e1 := congrArg List.length HN.out
                    simp only [List.length_append] at e1 ⊢
                    omega
                  clear x0 x1 xf hb8 hkd hk3 hO8
                  cases hf : full s' with
                  | true =>
                    have h1s : one s' = [s'] := if_pos (by simpa [full] using hf)
                    rw [h1s] at HN hl8
                    simp at hl8
                    clear h1s hf
                    go_wp2_with (at_builtin; refine wpList_append_row rfl _ _ 54 rfl w2.heap.size 36 i0 _ 16 Try.underlying54 hi0 hz0 hz1 hz2 rfl (by decide) encS_len encS_one a6 out'.length c6 out' rfl (HO8.out.non ?_) _ 1 1 [s'] rfl (Reads.new (by simp) rfl) (by omega) (by omega) ?_ ?_; exact Kp.alloc (Kp.refl _ _) _; simp; exact Nat.le_trans hk8.size (by omega); intro a7 c7 w5 hO5 hk5 hb5)
                    go_roundw
                    case rel => exact ⟨p + 1, B.length, out' ++ [s'], a7, c7, by omega, by omega, by go_num, rfl, by simp, HN.out, by simpa using hO5, (hk8.trans (Kp.alloc (Kp.refl _ _) _)).comp hk5 (fun _ _ f => f) (fun j hj q => by have := (HO8.out.blk j q).1; omega)⟩
                    case measure => simp [intOf]; omega
                  | false =>
                    have h1s : one s' = [] := if_neg (by have : ¬ full s' = true := by rw [hf]; simp
                                                         simpa [full] using this)
                    rw [h1s, List.append_nil] at HN
                    clear h1s hf
                    go_wp2_with fail
                    go_roundw
                    case rel => exact ⟨p + 1, B.length, out', a6, c6, by omega, by omega, by go_num, rfl, rfl, HN.out, HO8.out, hk8⟩
                    case measure => simp [intOf]; omega
                · have gi : (i : Int) < (B.length : Nat) := by omega
                  obtain ⟨bb', ob', rfl⟩ := hB.there (by omega)
                  have y0 := Spans.c0 HB.out hlq2
                  have hge3 : s'.2 ≤ B[i].1 := by omega
                  clear hge2 hs2
                  generalize B[i] = t at *
                  go_wp2_with fail
                  go_quiet (fail)
                  go_wp2_with fail
                  refine (empty_calls s' _).mono ?_
                  rintro e w3 ⟨rfl, hk3⟩
                  have hkd : Kp Non wr w3 := (Kp.drewN (Kp.refl Non wr) _).trans hk3
                  have hO8 := HOz.out.non hkd
                  have hb8 := HBz.out.non hkd
                  have hk8 : Kp Non w2 w3 := hkz.trans hkd
                  have z0 := hb8.c0
                  have z1 := hb8.c1
                  have HO8 := Lib.hid hO8
                  have hl8 : (out' ++ one s').length ≤ R.length := by
                    have e1 := congrArg List.length HN.out
                    simp only [List.length_append] at e1 ⊢
                    omega
                  clear x0 x1 xf hb8 hkd hk3 hO8
                  cases hf : full s' with
                  | true =>
                    have h1s : one s' = [s'] := if_pos (by simpa [full] using hf)
                    rw [h1s] at HN hl8
                    simp at hl8
                    clear h1s hf
                    go_wp2_with (at_builtin; refine wpList_append_row rfl _ _ 54 rfl w2.heap.size 36 i0 _ 16 Try.underlying54 hi0 hz0 hz1 hz2 rfl (by decide) encS_len encS_one a6 out'.length c6 out' rfl (HO8.out.non ?_) _ 1 1 [s'] rfl (Reads.new (by simp) rfl) (by omega) (by omega) ?_ ?_; exact Kp.alloc (Kp.refl _ _) _; simp; exact Nat.le_trans hk8.size (by omega); intro a7 c7 w5 hO5 hk5 hb5)
                    go_roundw
                    case rel => exact ⟨p + 1, B.length, out' ++ [s'], a7, c7, by omega, by omega, by go_num, rfl, by simp, HN.out, by simpa using hO5, (hk8.trans (Kp.alloc (Kp.refl _ _) _)).comp hk5 (fun _ _ f => f) (fun j hj q => by have := (HO8.out.blk j q).1; omega)⟩
                    case measure => simp [intOf]; omega
                  | false =>
                    have h1s : one s' = [] := if_neg (by have : ¬ full s' = true := by rw [hf]; simp
                                                         simpa [full] using this)
                    rw [h1s, List.append_nil] at HN
                    clear h1s hf
                    go_wp2_with fail
                    go_roundw
                    case rel => exact ⟨p + 1, B.length, out', a6, c6, by omega, by omega, by go_num, rfl, rfl, HN.out, HO8.out, hk8⟩
                    case measure => simp [intOf]; omega
              · have hlq2 : i < B.length := by
                  rcases Nat.lt_or_ge i B.length with h1 | h1
                  · exact h1
                  · exact absurd (.inl (by omega)) hstop
                have hle2 : B[i].1 < s.2 := by
                  rcases Int.lt_or_le B[i].1 s.2 with h1 | h1
                  · exact h1
                  · exact absurd (.inr ⟨hlq2, h1⟩) hstop
                clear hstop
                have gi : (i : Int) < (B.length : Nat) := by omega
                obtain ⟨bb', ob', rfl⟩ := hB.there (by omega)
                have y0 := Spans.c0 HB.out hlq2
                have HY1 := Lib.hid (fun (W : World) (hW : Kp Non w2 W) => Spans.c1 (hB.non hW) hlq2)
                have HG := Lib.hid (bite_go (s := s') hlq2 (by omega))
                have hle3 : B[i].1 < s'.2 := by omega
                have HSZ := Lib.hid hs2
                clear hle2 hs2
                generalize B[i] = t at *
                by_cases hap : s'.1 < t.1
                · have HG1 : Hid (one (s'.1, t.1) = [(s'.1, t.1)]) := Lib.hid (if_pos hap)
                  go_wp2_with fail
                  have hol2 : out'.length + 1 ≤ R.length := by
                    have e1 := congrArg List.length HBT.out
                    rw [HG.out, HG1.out] at e1
                    simp only [List.length_append, List.length_cons, List.length_nil] at e1 hol
                    omega
                  go_quiet (fail)
                  go_wp2_with fail
                  go_quiet (fail)
                  go_wp2_with fail
                  refine wp_region_chain [0,0,0,0,0,0,0,0,0,1,2,2] (by kernel_rfl) (by kernel_rfl) (fun w' => w'.cell? ⟨bx, 0, none⟩ = some (.int .i64 s'.1) ∧ w'.cell? ⟨bb', ob' + i * 2, none⟩ = some (.int .i64 t.1)) ⟨x0, y0⟩ ?_
                  repeat (first | (with_reducible refine pure_skip ?_) | ((with_reducible refine pure_k rfl ?_); intro K hK; apply Exists.intro; refine ⟨fun w' hC => ?_, ?_⟩; (obtain ⟨g1, g2⟩ := hC; go_simp; rfl); go_simp; refine hK _ ?_; clear hK K))
                  with_reducible refine pure_nil ?_
                  repeat (with_reducible refine chain_skip0 ?_)
                  with_reducible refine chain_step rfl fun K hK => ?_
                  go_simp
                  refine hK _ _ (fun _ => ⟨(Kp.alloc (Kp.drew (Kp.drewN (Kp.refl Non wr) _)) _).cell x0 (fun f => f), (Kp.alloc (Kp.drew (Kp.drewN (Kp.refl Non wr) _)) _).cell y0 (fun f => f)⟩) ?_
                  clear hK K
                  repeat (with_reducible refine chain_skip0 ?_)
                  with_reducible refine chain_step rfl fun K hK => ?_
                  refine wp_append_row _ _ 54 rfl w2.heap.size 36 i0 _ 16 Try.underlying54 hi0 hz0 hz1 hz2 rfl (by decide) encS_len encS_one a6 out'.length c6 out' rfl (HOz.out.non ?_) _ 1 1 [(s'.1, t.1)] rfl (Reads.new (by simp) rfl) (by omega) (by omega) ?_ ?_
                  exact Kp.alloc (Kp.drew (Kp.drewN (Kp.refl _ _) _)) _
                  simp; exact Nat.le_trans hkz.size (by omega)
                  intro a7 c7 w5 hO5 hk5 hb5
                  go_simp
                  refine hK _ _ (fun h => by cases h) ?_
                  clear hK K
                  repeat (with_reducible refine chain_skip0 ?_)
                  with_reducible refine chain_step rfl fun K hK => ?_
                  go_simp
                  refine hK _ _ (fun h => by cases h) ?_
                  clear hK K
                  with_reducible refine chain_nil ?_
                  have hk6 := (Kp.alloc (Kp.drew (Kp.drewN (Kp.refl Non wr) _)) _).comp hk5 (U := Blk a6) (fun _ _ f => f.elim) (fun _ _ q => q)
                  have hk7 : Kp Non w2 w5 := hkz.comp hk6 (fun _ _ f => f) (fun j hj q => by have := (HOz.out.blk j q).1; omega)
                  have hb7 := HBz.out.kp hk6 (fun q => hdz bx q rfl)
                  have y1 := HY1.out w5 hk7
                  have x7 := hb7.c0
                  have f7 := hb7.fz 0
                  have hd7 : ∀ j, Blk a7 j → j ≠ bx := fun j hj => by
                    rcases hb5 with rfl | rfl
                    · exact hdz j hj
                    · obtain ⟨ad, e1, rfl⟩ := hj
                      cases e1
                      have := HBz.out.lt
                      simp
                      omega
                  have HB7 := Lib.hid hb7
                  clear x0 x1 xf y0 hb7 hb5 hk5 hk6 HY1
                  go_wp2_with fail
                  go_roundw
                  case rel =>
                    refine ⟨i + 1, (t.2, s'.2), out' ++ [(s'.1, t.1)], a7, c7, by omega, by go_num, by simp, HSZ.out, ?_, HB7.out.set t.2, ?_, hd7, ?_⟩
                    · have := HBT.out
                      rw [HG.out, HG1.out, ← List.append_assoc] at this
                      exact this
                    · have h9 := hO5.kp (Kp.setCell (S := One bx) (Kp.refl _ _) (p := ⟨bx, 0, none⟩) (.inl rfl) (.int .i64 t.2)) (fun j hj => hd7 j hj)
                      simpa using h9
                    · exact hk7.setCell (p := ⟨bx, 0, none⟩) (.inr hb2) _
                  case measure => simp [intOf]; omega
                · have HG1 : Hid (one (s'.1, t.1) = []) := Lib.hid (if_neg hap)
                  have y1 := HY1.out wr hkz
                  go_wp2_with fail
                  go_quiet (fail)
                  go_wp2_with fail
                  go_quiet (fail)
                  go_wp2_with fail
                  go_roundw
                  case rel =>
                    have hkd := fun n => (Kp.refl Non wr).drewN n
                    refine ⟨i + 1, (t.2, s'.2), out', a6, c6, by omega, by go_num, rfl, HSZ.out, ?_, (HBz.out.non (hkd _)).set t.2, ?_, hdz, ?_⟩
                    · have := HBT.out
                      rw [HG.out, HG1.out, List.nil_append] at this
                      exact this
                    · exact (HOz.out.non (hkd _)).kp (Kp.setCell (S := One bx) (Kp.refl _ _) (p := ⟨bx, 0, none⟩) (.inl rfl) _) (fun j hj => hdz j hj)
                    · exact (hkz.trans (hkd _)).setCell (p := ⟨bx, 0, none⟩) (.inr hb2) _
                  case measure => simp [intOf]; omega
          · have gq : (q' : Int) < (B.length : Nat) := by omega
            obtain ⟨bb, ob, rfl⟩ := hB.there (by omega)
            have y1 := Spans.c1 HB.out hlq
            generalize B[q'] = t at *
            go_wp2_with fail
            go_quiet (fail)
            go_wp2_with fail
            have hxy : Kp Non wr (wr.drewN nq) := (Kp.refl _ _).drewN _
            have hkx2 : Kp Non w2 (wr.drewN nq) := hkx.trans hxy
            have hbx2 := HX.out.non hxy
            have hob3 := HOx.out.non hxy
            clear hkx HX HOx HS HB hxy x0 x1
            generalize wr.drewN nq = wy at *
            go_loopw [5, 9] (fun v5 v9 wz => ∃ (i : Nat) (s' : Sp) (out' : List Sp) (a6 : Option Addr) (c6 : Nat), i ≤ B.length ∧ v9 = .int .i64 i ∧ v5 = .slice a6 out'.length c6 ∧ s'.2 = s.2 ∧ out' ++ bite s' (B.drop i) = out ++ bite s (B.drop q') ∧ BoxS wz bx s' ∧ OwnS wz w2.heap.size a6 out'.length c6 out' ∧ (∀ j, Blk a6 j → j ≠ bx) ∧ Kp Non w2 wz) (fun _ v9 _ => B.length - (intOf v9).toNat)
            case atStart => exact ⟨q', s, out, a5, c5, hq', rfl, rfl, rfl, rfl, hbx2, hob3, hob2, hkx2⟩
            case round =>
              obtain ⟨i, s', out', a6, c6, hi, rfl, rfl, hs2, hbt, hbz, hoz, hdz, hkz⟩ := hrel
              have x0 := hbz.c0
              have x1 := hbz.c1
              have xf := hbz.fz 0
              have HBT := Lib.hid hbt
              have HBz := Lib.hid hbz
              have HOz := Lib.hid hoz
              have HB := Lib.hid (hB.non hkz)
              clear hbt hbz hoz
              have hol : (out ++ bite s (B.drop q')).length ≤ R.length := by
                have e1 := congrArg List.length HT.out
                rw [HE.out] at e1
                unfold cut at e1
                rw [← HD.out] at e1
                simp only [List.length_append] at e1 ⊢
                omega
              by_cases hstop : i = B.length ∨ ∃ h : i < B.length, s.2 ≤ B[i].1
              · have hend : bite s' (B.drop i) = one s' := by
                  rcases hstop with rfl | ⟨h1, h2⟩
                  · rw [List.drop_of_length_le (Nat.le_refl _)]; rfl
                  · exact bite_stop h1 (by omega)
                have HN : Hid ((out' ++ one s') ++ cut (A.drop (p + 1)) (B.drop q') = R) := Lib.hid (by
                  rw [← HT.out, HE.out]
                  conv => rhs; unfold cut
                  rw [← HD.out, ← List.append_assoc, ← HBT.out, hend])
                clear hend
                have HSZ := Lib.hid hs2
                rcases hstop with rfl | ⟨hlq2, hge2⟩
                · clear hs2
                  go_wp2_with fail
                  go_quiet (fail)
                  go_wp2_with fail
                  refine (empty_calls s' _).mono ?_
                  rintro e w3 ⟨rfl, hk3⟩
                  have hkd : Kp Non wr w3 := (Kp.drewN (Kp.refl Non wr) _).trans hk3
                  have hO8 := HOz.out.non hkd
                  have hb8 := HBz.out.non hkd
                  have hk8 : Kp Non w2 w3 := hkz.trans hkd
                  have z0 := hb8.c0
                  have z1 := hb8.c1
                  have HO8 := Lib.hid hO8
                  have hl8 : (out' ++ one s').length ≤ R.length := by
                    have e1 := congrArg List.length HN.out
                    simp only [List.length_append] at e1 ⊢
                    omega
                  clear x0 x1 xf hb8 hkd hk3 hO8
                  cases hf : full s' with
                  | true =>
                    have h1s : one s' = [s'] := if_pos (by simpa [full] using hf)
                    rw [h1s] at HN hl8
                    simp at hl8
                    clear h1s hf
                    go_wp2_with (at_builtin; refine wpList_append_row rfl _ _ 54 rfl w2.heap.size 36 i0 _ 16 Try.underlying54 hi0 hz0 hz1 hz2 rfl (by decide) encS_len encS_one a6 out'.length c6 out' rfl (HO8.out.non ?_) _ 1 1 [s'] rfl (Reads.new (by simp) rfl) (by omega) (by omega) ?_ ?_; exact Kp.alloc (Kp.refl _ _) _; simp; exact Nat.le_trans hk8.size (by omega); intro a7 c7 w5 hO5 hk5 hb5)
                    go_roundw
                    case rel => exact ⟨p + 1, q', out' ++ [s'], a7, c7, by omega, by omega, by go_num, rfl, by simp, HN.out, by simpa using hO5, (hk8.trans (Kp.alloc (Kp.refl _ _) _)).comp hk5 (fun _ _ f => f) (fun j hj q => by have := (HO8.out.blk j q).1; omega)⟩
                    case measure => simp [intOf]; omega
                  | false =>
                    have h1s : one s' = [] := if_neg (by have : ¬ full s' = true := by rw [hf]; simp
                                                         simpa [full] using this)
                    rw [h1s, List.append_nil] at HN
                    clear h1s hf
                    go_wp2_with fail
                    go_roundw
                    case rel => exact ⟨p + 1, q', out', a6, c6, by omega, by omega, by go_num, rfl, rfl, HN.out, HO8.out, hk8⟩
                    case measure => simp [intOf]; omega
                · have gi : (i : Int) < (B.length : Nat) := by omega
                  skip
                  have y0 := Spans.c0 HB.out hlq2
                  have hge3 : s'.2 ≤ B[i].1 := by omega
                  clear hge2 hs2
                  generalize B[i] = t at *
                  go_wp2_with fail
                  go_quiet (fail)
                  go_wp2_with fail
                  refine (empty_calls s' _).mono ?_
                  rintro e w3 ⟨rfl, hk3⟩
                  have hkd : Kp Non wr w3 := (Kp.drewN (Kp.refl Non wr) _).trans hk3
                  have hO8 := HOz.out.non hkd
                  have hb8 := HBz.out.non hkd
                  have hk8 : Kp Non w2 w3 := hkz.trans hkd
                  have z0 := hb8.c0
                  have z1 := hb8.c1
                  have HO8 := Lib.hid hO8
                  have hl8 : (out' ++ one s').length ≤ R.length := by
                    have e1 := congrArg List.length HN.out
                    simp only [List.length_append] at e1 ⊢
                    omega
                  clear x0 x1 xf hb8 hkd hk3 hO8
                  cases hf : full s' with
                  | true =>
                    have h1s : one s' = [s'] := if_pos (by simpa [full] using hf)
                    rw [h1s] at HN hl8
                    simp at hl8
                    clear h1s hf
                    go_wp2_with (at_builtin; refine wpList_append_row rfl _ _ 54 rfl w2.heap.size 36 i0 _ 16 Try.underlying54 hi0 hz0 hz1 hz2 rfl (by decide) encS_len encS_one a6 out'.length c6 out' rfl (HO8.out.non ?_) _ 1 1 [s'] rfl (Reads.new (by simp) rfl) (by omega) (by omega) ?_ ?_; exact Kp.alloc (Kp.refl _ _) _; simp; exact Nat.le_trans hk8.size (by omega); intro a7 c7 w5 hO5 hk5 hb5)
                    go_roundw
                    case rel => exact ⟨p + 1, q', out' ++ [s'], a7, c7, by omega, by omega, by go_num, rfl, by simp, HN.out, by simpa using hO5, (hk8.trans (Kp.alloc (Kp.refl _ _) _)).comp hk5 (fun _ _ f => f) (fun j hj q => by have := (HO8.out.blk j q).1; omega)⟩
                    case measure => simp [intOf]; omega
                  | false =>
                    have h1s : one s' = [] := if_neg (by have : ¬ full s' = true := by rw [hf]; simp
                                                         simpa [full] using this)
                    rw [h1s, List.append_nil] at HN
                    clear h1s hf
                    go_wp2_with fail
                    go_roundw
                    case rel => exact ⟨p + 1, q', out', a6, c6, by omega, by omega, by go_num, rfl, rfl, HN.out, HO8.out, hk8⟩
                    case measure => simp [intOf]; omega
              · have hlq2 : i < B.length := by
                  rcases Nat.lt_or_ge i B.length with h1 | h1
                  · exact h1
                  · exact absurd (.inl (by omega)) hstop
                have hle2 : B[i].1 < s.2 := by
                  rcases Int.lt_or_le B[i].1 s.2 with h1 | h1
                  · exact h1
                  · exact absurd (.inr ⟨hlq2, h1⟩) hstop
                clear hstop
                have gi : (i : Int) < (B.length : Nat) := by omega
                skip
                have y0 := Spans.c0 HB.out hlq2
                have HY1 := Lib.hid (fun (W : World) (hW : Kp Non w2 W) => Spans.c1 (hB.non hW) hlq2)
                have HG := Lib.hid (bite_go (s := s') hlq2 (by omega))
                have hle3 : B[i].1 < s'.2 := by omega
                have HSZ := Lib.hid hs2
                clear hle2 hs2
                generalize B[i] = t at *
                by_cases hap : s'.1 < t.1
                · have HG1 : Hid (one (s'.1, t.1) = [(s'.1, t.1)]) := Lib.hid (if_pos hap)
                  go_wp2_with fail
                  have hol2 : out'.length + 1 ≤ R.length := by
                    have e1 := congrArg List.length HBT.out
                    rw [HG.out, HG1.out] at e1
                    simp only [List.length_append, List.length_cons, List.length_nil] at e1 hol
                    omega
                  go_quiet (fail)
                  go_wp2_with fail
                  go_quiet (fail)
                  go_wp2_with fail
                  refine wp_region_chain [0,0,0,0,0,0,0,0,0,1,2,2] (by kernel_rfl) (by kernel_rfl) (fun w' => w'.cell? ⟨bx, 0, none⟩ = some (.int .i64 s'.1) ∧ w'.cell? ⟨bb, ob + i * 2, none⟩ = some (.int .i64 t.1)) ⟨x0, y0⟩ ?_
                  repeat (first | (with_reducible refine pure_skip ?_) | ((with_reducible refine pure_k rfl ?_); intro K hK; apply Exists.intro; refine ⟨fun w' hC => ?_, ?_⟩; (obtain ⟨g1, g2⟩ := hC; go_simp; rfl); go_simp; refine hK _ ?_; clear hK K))
                  with_reducible refine pure_nil ?_
                  repeat (with_reducible refine chain_skip0 ?_)
                  with_reducible refine chain_step rfl fun K hK => ?_
                  go_simp
                  refine hK _ _ (fun _ => ⟨(Kp.alloc (Kp.drew (Kp.drewN (Kp.refl Non wr) _)) _).cell x0 (fun f => f), (Kp.alloc (Kp.drew (Kp.drewN (Kp.refl Non wr) _)) _).cell y0 (fun f => f)⟩) ?_
                  clear hK K
                  repeat (with_reducible refine chain_skip0 ?_)
                  with_reducible refine chain_step rfl fun K hK => ?_
                  refine wp_append_row _ _ 54 rfl w2.heap.size 36 i0 _ 16 Try.underlying54 hi0 hz0 hz1 hz2 rfl (by decide) encS_len encS_one a6 out'.length c6 out' rfl (HOz.out.non ?_) _ 1 1 [(s'.1, t.1)] rfl (Reads.new (by simp) rfl) (by omega) (by omega) ?_ ?_
                  exact Kp.alloc (Kp.drew (Kp.drewN (Kp.refl _ _) _)) _
                  simp; exact Nat.le_trans hkz.size (by omega)
                  intro a7 c7 w5 hO5 hk5 hb5
                  go_simp
                  refine hK _ _ (fun h => by cases h) ?_
                  clear hK K
                  repeat (with_reducible refine chain_skip0 ?_)
                  with_reducible refine chain_step rfl fun K hK => ?_
                  go_simp
                  refine hK _ _ (fun h => by cases h) ?_
                  clear hK K
                  with_reducible refine chain_nil ?_
                  have hk6 := (Kp.alloc (Kp.drew (Kp.drewN (Kp.refl Non wr) _)) _).comp hk5 (U := Blk a6) (fun _ _ f => f.elim) (fun _ _ q => q)
                  have hk7 : Kp Non w2 w5 := hkz.comp hk6 (fun _ _ f => f) (fun j hj q => by have := (HOz.out.blk j q).1; omega)
                  have hb7 := HBz.out.kp hk6 (fun q => hdz bx q rfl)
                  have y1 := HY1.out w5 hk7
                  have x7 := hb7.c0
                  have f7 := hb7.fz 0
                  have hd7 : ∀ j, Blk a7 j → j ≠ bx := fun j hj => by
                    rcases hb5 with rfl | rfl
                    · exact hdz j hj
                    · obtain ⟨ad, e1, rfl⟩ := hj
                      cases e1
                      have := HBz.out.lt
                      simp
                      omega
                  have HB7 := Lib.hid hb7
                  clear x0 x1 xf y0 hb7 hb5 hk5 hk6 HY1
                  go_wp2_with fail
                  go_roundw
                  case rel =>
                    refine ⟨i + 1, (t.2, s'.2), out' ++ [(s'.1, t.1)], a7, c7, by omega, by go_num, by simp, HSZ.out, ?_, HB7.out.set t.2, ?_, hd7, ?_⟩
                    · have := HBT.out
                      rw [HG.out, HG1.out, ← List.append_assoc] at this
                      exact this
                    · have h9 := hO5.kp (Kp.setCell (S := One bx) (Kp.refl _ _) (p := ⟨bx, 0, none⟩) (.inl rfl) (.int .i64 t.2)) (fun j hj => hd7 j hj)
                      simpa using h9
                    · exact hk7.setCell (p := ⟨bx, 0, none⟩) (.inr hb2) _
                  case measure => simp [intOf]; omega
                · have HG1 : Hid (one (s'.1, t.1) = []) := Lib.hid (if_neg hap)
                  have y1 := HY1.out wr hkz
                  go_wp2_with fail
                  go_quiet (fail)
                  go_wp2_with fail
                  go_quiet (fail)
                  go_wp2_with fail
                  go_roundw
                  case rel =>
                    have hkd := fun n => (Kp.refl Non wr).drewN n
                    refine ⟨i + 1, (t.2, s'.2), out', a6, c6, by omega, by go_num, rfl, HSZ.out, ?_, (HBz.out.non (hkd _)).set t.2, ?_, hdz, ?_⟩
                    · have := HBT.out
                      rw [HG.out, HG1.out, List.nil_append] at this
                      exact this
                    · exact (HOz.out.non (hkd _)).kp (Kp.setCell (S := One bx) (Kp.refl _ _) (p := ⟨bx, 0, none⟩) (.inl rfl) _) (fun j hj => hdz j hj)
                    · exact (hkz.trans (hkd _)).setCell (p := ⟨bx, 0, none⟩) (.inr hb2) _
                  case measure => simp [intOf]; omega
        · have hlq : q' < B.length := by
            rcases Nat.lt_or_ge q' B.length with h1 | h1
            · exact h1
            · exact absurd (.inl (by omega)) hstop
          have hle : B[q'].2 ≤ s.1 := by
            rcases Int.lt_or_le s.1 B[q'].2 with h1 | h1
            · exact absurd (.inr ⟨hlq, h1⟩) hstop
            · exact h1
          clear hstop
          have gq : (q' : Int) < (B.length : Nat) := by omega
          obtain ⟨bb, ob, rfl⟩ := hB.there (by omega)
          have y1 := Spans.c1 HB.out hlq
          have HG := Lib.hid (skip_go hlq hle)
          generalize B[q'] = t at *
          go_wp2_with fail
          go_quiet (fail)
          go_wp2_with fail
          go_roundw
          case rel => exact ⟨q' + 1, by omega, by go_num, HG.out.trans HS.out, HX.out.non ((Kp.refl _ _).drewN _), HOx.out.non ((Kp.refl _ _).drewN _), hkx.drewN _⟩
          case measure => simp [intOf]; omega
    · obtain rfl : p = A.length := by omega
      rw [List.drop_of_length_le (Nat.le_refl _)] at HT
      have e1 := HT.out
      rw [cut, List.append_nil] at e1
      subst e1
      have HO := Lib.hid hO
      clear hO
      go_wp2_with fail
      go_ret
      rw [← HR.out]
      exact ⟨a5, c5, rfl, HO.out.lower hkp.size, hkp.trans hkr⟩

end Go.Proofs.Ytdijaillcajpaaa
