/-
  The document's text behind so many puts; the deeds that are done, by when they were.
-/
import Derived.Test.YtpehfnobgdjgcaaG25
namespace Go.Proofs.Ytpehfnobgdjgcaa
open Go.RowKit

set_option maxRecDepth 100000 in
set_option maxHeartbeats 1000000 in
theorem rvalue_calls {la : Option Addr} {lc : Nat} {l : List PutV} {W : World} (hl : Puts_ W la l.length lc l) (n : Nat) (hn : n ≤ l.length) : Calls Try.prog 41 #[.slice la l.length lc, .int .i64 n] W (ValOut (.string (textOf l n)) W) := by
  have hcl := hl.cap
  have hml := hl.max
  by_cases h0 : n = 0
  · subst h0
    have e0 : (((0 : Nat) : Int) == 0) = true := by simp
    have HT : Hid (textOf l 0 = ⟨#[]⟩) := Lib.hid rfl
    go_enter Try.func41, Try.ntmps41
    go_wp2_with fail
    go_ret
    exact ⟨by rw [HT.out]; rfl, Kp.refl _ _⟩
  · obtain ⟨m, rfl⟩ : ∃ m, n = m + 1 := ⟨n - 1, by omega⟩
    have hm : m < l.length := by omega
    have gm : (m : Int) < (l.length : Nat) := by omega
    have e0 : (((m + 1 : Nat) : Int) == 0) = false := by simp; omega
    obtain ⟨lb, lo, rfl⟩ := hl.there (by omega)
    have c5 := (Puts_.cells hl hm).2.2.2.2.2
    have HT : Hid (textOf l (m + 1) = l[m].tx) := Lib.hid (by simp [textOf, List.getElem?_eq_getElem hm])
    generalize l[m].tx = s at *
    have hwm : wrap64 (((m + 1 : Nat) : Int) - 1) = m := by unfold wrap64; omega
    have hwn : IntKind.i64.wrap (m : Int) = m := IntWalk.i64_in _ (by omega)
    clear h0 hn
    go_enter Try.func41, Try.ntmps41
    go_wp2_with fail
    go_ret
    exact ⟨by rw [HT.out]; rfl, Kp.refl _ _⟩

/-- When the deed at a place was done. -/
def enOf (ds : List DeedV) (i : Int) : Int := (ds.getD i.toNat default).en
def ltE (ds : List DeedV) (i j : Int) : Bool := decide (enOf ds i < enOf ds j)
/-- The places of the first k deeds that are done. -/
def doneT (ds : List DeedV) : Nat → List Int
  | 0 => []
  | k + 1 => if 0 < enOf ds k then doneT ds k ++ [(k : Int)] else doneT ds k
def endedL (ds : List DeedV) : List Int := sortS (ltE ds) (doneT ds ds.length)
theorem doneT_in (ds : List DeedV) : ∀ k, ∀ i ∈ doneT ds k, 0 ≤ i ∧ i < k
  | 0 => by simp [doneT]
  | k + 1 => by
    intro i hi
    have ih := doneT_in ds k
    unfold doneT at hi
    split at hi
    · rcases List.mem_append.1 hi with h | h
      · have := ih i h; omega
      · simp at h; omega
    · have := ih i hi; omega
theorem doneT_len (ds : List DeedV) : ∀ k, (doneT ds k).length ≤ k
  | 0 => by simp [doneT]
  | k + 1 => by
    have ih := doneT_len ds k
    unfold doneT
    split
    · simp; omega
    · omega
theorem enOf_at {ds : List DeedV} {k : Nat} (h : k < ds.length) : enOf ds k = ds[k].en := by simp [enOf, List.getD, List.getElem?_eq_getElem h]

set_option maxRecDepth 100000 in
set_option maxHeartbeats 2000000 in
theorem rended_calls (a : Option Addr) (c : Nat) (l : List DeedV) (w : World) (hl : Deeds w a l.length c l) (hs : l.length ≤ 1000) : Calls Try.prog 40 #[.slice a l.length c] w (IntsOut (endedL l) w) := by
  have hcx := hl.reads.cap
  have hmx := hl.reads.max
  obtain ⟨i0, hi0, hz0, hz1, hz2⟩ := info_parts infoI
  go_enter Try.func40, Try.ntmps40
  go_wp2_with fail
  go_loopw [3, 9] (fun v3 v9 wr => ∃ k : Nat, k ≤ l.length ∧ v9 = .int .i64 k ∧ (∃ n ax cx, v3 = .slice ax n cx ∧ n ≤ k ∧ OwnI wr w.heap.size ax n cx (sortS (ltE l) (doneT l k))) ∧ Kp Non w wr) (fun _ v9 _ => l.length - (intOf v9).toNat)
  case atStart => exact ⟨0, by omega, rfl, ⟨0, none, 0, rfl, by omega, OwnR.nil w w.heap.size _⟩, Kp.refl _ _⟩
  case round =>
    obtain ⟨k, hk', rfl, ⟨n, ax, cx, rfl, hnk, hO⟩, hkr⟩ := hrel
    by_cases hlt : k < l.length
    · have g : (k : Int) < (l.length : Nat) := by omega
      obtain ⟨b, o, rfl⟩ := hl.reads.there (by omega)
      obtain ⟨c0, c1, c2, c3, c4, c5, c6, c7, c8⟩ := (hl.non hkr).cells hlt
      have HEn := Lib.hid (enOf_at hlt)
      have HOn : Hid (0 < enOf l k → sortS (ltE l) (doneT l (k + 1)) = insS (ltE l) k (sortS (ltE l) (doneT l k))) := Lib.hid fun h => by
        rw [show doneT l (k + 1) = doneT l k ++ [(k : Int)] from by simp [doneT, h], sortS_snoc]
      have HOf : Hid (¬ 0 < enOf l k → sortS (ltE l) (doneT l (k + 1)) = sortS (ltE l) (doneT l k)) := Lib.hid fun h => by
        rw [show doneT l (k + 1) = doneT l k from by simp [doneT, h]]
      have HIn : Hid (∀ i ∈ sortS (ltE l) (doneT l k), 0 ≤ i ∧ i < k) := Lib.hid fun i hi => doneT_in l k i ((sortS_perm _ _).mem_iff.1 hi)
      have HN := Lib.hid (BxD.new2 wr l[k])
      generalize l[k] = x at *
      generalize sortS (ltE l) (doneT l k) = out at *
      go_upto_region 5 with (fail)
      obtain ⟨V, eV, hN, kV⟩ := HN.out
      rw [eV]
      obtain ⟨n0, n1, n2, n3, n4, n5, n6, n7, n8⟩ := hN.cells
      have HC := Lib.hid fun W (q : Kp Non V W) => (BxD.cells (Bx.non hN q)).2.2.2.2.2.2.2.1
      have hkV := hkr.trans kV
      have hO := hO.non kV
      have hlen := hO.len encI_len (by omega)
      have HLn := Lib.hid hlen
      clear eV HN hN c0 c1 c2 c3 c4 c5 c6 c7 c8 hlen
      generalize wr.heap.size = bx at *
      by_cases hen : 0 < x.en
      · have gen : ¬ x.en ≤ 0 := by omega
        have HOn := Lib.hid (HOn.out (by rw [HEn.out]; exact hen))
        clear HOf hen
        go_wp2_with fail
        go_loopw [6] (fun v6 wi => ∃ j : Nat, j ≤ n ∧ v6 = .int .i64 j ∧ Hid (cutT (ltE l) out k out.length = cutT (ltE l) out k j) ∧ Kp Non V wi) (fun v6 _ => (intOf v6).toNat)
        case atStart => exact ⟨n, Nat.le_refl _, by first | rfl | (simp [HLn.out]), Lib.hid (by rw [HLn.out]), Kp.refl _ _⟩
        case round =>
          obtain ⟨j, hj', rfl, hcut_, hki⟩ := hrel
          have n7 := HC.out _ hki
          have hOi := hO.non hki
          have hkI := hkV.trans hki
          have HRd := Lib.hid (hOi.reads encI_len (by omega))
          have hcx3 := HRd.out.cap
          have hmx3 := HRd.out.max
          by_cases hj0 : 0 < j
          · obtain ⟨i, hi⟩ : ∃ i, j = i + 1 := ⟨j - 1, by omega⟩
            have hjo : i < out.length := by have := HLn.out; omega
            have gin : (i : Int) < (n : Nat) := by omega
            have g0 : (0 : Int) < (j : Nat) := by omega
            have hw1 : wrap64 ((j : Int) - 1) = i := by unfold wrap64; omega
            have hw2 : IntKind.i64.wrap ((j : Int) - 1) = i := by rw [IntWalk.i64_in _ (by omega)]; omega
            obtain ⟨og, oo, rfl⟩ := HRd.out.there (by omega)
            have o0 := Ints.c HRd.out hjo
            obtain ⟨oi, hoi⟩ : ∃ oi : Nat, out[i] = oi := ⟨_, (Int.toNat_of_nonneg (HIn.out _ (List.getElem_mem hjo)).1).symm⟩
            have hoik : oi < k := by have := HIn.out _ (List.getElem_mem hjo); omega
            have hoil : oi < l.length := by omega
            have goi : (oi : Int) < (l.length : Nat) := by omega
            have y7 := ((hl.non hkI).cells hoil).2.2.2.2.2.2.2.1
            have HLt : Hid (ltE l k out[i] = decide (x.en < l[oi].en)) := Lib.hid (by unfold ltE; rw [hoi, HEn.out, enOf_at hoil])
            have HON : Hid (ltE l k out[i] = true → cutT (ltE l) out k j = cutT (ltE l) out k i) := Lib.hid fun e => by rw [hi]; exact cutT_on _ hjo e
            have HOF : Hid (ltE l k out[i] = false → cutT (ltE l) out k j = j) := Lib.hid fun e => by rw [hi]; exact cutT_off _ hjo e
            rw [hoi] at o0
            generalize ltE l k out[i] = lb at *
            generalize l[oi] = y at *
            have HI1 := Lib.hid hi
            clear hi hoi hoik
            rcases Bool.eq_false_or_eq_true (decide (x.en < y.en)) with f1 | f1
            · have HE : Hid (cutT (ltE l) out k out.length = cutT (ltE l) out k i) := Lib.hid (by rw [hcut_.out, HON.out (by rw [HLt.out, f1])])
              clear HON HOF HLt
              go_upto_region 7 with (fail)
              refine wp_region_pieces [(16, [0,0,0,0,0,0,0,0,0,0,0,0,0,0,0,2], fun W => W = wr.drew)] (by kernel_rfl) (by kernel_rfl) ?_
              refine (And.intro rfl ?_ : _ ∧ _)
              refine PB.out ?_
              repeat (first | (with_reducible refine pb_skip ?_) | ((first | (with_reducible refine pb_k rfl ?_) | ((with_reducible refine pb_ky ?hg ?_); (case hg => simp [Region.wanted, yielded]; done))); intro K hK; apply Exists.intro; refine ⟨fun w' hC => ?_, ?_⟩; (obtain ⟨rfl⟩ := hC; go_simp; rfl); go_simp; refine hK _ ?_; clear hK K) | ((with_reducible refine pb_kn ?hg ?_); (case hg => simp [Region.wanted, yielded]; done); intro K hK; go_simp; refine hK _ ?_; clear hK K))
              with_reducible refine pb_nil ?_
              simp only [List.take_succ_cons, List.take_zero, List.drop_zero]
              refine CB.out ?_
              repeat (with_reducible refine cb_skip ?_)
              with_reducible refine cb_step rfl fun K hK => ?_
              go_simp
              refine hK _ _ (fun h => by cases h) ?_
              clear hK K
              repeat (with_reducible refine cb_skip ?_)
              with_reducible refine cb_nil ?_
              simp only [Then, wpPieces]
              go_wp2_with fail
              go_roundw
              case rel => exact ⟨i, by have := HI1.out; omega, by have := HI1.out; go_num, HE, hki.drew⟩
              case measure => have := HI1.out; simp [intOf]; omega
            · have hc0 : cutT (ltE l) out k out.length = j := by rw [hcut_.out, HOF.out (by rw [HLt.out, f1])]
              have HI : Hid (sortS (ltE l) (doneT l (k + 1)) = out.take j ++ ([(k : Int)] ++ out.drop j)) := Lib.hid (by rw [HOn.out]; unfold insS; rw [hc0]; rfl)
              clear HON HOF HLt HI1 hcut_ hc0
              go_upto_region 7 with (fail)
              refine wp_region_pieces [(16, [0,0,0,0,0,0,0,0,0,0,0,0,0,0,0,2], fun W => W = wr.drew)] (by kernel_rfl) (by kernel_rfl) ?_
              refine (And.intro rfl ?_ : _ ∧ _)
              refine PB.out ?_
              repeat (first | (with_reducible refine pb_skip ?_) | ((first | (with_reducible refine pb_k rfl ?_) | ((with_reducible refine pb_ky ?hg ?_); (case hg => simp [Region.wanted, yielded]; done))); intro K hK; apply Exists.intro; refine ⟨fun w' hC => ?_, ?_⟩; (obtain ⟨rfl⟩ := hC; go_simp; rfl); go_simp; refine hK _ ?_; clear hK K) | ((with_reducible refine pb_kn ?hg ?_); (case hg => simp [Region.wanted, yielded]; done); intro K hK; go_simp; refine hK _ ?_; clear hK K))
              with_reducible refine pb_nil ?_
              simp only [List.take_succ_cons, List.take_zero, List.drop_zero]
              refine CB.out ?_
              repeat (with_reducible refine cb_skip ?_)
              with_reducible refine cb_step rfl fun K hK => ?_
              go_simp
              refine hK _ _ (fun h => by cases h) ?_
              clear hK K
              repeat (with_reducible refine cb_skip ?_)
              with_reducible refine cb_nil ?_
              simp only [Then, wpPieces]
              go_upto_region 9 with (fail)
              clear hw1 hw2 gin
              have HTK : Hid (∀ W, Kp Non wr W → Ints W (some ⟨og, oo, none⟩) j j (out.take j)) := Lib.hid fun W r => Ints.takeE (HRd.out.non r) j (by omega)
              have gjc : (j : Int) ≤ (cx : Nat) := by omega
              by_cases hjn : j < n
              · have gjn : (j : Int) ≤ (n : Nat) := by omega
                have hcj : ¬ cx = j := by omega
                have HDR : Hid (∀ W, Kp Non wr W → Ints W (some ⟨og, oo + j, none⟩) (n - j) (cx - j) (out.drop j)) := Lib.hid fun W r => Ints.dropE (HRd.out.non r) j (by omega)
                refine wp_region_pieces [(12, [0,0,0,0,0,1,0,0,0,1,2,2], fun W => Kp Non wr W)] (by kernel_rfl) (by kernel_rfl) ?_
                refine (And.intro ?_ ?_ : _ ∧ _)
                · exact ((Kp.refl Non wr).drew).drew
                refine PB.out ?_
                repeat (first | (with_reducible refine pb_skip ?_) | ((first | (with_reducible refine pb_k rfl ?_) | ((with_reducible refine pb_ky ?hg ?_); (case hg => simp [Region.wanted, yielded]; done))); intro K hK; apply Exists.intro; refine ⟨fun w' hC => ?_, ?_⟩; (obtain ⟨d2⟩ := hC; go_simp; rfl); go_simp; refine hK _ ?_; clear hK K) | ((with_reducible refine pb_kn ?hg ?_); (case hg => simp [Region.wanted, yielded]; done); intro K hK; go_simp; refine hK _ ?_; clear hK K))
                with_reducible refine pb_nil ?_
                simp only [List.take_succ_cons, List.take_zero, List.drop_zero]
                refine CB.out ?_
                repeat (with_reducible refine cb_skip ?_)
                with_reducible refine cb_step rfl fun K hK => ?_
                go_simp
                refine hK _ _ (fun _ => ((Kp.refl Non wr).alloc _).drew.drew) ?_
                clear hK K
                repeat (with_reducible refine cb_skip ?_)
                with_reducible refine cb_step rfl fun K hK => ?_
                refine wp_append_row (P := Try.prog) (enc := encI) _ _ 66 rfl w.heap.size 3 i0 _ 8 Try.underlying66 hi0 hz0 hz1 hz2 rfl (by decide) encI_len encI_one _ 1 1 [(k : Int)] rfl (OwnR.mk (cur := #[.int .i64 k]) ?hb (heap_alloc_new _ _) (by omega) (by unfold maxLen; omega) rfl rfl rfl) _ _ _ (out.drop j) rfl ?hd ?h1 ?h2 ?h3 ?_
                case hb => exact hkI.size
                case hd => exact HDR.out _ (((Kp.refl Non wr).alloc _).drew.drew)
                case h1 => omega
                case h2 => omega
                case h3 => exact ((hkI.alloc _).drew.drew).size
                intro a5 c5 w5 hO5 hk5 _
                have hk5 : Kp Non wr w5 := (((Kp.refl Non wr).alloc _).drew.drew).comp hk5 (fun _ _ f => f) (fun i hi hs => by obtain ⟨ad, hs, rfl⟩ := hs; cases hs; exact absurd hi (Nat.lt_irrefl _))
                refine hK _ _ (fun _ => hk5) ?_
                clear hK K
                have hR5 := hO5.reads encI_len (by omega)
                repeat (with_reducible refine cb_skip ?_)
                with_reducible refine cb_step rfl fun K hK => ?_
                refine wp_append_fullR (P := Try.prog) (enc := encI) _ _ 66 rfl 3 i0 _ 8 Try.underlying66 hi0 hz0 hz1 hz2 rfl (by decide) encI_len encI_one _ _ (out.take j) rfl (HTK.out _ hk5) _ _ _ _ rfl hR5 ?h0 ?h1 ?h2 ?_
                case h0 => omega
                case h1 => omega
                case h2 => omega
                intro a6 c6 w6 hO6 hk6
                have hk6 := hk5.trans hk6
                refine hK _ _ (fun h => by cases h) ?_
                clear hK K
                repeat (with_reducible refine cb_skip ?_)
                with_reducible refine cb_step rfl fun K hK => ?_
                go_simp
                refine hK _ _ (fun h => by cases h) ?_
                clear hK K
                repeat (with_reducible refine cb_skip ?_)
                with_reducible refine cb_nil ?_
                simp only [Then, wpPieces]
                go_wp2_with fail
                go_roundw
                case rel => exact ⟨k + 1, by omega, by go_num, ⟨_, a6, c6, rfl, by omega, by rw [HI.out]; exact hO6.lower ((hkI.trans hk5).size)⟩, hkI.trans hk6⟩
                case measure => simp [intOf]; omega
              · obtain rfl : j = n := by omega
                have gjn : (j : Int) ≤ (j : Nat) := by omega
                have HE0 : Hid (out.drop j = []) := Lib.hid (List.drop_of_length_le (by have := HLn.out; omega))
                by_cases hcj : cx = j
                · have HDR : Hid (∀ W, Kp Non wr W → Ints W (some ⟨og, oo, none⟩) 0 0 (out.drop j)) := Lib.hid fun W r => by rw [HE0.out]; exact Ints.none_ _ (fun h => by cases h)
                  refine wp_region_pieces [(12, [0,0,0,0,0,1,0,0,0,1,2,2], fun W => Kp Non wr W)] (by kernel_rfl) (by kernel_rfl) ?_
                  refine (And.intro ?_ ?_ : _ ∧ _)
                  · exact ((Kp.refl Non wr).drew).drew
                  refine PB.out ?_
                  repeat (first | (with_reducible refine pb_skip ?_) | ((first | (with_reducible refine pb_k rfl ?_) | ((with_reducible refine pb_ky ?hg ?_); (case hg => simp [Region.wanted, yielded]; done))); intro K hK; apply Exists.intro; refine ⟨fun w' hC => ?_, ?_⟩; (obtain ⟨d2⟩ := hC; go_simp; rfl); go_simp; refine hK _ ?_; clear hK K) | ((with_reducible refine pb_kn ?hg ?_); (case hg => simp [Region.wanted, yielded]; done); intro K hK; go_simp; refine hK _ ?_; clear hK K))
                  with_reducible refine pb_nil ?_
                  simp only [List.take_succ_cons, List.take_zero, List.drop_zero]
                  refine CB.out ?_
                  repeat (with_reducible refine cb_skip ?_)
                  with_reducible refine cb_step rfl fun K hK => ?_
                  go_simp
                  refine hK _ _ (fun _ => ((Kp.refl Non wr).alloc _).drew.drew) ?_
                  clear hK K
                  repeat (with_reducible refine cb_skip ?_)
                  with_reducible refine cb_step rfl fun K hK => ?_
                  refine wp_append_row (P := Try.prog) (enc := encI) _ _ 66 rfl w.heap.size 3 i0 _ 8 Try.underlying66 hi0 hz0 hz1 hz2 rfl (by decide) encI_len encI_one _ 1 1 [(k : Int)] rfl (OwnR.mk (cur := #[.int .i64 k]) ?hb (heap_alloc_new _ _) (by omega) (by unfold maxLen; omega) rfl rfl rfl) _ _ _ (out.drop j) rfl ?hd ?h1 ?h2 ?h3 ?_
                  case hb => exact hkI.size
                  case hd => exact HDR.out _ (((Kp.refl Non wr).alloc _).drew.drew)
                  case h1 => omega
                  case h2 => omega
                  case h3 => exact ((hkI.alloc _).drew.drew).size
                  intro a5 c5 w5 hO5 hk5 _
                  have hk5 : Kp Non wr w5 := (((Kp.refl Non wr).alloc _).drew.drew).comp hk5 (fun _ _ f => f) (fun i hi hs => by obtain ⟨ad, hs, rfl⟩ := hs; cases hs; exact absurd hi (Nat.lt_irrefl _))
                  refine hK _ _ (fun _ => hk5) ?_
                  clear hK K
                  have hR5 := hO5.reads encI_len (by omega)
                  repeat (with_reducible refine cb_skip ?_)
                  with_reducible refine cb_step rfl fun K hK => ?_
                  refine wp_append_fullR (P := Try.prog) (enc := encI) _ _ 66 rfl 3 i0 _ 8 Try.underlying66 hi0 hz0 hz1 hz2 rfl (by decide) encI_len encI_one _ _ (out.take j) rfl (HTK.out _ hk5) _ _ _ _ rfl hR5 ?h0 ?h1 ?h2 ?_
                  case h0 => omega
                  case h1 => omega
                  case h2 => omega
                  intro a6 c6 w6 hO6 hk6
                  have hk6 := hk5.trans hk6
                  refine hK _ _ (fun h => by cases h) ?_
                  clear hK K
                  repeat (with_reducible refine cb_skip ?_)
                  with_reducible refine cb_step rfl fun K hK => ?_
                  go_simp
                  refine hK _ _ (fun h => by cases h) ?_
                  clear hK K
                  repeat (with_reducible refine cb_skip ?_)
                  with_reducible refine cb_nil ?_
                  simp only [Then, wpPieces]
                  go_wp2_with fail
                  go_roundw
                  case rel => exact ⟨k + 1, by omega, by go_num, ⟨_, a6, c6, rfl, by omega, by rw [HI.out]; exact hO6.lower ((hkI.trans hk5).size)⟩, hkI.trans hk6⟩
                  case measure => simp [intOf]; omega
                · have HDR : Hid (∀ W, Kp Non wr W → Ints W (some ⟨og, oo + j, none⟩) 0 (cx - j) (out.drop j)) := Lib.hid fun W r => by rw [HE0.out]; exact ⟨rfl, by omega, by omega, (fun h => by cases h), fun _ _ h => by simp at h⟩
                  refine wp_region_pieces [(12, [0,0,0,0,0,1,0,0,0,1,2,2], fun W => Kp Non wr W)] (by kernel_rfl) (by kernel_rfl) ?_
                  refine (And.intro ?_ ?_ : _ ∧ _)
                  · exact ((Kp.refl Non wr).drew).drew
                  refine PB.out ?_
                  repeat (first | (with_reducible refine pb_skip ?_) | ((first | (with_reducible refine pb_k rfl ?_) | ((with_reducible refine pb_ky ?hg ?_); (case hg => simp [Region.wanted, yielded]; done))); intro K hK; apply Exists.intro; refine ⟨fun w' hC => ?_, ?_⟩; (obtain ⟨d2⟩ := hC; go_simp; rfl); go_simp; refine hK _ ?_; clear hK K) | ((with_reducible refine pb_kn ?hg ?_); (case hg => simp [Region.wanted, yielded]; done); intro K hK; go_simp; refine hK _ ?_; clear hK K))
                  with_reducible refine pb_nil ?_
                  simp only [List.take_succ_cons, List.take_zero, List.drop_zero]
                  refine CB.out ?_
                  repeat (with_reducible refine cb_skip ?_)
                  with_reducible refine cb_step rfl fun K hK => ?_
                  go_simp
                  refine hK _ _ (fun _ => ((Kp.refl Non wr).alloc _).drew.drew) ?_
                  clear hK K
                  repeat (with_reducible refine cb_skip ?_)
                  with_reducible refine cb_step rfl fun K hK => ?_
                  refine wp_append_row (P := Try.prog) (enc := encI) _ _ 66 rfl w.heap.size 3 i0 _ 8 Try.underlying66 hi0 hz0 hz1 hz2 rfl (by decide) encI_len encI_one _ 1 1 [(k : Int)] rfl (OwnR.mk (cur := #[.int .i64 k]) ?hb (heap_alloc_new _ _) (by omega) (by unfold maxLen; omega) rfl rfl rfl) _ _ _ (out.drop j) rfl ?hd ?h1 ?h2 ?h3 ?_
                  case hb => exact hkI.size
                  case hd => exact HDR.out _ (((Kp.refl Non wr).alloc _).drew.drew)
                  case h1 => omega
                  case h2 => omega
                  case h3 => exact ((hkI.alloc _).drew.drew).size
                  intro a5 c5 w5 hO5 hk5 _
                  have hk5 : Kp Non wr w5 := (((Kp.refl Non wr).alloc _).drew.drew).comp hk5 (fun _ _ f => f) (fun i hi hs => by obtain ⟨ad, hs, rfl⟩ := hs; cases hs; exact absurd hi (Nat.lt_irrefl _))
                  refine hK _ _ (fun _ => hk5) ?_
                  clear hK K
                  have hR5 := hO5.reads encI_len (by omega)
                  repeat (with_reducible refine cb_skip ?_)
                  with_reducible refine cb_step rfl fun K hK => ?_
                  refine wp_append_fullR (P := Try.prog) (enc := encI) _ _ 66 rfl 3 i0 _ 8 Try.underlying66 hi0 hz0 hz1 hz2 rfl (by decide) encI_len encI_one _ _ (out.take j) rfl (HTK.out _ hk5) _ _ _ _ rfl hR5 ?h0 ?h1 ?h2 ?_
                  case h0 => omega
                  case h1 => omega
                  case h2 => omega
                  intro a6 c6 w6 hO6 hk6
                  have hk6 := hk5.trans hk6
                  refine hK _ _ (fun h => by cases h) ?_
                  clear hK K
                  repeat (with_reducible refine cb_skip ?_)
                  with_reducible refine cb_step rfl fun K hK => ?_
                  go_simp
                  refine hK _ _ (fun h => by cases h) ?_
                  clear hK K
                  repeat (with_reducible refine cb_skip ?_)
                  with_reducible refine cb_nil ?_
                  simp only [Then, wpPieces]
                  go_wp2_with fail
                  go_roundw
                  case rel => exact ⟨k + 1, by omega, by go_num, ⟨_, a6, c6, rfl, by omega, by rw [HI.out]; exact hO6.lower ((hkI.trans hk5).size)⟩, hkI.trans hk6⟩
                  case measure => simp [intOf]; omega
          · have hj00 : j = 0 := by omega
            have hc0 : cutT (ltE l) out k out.length = j := by rw [hcut_.out, hj00]; rfl
            have HI : Hid (sortS (ltE l) (doneT l (k + 1)) = out.take j ++ ([(k : Int)] ++ out.drop j)) := Lib.hid (by rw [HOn.out]; unfold insS; rw [hc0]; rfl)
            have gj0 : decide ((0 : Int) < (j : Nat)) = false := decide_eq_false (by omega)
            clear hc0 hcut_ hj00
            go_upto_region 7 with (fail)
            refine wp_region_pieces [(16, [0,0,0,0,0,0,0,0,0,0,0,0,0,0,0,2], fun W => W = wr.drew)] (by kernel_rfl) (by kernel_rfl) ?_
            refine (And.intro rfl ?_ : _ ∧ _)
            refine PB.out ?_
            repeat (first | (with_reducible refine pb_skip ?_) | ((first | (with_reducible refine pb_k rfl ?_) | ((with_reducible refine pb_ky ?hg ?_); (case hg => simp [Region.wanted, yielded]; done))); intro K hK; apply Exists.intro; refine ⟨fun w' hC => ?_, ?_⟩; (obtain ⟨rfl⟩ := hC; go_simp; rfl); go_simp; refine hK _ ?_; clear hK K) | ((with_reducible refine pb_kn ?hg ?_); (case hg => simp [Region.wanted, yielded]; done); intro K hK; go_simp; refine hK _ ?_; clear hK K))
            with_reducible refine pb_nil ?_
            simp only [List.take_succ_cons, List.take_zero, List.drop_zero]
            refine CB.out ?_
            repeat (with_reducible refine cb_skip ?_)
            with_reducible refine cb_step rfl fun K hK => ?_
            go_simp
            refine hK _ _ (fun h => by cases h) ?_
            clear hK K
            repeat (with_reducible refine cb_skip ?_)
            with_reducible refine cb_nil ?_
            simp only [Then, wpPieces]
            go_upto_region 9 with (fail)
            by_cases hjn : j < n
            · have gjc : (j : Int) ≤ (cx : Nat) := by omega
              have gjn : (j : Int) ≤ (n : Nat) := by omega
              have hcj : ¬ cx = j := by omega
              obtain ⟨gg, og, rfl⟩ := HRd.out.there (by omega)
              have HDR : Hid (∀ W, Kp Non wr W → Ints W (some ⟨gg, og + j, none⟩) (n - j) (cx - j) (out.drop j)) := Lib.hid fun W r => Ints.dropE (HRd.out.non r) j (by omega)
              have HTK : Hid (∀ W, Kp Non wr W → Ints W (some ⟨gg, og, none⟩) j j (out.take j)) := Lib.hid fun W r => Ints.takeE (HRd.out.non r) j (by omega)
              refine wp_region_pieces [(12, [0,0,0,0,0,1,0,0,0,1,2,2], fun W => Kp Non wr W)] (by kernel_rfl) (by kernel_rfl) ?_
              refine (And.intro ?_ ?_ : _ ∧ _)
              · exact ((Kp.refl Non wr).drew).drew
              refine PB.out ?_
              repeat (first | (with_reducible refine pb_skip ?_) | ((first | (with_reducible refine pb_k rfl ?_) | ((with_reducible refine pb_ky ?hg ?_); (case hg => simp [Region.wanted, yielded]; done))); intro K hK; apply Exists.intro; refine ⟨fun w' hC => ?_, ?_⟩; (obtain ⟨d2⟩ := hC; go_simp; rfl); go_simp; refine hK _ ?_; clear hK K) | ((with_reducible refine pb_kn ?hg ?_); (case hg => simp [Region.wanted, yielded]; done); intro K hK; go_simp; refine hK _ ?_; clear hK K))
              with_reducible refine pb_nil ?_
              simp only [List.take_succ_cons, List.take_zero, List.drop_zero]
              refine CB.out ?_
              repeat (with_reducible refine cb_skip ?_)
              with_reducible refine cb_step rfl fun K hK => ?_
              go_simp
              refine hK _ _ (fun _ => ((Kp.refl Non wr).alloc _).drew.drew) ?_
              clear hK K
              repeat (with_reducible refine cb_skip ?_)
              with_reducible refine cb_step rfl fun K hK => ?_
              refine wp_append_row (P := Try.prog) (enc := encI) _ _ 66 rfl w.heap.size 3 i0 _ 8 Try.underlying66 hi0 hz0 hz1 hz2 rfl (by decide) encI_len encI_one _ 1 1 [(k : Int)] rfl (OwnR.mk (cur := #[.int .i64 k]) ?hb (heap_alloc_new _ _) (by omega) (by unfold maxLen; omega) rfl rfl rfl) _ _ _ (out.drop j) rfl ?hd ?h1 ?h2 ?h3 ?_
              case hb => exact hkI.size
              case hd => exact HDR.out _ (((Kp.refl Non wr).alloc _).drew.drew)
              case h1 => omega
              case h2 => omega
              case h3 => exact ((hkI.alloc _).drew.drew).size
              intro a5 c5 w5 hO5 hk5 _
              have hk5 : Kp Non wr w5 := (((Kp.refl Non wr).alloc _).drew.drew).comp hk5 (fun _ _ f => f) (fun i hi hs => by obtain ⟨ad, hs, rfl⟩ := hs; cases hs; exact absurd hi (Nat.lt_irrefl _))
              refine hK _ _ (fun _ => hk5) ?_
              clear hK K
              have hR5 := hO5.reads encI_len (by omega)
              repeat (with_reducible refine cb_skip ?_)
              with_reducible refine cb_step rfl fun K hK => ?_
              refine wp_append_fullR (P := Try.prog) (enc := encI) _ _ 66 rfl 3 i0 _ 8 Try.underlying66 hi0 hz0 hz1 hz2 rfl (by decide) encI_len encI_one _ _ (out.take j) rfl (HTK.out _ hk5) _ _ _ _ rfl hR5 ?h0 ?h1 ?h2 ?_
              case h0 => omega
              case h1 => omega
              case h2 => omega
              intro a6 c6 w6 hO6 hk6
              have hk6 := hk5.trans hk6
              refine hK _ _ (fun h => by cases h) ?_
              clear hK K
              repeat (with_reducible refine cb_skip ?_)
              with_reducible refine cb_step rfl fun K hK => ?_
              go_simp
              refine hK _ _ (fun h => by cases h) ?_
              clear hK K
              repeat (with_reducible refine cb_skip ?_)
              with_reducible refine cb_nil ?_
              simp only [Then, wpPieces]
              go_wp2_with fail
              go_roundw
              case rel => exact ⟨k + 1, by omega, by go_num, ⟨_, a6, c6, rfl, by omega, by rw [HI.out]; exact hO6.lower ((hkI.trans hk5).size)⟩, hkI.trans hk6⟩
              case measure => simp [intOf]; omega
            · obtain rfl : j = n := by omega
              have gjc : (j : Int) ≤ (cx : Nat) := by omega
              have gjn : (j : Int) ≤ (j : Nat) := by omega
              have HE0 : Hid (out.drop j = []) := Lib.hid (List.drop_of_length_le (by have := HLn.out; omega))
              have HTK : Hid (∀ W, Kp Non wr W → Ints W ax j j (out.take j)) := Lib.hid fun W r => Ints.takeE (HRd.out.non r) j (Nat.le_refl _)
              rcases hOi.lie with ⟨rfl, h1, rfl, _⟩ | ⟨gg, cur, rfl, hlie⟩
              · obtain rfl : j = 0 := h1
                have HDR : Hid (∀ W, Kp Non wr W → Ints W none 0 0 (out.drop 0)) := Lib.hid fun W r => by rw [HE0.out]; exact Reads.empty W
                simp only [Int.natCast_zero]
                refine wp_region_pieces [(12, [0,0,0,0,0,1,0,0,0,1,2,2], fun W => Kp Non wr W)] (by kernel_rfl) (by kernel_rfl) ?_
                refine (And.intro ?_ ?_ : _ ∧ _)
                · exact ((Kp.refl Non wr).drew).drew
                refine PB.out ?_
                repeat (first | (with_reducible refine pb_skip ?_) | ((first | (with_reducible refine pb_k rfl ?_) | ((with_reducible refine pb_ky ?hg ?_); (case hg => simp [Region.wanted, yielded]; done))); intro K hK; apply Exists.intro; refine ⟨fun w' hC => ?_, ?_⟩; (obtain ⟨d2⟩ := hC; go_simp; rfl); go_simp; refine hK _ ?_; clear hK K) | ((with_reducible refine pb_kn ?hg ?_); (case hg => simp [Region.wanted, yielded]; done); intro K hK; go_simp; refine hK _ ?_; clear hK K))
                with_reducible refine pb_nil ?_
                simp only [List.take_succ_cons, List.take_zero, List.drop_zero]
                refine CB.out ?_
                repeat (with_reducible refine cb_skip ?_)
                with_reducible refine cb_step rfl fun K hK => ?_
                go_simp
                refine hK _ _ (fun _ => ((Kp.refl Non wr).alloc _).drew.drew) ?_
                clear hK K
                repeat (with_reducible refine cb_skip ?_)
                with_reducible refine cb_step rfl fun K hK => ?_
                refine wp_append_row (P := Try.prog) (enc := encI) _ _ 66 rfl w.heap.size 3 i0 _ 8 Try.underlying66 hi0 hz0 hz1 hz2 rfl (by decide) encI_len encI_one _ 1 1 [(k : Int)] rfl (OwnR.mk (cur := #[.int .i64 k]) ?hb (heap_alloc_new _ _) (by omega) (by unfold maxLen; omega) rfl rfl rfl) _ _ _ (out.drop 0) rfl ?hd ?h1 ?h2 ?h3 ?_
                case hb => exact hkI.size
                case hd => exact HDR.out _ (((Kp.refl Non wr).alloc _).drew.drew)
                case h1 => omega
                case h2 => omega
                case h3 => exact ((hkI.alloc _).drew.drew).size
                intro a5 c5 w5 hO5 hk5 _
                have hk5 : Kp Non wr w5 := (((Kp.refl Non wr).alloc _).drew.drew).comp hk5 (fun _ _ f => f) (fun i hi hs => by obtain ⟨ad, hs, rfl⟩ := hs; cases hs; exact absurd hi (Nat.lt_irrefl _))
                refine hK _ _ (fun _ => hk5) ?_
                clear hK K
                have hR5 := hO5.reads encI_len (by omega)
                repeat (with_reducible refine cb_skip ?_)
                with_reducible refine cb_step rfl fun K hK => ?_
                refine wp_append_fullR (P := Try.prog) (enc := encI) _ _ 66 rfl 3 i0 _ 8 Try.underlying66 hi0 hz0 hz1 hz2 rfl (by decide) encI_len encI_one _ _ (out.take 0) rfl (HTK.out _ hk5) _ _ _ _ rfl hR5 ?h0 ?h1 ?h2 ?_
                case h0 => omega
                case h1 => omega
                case h2 => omega
                intro a6 c6 w6 hO6 hk6
                have hk6 := hk5.trans hk6
                refine hK _ _ (fun h => by cases h) ?_
                clear hK K
                repeat (with_reducible refine cb_skip ?_)
                with_reducible refine cb_step rfl fun K hK => ?_
                go_simp
                refine hK _ _ (fun h => by cases h) ?_
                clear hK K
                repeat (with_reducible refine cb_skip ?_)
                with_reducible refine cb_nil ?_
                simp only [Then, wpPieces]
                go_wp2_with fail
                go_roundw
                case rel => exact ⟨k + 1, by omega, by go_num, ⟨_, a6, c6, rfl, by omega, by rw [HI.out]; exact hO6.lower ((hkI.trans hk5).size)⟩, hkI.trans hk6⟩
                case measure => simp [intOf]; omega
              · clear hlie
                by_cases hcj : cx = j
                · have HDR : Hid (∀ W, Kp Non wr W → Ints W (some ⟨gg, 0, none⟩) 0 0 (out.drop j)) := Lib.hid fun W r => by rw [HE0.out]; exact Ints.none_ _ (fun h => by cases h)
                  refine wp_region_pieces [(12, [0,0,0,0,0,1,0,0,0,1,2,2], fun W => Kp Non wr W)] (by kernel_rfl) (by kernel_rfl) ?_
                  refine (And.intro ?_ ?_ : _ ∧ _)
                  · exact ((Kp.refl Non wr).drew).drew
                  refine PB.out ?_
                  repeat (first | (with_reducible refine pb_skip ?_) | ((first | (with_reducible refine pb_k rfl ?_) | ((with_reducible refine pb_ky ?hg ?_); (case hg => simp [Region.wanted, yielded]; done))); intro K hK; apply Exists.intro; refine ⟨fun w' hC => ?_, ?_⟩; (obtain ⟨d2⟩ := hC; go_simp; rfl); go_simp; refine hK _ ?_; clear hK K) | ((with_reducible refine pb_kn ?hg ?_); (case hg => simp [Region.wanted, yielded]; done); intro K hK; go_simp; refine hK _ ?_; clear hK K))
                  with_reducible refine pb_nil ?_
                  simp only [List.take_succ_cons, List.take_zero, List.drop_zero]
                  refine CB.out ?_
                  repeat (with_reducible refine cb_skip ?_)
                  with_reducible refine cb_step rfl fun K hK => ?_
                  go_simp
                  refine hK _ _ (fun _ => ((Kp.refl Non wr).alloc _).drew.drew) ?_
                  clear hK K
                  repeat (with_reducible refine cb_skip ?_)
                  with_reducible refine cb_step rfl fun K hK => ?_
                  refine wp_append_row (P := Try.prog) (enc := encI) _ _ 66 rfl w.heap.size 3 i0 _ 8 Try.underlying66 hi0 hz0 hz1 hz2 rfl (by decide) encI_len encI_one _ 1 1 [(k : Int)] rfl (OwnR.mk (cur := #[.int .i64 k]) ?hb (heap_alloc_new _ _) (by omega) (by unfold maxLen; omega) rfl rfl rfl) _ _ _ (out.drop j) rfl ?hd ?h1 ?h2 ?h3 ?_
                  case hb => exact hkI.size
                  case hd => exact HDR.out _ (((Kp.refl Non wr).alloc _).drew.drew)
                  case h1 => omega
                  case h2 => omega
                  case h3 => exact ((hkI.alloc _).drew.drew).size
                  intro a5 c5 w5 hO5 hk5 _
                  have hk5 : Kp Non wr w5 := (((Kp.refl Non wr).alloc _).drew.drew).comp hk5 (fun _ _ f => f) (fun i hi hs => by obtain ⟨ad, hs, rfl⟩ := hs; cases hs; exact absurd hi (Nat.lt_irrefl _))
                  refine hK _ _ (fun _ => hk5) ?_
                  clear hK K
                  have hR5 := hO5.reads encI_len (by omega)
                  repeat (with_reducible refine cb_skip ?_)
                  with_reducible refine cb_step rfl fun K hK => ?_
                  refine wp_append_fullR (P := Try.prog) (enc := encI) _ _ 66 rfl 3 i0 _ 8 Try.underlying66 hi0 hz0 hz1 hz2 rfl (by decide) encI_len encI_one _ _ (out.take j) rfl (HTK.out _ hk5) _ _ _ _ rfl hR5 ?h0 ?h1 ?h2 ?_
                  case h0 => omega
                  case h1 => omega
                  case h2 => omega
                  intro a6 c6 w6 hO6 hk6
                  have hk6 := hk5.trans hk6
                  refine hK _ _ (fun h => by cases h) ?_
                  clear hK K
                  repeat (with_reducible refine cb_skip ?_)
                  with_reducible refine cb_step rfl fun K hK => ?_
                  go_simp
                  refine hK _ _ (fun h => by cases h) ?_
                  clear hK K
                  repeat (with_reducible refine cb_skip ?_)
                  with_reducible refine cb_nil ?_
                  simp only [Then, wpPieces]
                  go_wp2_with fail
                  go_roundw
                  case rel => exact ⟨k + 1, by omega, by go_num, ⟨_, a6, c6, rfl, by omega, by rw [HI.out]; exact hO6.lower ((hkI.trans hk5).size)⟩, hkI.trans hk6⟩
                  case measure => simp [intOf]; omega
                · have HDR : Hid (∀ W, Kp Non wr W → Ints W (some ⟨gg, j, none⟩) 0 (cx - j) (out.drop j)) := Lib.hid fun W r => by rw [HE0.out]; exact ⟨rfl, by omega, by omega, (fun h => by cases h), fun _ _ h => by simp at h⟩
                  refine wp_region_pieces [(12, [0,0,0,0,0,1,0,0,0,1,2,2], fun W => Kp Non wr W)] (by kernel_rfl) (by kernel_rfl) ?_
                  refine (And.intro ?_ ?_ : _ ∧ _)
                  · exact ((Kp.refl Non wr).drew).drew
                  refine PB.out ?_
                  repeat (first | (with_reducible refine pb_skip ?_) | ((first | (with_reducible refine pb_k rfl ?_) | ((with_reducible refine pb_ky ?hg ?_); (case hg => simp [Region.wanted, yielded]; done))); intro K hK; apply Exists.intro; refine ⟨fun w' hC => ?_, ?_⟩; (obtain ⟨d2⟩ := hC; go_simp; rfl); go_simp; refine hK _ ?_; clear hK K) | ((with_reducible refine pb_kn ?hg ?_); (case hg => simp [Region.wanted, yielded]; done); intro K hK; go_simp; refine hK _ ?_; clear hK K))
                  with_reducible refine pb_nil ?_
                  simp only [List.take_succ_cons, List.take_zero, List.drop_zero]
                  refine CB.out ?_
                  repeat (with_reducible refine cb_skip ?_)
                  with_reducible refine cb_step rfl fun K hK => ?_
                  go_simp
                  refine hK _ _ (fun _ => ((Kp.refl Non wr).alloc _).drew.drew) ?_
                  clear hK K
                  repeat (with_reducible refine cb_skip ?_)
                  with_reducible refine cb_step rfl fun K hK => ?_
                  refine wp_append_row (P := Try.prog) (enc := encI) _ _ 66 rfl w.heap.size 3 i0 _ 8 Try.underlying66 hi0 hz0 hz1 hz2 rfl (by decide) encI_len encI_one _ 1 1 [(k : Int)] rfl (OwnR.mk (cur := #[.int .i64 k]) ?hb (heap_alloc_new _ _) (by omega) (by unfold maxLen; omega) rfl rfl rfl) _ _ _ (out.drop j) rfl ?hd ?h1 ?h2 ?h3 ?_
                  case hb => exact hkI.size
                  case hd => exact HDR.out _ (((Kp.refl Non wr).alloc _).drew.drew)
                  case h1 => omega
                  case h2 => omega
                  case h3 => exact ((hkI.alloc _).drew.drew).size
                  intro a5 c5 w5 hO5 hk5 _
                  have hk5 : Kp Non wr w5 := (((Kp.refl Non wr).alloc _).drew.drew).comp hk5 (fun _ _ f => f) (fun i hi hs => by obtain ⟨ad, hs, rfl⟩ := hs; cases hs; exact absurd hi (Nat.lt_irrefl _))
                  refine hK _ _ (fun _ => hk5) ?_
                  clear hK K
                  have hR5 := hO5.reads encI_len (by omega)
                  repeat (with_reducible refine cb_skip ?_)
                  with_reducible refine cb_step rfl fun K hK => ?_
                  refine wp_append_fullR (P := Try.prog) (enc := encI) _ _ 66 rfl 3 i0 _ 8 Try.underlying66 hi0 hz0 hz1 hz2 rfl (by decide) encI_len encI_one _ _ (out.take j) rfl (HTK.out _ hk5) _ _ _ _ rfl hR5 ?h0 ?h1 ?h2 ?_
                  case h0 => omega
                  case h1 => omega
                  case h2 => omega
                  intro a6 c6 w6 hO6 hk6
                  have hk6 := hk5.trans hk6
                  refine hK _ _ (fun h => by cases h) ?_
                  clear hK K
                  repeat (with_reducible refine cb_skip ?_)
                  with_reducible refine cb_step rfl fun K hK => ?_
                  go_simp
                  refine hK _ _ (fun h => by cases h) ?_
                  clear hK K
                  repeat (with_reducible refine cb_skip ?_)
                  with_reducible refine cb_nil ?_
                  simp only [Then, wpPieces]
                  go_wp2_with fail
                  go_roundw
                  case rel => exact ⟨k + 1, by omega, by go_num, ⟨_, a6, c6, rfl, by omega, by rw [HI.out]; exact hO6.lower ((hkI.trans hk5).size)⟩, hkI.trans hk6⟩
                  case measure => simp [intOf]; omega
      · have gen : x.en ≤ 0 := by omega
        have HE := Lib.hid (HOf.out (by rw [HEn.out]; exact hen))
        clear HOn HOf hen
        go_wp2_with fail
        go_roundw
        case rel => exact ⟨k + 1, by omega, by go_num, ⟨n, ax, cx, rfl, by omega, by rw [HE.out]; exact hO⟩, hkV⟩
        case measure => simp [intOf]; omega
    · obtain rfl : k = l.length := by omega
      go_wp2_with fail
      go_ret
      exact ⟨ax, n, cx, rfl, hO, hkr⟩
end Go.Proofs.Ytpehfnobgdjgcaa
