/-
  The puts of a block, shard by shard: the program's.
-/
import Derived.Test.YtpehfnobgdjgcaaG17
namespace Go.Proofs.Ytpehfnobgdjgcaa
open Go.RowKit

/-- Are two names others? -/
def neqB (a b c d : Int) : Bool := !decide ((a, b) = (c, d))
@[go_sem high] theorem run_neqRef (a b c d : Int) (w : World) : (binOp .neq 39 (.agg #[.int .i64 a, .int .i64 b]) (.agg #[.int .i64 c, .int .i64 d])).run Try.prog w = .ok (.bool (neqB a b c d)) w := by
  unfold neqB
  have h : (Op.equalIn 10000 39 (.agg #[.int .i64 a, .int .i64 b]) (.agg #[.int .i64 c, .int .i64 d])).run Try.prog w = _ := eq_ref a b c d w
  rw [run_neq_struct, h]
  by_cases h1 : a = c <;> by_cases h2 : b = d <;> simp [h1, h2, Result.andThen]
@[go_sem] theorem guardRef : Try.prog.eqGuardType Try.prog.depth 39 = false := by kernel_rfl

/-- What the region reads. -/
structure H8 (bx bm : Nat) (x : LifeV) (m : MRow) (W : World) : Prop where
  g0 : W.cell? ⟨bx, 0, none⟩ = some (.int .i64 x.no)
  g1 : W.cell? ⟨bx, 1, none⟩ = some (.int .i64 x.sh)
  g2 : W.cell? ⟨bx, 2, none⟩ = some (.slice x.log.a x.log.n x.log.c)
  g3 : (Instr.lookup 78 (.map (some bm)) (.int .i64 x.sh) false).run Try.prog W = .ok (.slice m.a m.n m.c) W

/-- A history comes out, or that two lives don't agree. -/
def HistOut (r : Option (List PutV)) (w : World) (e : Ending) (w' : World) : Prop := ∃ a n c, e = .returned (.tuple #[.slice a n c, .bool r.isSome]) ∧ OwnP w' w.heap.size a n c (r.getD []) ∧ Kp Non w w'

set_option maxRecDepth 100000 in
set_option maxHeartbeats 1000000 in
theorem history_calls (a : Option Addr) (c : Nat) (l : List LifeV) (block : Int) (w : World) (hl : Lives w a l.length c l) (hs : l.length ≤ 12) (hlog : ∀ y ∈ l, y.log.l.length ≤ 1000) : Calls Try.prog 14 #[.slice a l.length c, .int .i64 block] w (HistOut (histL l block) w) := by
  have hcx := hl.reads.cap
  have hmx := hl.reads.max
  obtain ⟨i0, hi0, hz0, hz1, hz2⟩ := info_parts infoI
  obtain ⟨j0, hj0, hy0, hy1, hy2⟩ := info_parts infoPuts
  have hMk : ∀ w, (Instr.makeMap 78 none).run Try.prog w = .ok (.map (some w.heap.size)) (w.alloc (.map #[] 0)) := fun _ => rfl
  obtain ⟨W, eW, hM0, hkM⟩ : ∃ W, w.alloc (.map #[] 0) = W ∧ MapIs encZ encMR W w.heap.size ([] : List (Int × MRow)) ∧ Kp Non w W := ⟨_, rfl, MapIs.new w encZ encMR, (Kp.refl _ w).alloc _⟩
  have HW := Lib.hid eW
  have hB : w.heap.size < W.heap.size := by rw [← eW, World.size_alloc]; omega
  clear eW
  go_enter Try.func14, Try.ntmps14
  go_wp2_with fail
  rw [HW.out]
  obtain ⟨bm, hbs⟩ : ∃ b, w.heap.size = b := ⟨_, rfl⟩
  rw [hbs] at hM0 hB ⊢
  have HBM := Lib.hid hbs
  clear hMk hbs
  have HB := Lib.hid hB
  clear hB
  have hz : ∀ W, (zeroValue 79).run Try.prog W = .ok (.slice none 0 0) W := fun _ => by kernel_rfl
  have HZ := Lib.hid hz
  clear hz
  go_loopw [7, 22] (fun v7 v22 wr => ∃ k : Nat, k ≤ l.length ∧ v22 = .int .i64 k ∧ (∃ n ax cx I, v7 = .slice ax n cx ∧ n ≤ k ∧ OwnI wr W.heap.size ax n cx I ∧ Hid (IdsOf I (l.take k))) ∧ Hid (∃ L, HInv wr W.heap.size bm L (l.take k) block) ∧ Kp (One bm) W wr) (fun _ v22 _ => l.length - (intOf v22).toNat)
  case atStart => exact ⟨0, by omega, rfl, ⟨0, none, 0, [], rfl, by omega, OwnR.nil _ _ _, Lib.hid ⟨List.nodup_nil, by simp⟩⟩, Lib.hid ⟨[], hM0, fun id => by simp [mget_nil], fun id m h => by simp [mget_nil] at h, fun id id' m m' h => by simp [mget_nil] at h⟩, Kp.refl _ _⟩
  case round =>
    obtain ⟨k, hk', rfl, ⟨n, ax, cx, I, rfl, hnk, hO, hIds⟩, hL, hkr⟩ := hrel
    by_cases hlt : k < l.length
    · have g : (k : Int) < (l.length : Nat) := by omega
      have HLR : Hid (∀ W', Kp (One bm) W W' → Lives W' a l.length c l) := Lib.hid fun W' r => hl.non (hkM.newer r fun i hi => by have : i = bm := hi; have := HBM.out; omega)
      obtain ⟨b, o, rfl⟩ := hl.reads.there (by omega)
      obtain ⟨c0, c1, c2⟩ := (HLR.out _ hkr).cells hlt
      have HT := Lib.hid (List.take_succ_eq_append_getElem hlt)
      have HLx := Lib.hid fun W' (r : Kp (One bm) W W') => (HLR.out W' r).log_of hlt
      have HLl := Lib.hid (hlog _ (List.getElem_mem hlt))
      have HN := Lib.hid (BxL.new2 wr l[k])
      generalize l[k] = x at *
      obtain ⟨L, hI⟩ := hL.out
      go_upto_region 6 with (fail)
      obtain ⟨V, eV, hN, kV⟩ := HN.out
      rw [eV]
      obtain ⟨n0, n1, n2⟩ := hN.cells
      have hkV := hkr.trans kV.non
      have HBX : Hid (∀ m, RowOk wr W.heap.size (l.take k) block x.sh m → ∀ i, Blk m.a i → i ≠ wr.heap.size) := Lib.hid fun m hm i hi => by have := (hm.own.blk i hi).2; omega
      obtain ⟨m, hm⟩ : ∃ m, (mget L x.sh).getD MRow.nil = m := ⟨_, rfl⟩
      have hF := hI.found x.sh
      rw [hm] at hF
      have HBX := Lib.hid (HBX.out m hF)
      have HBXi : Hid (∀ i, Blk ax i → i ≠ wr.heap.size) := Lib.hid fun i hi => by have := (hO.blk i hi).2; omega
      have hI := hI.non kV
      have hO := hO.non kV
      have hF := hF.non kV
      have hZr := hF.zero
      have HLK : Hid (∀ W', MapIs encZ encMR W' bm L → (Instr.lookup 78 (.map (some bm)) (.int .i64 x.sh) false).run Try.prog W' = .ok (.slice m.a m.n m.c) W') := Lib.hid fun W' q => (run_lookup_is (keys_int Try.underlying3) q Try.underlying78 (HZ.out W') x.sh false).trans (by rw [if_neg (by simp), mget_getD, hm]; rfl)
      have hLK := HLK.out V hI.map
      clear eV HN hL c0 c1 c2
      generalize wr.heap.size = bx at *
      have hmc := (hF.own.reads encPR_len (by omega)).cap
      have hmm := (hF.own.reads encPR_len (by omega)).max
      have HmN : Hid (m.n ≤ 12) := Lib.hid (by have := hF.len; simp at this; omega)
      by_cases h0 : m.n = 0
      · have e0 : ((m.n : Int) == 0) = true := by simp [h0]
        have HIds := Lib.hid (show IdsOf (I ++ [x.sh]) (l.take (k + 1)) from by rw [HT.out]; exact hIds.out.new x (hZr.1 h0))
        clear h0 hZr
        go_upto_region 8 with (at_builtin; refine wpList_append_row rfl _ _ 66 rfl W.heap.size 3 i0 _ 8 Try.underlying66 hi0 hz0 hz1 hz2 rfl (by decide) encI_len encI_one ax n cx I rfl (hO.non ((Kp.refl _ _).alloc _)) _ 1 1 [x.sh] rfl (Reads.new rfl rfl) (by omega) (by omega) ?_ ?_; exact ((hkV.alloc _).size); intro a3 c3 w3 hO3 hk3 _)
        have hVa : Kp Non V (V.alloc (.cells #[.int .i64 x.sh] 3)) := (Kp.refl Non V).alloc _
        have hN := Bx.kp (Bx.non hN hVa) hk3 (fun q => HBXi.out _ q rfl)
        have hF : RowOk w3 W.heap.size (l.take k) block x.sh m := by
          have := (hI.non hVa).ints HB.out (hO.non hVa) hk3
          have := this.found x.sh
          rwa [hm] at this
        have hkV : Kp (One bm) W w3 := (hkV.trans hVa.non).comp hk3 (fun _ _ h => h) (fun i hi hs => absurd ((hO.blk i hs).1) (by omega))
        have hI := (hI.non hVa).ints HB.out (hO.non hVa) hk3
        have hO := hO3
        clear hVa hk3 hO3
        obtain ⟨VV, eVV⟩ : ∃ VV, w3 = VV := ⟨_, rfl⟩
        rw [eVV] at hkV hI hO hF hN ⊢
        have HBm : Hid (∀ i, Blk m.a i → i ≠ bm) := Lib.hid fun i hi e => by have := (hF.own.blk i hi).1; have := HB.out; omega
        have HC : Hid (∀ W', Kp (Blk m.a) VV W' → H8 bx bm x m W') := Lib.hid fun W' r => by
          obtain ⟨n0, n1, n2⟩ := BxL.cells (Bx.kp hN r (fun q => HBX.out _ q rfl))
          exact ⟨n0, n1, n2, HLK.out W' (hI.map.kp r fun q => HBm.out _ q rfl)⟩
        have HPu := Lib.hid fun W' (r : Kp Non VV W') => puts_calls x block W' (HLx.out W' (hkV.trans r.non)) HLl.out
        clear n0 n1 n2 hLK
        refine wp_region_pieces [(13, [0,0,0,0,0,0,0,0,0,1,1,1,2], H8 bx bm x m)] (by kernel_rfl) (by kernel_rfl) ?_
        refine (And.intro ?_ ?_ : _ ∧ _)
        · exact HC.out _ (Kp.refl _ _).drew
        refine PB.out ?_
        repeat (first | (with_reducible refine pb_skip ?_) | ((first | (with_reducible refine pb_k rfl ?_) | ((with_reducible refine pb_ky ?hg ?_); (case hg => simp [Region.wanted, yielded]; done))); intro K hK; apply Exists.intro; refine ⟨fun w' hC => ?_, ?_⟩; (obtain ⟨d0, d1, d2, d3⟩ := hC; go_simp; rfl); go_simp; refine hK _ ?_; clear hK K) | ((with_reducible refine pb_kn ?hg ?_); (case hg => simp [Region.wanted, yielded]; done); intro K hK; go_simp; refine hK _ ?_; clear hK K))
        with_reducible refine pb_nil ?_
        simp only [List.take_succ_cons, List.take_zero, List.drop_zero]
        refine CB.out ?_
        repeat (with_reducible refine cb_skip ?_)
        with_reducible refine cb_step rfl fun K hK => ?_
        go_simp
        refine (HPu.out _ (Kp.refl _ _).drew).mono ?_
        rintro e w5 ⟨qa, qn, qc, rfl, hOq, hk5⟩
        have hk5 := ((Kp.refl Non VV).drew).trans hk5
        refine hK _ _ (fun _ => HC.out _ hk5.non) ?_
        clear hK K
        repeat (with_reducible refine cb_skip ?_)
        with_reducible refine cb_step rfl fun K hK => ?_
        go_simp
        have k5 : Kp Non VV (w5.alloc (.cells #[.slice qa qn qc] 32)) := hk5.alloc _
        refine hK _ _ (fun _ => HC.out _ k5.non) ?_
        clear hK K
        repeat (with_reducible refine cb_skip ?_)
        with_reducible refine cb_step rfl fun K hK => ?_
        have hq5 : OwnP (w5.alloc (.cells #[.slice qa qn qc] 32)) W.heap.size qa qn qc (putsL x block) := (hOq.non ((Kp.refl _ _).alloc _)).lower (hkV.drew.size)
        refine wp_append_row (P := Try.prog) (enc := encPR) _ _ 79 rfl W.heap.size 32 j0 _ 24 Try.underlying79 hj0 hy0 hy1 hy2 rfl (by decide) encPR_len encPR_one _ m.n m.c m.l rfl (hF.own.non k5) _ _ _ [⟨qa, qn, qc, putsL x block⟩] rfl (Reads.new rfl rfl) ?h1 ?h2 ?h3 ?_
        case h1 => have := HmN.out; omega
        case h2 => have := HmN.out; omega
        case h3 => exact (hkV.trans k5.non).size
        intro a6 c6 w6 hO6 hk6 ha6
        refine hK _ _ (fun _ => HC.out _ (k5.non.trans hk6)) ?_
        clear hK K
        have hM6 := (hI.map.non k5).kp hk6 (fun q => HBm.out _ q rfl)
        obtain ⟨w7, hU, hM7, k7⟩ := run_update_is (keys_int Try.underlying3) hM6 Try.underlying78 x.sh (⟨a6, m.n + 1, c6, m.l ++ [⟨qa, qn, qc, putsL x block⟩]⟩ : MRow)
        have hI7 := (hI.non k5).step HB.out x (q := ⟨qa, qn, qc, putsL x block⟩) hq5 rfl hm.symm hO6 hk6 ha6 hM7 k7
        rw [← HT.out] at hI7
        have hO7 := ((hO.non k5).kp hk6 (tag_ne (hF.own.non k5) (hO.non k5) (by decide))).kp k7 (fun i hi e => by have := (hO.blk i hi).1; have : i = bm := e; have := HB.out; omega)
        have hk7 : Kp (One bm) W w7 := ((hkV.trans k5.non).comp hk6 (fun _ _ h => h) (fun i hi hs => absurd ((hF.own.blk i hs).1) (by omega))).trans k7
        repeat (with_reducible refine cb_skip ?_)
        with_reducible refine cb_step rfl fun K hK => ?_
        simp only [encMR] at hU
        go_simp
        refine hK _ _ (fun h => by cases h) ?_
        clear hK K
        repeat (with_reducible refine cb_skip ?_)
        with_reducible refine cb_nil ?_
        simp only [Then, wpPieces]
        go_wp2_with fail
        go_roundw
        case rel => exact ⟨k + 1, by omega, by go_num, ⟨_, _, _, _, rfl, by omega, hO7, HIds⟩, Lib.hid ⟨_, hI7⟩, hk7⟩
        case measure => simp [intOf]; omega
      · have e0 : ((m.n : Int) == 0) = false := by simp [h0]
        have HIds := Lib.hid (show IdsOf I (l.take (k + 1)) from by rw [HT.out]; exact hIds.out.old x (fun e => h0 (hZr.2 e)))
        go_upto_region 8 with (fail)
        obtain ⟨VV, eVV⟩ : ∃ VV, V = VV := ⟨_, rfl⟩
        rw [eVV] at hkV hI hO hF hN ⊢
        have HBm : Hid (∀ i, Blk m.a i → i ≠ bm) := Lib.hid fun i hi e => by have := (hF.own.blk i hi).1; have := HB.out; omega
        have HC : Hid (∀ W', Kp (Blk m.a) VV W' → H8 bx bm x m W') := Lib.hid fun W' r => by
          obtain ⟨n0, n1, n2⟩ := BxL.cells (Bx.kp hN r (fun q => HBX.out _ q rfl))
          exact ⟨n0, n1, n2, HLK.out W' (hI.map.kp r fun q => HBm.out _ q rfl)⟩
        have HPu := Lib.hid fun W' (r : Kp Non VV W') => puts_calls x block W' (HLx.out W' (hkV.trans r.non)) HLl.out
        clear n0 n1 n2 hLK
        refine wp_region_pieces [(13, [0,0,0,0,0,0,0,0,0,1,1,1,2], H8 bx bm x m)] (by kernel_rfl) (by kernel_rfl) ?_
        refine (And.intro ?_ ?_ : _ ∧ _)
        · exact HC.out _ (Kp.refl _ _).drew
        refine PB.out ?_
        repeat (first | (with_reducible refine pb_skip ?_) | ((first | (with_reducible refine pb_k rfl ?_) | ((with_reducible refine pb_ky ?hg ?_); (case hg => simp [Region.wanted, yielded]; done))); intro K hK; apply Exists.intro; refine ⟨fun w' hC => ?_, ?_⟩; (obtain ⟨d0, d1, d2, d3⟩ := hC; go_simp; rfl); go_simp; refine hK _ ?_; clear hK K) | ((with_reducible refine pb_kn ?hg ?_); (case hg => simp [Region.wanted, yielded]; done); intro K hK; go_simp; refine hK _ ?_; clear hK K))
        with_reducible refine pb_nil ?_
        simp only [List.take_succ_cons, List.take_zero, List.drop_zero]
        refine CB.out ?_
        repeat (with_reducible refine cb_skip ?_)
        with_reducible refine cb_step rfl fun K hK => ?_
        go_simp
        refine (HPu.out _ (Kp.refl _ _).drew).mono ?_
        rintro e w5 ⟨qa, qn, qc, rfl, hOq, hk5⟩
        have hk5 := ((Kp.refl Non VV).drew).trans hk5
        refine hK _ _ (fun _ => HC.out _ hk5.non) ?_
        clear hK K
        repeat (with_reducible refine cb_skip ?_)
        with_reducible refine cb_step rfl fun K hK => ?_
        go_simp
        have k5 : Kp Non VV (w5.alloc (.cells #[.slice qa qn qc] 32)) := hk5.alloc _
        refine hK _ _ (fun _ => HC.out _ k5.non) ?_
        clear hK K
        repeat (with_reducible refine cb_skip ?_)
        with_reducible refine cb_step rfl fun K hK => ?_
        have hq5 : OwnP (w5.alloc (.cells #[.slice qa qn qc] 32)) W.heap.size qa qn qc (putsL x block) := (hOq.non ((Kp.refl _ _).alloc _)).lower (hkV.drew.size)
        refine wp_append_row (P := Try.prog) (enc := encPR) _ _ 79 rfl W.heap.size 32 j0 _ 24 Try.underlying79 hj0 hy0 hy1 hy2 rfl (by decide) encPR_len encPR_one _ m.n m.c m.l rfl (hF.own.non k5) _ _ _ [⟨qa, qn, qc, putsL x block⟩] rfl (Reads.new rfl rfl) ?h1 ?h2 ?h3 ?_
        case h1 => have := HmN.out; omega
        case h2 => have := HmN.out; omega
        case h3 => exact (hkV.trans k5.non).size
        intro a6 c6 w6 hO6 hk6 ha6
        refine hK _ _ (fun _ => HC.out _ (k5.non.trans hk6)) ?_
        clear hK K
        have hM6 := (hI.map.non k5).kp hk6 (fun q => HBm.out _ q rfl)
        obtain ⟨w7, hU, hM7, k7⟩ := run_update_is (keys_int Try.underlying3) hM6 Try.underlying78 x.sh (⟨a6, m.n + 1, c6, m.l ++ [⟨qa, qn, qc, putsL x block⟩]⟩ : MRow)
        have hI7 := (hI.non k5).step HB.out x (q := ⟨qa, qn, qc, putsL x block⟩) hq5 rfl hm.symm hO6 hk6 ha6 hM7 k7
        rw [← HT.out] at hI7
        have hO7 := ((hO.non k5).kp hk6 (tag_ne (hF.own.non k5) (hO.non k5) (by decide))).kp k7 (fun i hi e => by have := (hO.blk i hi).1; have : i = bm := e; have := HB.out; omega)
        have hk7 : Kp (One bm) W w7 := ((hkV.trans k5.non).comp hk6 (fun _ _ h => h) (fun i hi hs => absurd ((hF.own.blk i hs).1) (by omega))).trans k7
        repeat (with_reducible refine cb_skip ?_)
        with_reducible refine cb_step rfl fun K hK => ?_
        simp only [encMR] at hU
        go_simp
        refine hK _ _ (fun h => by cases h) ?_
        clear hK K
        repeat (with_reducible refine cb_skip ?_)
        with_reducible refine cb_nil ?_
        simp only [Then, wpPieces]
        go_wp2_with fail
        go_roundw
        case rel => exact ⟨k + 1, by omega, by go_num, ⟨_, _, _, _, rfl, by omega, hO7, HIds⟩, Lib.hid ⟨_, hI7⟩, hk7⟩
        case measure => simp [intOf]; omega
    · obtain rfl : k = l.length := by omega
      obtain ⟨L, hI⟩ := hL.out
      rw [List.take_of_length_le (Nat.le_refl _)] at hI hIds
      have hn12 : n ≤ 12 := by omega
      have HS := Lib.hid (sort_calls W.heap.size ax n cx I wr hO hn12)
      have hkw : Kp Non w wr := hkM.newer hkr fun i hi => by have : i = bm := hi; have := HBM.out; omega
      go_wp2_with fail
      refine HS.out.mono ?_
      rintro e w2 ⟨rfl, hO2, hk2⟩
      rw [sort_ids hIds.out.1 hIds.out.2] at hO2
      have hI := hI.ints HB.out hO hk2
      have hkw2 : Kp Non w w2 := hkw.newer hk2 fun i hi => by have := (hO.blk i hi).1; have := HB.out; have := HBM.out; omega
      clear hO HS hL hIds hkr hkw hnk hk2
      have hlen := hO2.len encI_len (by omega)
      have hRI := hO2.reads encI_len (by omega)
      have hci := hRI.cap
      have hmi := hRI.max
      have HR : Hid (∀ r : Option (List PutV), r = (if (idsL l).all fun id => okRows (rowsOf l id block) then some ((idsL l).flatMap fun id => bestOf (rowsOf l id block)) else none) → r = histL l block) := Lib.hid fun r hr => hr
      obtain ⟨p0, hp0, hp1, hp2, hp3⟩ := info_parts infoPut
      have HB1 : Hid (∀ id, (bestOf (rowsOf l id block)).length ≤ 1000) := Lib.hid fun id => by
        rcases bestOf_mem (rowsOf l id block) with h | h
        · rw [h]; simp
        · exact rowsOf_len hlog id block _ h
      generalize idsL l = ids at *
      have HLn := Lib.hid hlen
      clear hlen
      go_wp2_with fail
      go_loopw [4, 54] (fun v4 v54 wr => ∃ k : Nat, k ≤ n ∧ v54 = .int .i64 k ∧ (∃ m' a' c', v4 = .slice a' m' c' ∧ m' ≤ k * 1000 ∧ OwnP wr w2.heap.size a' m' c' ((ids.take k).flatMap fun id => bestOf (rowsOf l id block))) ∧ Hid (∀ id ∈ ids.take k, okRows (rowsOf l id block) = true) ∧ Kp Non w2 wr) (fun _ v54 _ => n - (intOf v54).toNat)
      case atStart => exact ⟨0, by omega, rfl, ⟨0, none, 0, rfl, by omega, OwnR.nil _ _ _⟩, Lib.hid (by simp), Kp.refl _ _⟩
      case round =>
        obtain ⟨k, hk', rfl, ⟨m', a', c', rfl, hm'k, hOa⟩, hall, hkr⟩ := hrel
        by_cases hlt : k < n
        · have g : (k : Int) < (n : Nat) := by omega
          have hko : k < ids.length := by have := HLn.out; omega
          obtain ⟨gi, oi, rfl⟩ := hRI.there (by omega)
          have d0 := Ints.c (hRI.non hkr) hko
          have HT := Lib.hid (List.take_succ_eq_append_getElem hko)
          have HMem := Lib.hid (List.getElem_mem hko)
          generalize ids[k] = id at *
          obtain ⟨m, hm⟩ : ∃ m, (mget L id).getD MRow.nil = m := ⟨_, rfl⟩
          have hF := (hI.non hkr).found id
          rw [hm] at hF
          have hLK := (run_lookup_is (keys_int Try.underlying3) (hI.non hkr).map Try.underlying78 (HZ.out wr) id false).trans (by rw [if_neg (by simp), mget_getD, hm])
          simp only [encMR] at hLK
          have hRm := hF.own.reads encPR_len (by omega)
          have hcm := hRm.cap
          have hmm := hRm.max
          have HBk := Lib.hid (HB1.out id)
          have HRs : Hid (∀ i, (h : i < m.l.length) → (rowsOf l id block)[i]? = some m.l[i].l) := Lib.hid fun i h => by rw [← hF.says, List.getElem?_map, List.getElem?_eq_getElem h]; rfl
          have HRl : Hid ((rowsOf l id block).length = m.n) := Lib.hid (by have h1 := hF.own.len encPR_len (by omega); rw [← hF.says, List.length_map]; exact h1.symm)
          have HLm : Hid (m.n = m.l.length) := Lib.hid (hF.own.len encPR_len (by omega))
          have HPt := Lib.hid hF.puts
          have hLKw := Lib.hid (fun W' (r : Kp Non wr W') => (run_lookup_is (keys_int Try.underlying3) ((hI.non hkr).map.non r) Try.underlying78 (HZ.out W') id false).trans (by rw [if_neg (by simp), mget_getD, hm]; rfl : _ = Result.ok (.slice m.a m.n m.c) W'))
          clear hF hm
          obtain ⟨rs, hrs⟩ : ∃ rs, rowsOf l id block = rs := ⟨_, rfl⟩
          rw [hrs] at HBk HRs HRl
          have HRsE := Lib.hid hrs
          clear hrs
          go_wp2_with fail
          go_loopw [12, 62] (fun v12 v62 wi => ∃ i : Nat, i ≤ m.n ∧ v62 = .int .i64 i ∧ (∃ ba bn bc, v12 = .slice ba bn bc ∧ Puts_ wi ba bn bc (bestOf (rs.take i))) ∧ Kp Non wr wi) (fun _ v62 _ => m.n - (intOf v62).toNat)
          case atStart => exact ⟨0, by omega, rfl, ⟨none, 0, 0, rfl, Reads.empty _⟩, Kp.refl _ _⟩
          case round =>
            obtain ⟨i, hi', rfl, ⟨ba, bn, bc, rfl, hBe⟩, hki⟩ := hrel
            by_cases hit : i < m.n
            · have gi' : (i : Int) < (m.n : Nat) := by omega
              have him : i < m.l.length := by have := HLm.out; omega
              obtain ⟨gm, om, hma⟩ := hRm.there (by omega)
              have hRi := hRm.non hki
              rw [hma] at hRi ⊢
              have e0 := hRi.get (i := 0) (List.getElem?_eq_getElem him) rfl
              simp only [Nat.mul_one, Nat.add_zero] at e0
              have HQ := (HPt.out _ (List.getElem_mem him)).non hki
              have HRi := Lib.hid (HRs.out i him)
              have HBs : Hid (bestOf (rs.take (i + 1)) = if (bestOf (rs.take i)).length < m.l[i].l.length then m.l[i].l else bestOf (rs.take i)) := Lib.hid (by
                have h := HRi.out
                have hl : i < rs.length := (List.getElem?_eq_some_iff.1 h).1
                rw [List.take_succ_eq_append_getElem hl, (List.getElem?_eq_some_iff.1 h).2, bestOf_snoc])
              generalize m.l[i] = q at *
              have hql := HQ.len encPut_len (by omega)
              have hRq := HQ.reads encPut_len (by omega)
              have hbl := hBe.len
              have hcq := hRq.cap
              have hmq := hRq.max
              have hcb := hBe.cap
              have hmb := hBe.max
              by_cases hlt3 : bn < q.n
              · have gl : decide ((bn : Int) < (q.n : Nat)) = true := decide_eq_true (by omega)
                have HE : Hid (bestOf (rs.take (i + 1)) = q.l) := Lib.hid (by rw [HBs.out, if_pos (by omega)])
                clear hql hbl
                go_wp2_with fail
                go_roundw
                case rel => exact ⟨i + 1, by omega, by go_num, ⟨q.a, q.n, q.c, rfl, by rw [HE.out]; exact hRq⟩, hki⟩
                case measure => simp [intOf]; omega
              · have gl : decide ((bn : Int) < (q.n : Nat)) = false := decide_eq_false (by omega)
                have HE : Hid (bestOf (rs.take (i + 1)) = bestOf (rs.take i)) := Lib.hid (by rw [HBs.out, if_neg (by omega)])
                clear hql hbl
                go_wp2_with fail
                go_roundw
                case rel => exact ⟨i + 1, by omega, by go_num, ⟨ba, bn, bc, rfl, by rw [HE.out]; exact hBe⟩, hki⟩
                case measure => simp [intOf]; omega
            · obtain rfl : i = m.n := by omega
              have hBe : Puts_ wr ba bn bc (bestOf rs) := by
                have := HRl.out
                rwa [List.take_of_length_le (by omega)] at hBe
              have hkb := hki
              obtain ⟨wb, hwb⟩ : ∃ wb, wr = wb := ⟨_, rfl⟩
              rw [hwb] at hBe hkb ⊢
              clear hwb hki
              have hLK2 := hLKw.out wb hkb
              have HGE : Hid (∀ r ∈ rs, r.length ≤ (bestOf rs).length) := Lib.hid (bestOf_ge rs)
              have hbl := hBe.len
              have HBL := Lib.hid hbl
              have hcb := hBe.cap
              have hmb := hBe.max
              clear hbl
              have HOK : Hid ((∀ i r, rs[i]? = some r → okRow (bestOf rs) r = true) → okRows rs = true) := Lib.hid fun h => by
                unfold okRows
                rw [List.all_eq_true]
                intro r hr
                obtain ⟨i, hi, rfl⟩ := List.getElem_of_mem hr
                exact h i _ (List.getElem?_eq_getElem hi)
              have HNO : Hid (∀ i r, rs[i]? = some r → okRow (bestOf rs) r = false → okRows rs = false) := Lib.hid fun i r h hf => by
                unfold okRows
                rw [List.all_eq_false]
                exact ⟨r, List.mem_of_getElem? h, by rw [hf]; simp⟩
              go_wp2_with fail
              go_loopw [4, 77] (fun v4 v77 wi => ∃ i : Nat, i ≤ m.n ∧ v77 = .int .i64 i ∧ v4 = .slice a' m' c' ∧ Hid (∀ i' r, i' < i → rs[i']? = some r → okRow (bestOf rs) r = true) ∧ Kp Non wb wi) (fun _ v77 _ => m.n - (intOf v77).toNat)
              case atStart => exact ⟨0, by omega, rfl, rfl, Lib.hid fun _ _ h => absurd h (by omega), Kp.refl _ _⟩
              case round =>
                obtain ⟨i, hi', rfl, rfl, halo, hki⟩ := hrel
                by_cases hit : i < m.n
                · have gi' : (i : Int) < (m.n : Nat) := by omega
                  have him : i < m.l.length := by have := HLm.out; omega
                  obtain ⟨gm, om, hma⟩ := hRm.there (by omega)
                  have hRi := hRm.non (hkb.trans hki)
                  rw [hma] at hRi ⊢
                  have e0 := hRi.get (i := 0) (List.getElem?_eq_getElem him) rfl
                  simp only [Nat.mul_one, Nat.add_zero] at e0
                  have HQ := (HPt.out _ (List.getElem_mem him)).non (hkb.trans hki)
                  have HRi := Lib.hid (HRs.out i him)
                  generalize m.l[i] = q at *
                  have hRq := HQ.reads encPut_len (by omega)
                  have HQL := Lib.hid hRq.len
                  have hcq := hRq.cap
                  have hmq := hRq.max
                  have HLE : Hid (q.n ≤ bn) := Lib.hid (by rw [HQL.out, HBL.out]; exact HGE.out _ (List.mem_of_getElem? HRi.out))
                  obtain ⟨wc, hwc⟩ : ∃ wc, wr = wc := ⟨_, rfl⟩
                  rw [hwc] at hRq hki e0 ⊢
                  clear hwc
                  go_wp2_with fail
                  go_loopw [4, 83] (fun v4 v83 wj => ∃ j : Nat, j ≤ q.n ∧ v83 = .int .i64 j ∧ v4 = .slice a' m' c' ∧ Hid (∀ j', j' < j → (q.l[j']?).map PutV.ref = ((bestOf rs)[j']?).map PutV.ref) ∧ Kp Non wc wj) (fun _ v83 _ => q.n - (intOf v83).toNat)
                  case atStart => exact ⟨0, by omega, rfl, rfl, Lib.hid fun _ h => absurd h (by omega), Kp.refl _ _⟩
                  case round =>
                    obtain ⟨j, hj', rfl, rfl, halj, hkj⟩ := hrel
                    by_cases hjt : j < q.n
                    · have gj : (j : Int) < (q.n : Nat) := by omega
                      have gjb : (j : Int) < (bn : Nat) := by have := HLE.out; omega
                      have hjq : j < q.l.length := by have := HQL.out; omega
                      have hjb : j < (bestOf rs).length := by have := HBL.out; omega
                      obtain ⟨gq, oq, hqa⟩ := hRq.there (by omega)
                      obtain ⟨gb, ob, rfl⟩ := hBe.there (by omega)
                      have hRj := hRq.non hkj
                      rw [hqa] at hRj ⊢
                      obtain ⟨c0, c1, c2, c3, c4, c5⟩ := Puts_.cells hRj hjq
                      have HBj := Lib.hid fun W' (r : Kp Non wb W') => Puts_.cells (hBe.non r) hjb
                      have HJ : Hid (∀ r, q.l[j].ref = r → (bestOf rs)[j].ref = r → ∀ j', j' < j + 1 → (q.l[j']?).map PutV.ref = ((bestOf rs)[j']?).map PutV.ref) := Lib.hid fun r h1 h2 j' hj' => if h : j' < j then halj.out j' h else by
                        obtain rfl : j' = j := by omega
                        rw [List.getElem?_eq_getElem hjq, List.getElem?_eq_getElem hjb, Option.map_some, Option.map_some, h1, h2]
                      have HJN : Hid (q.l[j].ref ≠ (bestOf rs)[j].ref → okRow (bestOf rs) q.l = false) := Lib.hid fun h => by
                        unfold okRow
                        rw [List.all_eq_false]
                        refine ⟨j, List.mem_range.2 hjq, ?_⟩
                        rw [List.getElem?_eq_getElem hjq, List.getElem?_eq_getElem hjb]
                        simpa using h
                      have HN := Lib.hid (BxP.new2 wr q.l[j])
                      generalize q.l[j] = x at *
                      generalize (bestOf rs)[j] = y at *
                      go_upto_region 27 with (fail)
                      obtain ⟨V, eV, hN, kV⟩ := HN.out
                      rw [eV]
                      obtain ⟨n0, n1, n2, n3, n4, n5⟩ := hN.cells
                      have hkV := hkj.trans kV
                      obtain ⟨b0, b1, b2, b3, b4, b5⟩ := HBj.out V (hki.trans hkV)
                      clear eV HN hN HBj c0 c1 c2 c3 c4 c5
                      generalize wr.heap.size = bx at *
                      have HEq : Hid (∀ d : Bool, neqB x.ref.1 x.ref.2 y.ref.1 y.ref.2 = d → if d = true then x.ref ≠ y.ref else x.ref = y.ref) := Lib.hid fun d hd => by
                        unfold neqB at hd
                        cases d with
                        | true => exact fun e => by rw [e] at hd; simp at hd
                        | false => exact of_decide_eq_true (by simpa using hd : decide (((x.ref.1, x.ref.2) : Rf) = (y.ref.1, y.ref.2)) = true)
                      generalize hd : neqB x.ref.1 x.ref.2 y.ref.1 y.ref.2 = d at *
                      have HD := Lib.hid (HEq.out d rfl)
                      clear HEq
                      rcases d with _ | _
                      · have HE := Lib.hid (HJ.out y.ref (by simpa using HD.out) rfl)
                        clear HJ HJN HD
                        go_wp2_with fail
                        go_quiet (fail)
                        go_wp2_with fail
                        go_roundw
                        case rel => exact ⟨j + 1, by omega, by go_num, rfl, HE, hkV.drewN _⟩
                        case measure => simp [intOf]; omega
                      · have HF : Hid (okRows rs = false) := Lib.hid (HNO.out i _ HRi.out (HJN.out (by simpa using HD.out)))
                        have HH : Hid (none = histL l block) := Lib.hid (HR.out _ (by
                          rw [if_neg]
                          intro h
                          have := List.all_eq_true.1 h id HMem.out
                          rw [HRsE.out, HF.out] at this
                          cases this))
                        clear HJ HJN HD
                        go_wp2_with fail
                        go_quiet (fail)
                        go_wp2_with fail
                        go_ret2
                        exact ⟨none, 0, 0, by rw [← HH.out]; rfl, by rw [← HH.out]; exact OwnR.nil _ _ _, hkw2.trans (hkr.trans (hkb.trans (hki.trans (hkV.drewN _))))⟩
                    · obtain rfl : j = q.n := by omega
                      have HE : Hid (∀ i' r, i' < i + 1 → rs[i']? = some r → okRow (bestOf rs) r = true) := Lib.hid fun i' r hi' hr => if h : i' < i then halo.out i' r h hr else by
                        obtain rfl : i' = i := by omega
                        rw [HRi.out] at hr
                        cases hr
                        unfold okRow
                        rw [List.all_eq_true]
                        intro j hj
                        exact decide_eq_true (halj.out j (by have := List.mem_range.1 hj; have := HQL.out; omega))
                      go_wp2_with fail
                      go_roundw
                      case rel => exact ⟨i + 1, by omega, by go_num, rfl, HE, hki.trans hkj⟩
                      case measure => simp [intOf]; omega
                · obtain rfl : i = m.n := by omega
                  have HO2 : Hid (okRows rs = true) := Lib.hid (HOK.out fun i r hr => halo.out i r (by have := (List.getElem?_eq_some_iff.1 hr).1; have := HRl.out; omega) hr)
                  have hOa := hOa.non (hkb.trans hki)
                  have HAl : Hid (∀ id' ∈ ids.take (k + 1), okRows (rowsOf l id' block) = true) := Lib.hid fun id' hid' => by
                    rw [HT.out] at hid'
                    rcases List.mem_append.1 hid' with h | h
                    · exact hall.out id' h
                    · simp at h
                      subst h
                      rw [HRsE.out]
                      exact HO2.out
                  have HFl : Hid ((ids.take (k + 1)).flatMap (fun id => bestOf (rowsOf l id block)) = (ids.take k).flatMap (fun id => bestOf (rowsOf l id block)) ++ bestOf rs) := Lib.hid (by rw [HT.out, List.flatMap_append, List.flatMap_cons, List.flatMap_nil, List.append_nil, HRsE.out])
                  have HBn : Hid (bn ≤ 1000) := Lib.hid (by rw [HBL.out]; exact HBk.out)
                  have hk9 := hkr.trans (hkb.trans hki)
                  clear HGE HOK HNO hLK2
                  go_wp2_with (at_builtin; refine wpList_append_row rfl _ _ 32 rfl w2.heap.size 41 p0 _ 56 Try.underlying32 hp0 hp1 hp2 hp3 rfl (by decide) encPut_len encPut_one a' m' c' _ rfl hOa _ bn bc _ rfl (hBe.non hki) (by have := HBn.out; omega) (by have := HBn.out; omega) ?_ ?_; exact (hk9.size); intro a3 c3 w3 hO3 hk3 _)
                  rw [← HFl.out] at hO3
                  have hk3 : Kp Non w2 w3 := hk9.newer hk3 fun i hi => (hOa.blk i hi).1
                  go_roundw
                  case rel => exact ⟨k + 1, by omega, by go_num, ⟨m' + bn, a3, c3, rfl, by have := HBn.out; omega, hO3⟩, HAl, hk3⟩
                  case measure => simp [intOf]; omega
        · obtain rfl : k = n := by omega
          have hOa : OwnP wr w2.heap.size a' m' c' (ids.flatMap fun id => bestOf (rowsOf l id block)) := by
            have := HLn.out
            rwa [List.take_of_length_le (by omega)] at hOa
          have hh : some (ids.flatMap fun id => bestOf (rowsOf l id block)) = histL l block := HR.out _ (by
            rw [if_pos]
            rw [List.all_eq_true]
            intro id hid
            exact hall.out id (by rw [List.take_of_length_le (by have := HLn.out; omega)]; exact hid))
          have HH := Lib.hid hh
          clear hh hall
          go_wp2_with fail
          go_ret2
          exact ⟨a', m', c', by rw [← HH.out]; rfl, by rw [← HH.out]; exact hOa.lower hkw2.size, hkw2.trans hkr⟩
end Go.Proofs.Ytpehfnobgdjgcaa
