/-
  The puts of a life to a block: the document's.
-/
import Derived.Test.YtpehfnobgdjgcaaG11
namespace Go.Proofs.Ytpehfnobgdjgcaa
open Go.RowKit

abbrev BxQ (W : World) (b : Nat) (x : PutV) : Prop := Bx W b 42 (encPut x)
theorem BxQ.new2 (w : World) (x : PutV) : ∃ V, w.alloc (.cells #[.int .i64 x.sh, .int .i64 x.cl, .int .i64 x.sq, .int .i64 x.ref.1, .int .i64 x.ref.2, .string x.tx] 42) = V ∧ BxQ V w.heap.size x ∧ Kp Non w V := ⟨_, rfl, Bx.new w _ (encPut x), (Kp.refl Non w).alloc _⟩
theorem BxQ.cells {W : World} {b : Nat} {x : PutV} (h : BxQ W b x) : W.cell? ⟨b, 0, none⟩ = some (.int .i64 x.sh) ∧ W.cell? ⟨b, 1, none⟩ = some (.int .i64 x.cl) ∧ W.cell? ⟨b, 2, none⟩ = some (.int .i64 x.sq) ∧ W.cell? ⟨b, 3, none⟩ = some (.int .i64 x.ref.1) ∧ W.cell? ⟨b, 4, none⟩ = some (.int .i64 x.ref.2) ∧ W.cell? ⟨b, 5, none⟩ = some (.string x.tx) := ⟨h.c rfl, h.c rfl, h.c rfl, h.c rfl, h.c rfl, h.c rfl⟩
theorem BxQ.text {W : World} {b : Nat} {x : PutV} (h : BxQ W b x) (s : ByteArray) : BxQ (W.setCell ⟨b, 5, none⟩ (.string s)) b { x with tx := s } ∧ Kp (One b) W (W.setCell ⟨b, 5, none⟩ (.string s)) := Bx.set h 5 (.string s)
theorem wrap_idx (block fr : Int) (h : offN block fr < 9223372036854775808) : wrap64 (block - fr) = (offN block fr : Int) := by
  simp only [wrap64, offN] at h ⊢
  omega

/-- Puts of our own come out. -/
def RPutsOut (l : List PutV) (w : World) (e : Ending) (w' : World) : Prop := ∃ a n c, e = .returned (.slice a n c) ∧ OwnQ w' w.heap.size a n c l ∧ Kp Non w w'

set_option maxRecDepth 100000 in
set_option maxHeartbeats 1000000 in
theorem rPuts_calls (y : LifeV) (block : Int) (w : World) (hl : Rans w y.log.a y.log.n y.log.c y.log.l) (hs : y.log.l.length ≤ 1000) : Calls Try.prog 30 #[valLife y, .int .i64 block] w (RPutsOut (putsL y block) w) := by
  obtain ⟨xn, xs, ⟨la, ln, lc, ll⟩⟩ := y
  simp only at hl hs
  obtain rfl : ln = ll.length := hl.reads.len
  have hcx := hl.reads.cap
  have hmx := hl.reads.max
  have HW := Lib.hid (BxL.new2 w ⟨xn, xs, ⟨la, ll.length, lc, ll⟩⟩)
  obtain ⟨i0, hi0, hz0, hz1, hz2⟩ := info_parts infoRPut
  show Calls Try.prog 30 #[.agg #[.int .i64 xn, .int .i64 xs, .slice la ll.length lc], .int .i64 block] w (RPutsOut (ll.filterMap (putM xs block)) w)
  go_enter Try.func30, Try.ntmps30
  go_wp2_with fail
  obtain ⟨W, eW, hN, hkW⟩ := HW.out
  rw [eW]
  obtain ⟨n0, n1, n2⟩ := hN.cells
  clear eW HW hN
  obtain ⟨bs, hbs⟩ : ∃ b, w.heap.size = b := ⟨_, rfl⟩
  rw [hbs] at n0 n1 n2 ⊢
  go_loopw [5, 13] (fun v4 v13 wr => ∃ k : Nat, k ≤ ll.length ∧ v13 = .int .i64 k ∧ (∃ n ax cx, v4 = .slice ax n cx ∧ n ≤ k ∧ OwnQ wr W.heap.size ax n cx ((ll.take k).filterMap (putM xs block))) ∧ Kp Non W wr) (fun _ v13 _ => ll.length - (intOf v13).toNat)
  case atStart => exact ⟨0, by omega, rfl, ⟨0, none, 0, rfl, by omega, by simpa using OwnR.nil W W.heap.size 42⟩, Kp.refl _ _⟩
  case round =>
    obtain ⟨k, hk', rfl, ⟨n, ax, cx, rfl, hnk, hO⟩, hkr⟩ := hrel
    by_cases hlt : k < ll.length
    · have g : (k : Int) < (ll.length : Nat) := by omega
      obtain ⟨b, o, rfl⟩ := hl.reads.there (by omega)
      have hlr := hl.non (hkW.trans hkr)
      obtain ⟨c0, c1, c2, c3, c4, c5, c6, c7, c8, c9⟩ := hlr.cells hlt
      have HTh := (hlr.there_of hlt).1
      have HT := take_filterMap_snoc (putM xs block) hlt
      have HN := Lib.hid (BoxN.new2 wr ll[k])
      generalize ll[k] = x at *
      have HPN : Hid (okPut x block = false → (ll.take (k + 1)).filterMap (putM xs block) = (ll.take k).filterMap (putM xs block)) := Lib.hid fun e => by rw [HT]; simp [putM, e]
      have HPY : Hid (okPut x block = true → (ll.take (k + 1)).filterMap (putM xs block) = (ll.take k).filterMap (putM xs block) ++ [putOf xs x block]) := Lib.hid fun e => by rw [HT]; simp [putM, e]
      clear HT
      go_upto_region 5 with (fail)
      obtain ⟨V, eV, hN, kV⟩ := HN.out
      rw [eV]
      have p0 := hN.c0
      have p1 := hN.c1
      have p2 := hN.c2
      have p3 := hN.c3
      have p4 := hN.c4
      have p5 := hN.c5
      have p6 := hN.c6
      have p7 := hN.c7
      have p8 := hN.c8
      have hkV := hkr.trans kV
      have hO := hO.non kV
      have hTh := HTh.non kV
      clear eV HN hN c0 c1 c2 c3 c4 c5 c6 c7 c8 c9 HTh
      generalize wr.heap.size = bx at *
      have HM := Lib.hid (BoxC.new2 V x.cmd)
      go_upto_region 6 with (fail)
      obtain ⟨U, eU, hC, kU⟩ := HM.out
      rw [eU]
      have p0 := kU.cell p0 (fun f => f)
      have p1 := kU.cell p1 (fun f => f)
      have p8 := kU.cell p8 (fun f => f)
      have q0 := hC.c0
      have q1 := hC.c1
      have q2 := hC.c2
      have q3 := hC.c3
      have q4 := hC.c4
      have q5 : U.cell? ⟨V.heap.size, 5, none⟩ = some (.slice x.cmd.da.a x.cmd.da.n x.cmd.da.c) := hC.c5
      have hkU := hkV.trans kU
      have hO := hO.non kU
      have hTh := hTh.non kU
      clear eU HM hC p2 p3 p4 p5 p6 p7
      have m1 := hkU.cell n1 (fun f => f)
      generalize V.heap.size = by_ at *
      rcases Bool.eq_false_or_eq_true x.rep.ok with d1 | d1
      · by_cases h23 : x.cmd.op = 2 ∨ x.cmd.op = 3
        · rcases Bool.eq_false_or_eq_true (decide (block < x.cmd.fr)) with d4 | d4
          · obtain h2 | h2 := h23
            · have e2 : (x.cmd.op != 2) = false := by simp [h2]
              have HE := Lib.hid (HPN.out (by simp [okPut, d4]))
              clear HPN HPY
              go_wp2_with fail
              go_roundw
              case rel => exact ⟨k + 1, by omega, by go_num, ⟨n, ax, cx, rfl, by omega, by rw [HE.out]; exact hO⟩, hkU⟩
              case measure => simp [intOf]; omega
            · have e2 : (x.cmd.op != 2) = true := by simp [h2]
              have e3 : (x.cmd.op != 3) = false := by simp [h2]
              have HE := Lib.hid (HPN.out (by simp [okPut, d4]))
              clear HPN HPY
              go_wp2_with fail
              go_roundw
              case rel => exact ⟨k + 1, by omega, by go_num, ⟨n, ax, cx, rfl, by omega, by rw [HE.out]; exact hO⟩, hkU⟩
              case measure => simp [intOf]; omega
          · rcases Bool.eq_false_or_eq_true (decide (x.cmd.to ≤ block)) with d5 | d5
            · obtain h2 | h2 := h23
              · have e2 : (x.cmd.op != 2) = false := by simp [h2]
                have HE := Lib.hid (HPN.out (by simp [okPut, d5]))
                clear HPN HPY
                go_wp2_with fail
                go_roundw
                case rel => exact ⟨k + 1, by omega, by go_num, ⟨n, ax, cx, rfl, by omega, by rw [HE.out]; exact hO⟩, hkU⟩
                case measure => simp [intOf]; omega
              · have e2 : (x.cmd.op != 2) = true := by simp [h2]
                have e3 : (x.cmd.op != 3) = false := by simp [h2]
                have HE := Lib.hid (HPN.out (by simp [okPut, d5]))
                clear HPN HPY
                go_wp2_with fail
                go_roundw
                case rel => exact ⟨k + 1, by omega, by go_num, ⟨n, ax, cx, rfl, by omega, by rw [HE.out]; exact hO⟩, hkU⟩
                case measure => simp [intOf]; omega
            · have HE := Lib.hid (HPY.out (by simp [okPut, d1, d4, d5, h23]))
              clear HPN HPY
              have HP := Lib.hid (BxQ.new2 U ⟨xs, x.cmd.cl, x.cmd.sq, x.ref, ⟨#[]⟩⟩)
              obtain h2 | h2 := h23
              · have e2 : (x.cmd.op != 2) = false := by simp [h2]
                have e2' : (x.cmd.op == 2) = true := by simp [h2]
                go_upto_region 8 with (fail)
                obtain ⟨Y, eY, hP, kY⟩ := HP.out
                rw [eY]
                have q0 := kY.cell q0 (fun f => f)
                have q3 := kY.cell q3 (fun f => f)
                have q5 := kY.cell q5 (fun f => f)
                clear HP eY p0 p1 p8 q1 q2 q4 m1 e2 d4 d5
                have hTh := hTh.non kY
                obtain ⟨bp, hbp⟩ : ∃ b, U.heap.size = b := ⟨_, rfl⟩
                have HU : Hid (U.heap.size ≤ bp) := Lib.hid (by omega)
                rw [hbp] at hP ⊢
                clear hbp
                have hwo := wrap_off block x.cmd.fr
                have hwi := wrap_idx block x.cmd.fr
                have HTx : Hid (putOf xs x block = ⟨xs, x.cmd.cl, x.cmd.sq, x.ref, textAt x.cmd.da.l (offN block x.cmd.fr)⟩) := Lib.hid (by simp [putOf, h2])
                generalize offN block x.cmd.fr = m at *
                have hdn := hTh.len
                have hdm := Nat.le_trans hTh.cap hTh.max
                by_cases hm : m < x.cmd.da.l.length
                · obtain ⟨bt, ot, ha⟩ := hTh.there (by omega)
                  have gm : (m : Int) < (x.cmd.da.n : Nat) := by omega
                  have hw : IntKind.u64.wrap (x.cmd.da.n : Int) = x.cmd.da.n := IntWalk.u64_in _ (by omega)
                  have hTh' : Texts Y x.cmd.da.a x.cmd.da.n x.cmd.da.c x.cmd.da.l := hTh
                  rw [ha] at q5 hTh'
                  have t0 := hTh'.c hm
                  have hwi := hwi (by omega)
                  have HTx : Hid (putOf xs x block = ⟨xs, x.cmd.cl, x.cmd.sq, x.ref, x.cmd.da.l[m]⟩) := Lib.hid (by rw [HTx.out, textAt_lt hm])
                  generalize x.cmd.da.l[m] = tx at *
                  clear hTh hTh' hdm ha
                  have HS := Lib.hid (hP.text tx)
                  have r5 := hP.cells.2.2.2.2.2
                  have f5 := Bx.f hP 5
                  clear hm hdn
                  go_upto_region 10 with (fail)
                  obtain ⟨hP, kS⟩ := HS.out
                  have kZ := kY.newer kS (fun i hi => by rw [show i = bp from hi]; exact HU.out)
                  clear HS HU f5 r5 t0 q0 q3 q5 hw gm
                  generalize Y.setCell ⟨bp, 5, none⟩ (.string tx) = Z at *
                  have hO := hO.non kZ
                  have hkZ := hkU.trans kZ
                  obtain ⟨r0, r1, r2, r3, r4, r5⟩ := hP.cells
                  simp only at r0 r1 r2 r3 r4 r5
                  clear hP
                  go_wp2_with (at_builtin; refine wpList_append_row rfl _ _ 35 rfl W.heap.size 42 i0 _ 56 Try.underlying35 hi0 hz0 hz1 hz2 rfl (by decide) encPut_len encPut_one ax n cx _ rfl (hO.non ((Kp.refl _ _).alloc _)) _ 1 1 [⟨xs, x.cmd.cl, x.cmd.sq, x.ref, tx⟩] rfl (Reads.new rfl rfl) (by omega) (by omega) ?_ ?_; exact ((hkZ.alloc _).size); intro a3 c3 w3 hO3 hk3 _)
                  have hk3 : Kp Non W w3 := (hkZ.alloc _).comp hk3 (fun _ _ f => f) (fun i hi hs => absurd ((hO.blk i hs).1) (by omega))
                  rw [← HTx.out, ← HE.out] at hO3
                  go_roundw
                  case rel => exact ⟨k + 1, by omega, by go_num, ⟨n + 1, a3, c3, rfl, by omega, hO3⟩, hk3⟩
                  case measure => simp [intOf]; omega
                · clear hwi
                  have gm : ¬ (m : Int) < (x.cmd.da.n : Nat) := by omega
                  have hw : IntKind.u64.wrap (x.cmd.da.n : Int) = x.cmd.da.n := IntWalk.u64_in _ (by omega)
                  have HTx : Hid (putOf xs x block = ⟨xs, x.cmd.cl, x.cmd.sq, x.ref, ⟨#[]⟩⟩) := Lib.hid (by rw [HTx.out, textAt_ge (by omega)]; rfl)
                  clear hTh hdm hm hdn
                  go_upto_region 10 with (fail)
                  have kZ := kY
                  clear HU q0 q3 q5 hw gm
                  have hO := hO.non kZ
                  have hkZ := hkU.trans kZ
                  obtain ⟨r0, r1, r2, r3, r4, r5⟩ := hP.cells
                  simp only at r0 r1 r2 r3 r4 r5
                  clear hP
                  go_wp2_with (at_builtin; refine wpList_append_row rfl _ _ 35 rfl W.heap.size 42 i0 _ 56 Try.underlying35 hi0 hz0 hz1 hz2 rfl (by decide) encPut_len encPut_one ax n cx _ rfl (hO.non ((Kp.refl _ _).alloc _)) _ 1 1 [⟨xs, x.cmd.cl, x.cmd.sq, x.ref, ⟨#[]⟩⟩] rfl (Reads.new rfl rfl) (by omega) (by omega) ?_ ?_; exact ((hkZ.alloc _).size); intro a3 c3 w3 hO3 hk3 _)
                  have hk3 : Kp Non W w3 := (hkZ.alloc _).comp hk3 (fun _ _ f => f) (fun i hi hs => absurd ((hO.blk i hs).1) (by omega))
                  rw [← HTx.out, ← HE.out] at hO3
                  go_roundw
                  case rel => exact ⟨k + 1, by omega, by go_num, ⟨n + 1, a3, c3, rfl, by omega, hO3⟩, hk3⟩
                  case measure => simp [intOf]; omega
              · have e2 : (x.cmd.op != 2) = true := by simp [h2]
                have e2' : (x.cmd.op == 2) = false := by simp [h2]
                have e3 : (x.cmd.op != 3) = false := by simp [h2]
                go_upto_region 8 with (fail)
                obtain ⟨Y, eY, hP, kY⟩ := HP.out
                rw [eY]
                have q0 := kY.cell q0 (fun f => f)
                have q3 := kY.cell q3 (fun f => f)
                clear HP eY p0 p1 p8 q1 q2 q4 q5 m1 e2 d4 d5
                generalize U.heap.size = bp at *
                have HTx : Hid (putOf xs x block = ⟨xs, x.cmd.cl, x.cmd.sq, x.ref, ⟨#[]⟩⟩) := Lib.hid (by simp [putOf, h2]; rfl)
                go_upto_region 10 with (fail)
                have kZ := kY
                clear q0 q3 hTh
                have hO := hO.non kZ
                have hkZ := hkU.trans kZ
                obtain ⟨r0, r1, r2, r3, r4, r5⟩ := hP.cells
                simp only at r0 r1 r2 r3 r4 r5
                clear hP
                go_wp2_with (at_builtin; refine wpList_append_row rfl _ _ 35 rfl W.heap.size 42 i0 _ 56 Try.underlying35 hi0 hz0 hz1 hz2 rfl (by decide) encPut_len encPut_one ax n cx _ rfl (hO.non ((Kp.refl _ _).alloc _)) _ 1 1 [⟨xs, x.cmd.cl, x.cmd.sq, x.ref, ⟨#[]⟩⟩] rfl (Reads.new rfl rfl) (by omega) (by omega) ?_ ?_; exact ((hkZ.alloc _).size); intro a3 c3 w3 hO3 hk3 _)
                have hk3 : Kp Non W w3 := (hkZ.alloc _).comp hk3 (fun _ _ f => f) (fun i hi hs => absurd ((hO.blk i hs).1) (by omega))
                rw [← HTx.out, ← HE.out] at hO3
                go_roundw
                case rel => exact ⟨k + 1, by omega, by go_num, ⟨n + 1, a3, c3, rfl, by omega, hO3⟩, hk3⟩
                case measure => simp [intOf]; omega
        · have h2 : ¬ x.cmd.op = 2 := fun e => h23 (.inl e)
          have h3 : ¬ x.cmd.op = 3 := fun e => h23 (.inr e)
          have e2 : (x.cmd.op != 2) = true := by simp [h2]
          have e3 : (x.cmd.op != 3) = true := by simp [h3]
          have HE := Lib.hid (HPN.out (by simp [okPut, h2, h3]))
          clear HPN HPY
          go_wp2_with fail
          go_roundw
          case rel => exact ⟨k + 1, by omega, by go_num, ⟨n, ax, cx, rfl, by omega, by rw [HE.out]; exact hO⟩, hkU⟩
          case measure => simp [intOf]; omega
      · have HE := Lib.hid (HPN.out (by simp [okPut, d1]))
        clear HPN HPY
        go_wp2_with fail
        go_roundw
        case rel => exact ⟨k + 1, by omega, by go_num, ⟨n, ax, cx, rfl, by omega, by rw [HE.out]; exact hO⟩, hkU⟩
        case measure => simp [intOf]; omega
    · obtain rfl : k = ll.length := by omega
      rw [List.take_of_length_le (Nat.le_refl _)] at hO
      go_wp2_with fail
      go_ret
      exact ⟨ax, n, cx, rfl, hO.lower hkW.size, hkW.trans hkr⟩
end Go.Proofs.Ytpehfnobgdjgcaa
