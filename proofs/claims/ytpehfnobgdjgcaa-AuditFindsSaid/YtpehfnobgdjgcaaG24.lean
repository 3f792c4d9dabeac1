/-
  The judge: the least place that a read may have.
-/
import Derived.Test.YtpehfnobgdjgcaaG23
namespace Go.Proofs.Ytpehfnobgdjgcaa
open Go.RowKit

/-- What region 11 reads. -/
structure L11 (bj bx b9 : Nat) (block : Int) (d x : DeedV) (W : World) : Prop where
  j0 : W.cell? ⟨bj, 0, none⟩ = some (.int .i64 block)
  d0 : W.cell? ⟨bx, 0, none⟩ = some (.int .i64 d.cl)
  d1 : W.cell? ⟨bx, 1, none⟩ = some (.int .i64 d.sq)
  d2 : W.cell? ⟨bx, 2, none⟩ = some (.int .i64 d.op)
  d3 : W.cell? ⟨bx, 3, none⟩ = some (.int .i64 d.fr)
  d4 : W.cell? ⟨bx, 4, none⟩ = some (.int .i64 d.to)
  d5 : W.cell? ⟨bx, 5, none⟩ = some (.slice d.da.a d.da.n d.da.c)
  d6 : W.cell? ⟨bx, 6, none⟩ = some (.int .i64 d.be)
  d7 : W.cell? ⟨bx, 7, none⟩ = some (.int .i64 d.en)
  d8 : W.cell? ⟨bx, 8, none⟩ = some (.slice d.re.a d.re.n d.re.c)
  x0 : W.cell? ⟨b9, 0, none⟩ = some (.int .i64 x.cl)
  x1 : W.cell? ⟨b9, 1, none⟩ = some (.int .i64 x.sq)
  x2 : W.cell? ⟨b9, 2, none⟩ = some (.int .i64 x.op)
  x3 : W.cell? ⟨b9, 3, none⟩ = some (.int .i64 x.fr)
  x4 : W.cell? ⟨b9, 4, none⟩ = some (.int .i64 x.to)
  x5 : W.cell? ⟨b9, 5, none⟩ = some (.slice x.da.a x.da.n x.da.c)
  x6 : W.cell? ⟨b9, 6, none⟩ = some (.int .i64 x.be)
  x7 : W.cell? ⟨b9, 7, none⟩ = some (.int .i64 x.en)
  x8 : W.cell? ⟨b9, 8, none⟩ = some (.slice x.re.a x.re.n x.re.c)

section
variable {W W' : World} {bj : Nat} {block : Int} {la : Option Addr} {lc : Nat} {l : List PutV} {ya : Option Addr} {yc : Nat} {ys : List DeedV} {da : Option Addr} {dc : Nat} {ds : List DeedV} {aa : Option Addr} {ac : Nat} {at_ : List Int}

set_option maxRecDepth 100000 in
set_option maxHeartbeats 1000000 in
theorem jlow_calls (h : JW W bj block la lc l ya yc ys da dc ds aa ac at_) (d : DeedV) (hal : at_.length = ds.length) (hyl : ys.length ≤ 1000000) : Calls Try.prog 56 #[.pointer (some ⟨bj, 0, none⟩), valDeed d] W (ValOut (.int .i64 (lowB ys ds at_ block d)) W) := by
  show Calls Try.prog 56 #[.pointer (some ⟨bj, 0, none⟩), .agg #[.int .i64 d.cl, .int .i64 d.sq, .int .i64 d.op, .int .i64 d.fr, .int .i64 d.to, .slice d.da.a d.da.n d.da.c, .int .i64 d.be, .int .i64 d.en, .slice d.re.a d.re.n d.re.c]] W (ValOut (.int .i64 (lowB ys ds at_ block d)) W)
  obtain ⟨V, eV, h1, kV⟩ := d_new W d
  have h := h.non kV
  have HV := Lib.hid eV
  have hcy := h.ys.cap
  have hmy := h.ys.max
  have hcd := h.ds.reads.cap
  have hmd := h.ds.reads.max
  have hca := h.at_.cap
  have hma := h.at_.max
  obtain ⟨j0, j1, j2, j3, j4⟩ := BxJ.cells h.box
  have HC := Lib.hid fun W' (r : Kp Non V W') => And.intro (BxD.cells (Bx.non h1 r)) (BxJ.cells (Bx.non h.box r))
  clear eV
  go_enter Try.func56, Try.ntmps56
  go_upto_region 1 with (fail)
  rw [HV.out]
  generalize W.heap.size = bx at *
  go_wp2_with fail
  go_loopw [5, 15] (fun v5 v15 wr => ∃ k : Nat, k ≤ ys.length ∧ v15 = .int .i64 k ∧ (∃ n : Nat, v5 = .int .i64 n ∧ Hid (n = lowT ys d k)) ∧ Kp Non V wr) (fun _ v15 _ => ys.length - (intOf v15).toNat)
  case atStart => exact ⟨0, by omega, rfl, ⟨0, rfl, Lib.hid rfl⟩, Kp.refl _ _⟩
  case round =>
    obtain ⟨k, hk', rfl, ⟨n, rfl, hn⟩, hkr⟩ := hrel
    by_cases hlt : k < ys.length
    · have g : (k : Int) < (ys.length : Nat) := by omega
      obtain ⟨yb, yo, rfl⟩ := h.ys.there (by omega)
      obtain ⟨c0, c1, c2, c3, c4, c5, c6, c7, c8⟩ := deedR_cells (h.ys.non hkr) hlt
      have HX := Lib.hid (List.getElem?_eq_getElem hlt)
      have HN := Lib.hid (BxD.new2 wr ys[k])
      generalize ys[k] = x at *
      go_upto_region 5 with (fail)
      obtain ⟨U, eU, hN, kU⟩ := HN.out
      rw [eU]
      obtain ⟨x0, x1, x2, x3, x4, x5, x6, x7, x8⟩ := hN.cells
      have hkU := hkr.trans kU
      obtain ⟨⟨d0, d1, d2, d3, d4, d5, d6, d7, d8⟩, _⟩ := HC.out U hkU
      have HAh := Lib.hid (ahead_calls x d U)
      clear eU HN hN c0 c1 c2 c3 c4 c5 c6 c7 c8
      generalize wr.heap.size = b7 at *
      have HY : Hid (aheadB x d = true → k + 1 = lowT ys d (k + 1)) := Lib.hid fun e => by unfold lowT; rw [HX.out]; simp [e]
      have HNo : Hid (aheadB x d = false → n = lowT ys d (k + 1)) := Lib.hid fun e => by unfold lowT; rw [HX.out]; simp [e, hn.out]
      generalize aheadB x d = ah at *
      simp only [valDeed] at HAh
      go_wp2_with fail
      refine HAh.out.mono ?_
      rintro e w3 ⟨rfl, hk3⟩
      have hk3 := hkU.trans hk3
      rcases ah with _ | _
      · have HE := Lib.hid (HNo.out rfl)
        clear HY HNo
        go_wp2_with fail
        go_roundw
        case rel => exact ⟨k + 1, by omega, by go_num, ⟨n, rfl, HE⟩, hk3⟩
        case measure => simp [intOf]; omega
      · have HE := Lib.hid (HY.out rfl)
        clear HY HNo
        go_wp2_with fail
        go_roundw
        case rel => exact ⟨k + 1, by omega, by go_num, ⟨k + 1, by go_num, HE⟩, hk3⟩
        case measure => simp [intOf]; omega
    · obtain rfl : k = ys.length := by omega
      have HB : Hid (lowU ds at_ block d n 0 = lowU ds at_ block d (lowT ys d ys.length) 0) := Lib.hid (by rw [hn.out])
      have HLW : Hid (lowU ds at_ block d n ds.length = lowB ys ds at_ block d) := Lib.hid (by unfold lowB; rw [hn.out])
      obtain ⟨⟨d0, d1, d2, d3, d4, d5, d6, d7, d8⟩, j0, j1, j2, j3, j4⟩ := HC.out wr hkr
      have h := h.non hkr
      obtain ⟨wa, hwa⟩ : ∃ wa, wr = wa := ⟨_, rfl⟩
      rw [hwa] at h hkr j0 j1 j2 j3 j4 ⊢
      clear d0 d1 d2 d3 d4 d5 d6 d7 d8 hwa
      go_wp2_with fail
      go_loopw [5, 31] (fun v5 v31 wr => ∃ k : Nat, k ≤ ds.length ∧ v31 = .int .i64 k ∧ (∃ z, v5 = .int .i64 z ∧ Hid (z = lowU ds at_ block d n k)) ∧ Kp Non wa wr) (fun _ v31 _ => ds.length - (intOf v31).toNat)
      case atStart => exact ⟨0, by omega, rfl, ⟨_, rfl, Lib.hid rfl⟩, Kp.refl _ _⟩
      case round =>
        obtain ⟨k, hk', rfl, ⟨z, rfl, hz⟩, hkr2⟩ := hrel
        by_cases hlt : k < ds.length
        · have g : (k : Int) < (ds.length : Nat) := by omega
          obtain ⟨db, dof, rfl⟩ := h.ds.reads.there (by omega)
          obtain ⟨c0, c1, c2, c3, c4, c5, c6, c7, c8⟩ := (h.ds.non hkr2).cells hlt
          have HX := Lib.hid (List.getElem?_eq_getElem hlt)
          have HN := Lib.hid (BxD.new2 wr ds[k])
          generalize ds[k] = x at *
          go_upto_region 11 with (fail)
          obtain ⟨U, eU, hN, kU⟩ := HN.out
          rw [eU]
          have hkU := hkr2.trans kU
          have HC11 : Hid (∀ W', Kp Non U W' → L11 bj bx wr.heap.size block d x W') := Lib.hid fun W' r => by
            obtain ⟨x0, x1, x2, x3, x4, x5, x6, x7, x8⟩ := BxD.cells (Bx.non hN r)
            obtain ⟨⟨d0, d1, d2, d3, d4, d5, d6, d7, d8⟩, j0, j1, j2, j3, j4⟩ := HC.out W' (hkr.trans (hkU.trans r))
            exact ⟨j0, d0, d1, d2, d3, d4, d5, d6, d7, d8, x0, x1, x2, x3, x4, x5, x6, x7, x8⟩
          clear eU HN hN c0 c1 c2 c3 c4 c5 c6 c7 c8
          generalize wr.heap.size = b9 at *
          have HAh := Lib.hid fun W' => ahead_calls x d W'
          have HH : Hid (holdsB x d block = (decide (x.op = 1) && aheadB x d && (decide (x.fr ≤ block) && decide (block < x.to)))) := Lib.hid rfl
          have HY : Hid (holdsB x d block = true → max z (at_.getD k 0) = lowU ds at_ block d n (k + 1)) := Lib.hid fun e => by unfold lowU; rw [HX.out]; simp [e, hz.out]
          have HNo : Hid (holdsB x d block = false → z = lowU ds at_ block d n (k + 1)) := Lib.hid fun e => by unfold lowU; rw [HX.out]; simp [e, hz.out]
          generalize holdsB x d block = hb at *
          generalize aheadB x d = ah at *
          simp only [valDeed] at HAh
          go_cut [61] (fun v61 wx => v61 = .bool hb ∧ Kp Non U wx)
          case first =>
            by_cases hop : x.op = 1
            · have e1 : (x.op == 1) = true := by simp [hop]
              have HOp := Lib.hid hop
              clear hop
              refine wp_region_pieces [(8, [0,0,0,0,0,0,2,2,9,9,9,9,9,9,9,9,9,9,9,9,9,9,9,9,9,9], L11 bj bx b9 block d x), (26, [9,9,9,9,9,9,9,9,0,0,0,0,0,0,0,0,0,0,0,0,0,0,0,0,0,2], L11 bj bx b9 block d x)] (by kernel_rfl) (by kernel_rfl) ?_
              refine (And.intro ?_ ?_ : _ ∧ _)
              · exact HC11.out _ (Kp.refl _ _).drew
              refine PB.out ?_
              repeat (first | (with_reducible refine pb_skip ?_) | ((first | (with_reducible refine pb_k rfl ?_) | ((with_reducible refine pb_ky ?hg ?_); (case hg => simp [Region.wanted, yielded]; done))); intro K hK; apply Exists.intro; refine ⟨fun w' hC => ?_, ?_⟩; (obtain ⟨j0, d0, d1, d2, d3, d4, d5, d6, d7, d8, x0, x1, x2, x3, x4, x5, x6, x7, x8⟩ := hC; go_simp; rfl); go_simp; refine hK _ ?_; clear hK K) | ((with_reducible refine pb_kn ?hg ?_); (case hg => simp [Region.wanted, yielded]; done); intro K hK; go_simp; refine hK _ ?_; clear hK K))
              with_reducible refine pb_nil ?_
              simp only [List.take_succ_cons, List.take_zero, List.drop_zero]
              refine CB.out ?_
              repeat (with_reducible refine cb_skip ?_)
              with_reducible refine cb_ky (by simp [Region.wanted, yielded]) fun K hK => ?_
              go_simp
              refine (HAh.out _).mono ?_
              rintro e w4 ⟨rfl, hk4⟩
              have hk4 := (Kp.refl Non U).drew.trans hk4
              refine hK _ _ (fun h => by cases h) ?_
              clear hK K
              repeat (with_reducible refine cb_skip ?_)
              with_reducible refine cb_step rfl fun K hK => ?_
              go_simp
              refine hK _ _ (fun h => by cases h) ?_
              clear hK K
              repeat (with_reducible refine cb_skip ?_)
              with_reducible refine cb_nil ?_
              simp only [Then, wpPieces]
              refine (And.intro ?_ ?_ : _ ∧ _)
              · exact HC11.out _ hk4
              have HKK := Lib.hid hk4
              rcases ah with _ | _
              · have HCd : Hid (hb = false) := Lib.hid (by rw [HH.out]; simp)
                refine PB.out ?_
                repeat (first | (with_reducible refine pb_skip ?_) | ((first | (with_reducible refine pb_k rfl ?_) | ((with_reducible refine pb_ky ?hg ?_); (case hg => simp [Region.wanted, yielded]; done))); intro K hK; apply Exists.intro; refine ⟨fun w' hC => ?_, ?_⟩; (obtain ⟨j0, d0, d1, d2, d3, d4, d5, d6, d7, d8, x0, x1, x2, x3, x4, x5, x6, x7, x8⟩ := hC; go_simp; rfl); go_simp; refine hK _ ?_; clear hK K) | ((with_reducible refine pb_kn ?hg ?_); (case hg => simp [Region.wanted, yielded]; done); intro K hK; go_simp; refine hK _ ?_; clear hK K))
                with_reducible refine pb_nil ?_
                simp only [List.take_succ_cons, List.take_zero, List.drop_succ_cons, List.drop_zero]
                refine CB.out ?_
                repeat (with_reducible refine cb_skip ?_)
                with_reducible refine cb_step rfl fun K hK => ?_
                go_simp
                refine hK _ _ (fun h => by cases h) ?_
                clear hK K
                repeat (with_reducible refine cb_skip ?_)
                with_reducible refine cb_nil ?_
                simp only [Then]
                go_step
                go_step
                go_meet
                case rel => exact ⟨by rw [HCd.out], HKK.out⟩
              · rcases Bool.eq_false_or_eq_true (decide (x.fr ≤ block)) with f1 | f1
                · rcases Bool.eq_false_or_eq_true (decide (block < x.to)) with f2 | f2
                  · have HCd : Hid (hb = true) := Lib.hid (by rw [HH.out, HOp.out, f1, f2]; rfl)
                    refine PB.out ?_
                    repeat (first | (with_reducible refine pb_skip ?_) | ((first | (with_reducible refine pb_k rfl ?_) | ((with_reducible refine pb_ky ?hg ?_); (case hg => simp [Region.wanted, yielded]; done))); intro K hK; apply Exists.intro; refine ⟨fun w' hC => ?_, ?_⟩; (obtain ⟨j0, d0, d1, d2, d3, d4, d5, d6, d7, d8, x0, x1, x2, x3, x4, x5, x6, x7, x8⟩ := hC; go_simp; rfl); go_simp; refine hK _ ?_; clear hK K) | ((with_reducible refine pb_kn ?hg ?_); (case hg => simp [Region.wanted, yielded]; done); intro K hK; go_simp; refine hK _ ?_; clear hK K))
                    with_reducible refine pb_nil ?_
                    simp only [List.take_succ_cons, List.take_zero, List.drop_succ_cons, List.drop_zero]
                    refine CB.out ?_
                    repeat (with_reducible refine cb_skip ?_)
                    with_reducible refine cb_step rfl fun K hK => ?_
                    go_simp
                    refine hK _ _ (fun h => by cases h) ?_
                    clear hK K
                    repeat (with_reducible refine cb_skip ?_)
                    with_reducible refine cb_nil ?_
                    simp only [Then]
                    go_step
                    go_step
                    go_meet
                    case rel => exact ⟨by rw [HCd.out], HKK.out⟩
                  · have HCd : Hid (hb = false) := Lib.hid (by rw [HH.out, f2]; simp)
                    refine PB.out ?_
                    repeat (first | (with_reducible refine pb_skip ?_) | ((first | (with_reducible refine pb_k rfl ?_) | ((with_reducible refine pb_ky ?hg ?_); (case hg => simp [Region.wanted, yielded]; done))); intro K hK; apply Exists.intro; refine ⟨fun w' hC => ?_, ?_⟩; (obtain ⟨j0, d0, d1, d2, d3, d4, d5, d6, d7, d8, x0, x1, x2, x3, x4, x5, x6, x7, x8⟩ := hC; go_simp; rfl); go_simp; refine hK _ ?_; clear hK K) | ((with_reducible refine pb_kn ?hg ?_); (case hg => simp [Region.wanted, yielded]; done); intro K hK; go_simp; refine hK _ ?_; clear hK K))
                    with_reducible refine pb_nil ?_
                    simp only [List.take_succ_cons, List.take_zero, List.drop_succ_cons, List.drop_zero]
                    refine CB.out ?_
                    repeat (with_reducible refine cb_skip ?_)
                    with_reducible refine cb_step rfl fun K hK => ?_
                    go_simp
                    refine hK _ _ (fun h => by cases h) ?_
                    clear hK K
                    repeat (with_reducible refine cb_skip ?_)
                    with_reducible refine cb_nil ?_
                    simp only [Then]
                    go_step
                    go_step
                    go_meet
                    case rel => exact ⟨by rw [HCd.out], HKK.out⟩
                · have HCd : Hid (hb = false) := Lib.hid (by rw [HH.out, f1]; simp)
                  refine PB.out ?_
                  repeat (first | (with_reducible refine pb_skip ?_) | ((first | (with_reducible refine pb_k rfl ?_) | ((with_reducible refine pb_ky ?hg ?_); (case hg => simp [Region.wanted, yielded]; done))); intro K hK; apply Exists.intro; refine ⟨fun w' hC => ?_, ?_⟩; (obtain ⟨j0, d0, d1, d2, d3, d4, d5, d6, d7, d8, x0, x1, x2, x3, x4, x5, x6, x7, x8⟩ := hC; go_simp; rfl); go_simp; refine hK _ ?_; clear hK K) | ((with_reducible refine pb_kn ?hg ?_); (case hg => simp [Region.wanted, yielded]; done); intro K hK; go_simp; refine hK _ ?_; clear hK K))
                  with_reducible refine pb_nil ?_
                  simp only [List.take_succ_cons, List.take_zero, List.drop_succ_cons, List.drop_zero]
                  refine CB.out ?_
                  repeat (with_reducible refine cb_skip ?_)
                  with_reducible refine cb_step rfl fun K hK => ?_
                  go_simp
                  refine hK _ _ (fun h => by cases h) ?_
                  clear hK K
                  repeat (with_reducible refine cb_skip ?_)
                  with_reducible refine cb_nil ?_
                  simp only [Then]
                  go_step
                  go_step
                  go_meet
                  case rel => exact ⟨by rw [HCd.out], HKK.out⟩
            · have e1 : (x.op == 1) = false := by simp [hop]
              have HCd : Hid (hb = false) := Lib.hid (by rw [HH.out]; simp [hop])
              refine wp_region_pieces [(8, [0,0,0,0,0,0,2,2,9,9,9,9,9,9,9,9,9,9,9,9,9,9,9,9,9,9], L11 bj bx b9 block d x), (26, [9,9,9,9,9,9,9,9,0,0,0,0,0,0,0,0,0,0,0,0,0,0,0,0,0,2], L11 bj bx b9 block d x)] (by kernel_rfl) (by kernel_rfl) ?_
              refine (And.intro ?_ ?_ : _ ∧ _)
              · exact HC11.out _ (Kp.refl _ _).drew
              refine PB.out ?_
              repeat (first | (with_reducible refine pb_skip ?_) | ((first | (with_reducible refine pb_k rfl ?_) | ((with_reducible refine pb_ky ?hg ?_); (case hg => simp [Region.wanted, yielded]; done))); intro K hK; apply Exists.intro; refine ⟨fun w' hC => ?_, ?_⟩; (obtain ⟨j0, d0, d1, d2, d3, d4, d5, d6, d7, d8, x0, x1, x2, x3, x4, x5, x6, x7, x8⟩ := hC; go_simp; rfl); go_simp; refine hK _ ?_; clear hK K) | ((with_reducible refine pb_kn ?hg ?_); (case hg => simp [Region.wanted, yielded]; done); intro K hK; go_simp; refine hK _ ?_; clear hK K))
              with_reducible refine pb_nil ?_
              simp only [List.take_succ_cons, List.take_zero, List.drop_zero]
              refine CB.out ?_
              repeat (with_reducible refine cb_skip ?_)
              with_reducible refine cb_kn (by simp [Region.wanted, yielded]) fun K hK => ?_
              go_simp
              refine hK _ _ ?_
              clear hK K
              repeat (with_reducible refine cb_skip ?_)
              with_reducible refine cb_step rfl fun K hK => ?_
              go_simp
              refine hK _ _ (fun h => by cases h) ?_
              clear hK K
              repeat (with_reducible refine cb_skip ?_)
              with_reducible refine cb_nil ?_
              simp only [Then, wpPieces]
              refine (And.intro ?_ ?_ : _ ∧ _)
              · exact HC11.out _ (Kp.refl _ _).drew
              have HKK := Lib.hid (Kp.refl Non U).drew
              refine PB.out ?_
              repeat (first | (with_reducible refine pb_skip ?_) | ((first | (with_reducible refine pb_k rfl ?_) | ((with_reducible refine pb_ky ?hg ?_); (case hg => simp [Region.wanted, yielded]; done))); intro K hK; apply Exists.intro; refine ⟨fun w' hC => ?_, ?_⟩; (obtain ⟨j0, d0, d1, d2, d3, d4, d5, d6, d7, d8, x0, x1, x2, x3, x4, x5, x6, x7, x8⟩ := hC; go_simp; rfl); go_simp; refine hK _ ?_; clear hK K) | ((with_reducible refine pb_kn ?hg ?_); (case hg => simp [Region.wanted, yielded]; done); intro K hK; go_simp; refine hK _ ?_; clear hK K))
              with_reducible refine pb_nil ?_
              simp only [List.take_succ_cons, List.take_zero, List.drop_succ_cons, List.drop_zero]
              refine CB.out ?_
              repeat (with_reducible refine cb_skip ?_)
              with_reducible refine cb_step rfl fun K hK => ?_
              go_simp
              refine hK _ _ (fun h => by cases h) ?_
              clear hK K
              repeat (with_reducible refine cb_skip ?_)
              with_reducible refine cb_nil ?_
              simp only [Then]
              go_step
              go_step
              go_meet
              case rel => exact ⟨by rw [HCd.out], HKK.out⟩
          case rest =>
            obtain ⟨rfl, hkx⟩ := hcut
            have hkx := hkU.trans hkx
            rcases hb with _ | _
            · have HE := Lib.hid (HNo.out rfl)
              clear HY HNo HC11 HAh HH
              go_wp2_with fail
              go_roundw
              case rel => exact ⟨k + 1, by omega, by go_num, ⟨z, rfl, HE⟩, hkx⟩
              case measure => simp [intOf]; omega
            · have HE := Lib.hid (HY.out rfl)
              have hka : k < at_.length := by omega
              have gka : (k : Int) < (at_.length : Nat) := by omega
              obtain ⟨ab, ao, rfl⟩ := h.at_.there (by omega)
              have a0 := Ints.c (h.at_.non hkx) hka
              have HE : Hid (max z at_[k] = lowU ds at_ block d n (k + 1)) := Lib.hid (by rw [← HE.out]; simp [List.getD, List.getElem?_eq_getElem hka])
              have j4 := hkx.cell j4 (fun f => f)
              generalize at_[k] = t at *
              clear HY HNo HC11 HAh HH
              by_cases hzt : z < t
              · have HE : Hid (t = lowU ds at_ block d n (k + 1)) := Lib.hid (by rw [← HE.out]; omega)
                go_wp2_with fail
                go_roundw
                case rel => exact ⟨k + 1, by omega, by go_num, ⟨t, rfl, HE⟩, hkx⟩
                case measure => simp [intOf]; omega
              · have HE : Hid (z = lowU ds at_ block d n (k + 1)) := Lib.hid (by rw [← HE.out]; omega)
                go_wp2_with fail
                go_roundw
                case rel => exact ⟨k + 1, by omega, by go_num, ⟨z, rfl, HE⟩, hkx⟩
                case measure => simp [intOf]; omega
        · obtain rfl : k = ds.length := by omega
          have HE := Lib.hid (hz.out.trans HLW.out)
          go_wp2_with fail
          go_ret
          exact ⟨by rw [← HE.out]; rfl, kV.trans (hkr.trans hkr2)⟩
end
end Go.Proofs.Ytpehfnobgdjgcaa
