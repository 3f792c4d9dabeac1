/-
  The judge: the place of a read that is done.
-/
import Derived.Test.YtpehfnobgdjgcaaG24
namespace Go.Proofs.Ytpehfnobgdjgcaa
open Go.RowKit

def seekF (l : List PutV) (s : ByteArray) : Nat → Nat → Nat
  | 0, n => n
  | f + 1, n => if n ≤ l.length ∧ textOf l n ≠ s then seekF l s f (n + 1) else n
/-- The least place from n on behind which the block has the text. -/
def seek (l : List PutV) (s : ByteArray) (n : Nat) : Nat := seekF l s (l.length + 1 - n) n
theorem seek_on {l : List PutV} {s : ByteArray} {n : Nat} (h : n ≤ l.length) (ht : textOf l n ≠ s) : seek l s n = seek l s (n + 1) := by
  unfold seek
  rw [show l.length + 1 - n = (l.length + 1 - (n + 1)) + 1 by omega]
  simp [seekF, h, ht]
theorem seek_at {l : List PutV} {s : ByteArray} {n : Nat} (ht : textOf l n = s) : seek l s n = n := by
  unfold seek
  cases l.length + 1 - n <;> simp [seekF, ht]
theorem seek_out {l : List PutV} {s : ByteArray} {n : Nat} (h : l.length < n) : seek l s n = n := by
  unfold seek
  cases l.length + 1 - n <;> simp [seekF]
  omega
def readB (ys ds : List DeedV) (l : List PutV) (at_ : List Int) (block : Int) (d : DeedV) : Option Nat :=
  if d.re.l.length ≤ offN block d.fr then none else
  if l.length < seek l (textAt d.re.l (offN block d.fr)) (lowB ys ds at_ block d).toNat then none else
  if (ys.take (seek l (textAt d.re.l (offN block d.fr)) (lowB ys ds at_ block d).toNat)).any fun x => decide (d.en < x.be) then none else some (seek l (textAt d.re.l (offN block d.fr)) (lowB ys ds at_ block d).toNat)
def ReadOut (r : Option Nat) (w : World) (e : Ending) (w' : World) : Prop := e = .returned (.tuple #[.int .i64 ((r.getD 0 : Nat) : Int), .bool r.isSome]) ∧ Kp Non w w'
/-- What region 5 reads. -/
structure Q5 (bj bx : Nat) (la : Option Addr) (ln lc : Nat) (bt ot rn rc m : Nat) (tx : ByteArray) (W : World) : Prop where
  j1 : W.cell? ⟨bj, 1, none⟩ = some (.slice la ln lc)
  d8 : W.cell? ⟨bx, 8, none⟩ = some (.slice (some ⟨bt, ot, none⟩) rn rc)
  t0 : W.cell? ⟨bt, ot + m, none⟩ = some (.string tx)

section
variable {W W' : World} {bj : Nat} {block : Int} {la : Option Addr} {lc : Nat} {l : List PutV} {ya : Option Addr} {yc : Nat} {ys : List DeedV} {da : Option Addr} {dc : Nat} {ds : List DeedV} {aa : Option Addr} {ac : Nat} {at_ : List Int}
set_option maxRecDepth 100000 in
set_option maxHeartbeats 1000000 in
theorem jread_calls (h : JW W bj block la lc l ya yc ys da dc ds aa ac at_) (d : DeedV) (hd : d.there W) (hal : at_.length = ds.length) (hyl : ys.length = l.length) (hll : l.length ≤ 1000000) (hat : ∀ z ∈ at_, 0 ≤ z ∧ z ≤ l.length) : Calls Try.prog 45 #[.pointer (some ⟨bj, 0, none⟩), valDeed d] W (ReadOut (readB ys ds l at_ block d) W) := by
  show Calls Try.prog 45 #[.pointer (some ⟨bj, 0, none⟩), .agg #[.int .i64 d.cl, .int .i64 d.sq, .int .i64 d.op, .int .i64 d.fr, .int .i64 d.to, .slice d.da.a d.da.n d.da.c, .int .i64 d.be, .int .i64 d.en, .slice d.re.a d.re.n d.re.c]] W (ReadOut (readB ys ds l at_ block d) W)
  obtain ⟨V, eV, h1, kV⟩ := d_new W d
  have h := h.non kV
  have hT : Texts V d.re.a d.re.n d.re.c d.re.l := hd.2.non kV
  have HV := Lib.hid eV
  have hcy := h.ys.cap
  have hmy := h.ys.max
  have hcl := h.ls.cap
  have hml := h.ls.max
  obtain ⟨j0, j1, j2, j3, j4⟩ := BxJ.cells h.box
  obtain ⟨d0, d1, d2, d3, d4, d5, d6, d7, d8⟩ := h1.cells
  have HC := Lib.hid fun W' (r : Kp Non V W') => And.intro (BxD.cells (Bx.non h1 r)) (BxJ.cells (Bx.non h.box r))
  have HLow := Lib.hid fun W' (r : Kp Non V W') => jlow_calls (h.non r) d hal (by omega)
  have HTx := Lib.hid fun W' (r : Kp Non V W') n hn => jtext_calls (h.non r) n hn
  have HLI : Hid (0 ≤ lowB ys ds at_ block d ∧ lowB ys ds at_ block d ≤ l.length) := Lib.hid (by
    have h1 := lowT_le ys d ys.length
    exact lowU_in (N := l.length) (by omega) hat ds.length)
  clear eV
  go_enter Try.func45, Try.ntmps45
  go_upto_region 1 with (fail)
  rw [HV.out]
  generalize W.heap.size = bx at *
  go_quiet (fail)
  go_upto_region 2 with (fail)
  have hdn := hT.len
  have hdm := Nat.le_trans hT.cap hT.max
  have HRB : Hid (readB ys ds l at_ block d = if d.re.l.length ≤ offN block d.fr then none else
      if l.length < seek l (textAt d.re.l (offN block d.fr)) (lowB ys ds at_ block d).toNat then none else
      if (ys.take (seek l (textAt d.re.l (offN block d.fr)) (lowB ys ds at_ block d).toNat)).any (fun x => decide (d.en < x.be)) then none else some (seek l (textAt d.re.l (offN block d.fr)) (lowB ys ds at_ block d).toNat)) := Lib.hid rfl
  rw [wrap_off]
  generalize offN block d.fr = m at *
  have hw : IntKind.u64.wrap (d.re.n : Int) = d.re.n := IntWalk.u64_in _ (by omega)
  have k2 : Kp Non V (V.drewN nq) := (Kp.refl _ _).drewN _
  obtain ⟨V2, hV2⟩ : ∃ V2, V.drewN nq = V2 := ⟨_, rfl⟩
  rw [hV2] at k2 ⊢
  obtain ⟨⟨d0, d1, d2, d3, d4, d5, d6, d7, d8⟩, j0, j1, j2, j3, j4⟩ := HC.out V2 k2
  clear hV2
  by_cases hm : m < d.re.l.length
  · have gm : ¬ (d.re.n : Int) ≤ (m : Int) := by omega
    have gmn : ¬ d.re.n ≤ m := by omega
    have gmi : (m : Int) < (d.re.n : Nat) := by omega
    have gm' : m < d.re.n := by omega
    have HRB : Hid (readB ys ds l at_ block d = if l.length < seek l d.re.l[m] (lowB ys ds at_ block d).toNat then none else
      if (ys.take (seek l d.re.l[m] (lowB ys ds at_ block d).toNat)).any (fun x => decide (d.en < x.be)) then none else some (seek l d.re.l[m] (lowB ys ds at_ block d).toNat)) := Lib.hid (by rw [HRB.out, if_neg (by omega), textAt_lt hm])
    obtain ⟨bt, ot, ha⟩ := hT.there (by omega)
    have HT := Lib.hid fun W (r : Kp Non V W) => (hT.non r)
    rw [ha] at HT
    have HTm := Lib.hid fun W (r : Kp Non V W) => Texts.c (HT.out W r) hm
    rw [ha] at d8
    have HD8 : Hid (∀ W', Kp Non V W' → W'.cell? ⟨bx, 8, none⟩ = some (.slice (some ⟨bt, ot, none⟩) d.re.n d.re.c)) := Lib.hid fun W' r => by
      have := (BxD.cells (Bx.non h1 r)).2.2.2.2.2.2.2.2
      rwa [ha] at this
    generalize d.re.l[m] = tx at *
    have HLow := Lib.hid (HLow.out V2 k2)
    obtain ⟨n0, hn0⟩ : ∃ n0 : Nat, lowB ys ds at_ block d = n0 := ⟨_, (Int.toNat_of_nonneg HLI.out.1).symm⟩
    rw [hn0] at HLow HRB HLI
    simp only [Int.toNat_natCast] at HRB
    have HN0 : Hid (n0 ≤ l.length) := Lib.hid (by have := HLI.out; omega)
    simp only [valDeed, Tx.v] at HLow
    rw [ha] at HLow
    clear hn0 HLI hm HT hT hdn hdm ha
    go_wp2_with fail
    refine HLow.out.mono ?_
    rintro e w3 ⟨rfl, hk3⟩
    have hk3 := k2.trans hk3
    clear HLow d0 d1 d2 d3 d4 d5 d6 d7 d8 j0 j1 j2 j3 j4
    go_wp2_with fail
    go_loopw [7] (fun v7 wi => ∃ n : Nat, n ≤ l.length + 1 ∧ v7 = .int .i64 n ∧ Hid (seek l tx n0 = seek l tx n) ∧ Kp Non w3 wi) (fun v7 _ => l.length + 1 - (intOf v7).toNat)
    case atStart => exact ⟨n0, by have := HN0.out; omega, rfl, Lib.hid rfl, Kp.refl _ _⟩
    case round =>
      obtain ⟨n, hn1, rfl, hsk, hki⟩ := hrel
      have hkI := hk3.trans hki
      have HC5 : Hid (∀ W', Kp Non wr W' → Q5 bj bx la l.length lc bt ot d.re.n d.re.c m tx W') := Lib.hid fun W' r => ⟨(HC.out W' (hkI.trans r)).2.2.1, HD8.out W' (hkI.trans r), HTm.out W' (hkI.trans r)⟩
      by_cases hnl : n ≤ l.length
      · have gn : decide ((n : Int) ≤ (l.length : Nat)) = true := decide_eq_true (by omega)
        have gnn : decide (n ≤ l.length) = true := decide_eq_true hnl
        have HTt := Lib.hid fun W' (r : Kp Non wr W') => HTx.out W' (hkI.trans r) n hnl
        have HSo : Hid (textOf l n ≠ tx → seek l tx n = seek l tx (n + 1)) := Lib.hid fun e => seek_on hnl e
        have HSa : Hid (textOf l n = tx → seek l tx n = n) := Lib.hid fun e => seek_at e
        generalize textOf l n = tn at *
        obtain ⟨nb, hnb⟩ : ∃ nb, (tn.toList != tx.toList) = nb := ⟨_, rfl⟩
        have HNb := Lib.hid hnb
        clear hnb
        go_upto_region 5 with (fail)
        go_cut [45] (fun v45 wc => v45 = .bool nb ∧ Kp Non wr wc)
        case first =>
          refine wp_region_pieces [(18, [0,0,0,0,0,0,0,0,0,0,1,0,0,0,0,0,2,2], Q5 bj bx la l.length lc bt ot d.re.n d.re.c m tx)] (by kernel_rfl) (by kernel_rfl) ?_
          refine (And.intro ?_ ?_ : _ ∧ _)
          · exact HC5.out _ (Kp.refl _ _).drew
          refine PB.out ?_
          repeat (first | (with_reducible refine pb_skip ?_) | ((first | (with_reducible refine pb_k rfl ?_) | ((with_reducible refine pb_ky ?hg ?_); (case hg => simp [Region.wanted, yielded]; done))); intro K hK; apply Exists.intro; refine ⟨fun w' hC => ?_, ?_⟩; (obtain ⟨j1, d8, t0⟩ := hC; go_simp; rfl); go_simp; refine hK _ ?_; clear hK K) | ((with_reducible refine pb_kn ?hg ?_); (case hg => simp [Region.wanted, yielded]; done); intro K hK; go_simp; refine hK _ ?_; clear hK K))
          with_reducible refine pb_nil ?_
          simp only [List.take_succ_cons, List.take_zero, List.drop_zero]
          refine CB.out ?_
          repeat (with_reducible refine cb_skip ?_)
          with_reducible refine cb_ky (by simp [Region.wanted, yielded]) fun K hK => ?_
          go_simp
          refine (HTt.out _ (Kp.refl _ _).drew).mono ?_
          rintro e w4 ⟨rfl, hk4⟩
          have hk4 := (Kp.refl Non wr).drew.trans hk4
          refine hK _ _ (fun _ => HC5.out _ hk4) ?_
          clear hK K
          repeat (with_reducible refine cb_skip ?_)
          with_reducible refine cb_ky (by simp [Region.wanted, yielded]) fun K hK => ?_
          go_simp
          refine hK _ _ (fun h => by cases h) ?_
          clear hK K
          repeat (with_reducible refine cb_skip ?_)
          with_reducible refine cb_step rfl fun K hK => ?_
          go_simp
          refine hK _ _ (fun h => by cases h) ?_
          clear hK K
          repeat (with_reducible refine cb_skip ?_)
          with_reducible refine cb_nil ?_
          simp only [Then, wpPieces]
          go_step
          go_step
          go_meet
          case rel => exact ⟨by rw [← HNb.out]; rfl, hk4⟩
        case rest =>
          obtain ⟨rfl, hkc⟩ := hcut
          have hkc := hki.trans hkc
          clear HC5 HTt
          rcases nb with _ | _
          · have htn : tn = tx := by
              have := HNb.out
              have e : (tn.toList == tx.toList) = true := by simpa [bne] using this
              rw [tx_beq] at e
              exact of_decide_eq_true e
            have HN := Lib.hid (hsk.out.trans (HSa.out htn))
            have hkC := hk3.trans hkc
            have HRB : Hid (readB ys ds l at_ block d = if (ys.take n).any (fun x => decide (d.en < x.be)) then none else some n) := Lib.hid (by rw [HRB.out, HN.out, if_neg (by omega)])
            have hny : n ≤ ys.length := by omega
            have gny : (n : Int) ≤ (yc : Nat) := by omega
            have hny' : n ≤ yc := by omega
            have gnl : ¬ l.length < n := by omega
            obtain ⟨⟨d0, d1, d2, d3, d4, d5, d6, d7, d8⟩, j0, j1, j2, j3, j4⟩ := HC.out wc hkC
            have hD7 := Lib.hid fun W' (r : Kp Non wc W') => (HC.out W' (hkC.trans r)).1.2.2.2.2.2.2.2.1
            have hY := h.ys.non hkC
            clear HSa HSo hsk htn HN d0 d1 d2 d3 d4 d5 d6 d8 j0 j3 j4 hn1
            go_wp2_with fail
            go_loopw [62] (fun v62 wi => ∃ j : Nat, j ≤ n ∧ v62 = .int .i64 j ∧ Hid (∀ (i : Nat) y, i < j → ys[i]? = some y → decide (d.en < y.be) = false) ∧ Kp Non wc wi) (fun v62 _ => n - (intOf v62).toNat)
            case atStart => exact ⟨0, by omega, rfl, Lib.hid fun _ _ h => absurd h (by omega), Kp.refl _ _⟩
            case round =>
              obtain ⟨j, hj', rfl, halj, hkj⟩ := hrel
              by_cases hjt : j < n
              · have gj : (j : Int) < (n : Nat) := by omega
                have hjy : j < ys.length := by omega
                have gjy : (j : Int) < (ys.length : Nat) := by omega
                obtain ⟨yb, yo, rfl⟩ := hY.there (by omega)
                obtain ⟨e0, e1, e2, e3, e4, e5, e6, e7, e8⟩ := deedR_cells (hY.non hkj) hjy
                have HYj := Lib.hid (List.getElem?_eq_getElem hjy)
                have HN := Lib.hid (BxD.new2 wr ys[j])
                generalize ys[j] = y at *
                go_upto_region 12 with (fail)
                obtain ⟨U, eU, hN7, kU⟩ := HN.out
                rw [eU]
                obtain ⟨y0, y1, y2, y3, y4, y5, y6, y7, y8⟩ := hN7.cells
                have hkU := hkj.trans kU
                have d7 := hD7.out U hkU
                clear eU HN hN7 e0 e1 e2 e3 e4 e5 e6 e7 e8
                generalize wr.heap.size = by9 at *
                rcases Bool.eq_false_or_eq_true (decide (d.en < y.be)) with f1 | f1
                · have HF : Hid (readB ys ds l at_ block d = none) := Lib.hid (by
                    rw [HRB.out, if_pos]
                    rw [List.any_eq_true]
                    exact ⟨y, List.mem_of_getElem? (i := j) (by rw [List.getElem?_take, if_pos hjt, HYj.out]), f1⟩)
                  go_wp2_with fail
                  go_ret2
                  exact ⟨by rw [HF.out]; rfl, kV.trans (hkC.trans hkU)⟩
                · have HE : Hid (∀ (i : Nat) y, i < j + 1 → ys[i]? = some y → decide (d.en < y.be) = false) := Lib.hid fun i z hi hz => if h : i < j then halj.out i z h hz else by
                    obtain rfl : i = j := by omega
                    rw [HYj.out] at hz
                    cases hz
                    exact f1
                  go_wp2_with fail
                  go_roundw
                  case rel => exact ⟨j + 1, by omega, by go_num, HE, hkU⟩
                  case measure => simp [intOf]; omega
              · obtain rfl : j = n := by omega
                have HF : Hid (readB ys ds l at_ block d = some j) := Lib.hid (by
                  rw [HRB.out, if_neg]
                  rw [List.any_eq_true]
                  rintro ⟨y, hy, he⟩
                  obtain ⟨i, hi, rfl⟩ := List.getElem_of_mem hy
                  rw [List.length_take] at hi
                  rw [List.getElem_take] at he
                  have := halj.out i _ (by omega) (List.getElem?_eq_getElem (by omega))
                  rw [this] at he
                  cases he)
                go_wp2_with fail
                go_ret2
                exact ⟨by rw [HF.out]; rfl, kV.trans (hkC.trans hkj)⟩
          · have htn : tn ≠ tx := by
              have := HNb.out
              have e : (tn.toList == tx.toList) = false := by simpa [bne] using this
              rw [tx_beq] at e
              exact of_decide_eq_false e
            have HE := Lib.hid (hsk.out.trans (HSo.out htn))
            clear HSa HSo hsk htn
            go_wp2_with fail
            go_roundw
            case rel => exact ⟨n + 1, by omega, by go_num, HE, hkc⟩
            case measure => simp [intOf]; omega
      · have gn : decide ((n : Int) ≤ (l.length : Nat)) = false := decide_eq_false (by omega)
        have gnl : l.length < n := by omega
        have HF : Hid (readB ys ds l at_ block d = none) := Lib.hid (by rw [HRB.out, hsk.out, seek_out (by omega), if_pos (by omega)])
        go_upto_region 5 with (fail)
        go_cut [45] (fun v45 wc => v45 = .bool false ∧ Kp Non wr wc)
        case first =>
          refine wp_region_pieces [(18, [0,0,0,0,0,0,0,0,0,0,1,0,0,0,0,0,2,2], Q5 bj bx la l.length lc bt ot d.re.n d.re.c m tx)] (by kernel_rfl) (by kernel_rfl) ?_
          refine (And.intro ?_ ?_ : _ ∧ _)
          · exact HC5.out _ (Kp.refl _ _).drew
          refine PB.out ?_
          repeat (first | (with_reducible refine pb_skip ?_) | ((first | (with_reducible refine pb_k rfl ?_) | ((with_reducible refine pb_ky ?hg ?_); (case hg => simp [Region.wanted, yielded]; done))); intro K hK; apply Exists.intro; refine ⟨fun w' hC => ?_, ?_⟩; (obtain ⟨j1, d8, t0⟩ := hC; go_simp; rfl); go_simp; refine hK _ ?_; clear hK K) | ((with_reducible refine pb_kn ?hg ?_); (case hg => simp [Region.wanted, yielded]; done); intro K hK; go_simp; refine hK _ ?_; clear hK K))
          with_reducible refine pb_nil ?_
          simp only [List.take_succ_cons, List.take_zero, List.drop_zero]
          refine CB.out ?_
          repeat (with_reducible refine cb_skip ?_)
          with_reducible refine cb_kn (by simp [Region.wanted, yielded]) fun K hK => ?_
          go_simp
          refine hK _ _ ?_
          clear hK K
          repeat (with_reducible refine cb_skip ?_)
          with_reducible refine cb_kn (by simp [Region.wanted, yielded]) fun K hK => ?_
          go_simp
          refine hK _ _ ?_
          clear hK K
          repeat (with_reducible refine cb_skip ?_)
          with_reducible refine cb_step rfl fun K hK => ?_
          go_simp
          refine hK _ _ (fun h => by cases h) ?_
          clear hK K
          repeat (with_reducible refine cb_skip ?_)
          with_reducible refine cb_nil ?_
          simp only [Then, wpPieces]
          go_step
          go_step
          go_meet
          case rel => exact ⟨rfl, (Kp.refl _ _).drew⟩
        case rest =>
          obtain ⟨rfl, hkc⟩ := hcut
          have hkC := hk3.trans (hki.trans hkc)
          obtain ⟨_, j0, j1, j2, j3, j4⟩ := HC.out wc hkC
          clear HC5
          go_wp2_with fail
          go_ret2
          exact ⟨by rw [HF.out]; rfl, kV.trans hkC⟩
  · have gm : (d.re.n : Int) ≤ (m : Int) := by omega
    have gmn : d.re.n ≤ m := by omega
    have HF : Hid (readB ys ds l at_ block d = none) := Lib.hid (by rw [HRB.out, if_pos (by omega)])
    clear hm hT hdn
    go_wp2_with fail
    go_ret2
    exact ⟨by rw [HF.out]; rfl, kV.trans k2⟩
end
end Go.Proofs.Ytpehfnobgdjgcaa
