/-
  slices.SortStableFunc of a short row of places, by when the deeds there were done.
-/
import Derived.Test.YtpehfnobgdjgcaaG26
namespace Go.Proofs.Ytpehfnobgdjgcaa
open Go.RowKit

def cmpE (ds : List DeedV) (x y : Int) : Int := if enOf ds x < enOf ds y then -1 else if enOf ds y < enOf ds x then 1 else 0
theorem cmpE_lt (ds : List DeedV) (x y : Int) : decide (cmpE ds x y < 0) = ltE ds x y := by
  unfold cmpE ltE
  by_cases h1 : enOf ds x < enOf ds y
  · simp [h1]
  · by_cases h2 : enOf ds y < enOf ds x <;> simp [h1, h2]
/-- The box of the deeds. -/
def BxDs (W : World) (b3 : Nat) (da : Option Addr) (dc : Nat) (ds : List DeedV) : Prop := W.cell? ⟨b3, 0, none⟩ = some (.slice da ds.length dc) ∧ Deeds W da ds.length dc ds
theorem BxDs.non {W W' : World} {b3 : Nat} {da : Option Addr} {dc : Nat} {ds : List DeedV} (h : BxDs W b3 da dc ds) (k : Kp Non W W') : BxDs W' b3 da dc ds := ⟨k.cell h.1 (fun f => f), h.2.non k⟩

set_option maxRecDepth 100000 in
set_option maxHeartbeats 1000000 in
theorem cmpE_calls (b3 : Nat) (da : Option Addr) (dc : Nat) (ds : List DeedV) (x y : Int) (w : World) (h : BxDs w b3 da dc ds) (hx : 0 ≤ x ∧ x < ds.length) (hy : 0 ≤ y ∧ y < ds.length) : Calls Try.prog 44 #[.int .i64 x, .int .i64 y, .pointer (some ⟨b3, 0, none⟩)] w (ValOut (.int .i64 (cmpE ds x y)) w) := by
  obtain ⟨i, rfl⟩ : ∃ i : Nat, x = i := ⟨_, (Int.toNat_of_nonneg hx.1).symm⟩
  obtain ⟨j, rfl⟩ : ∃ j : Nat, y = j := ⟨_, (Int.toNat_of_nonneg hy.1).symm⟩
  have hi : i < ds.length := by omega
  have hj : j < ds.length := by omega
  have gi : (i : Int) < (ds.length : Nat) := by omega
  have gj : (j : Int) < (ds.length : Nat) := by omega
  obtain ⟨b0, hd⟩ := h
  have hcd := hd.reads.cap
  have hmd := hd.reads.max
  obtain ⟨db, dof, rfl⟩ := hd.reads.there (by omega)
  have x7 := (hd.cells hi).2.2.2.2.2.2.2.1
  have y7 := (hd.cells hj).2.2.2.2.2.2.2.1
  have HCE : Hid (cmpE ds i j = if ds[i].en < ds[j].en then -1 else if ds[j].en < ds[i].en then 1 else 0) := Lib.hid (by unfold cmpE; rw [enOf_at hi, enOf_at hj])
  generalize ds[i].en = p at *
  generalize ds[j].en = q at *
  clear hx hy hi hj hd
  rcases Bool.eq_false_or_eq_true (decide (p < q)) with f1 | f1
  · have HE : Hid (cmpE ds i j = -1) := Lib.hid (by rw [HCE.out, if_pos (of_decide_eq_true f1)])
    go_enter Try.func44, Try.ntmps44
    go_wp2_with fail
    go_quiet (fail)
    go_wp2_with fail
    go_ret
    exact ⟨by rw [HE.out]; rfl, (Kp.refl _ _).drewN _⟩
  · rcases Bool.eq_false_or_eq_true (decide (q < p)) with f2 | f2
    · have HE : Hid (cmpE ds i j = 1) := Lib.hid (by rw [HCE.out, if_neg (of_decide_eq_false f1), if_pos (of_decide_eq_true f2)])
      go_enter Try.func44, Try.ntmps44
      go_wp2_with fail
      go_quiet (fail)
      go_wp2_with fail
      go_quiet (fail)
      go_wp2_with fail
      go_ret
      exact ⟨by rw [HE.out]; rfl, ((Kp.refl _ _).drewN _).drewN _⟩
    · have HE : Hid (cmpE ds i j = 0) := Lib.hid (by rw [HCE.out, if_neg (of_decide_eq_false f1), if_neg (of_decide_eq_false f2)])
      go_enter Try.func44, Try.ntmps44
      go_wp2_with fail
      go_quiet (fail)
      go_wp2_with fail
      go_quiet (fail)
      go_wp2_with fail
      go_ret
      exact ⟨by rw [HE.out]; rfl, ((Kp.refl _ _).drewN _).drewN _⟩


set_option maxRecDepth 100000 in
set_option maxHeartbeats 1000000 in
theorem insE_calls (b3 : Nat) (da : Option Addr) (dc : Nat) (ds : List DeedV) (base g n c : Nat) (P B Q : List Int) (w0 w : World) (hw0 : BxDs w0 b3 da dc ds) (hk0 : Kp Non w0 w) (hg : w0.heap.size ≤ g) (hin : ∀ z ∈ B, 0 ≤ z ∧ z < ds.length) (h : OwnI w base (some ⟨g, 0, none⟩) n c (P ++ B ++ Q)) (hB : P.length + B.length ≤ 1000000) : Calls Try.prog 71 #[.slice (some ⟨g, 0, none⟩) n c, .int .i64 P.length, .int .i64 (P.length + B.length : Nat), .func (.func 44) #[] #[.pointer (some ⟨b3, 0, none⟩)]] w (SortedOut w base g n c (P ++ sortS (ltE ds) B ++ Q)) := by
  have hlen := h.len encI_len (by omega)
  have hcap := (h.reads encI_len (by omega)).cap
  have hmax := (h.reads encI_len (by omega)).max
  simp only [List.length_append] at hlen
  obtain ⟨p, hp⟩ : ∃ p, P.length = p := ⟨_, rfl⟩
  obtain ⟨m, hm⟩ : ∃ m, p + B.length = m := ⟨_, rfl⟩
  have HP := Lib.hid hp
  have HM := Lib.hid hm
  have hmn : m ≤ n := by omega
  have hm6 : m ≤ 1000000 := by omega
  have hp6 : p ≤ 1000000 := by omega
  rw [hp, hm]
  have HB0 : Hid (∀ W, Kp (One g) w W → BxDs W b3 da dc ds) := Lib.hid fun W r => hw0.non (hk0.newer r fun i hi => by rw [show i = g from hi]; exact hg)
  clear hlen hp hm hB
  go_enter Try.func71, Try.ntmps71
  go_wp2_with fail
  go_loopw [8] (fun v6 wr => ∃ i : Nat, 1 ≤ i ∧ v6 = .int .i64 ((p : Int) + i) ∧ p + i ≤ m + 1 ∧ Hid (OwnI wr base (some ⟨g, 0, none⟩) n c (P ++ sortS (ltE ds) (B.take i) ++ B.drop i ++ Q)) ∧ Kp (One g) w wr) (fun v6 _ => m + 1 - (intOf v6).toNat)
  case atStart =>
    refine ⟨1, by omega, by go_num, by have := HM.out; omega, Lib.hid ?_, Kp.refl _ _⟩
    · cases B with
      | nil => simpa [sortS] using h
      | cons x B => simpa [sortS, insS, cutT] using h
  case round =>
    obtain ⟨i, hi1, rfl, him, hO, hkr⟩ := hrel
    by_cases hlt : p + i < m
    · have g1 : (p : Int) + i < m := by omega
      have hiB : i < B.length := by have := HM.out; omega
      have hO := hO.out
      rw [arr_start (ltE ds) P B Q hiB] at hO
      have HE := Lib.hid (fun j => arr_end (ltE ds) P B Q hiB (j := j))
      have HL : Hid ((sortS (ltE ds) (B.take i)).length = i) := Lib.hid (by rw [sortS_len]; simp; omega)
      have HinX := Lib.hid (hin _ (List.getElem_mem hiB))
      have HinS : Hid (∀ z ∈ sortS (ltE ds) (B.take i), 0 ≤ z ∧ z < ds.length) := Lib.hid fun z hz => hin z (List.mem_of_mem_take ((sortS_perm _ _).mem_iff.1 hz))
      generalize sortS (ltE ds) (B.take i) = S at *
      generalize B[i] = x at *
      go_wp2_with fail
      go_loopw [9] (fun v7 wi => ∃ j : Nat, j ≤ i ∧ v7 = .int .i64 ((p : Int) + j) ∧ Hid (cutT (ltE ds) S x i = cutT (ltE ds) S x j) ∧ Hid (OwnI wi base (some ⟨g, 0, none⟩) n c (arr P S x j (B.drop (i + 1) ++ Q))) ∧ Kp (One g) w wi) (fun v7 _ => (intOf v7).toNat - p)
      case atStart => exact ⟨i, Nat.le_refl _, rfl, Lib.hid rfl, Lib.hid hO, hkr⟩
      case round =>
        clear hO hkr
        obtain ⟨j, hji, rfl, hcut_, hO, hkr⟩ := hrel
        by_cases hj : 0 < j
        · obtain ⟨j, rfl⟩ : ∃ j', j = j' + 1 := ⟨j - 1, by omega⟩
          have hjS : j < S.length := by have := HL.out; omega
          have hO := hO.out
          have c1 := hO.at_ (arr_at P S x hjS _)
          have c2 := hO.at_ (arr_at1 P S x hjS _)
          rw [HP.out] at c1 c2
          obtain ⟨q, hq⟩ : ∃ q, p + j = q := ⟨_, rfl⟩
          have HQ := Lib.hid hq
          have eq1 : (p : Int) + (j + 1 : Nat) = (q : Int) + 1 := by omega
          have gq : (q : Int) + 1 < n := by omega
          have gq' : (q : Int) < n := by omega
          have gp : decide ((p : Int) < (q : Int) + 1) = true := decide_eq_true (by omega)
          have hq6 : q ≤ 1000000 := by omega
          have hq0 : 0 ≤ (q : Int) + 1 := by omega
          have hwq : IntKind.i64.wrap (q : Int) = q := IntWalk.i64_in _ (by omega)
          rw [hq] at c1 c2
          rw [eq1]
          clear eq1 hq hj
          have HC : Hid (∀ W, Kp Non wr W → W.cell? ⟨g, q, none⟩ = some (.int .i64 S[j]) ∧ W.cell? ⟨g, q + 1, none⟩ = some (.int .i64 x)) := Lib.hid fun W r => ⟨r.cell c1 (fun f => f), r.cell c2 (fun f => f)⟩
          have HRng : Hid (0 ≤ S[j] ∧ S[j] < ds.length) := Lib.hid (HinS.out _ (List.getElem_mem hjS))
          have HLs := Lib.hid fun W (r : Kp Non wr W) => cmpE_calls b3 da dc ds x S[j] W (HB0.out W (hkr.trans r.non)) HinX.out HRng.out
          have HON : Hid ((ltE ds) x S[j] = true → cutT (ltE ds) S x (j + 1) = cutT (ltE ds) S x j) := Lib.hid (cutT_on (ltE ds) hjS)
          have HOF : Hid ((ltE ds) x S[j] = false → cutT (ltE ds) S x (j + 1) = j + 1) := Lib.hid (cutT_off (ltE ds) hjS)
          have HAT := Lib.hid (arr_at P S x hjS (B.drop (i + 1) ++ Q))
          have HSW := Lib.hid (arr_swap P S x hjS (B.drop (i + 1) ++ Q))
          have HCm := Lib.hid (cmpE_lt ds x S[j])
          generalize S[j] = y at *
          generalize cmpE ds x y = cv at *
          generalize hlb : (ltE ds) x y = lb at *
          go_upto_region 4 with (fail)
          go_cut [34] (fun v30 wc => v30 = .bool lb ∧ Kp Non wr wc)
          case first =>
            refine wp_region_pieces [(17, [0,0,0,0,0,0,0,0,0,0,0,0,0,0,2,2,2], fun W => W.cell? ⟨g, q, none⟩ = some (.int .i64 y) ∧ W.cell? ⟨g, q + 1, none⟩ = some (.int .i64 x))] (by kernel_rfl) (by kernel_rfl) ?_
            refine (And.intro ?_ ?_ : _ ∧ _)
            · exact HC.out _ (Kp.refl _ _).drew
            refine PB.out ?_
            repeat (first | (with_reducible refine pb_skip ?_) | ((first | (with_reducible refine pb_k rfl ?_) | ((with_reducible refine pb_ky ?hg ?_); (case hg => simp [Region.wanted, yielded]; done))); intro K hK; apply Exists.intro; refine ⟨fun w' hC => ?_, ?_⟩; (obtain ⟨d1, d2⟩ := hC; go_simp; rfl); go_simp; refine hK _ ?_; clear hK K) | ((with_reducible refine pb_kn ?hg ?_); (case hg => simp [Region.wanted, yielded]; done); intro K hK; go_simp; refine hK _ ?_; clear hK K))
            with_reducible refine pb_nil ?_
            simp only [List.take_succ_cons, List.take_zero, List.drop_zero]
            refine CB.out ?_
            repeat (with_reducible refine cb_skip ?_)
            with_reducible refine cb_ky (by simp [Region.wanted, yielded]) fun K hK => ?_
            go_simp
            refine (HLs.out _ (Kp.refl _ _).drew).mono ?_
            rintro e w3 ⟨rfl, hk3⟩
            refine hK _ _ (fun h => by cases h) ?_
            clear hK K
            repeat (with_reducible refine cb_skip ?_)
            with_reducible refine cb_ky (by simp [Region.wanted, yielded]) fun K hK => ?_
            go_simp
            refine hK _ _ (fun h => by cases h) ?_
            clear hK K
            repeat (with_reducible refine cb_skip ?_)
            with_reducible refine cb_step rfl fun K hK => ?_
            go_simp
            refine hK _ _ (fun h => by cases h) ?_
            clear hK K
            repeat (with_reducible refine cb_skip ?_)
            with_reducible refine cb_nil ?_
            simp only [Then, wpPieces]
            go_step
            go_step
            go_meet
            case rel => exact ⟨by rw [← HCm.out], (Kp.refl Non wr).drew.trans hk3⟩
          case rest =>
            obtain ⟨rfl, hkc⟩ := hcut
            have hO := hO.non hkc
            have hkc' := hkr.trans hkc.non
            rcases lb with _ | _
            · have hc0 : cutT (ltE ds) S x i = j + 1 := by rw [hcut_.out, HOF.out rfl]
              rw [HE.out _ hc0] at hO
              clear HE HC HLs HON HOF HSW
              go_wp2_with fail
              go_roundw
              case rel => exact ⟨i + 1, by omega, by go_num, by omega, Lib.hid hO, hkc'⟩
              case measure => simp [intOf]; omega
            · have HC0 : Hid (cutT (ltE ds) S x i = cutT (ltE ds) S x j) := Lib.hid (by rw [hcut_.out, HON.out rfl])
              obtain ⟨c1, c2⟩ := HC.out _ hkc
              have f1 := hO.fz rfl q
              have f2 := hO.fz rfl (q + 1)
              have HOW : Hid (OwnI ((wc.setCell ⟨g, q + 1, none⟩ (.int .i64 y)).setCell ⟨g, q, none⟩ (.int .i64 x)).drew base (some ⟨g, 0, none⟩) n c (arr P S x j (B.drop (i + 1) ++ Q))) := Lib.hid (by
                have e := HSW.out
                rw [HP.out, HQ.out] at e
                rw [← e]
                exact OwnR.non (OwnI.set1 (OwnI.set1 hO (q + 1) y) q x) ((Kp.refl Non _).drew))
              have HK : Hid (Kp (One g) w ((wc.setCell ⟨g, q + 1, none⟩ (.int .i64 y)).setCell ⟨g, q, none⟩ (.int .i64 x)).drew) := Lib.hid (((hkc'.setCell (p := ⟨g, q + 1, none⟩) (.inl rfl) _).setCell (p := ⟨g, q, none⟩) (.inl rfl) _).drew)
              have fr1 : wc.drew.frozen? ⟨g, q + 1, none⟩ = false := f2
              have fr2 : (wc.drew.setCell ⟨g, q + 1, none⟩ (.int .i64 y)).frozen? ⟨g, q, none⟩ = false := OwnR.fz (OwnI.set1 (OwnR.non hO ((Kp.refl Non _).drew)) (q + 1) y) rfl q
              have is1 : wc.drew.cell? ⟨g, q + 1, none⟩ = some (.int .i64 x) := c2
              have is2 : (wc.drew.setCell ⟨g, q + 1, none⟩ (.int .i64 y)).cell? ⟨g, q, none⟩ = some (.int .i64 y) := by
                refine OwnI.at_ (OwnI.set1 (OwnR.non hO ((Kp.refl Non _).drew)) (q + 1) y) ?_
                have := HAT.out
                rw [HP.out, HQ.out] at this
                rw [List.getElem?_set_ne (by omega)]
                exact this
              clear HC HLs HON HOF HSW HE hcut_
              go_upto_region 6 with (fail)
              refine wp_region_free [0,0,0,0,0,0,0,0,0,1,0,0,0,1,0,1,0,2] (by kernel_rfl) (by kernel_rfl) (fun _ => True) trivial [9, 13, 15, 17] rfl ?_
              repeat (first | (with_reducible refine pure_skip ?_) | ((with_reducible refine pure_k rfl ?_); intro K hK; apply Exists.intro; refine ⟨fun w' hC => ?_, ?_⟩; (go_simp; rfl); go_simp; refine hK _ ?_; clear hK K))
              with_reducible refine pure_nil ?_
              show wpFree _ _ _ _ _ 4 _ _ _
              refine free_two 9 13 (by kernel_rfl) ?_ ?_
              ·
                refine free_at _ rfl rfl 1 rfl rfl fun K hK => ?_
                go_simp
                refine hK _ _ (fun _ => trivial) ?_
                clear hK K
                refine free_one 13 (by kernel_rfl) ?_
                refine free_at _ rfl rfl 1 rfl rfl fun K hK => ?_
                go_simp
                refine hK _ _ (fun _ => trivial) ?_
                clear hK K
                refine free_one 15 (by kernel_rfl) ?_
                refine free_at _ rfl rfl 1 rfl rfl fun K hK => ?_
                go_simp
                refine hK _ _ (fun _ => trivial) ?_
                clear hK K
                refine free_one 17 (by kernel_rfl) ?_
                refine free_at _ rfl rfl 2 rfl rfl fun K hK => ?_
                go_simp
                refine hK _ _ (fun h => by cases h) ?_
                clear hK K
                refine free_nil ?_
                go_wp2_with fail
                go_roundw
                case rel => exact ⟨j, by omega, by have := HQ.out; go_num, HC0, HOW, HK.out⟩
                case measure => have := HQ.out; simp [intOf]; omega
              ·
                refine free_at _ rfl rfl 1 rfl rfl fun K hK => ?_
                go_simp
                refine hK _ _ (fun _ => trivial) ?_
                clear hK K
                refine free_one 9 (by kernel_rfl) ?_
                refine free_at _ rfl rfl 1 rfl rfl fun K hK => ?_
                go_simp
                refine hK _ _ (fun _ => trivial) ?_
                clear hK K
                refine free_one 15 (by kernel_rfl) ?_
                refine free_at _ rfl rfl 1 rfl rfl fun K hK => ?_
                go_simp
                refine hK _ _ (fun _ => trivial) ?_
                clear hK K
                refine free_one 17 (by kernel_rfl) ?_
                refine free_at _ rfl rfl 2 rfl rfl fun K hK => ?_
                go_simp
                refine hK _ _ (fun h => by cases h) ?_
                clear hK K
                refine free_nil ?_
                go_wp2_with fail
                go_roundw
                case rel => exact ⟨j, by omega, by have := HQ.out; go_num, HC0, HOW, HK.out⟩
                case measure => have := HQ.out; simp [intOf]; omega
        · obtain rfl : j = 0 := by omega
          have hc0 : cutT (ltE ds) S x i = 0 := hcut_.out
          have hO := hO.out
          rw [HE.out 0 hc0] at hO
          have gp : decide ((p : Int) < (p : Int)) = false := decide_eq_false (by omega)
          clear HE hcut_
          rw [show (p : Int) + ((0 : Nat) : Int) = p from by omega]
          go_upto_region 4 with (fail)
          refine wp_region_pieces [(17, [0,0,0,0,0,0,0,0,0,0,0,0,0,0,2,2,2], fun _ => True)] (by kernel_rfl) (by kernel_rfl) ?_
          refine (And.intro trivial ?_ : _ ∧ _)
          refine PB.out ?_
          repeat (first | (with_reducible refine pb_skip ?_) | ((first | (with_reducible refine pb_k rfl ?_) | ((with_reducible refine pb_ky ?hg ?_); (case hg => simp [Region.wanted, yielded]; done))); intro K hK; apply Exists.intro; refine ⟨fun w' hC => ?_, ?_⟩; (go_simp; rfl); go_simp; refine hK _ ?_; clear hK K) | ((with_reducible refine pb_kn ?hg ?_); (case hg => simp [Region.wanted, yielded]; done); intro K hK; go_simp; refine hK _ ?_; clear hK K))
          with_reducible refine pb_nil ?_
          simp only [List.take_succ_cons, List.take_zero, List.drop_zero]
          refine CB.out ?_
          repeat (with_reducible refine cb_skip ?_)
          with_reducible refine cb_kn (by simp [Region.wanted, yielded]) fun K hK => ?_
          go_simp
          refine hK _ _ ?_
          clear hK K
          repeat (with_reducible refine cb_skip ?_)
          with_reducible refine cb_kn (by simp [Region.wanted, yielded]) fun K hK => ?_
          go_simp
          refine hK _ _ ?_
          clear hK K
          repeat (with_reducible refine cb_skip ?_)
          with_reducible refine cb_step rfl fun K hK => ?_
          go_simp
          refine hK _ _ (fun h => by cases h) ?_
          clear hK K
          repeat (with_reducible refine cb_skip ?_)
          with_reducible refine cb_nil ?_
          simp only [Then, wpPieces]
          go_wp2_with fail
          go_roundw
          case rel => exact ⟨i + 1, by omega, by go_num, by omega, Lib.hid (OwnR.non hO ((Kp.refl Non _).drew)), hkr.drew⟩
          case measure => simp [intOf]; omega
    · have g1 : ¬ (p : Int) + i < m := by omega
      have hO := hO.out
      rw [List.take_of_length_le (by have := HM.out; omega), List.drop_of_length_le (by have := HM.out; omega), List.append_nil] at hO
      go_wp2_with fail
      go_end0
      exact ⟨rfl, by simpa using hO, hkr⟩

end Go.Proofs.Ytpehfnobgdjgcaa
