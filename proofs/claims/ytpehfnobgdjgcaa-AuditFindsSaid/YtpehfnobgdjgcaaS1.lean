/-
  slices.Sort of a short row of numbers.
-/
import Derived.Test.YtpehfnobgdjgcaaS0
import Derived.Test.YtpehfnobgdjgcaaG1
import Derived.Test.YtpehfnobgdjgcaaR4
namespace Go.Proofs.Ytpehfnobgdjgcaa
open Go.RowKit

def ltI (x y : Int) : Bool := decide (x < y)
set_option maxRecDepth 100000 in
theorem isNaN_calls (x : Int) (w : World) : Calls Try.prog 78 #[.int .i64 x] w (BoolOut false w) := by
  have e0 : (x != x) = false := by simp
  go_enter Try.func78, Try.ntmps78
  go_wp2_with fail
  go_ret
  exact ⟨rfl, Kp.refl _ _⟩
set_option maxRecDepth 100000 in
theorem less_calls (x y : Int) (w : World) : Calls Try.prog 64 #[.int .i64 x, .int .i64 y] w (BoolOut (ltI x y) w) := by
  go_enter Try.func64, Try.ntmps64
  go_wp2_with fail
  refine (isNaN_calls x w).mono ?_
  rintro e w1 ⟨rfl, hk1⟩
  go_wp2_with fail
  go_ret
  exact ⟨rfl, hk1⟩

/-- A row of our own, sorted. -/
def SortedOut (w : World) (base g n c : Nat) (l : List Int) (e : Ending) (w' : World) : Prop := e = .returned (.tuple #[]) ∧ OwnI w' base (some ⟨g, 0, none⟩) n c l ∧ Kp (One g) w w'


set_option maxRecDepth 100000 in
set_option maxHeartbeats 1000000 in
theorem insO_calls (base g n c : Nat) (P B Q : List Int) (w : World) (h : OwnI w base (some ⟨g, 0, none⟩) n c (P ++ B ++ Q)) (hB : P.length + B.length ≤ 1000000) : Calls Try.prog 58 #[.slice (some ⟨g, 0, none⟩) n c, .int .i64 P.length, .int .i64 (P.length + B.length : Nat)] w (SortedOut w base g n c (P ++ sortS ltI B ++ Q)) := by
  have hlen := h.len encI_len (by omega)
  have hcap := (h.reads encI_len (by omega)).cap
  have hmax := (h.reads encI_len (by omega)).max
  simp only [List.length_append] at hlen
  obtain ⟨p, hp⟩ : ∃ p, P.length = p := ⟨_, rfl⟩
  obtain ⟨m, hm⟩ : ∃ m, p + B.length = m := ⟨_, rfl⟩
  have HP := Lib.hid hp
  have HM := Lib.hid hm
  have hmn : m ≤ n := by omega
  have hm6 : m ≤ 1000000 := by omega
  have hp6 : p ≤ 1000000 := by omega
  rw [hp, hm]
  clear hlen hp hm hB
  go_enter Try.func58, Try.ntmps58
  go_wp2_with fail
  go_loopw [6] (fun v6 wr => ∃ i : Nat, 1 ≤ i ∧ v6 = .int .i64 ((p : Int) + i) ∧ p + i ≤ m + 1 ∧ Hid (OwnI wr base (some ⟨g, 0, none⟩) n c (P ++ sortS ltI (B.take i) ++ B.drop i ++ Q)) ∧ Kp (One g) w wr) (fun v6 _ => m + 1 - (intOf v6).toNat)
  case atStart =>
    refine ⟨1, by omega, by go_num, by have := HM.out; omega, Lib.hid ?_, Kp.refl _ _⟩
    · cases B with
      | nil => simpa [sortS] using h
      | cons x B => simpa [sortS, insS, cutT] using h
  case round =>
    obtain ⟨i, hi1, rfl, him, hO, hkr⟩ := hrel
    by_cases hlt : p + i < m
    · have g1 : (p : Int) + i < m := by omega
      have hiB : i < B.length := by have := HM.out; omega
      have hO := hO.out
      rw [arr_start ltI P B Q hiB] at hO
      have HE := Lib.hid (fun j => arr_end ltI P B Q hiB (j := j))
      have HL : Hid ((sortS ltI (B.take i)).length = i) := Lib.hid (by rw [sortS_len]; simp; omega)
      generalize sortS ltI (B.take i) = S at *
      generalize B[i] = x at *
      go_wp2_with fail
      go_loopw [7] (fun v7 wi => ∃ j : Nat, j ≤ i ∧ v7 = .int .i64 ((p : Int) + j) ∧ Hid (cutT ltI S x i = cutT ltI S x j) ∧ Hid (OwnI wi base (some ⟨g, 0, none⟩) n c (arr P S x j (B.drop (i + 1) ++ Q))) ∧ Kp (One g) w wi) (fun v7 _ => (intOf v7).toNat - p)
      case atStart => exact ⟨i, Nat.le_refl _, rfl, Lib.hid rfl, Lib.hid hO, hkr⟩
      case round =>
        clear hO hkr
        obtain ⟨j, hji, rfl, hcut_, hO, hkr⟩ := hrel
        by_cases hj : 0 < j
        · obtain ⟨j, rfl⟩ : ∃ j', j = j' + 1 := ⟨j - 1, by omega⟩
          have hjS : j < S.length := by have := HL.out; omega
          have hO := hO.out
          have c1 := hO.at_ (arr_at P S x hjS _)
          have c2 := hO.at_ (arr_at1 P S x hjS _)
          rw [HP.out] at c1 c2
          obtain ⟨q, hq⟩ : ∃ q, p + j = q := ⟨_, rfl⟩
          have HQ := Lib.hid hq
          have eq1 : (p : Int) + (j + 1 : Nat) = (q : Int) + 1 := by omega
          have gq : (q : Int) + 1 < n := by omega
          have gq' : (q : Int) < n := by omega
          have gp : decide ((p : Int) < (q : Int) + 1) = true := decide_eq_true (by omega)
          have hq6 : q ≤ 1000000 := by omega
          have hq0 : 0 ≤ (q : Int) + 1 := by omega
          have hwq : IntKind.i64.wrap (q : Int) = q := IntWalk.i64_in _ (by omega)
          rw [hq] at c1 c2
          rw [eq1]
          clear eq1 hq hj
          have HC : Hid (∀ W, Kp Non wr W → W.cell? ⟨g, q, none⟩ = some (.int .i64 S[j]) ∧ W.cell? ⟨g, q + 1, none⟩ = some (.int .i64 x)) := Lib.hid fun W r => ⟨r.cell c1 (fun f => f), r.cell c2 (fun f => f)⟩
          have HLs := Lib.hid (less_calls x S[j])
          have HON : Hid (ltI x S[j] = true → cutT ltI S x (j + 1) = cutT ltI S x j) := Lib.hid (cutT_on ltI hjS)
          have HOF : Hid (ltI x S[j] = false → cutT ltI S x (j + 1) = j + 1) := Lib.hid (cutT_off ltI hjS)
          have HAT := Lib.hid (arr_at P S x hjS (B.drop (i + 1) ++ Q))
          have HSW := Lib.hid (arr_swap P S x hjS (B.drop (i + 1) ++ Q))
          generalize S[j] = y at *
          generalize hlb : ltI x y = lb at *
          go_upto_region 4 with (fail)
          go_cut [30] (fun v30 wc => v30 = .bool lb ∧ Kp Non wr wc)
          case first =>
            refine wp_region_pieces [(15, [0,0,0,0,0,0,0,0,0,0,0,0,0,2,2], fun W => W.cell? ⟨g, q, none⟩ = some (.int .i64 y) ∧ W.cell? ⟨g, q + 1, none⟩ = some (.int .i64 x))] (by kernel_rfl) (by kernel_rfl) ?_
            refine (And.intro ?_ ?_ : _ ∧ _)
            · exact HC.out _ (Kp.refl _ _).drew
            refine PB.out ?_
            repeat (first | (with_reducible refine pb_skip ?_) | ((first | (with_reducible refine pb_k rfl ?_) | ((with_reducible refine pb_ky ?hg ?_); (case hg => simp [Region.wanted, yielded]; done))); intro K hK; apply Exists.intro; refine ⟨fun w' hC => ?_, ?_⟩; (obtain ⟨d1, d2⟩ := hC; go_simp; rfl); go_simp; refine hK _ ?_; clear hK K) | ((with_reducible refine pb_kn ?hg ?_); (case hg => simp [Region.wanted, yielded]; done); intro K hK; go_simp; refine hK _ ?_; clear hK K))
            with_reducible refine pb_nil ?_
            simp only [List.take_succ_cons, List.take_zero, List.drop_zero]
            refine CB.out ?_
            repeat (with_reducible refine cb_skip ?_)
            with_reducible refine cb_ky (by simp [Region.wanted, yielded]) fun K hK => ?_
            go_simp
            refine (HLs.out _).mono ?_
            rintro e w3 ⟨rfl, hk3⟩
            refine hK _ _ (fun h => by cases h) ?_
            clear hK K
            repeat (with_reducible refine cb_skip ?_)
            with_reducible refine cb_step rfl fun K hK => ?_
            go_simp
            refine hK _ _ (fun h => by cases h) ?_
            clear hK K
            repeat (with_reducible refine cb_skip ?_)
            with_reducible refine cb_nil ?_
            simp only [Then, wpPieces]
            go_step
            go_step
            go_meet
            case rel => exact ⟨rfl, (Kp.refl Non wr).drew.trans hk3⟩
          case rest =>
            obtain ⟨rfl, hkc⟩ := hcut
            have hO := hO.non hkc
            have hkc' := hkr.trans hkc.non
            rcases lb with _ | _
            · have hc0 : cutT ltI S x i = j + 1 := by rw [hcut_.out, HOF.out rfl]
              rw [HE.out _ hc0] at hO
              clear HE HC HLs HON HOF HSW
              go_wp2_with fail
              go_roundw
              case rel => exact ⟨i + 1, by omega, by go_num, by omega, Lib.hid hO, hkc'⟩
              case measure => simp [intOf]; omega
            · have HC0 : Hid (cutT ltI S x i = cutT ltI S x j) := Lib.hid (by rw [hcut_.out, HON.out rfl])
              obtain ⟨c1, c2⟩ := HC.out _ hkc
              have f1 := hO.fz rfl q
              have f2 := hO.fz rfl (q + 1)
              have HOW : Hid (OwnI ((wc.setCell ⟨g, q + 1, none⟩ (.int .i64 y)).setCell ⟨g, q, none⟩ (.int .i64 x)).drew base (some ⟨g, 0, none⟩) n c (arr P S x j (B.drop (i + 1) ++ Q))) := Lib.hid (by
                have e := HSW.out
                rw [HP.out, HQ.out] at e
                rw [← e]
                exact OwnR.non (OwnI.set1 (OwnI.set1 hO (q + 1) y) q x) ((Kp.refl Non _).drew))
              have HK : Hid (Kp (One g) w ((wc.setCell ⟨g, q + 1, none⟩ (.int .i64 y)).setCell ⟨g, q, none⟩ (.int .i64 x)).drew) := Lib.hid (((hkc'.setCell (p := ⟨g, q + 1, none⟩) (.inl rfl) _).setCell (p := ⟨g, q, none⟩) (.inl rfl) _).drew)
              have fr1 : wc.drew.frozen? ⟨g, q + 1, none⟩ = false := f2
              have fr2 : (wc.drew.setCell ⟨g, q + 1, none⟩ (.int .i64 y)).frozen? ⟨g, q, none⟩ = false := OwnR.fz (OwnI.set1 (OwnR.non hO ((Kp.refl Non _).drew)) (q + 1) y) rfl q
              have is1 : wc.drew.cell? ⟨g, q + 1, none⟩ = some (.int .i64 x) := c2
              have is2 : (wc.drew.setCell ⟨g, q + 1, none⟩ (.int .i64 y)).cell? ⟨g, q, none⟩ = some (.int .i64 y) := by
                refine OwnI.at_ (OwnI.set1 (OwnR.non hO ((Kp.refl Non _).drew)) (q + 1) y) ?_
                have := HAT.out
                rw [HP.out, HQ.out] at this
                rw [List.getElem?_set_ne (by omega)]
                exact this
              clear HC HLs HON HOF HSW HE hcut_
              go_upto_region 6 with (fail)
              refine wp_region_free [0,0,0,0,0,0,0,0,0,1,0,0,0,1,0,1,0,2] (by kernel_rfl) (by kernel_rfl) (fun _ => True) trivial [9, 13, 15, 17] rfl ?_
              repeat (first | (with_reducible refine pure_skip ?_) | ((with_reducible refine pure_k rfl ?_); intro K hK; apply Exists.intro; refine ⟨fun w' hC => ?_, ?_⟩; (go_simp; rfl); go_simp; refine hK _ ?_; clear hK K))
              with_reducible refine pure_nil ?_
              show wpFree _ _ _ _ _ 4 _ _ _
              refine free_two 9 13 (by kernel_rfl) ?_ ?_
              ·
                refine free_at _ rfl rfl 1 rfl rfl fun K hK => ?_
                go_simp
                refine hK _ _ (fun _ => trivial) ?_
                clear hK K
                refine free_one 13 (by kernel_rfl) ?_
                refine free_at _ rfl rfl 1 rfl rfl fun K hK => ?_
                go_simp
                refine hK _ _ (fun _ => trivial) ?_
                clear hK K
                refine free_one 15 (by kernel_rfl) ?_
                refine free_at _ rfl rfl 1 rfl rfl fun K hK => ?_
                go_simp
                refine hK _ _ (fun _ => trivial) ?_
                clear hK K
                refine free_one 17 (by kernel_rfl) ?_
                refine free_at _ rfl rfl 2 rfl rfl fun K hK => ?_
                go_simp
                refine hK _ _ (fun h => by cases h) ?_
                clear hK K
                refine free_nil ?_
                go_wp2_with fail
                go_roundw
                case rel => exact ⟨j, by omega, by have := HQ.out; go_num, HC0, HOW, HK.out⟩
                case measure => have := HQ.out; simp [intOf]; omega
              ·
                refine free_at _ rfl rfl 1 rfl rfl fun K hK => ?_
                go_simp
                refine hK _ _ (fun _ => trivial) ?_
                clear hK K
                refine free_one 9 (by kernel_rfl) ?_
                refine free_at _ rfl rfl 1 rfl rfl fun K hK => ?_
                go_simp
                refine hK _ _ (fun _ => trivial) ?_
                clear hK K
                refine free_one 15 (by kernel_rfl) ?_
                refine free_at _ rfl rfl 1 rfl rfl fun K hK => ?_
                go_simp
                refine hK _ _ (fun _ => trivial) ?_
                clear hK K
                refine free_one 17 (by kernel_rfl) ?_
                refine free_at _ rfl rfl 2 rfl rfl fun K hK => ?_
                go_simp
                refine hK _ _ (fun h => by cases h) ?_
                clear hK K
                refine free_nil ?_
                go_wp2_with fail
                go_roundw
                case rel => exact ⟨j, by omega, by have := HQ.out; go_num, HC0, HOW, HK.out⟩
                case measure => have := HQ.out; simp [intOf]; omega
        · obtain rfl : j = 0 := by omega
          have hc0 : cutT ltI S x i = 0 := hcut_.out
          have hO := hO.out
          rw [HE.out 0 hc0] at hO
          have gp : decide ((p : Int) < (p : Int)) = false := decide_eq_false (by omega)
          clear HE hcut_
          rw [show (p : Int) + ((0 : Nat) : Int) = p from by omega]
          go_upto_region 4 with (fail)
          refine wp_region_pieces [(15, [0,0,0,0,0,0,0,0,0,0,0,0,0,2,2], fun _ => True)] (by kernel_rfl) (by kernel_rfl) ?_
          refine (And.intro trivial ?_ : _ ∧ _)
          refine PB.out ?_
          repeat (first | (with_reducible refine pb_skip ?_) | ((first | (with_reducible refine pb_k rfl ?_) | ((with_reducible refine pb_ky ?hg ?_); (case hg => simp [Region.wanted, yielded]; done))); intro K hK; apply Exists.intro; refine ⟨fun w' hC => ?_, ?_⟩; (go_simp; rfl); go_simp; refine hK _ ?_; clear hK K) | ((with_reducible refine pb_kn ?hg ?_); (case hg => simp [Region.wanted, yielded]; done); intro K hK; go_simp; refine hK _ ?_; clear hK K))
          with_reducible refine pb_nil ?_
          simp only [List.take_succ_cons, List.take_zero, List.drop_zero]
          refine CB.out ?_
          repeat (with_reducible refine cb_skip ?_)
          with_reducible refine cb_kn (by simp [Region.wanted, yielded]) fun K hK => ?_
          go_simp
          refine hK _ _ ?_
          clear hK K
          repeat (with_reducible refine cb_skip ?_)
          with_reducible refine cb_step rfl fun K hK => ?_
          go_simp
          refine hK _ _ (fun h => by cases h) ?_
          clear hK K
          repeat (with_reducible refine cb_skip ?_)
          with_reducible refine cb_nil ?_
          simp only [Then, wpPieces]
          go_wp2_with fail
          go_roundw
          case rel => exact ⟨i + 1, by omega, by go_num, by omega, Lib.hid (OwnR.non hO ((Kp.refl Non _).drew)), hkr.drew⟩
          case measure => simp [intOf]; omega
    · have g1 : ¬ (p : Int) + i < m := by omega
      have hO := hO.out
      rw [List.take_of_length_le (by have := HM.out; omega), List.drop_of_length_le (by have := HM.out; omega), List.append_nil] at hO
      go_wp2_with fail
      go_end0
      exact ⟨rfl, by simpa using hO, hkr⟩

set_option maxRecDepth 100000 in
set_option maxHeartbeats 1000000 in
theorem pdq_calls (base g n c : Nat) (l : List Int) (k : Int) (w : World) (h : OwnI w base (some ⟨g, 0, none⟩) n c l) (hn : n ≤ 12) : Calls Try.prog 46 #[.slice (some ⟨g, 0, none⟩) n c, .int .i64 0, .int .i64 n, .int .i64 k] w (SortedOut w base g n c (sortS ltI l)) := by
  have hlen := h.len encI_len (by omega)
  have hI : Calls Try.prog 58 #[.slice (some ⟨g, 0, none⟩) n c, .int .i64 0, .int .i64 n] w (SortedOut w base g n c (sortS ltI l)) := by
    have := insO_calls base g n c [] l [] w (by simpa using h) (by simp; omega)
    simpa [← hlen] using this
  have HI := Lib.hid hI
  clear hI hlen
  go_enter Try.func46, Try.ntmps46
  go_wp2_with fail
  have hn12 : (n : Int) ≤ 12 := by omega
  go_loopw [1, 2, 8] (fun v1 v2 _ wr => v1 = .int .i64 0 ∧ v2 = .int .i64 n ∧ wr = w) (fun _ _ _ _ => 0)
  case atStart => exact ⟨rfl, rfl, rfl⟩
  case round =>
    obtain ⟨rfl, rfl, rfl⟩ := hrel
    go_wp2_with fail
    refine HI.out.mono ?_
    rintro e w1 ⟨rfl, hO1, hk1⟩
    go_wp2_with fail
    go_end0
    exact ⟨rfl, hO1, hk1⟩

set_option maxRecDepth 100000 in
set_option maxHeartbeats 1000000 in
theorem len64_calls (m : Nat) (w : World) (hm : m ≤ 12) : Calls Try.prog 68 #[.int .u64 m] w (fun e w' => ∃ k, e = .returned (.int .i64 k) ∧ Kp Non w w') := by
  have h : m = 0 ∨ m = 1 ∨ m = 2 ∨ m = 3 ∨ m = 4 ∨ m = 5 ∨ m = 6 ∨ m = 7 ∨ m = 8 ∨ m = 9 ∨ m = 10 ∨ m = 11 ∨ m = 12 := by omega
  rcases h with rfl | rfl | rfl | rfl | rfl | rfl | rfl | rfl | rfl | rfl | rfl | rfl | rfl
  all_goals
    go_enter Try.func68, Try.ntmps68
    go_wp2
    go_ret
    exact ⟨_, rfl, Kp.refl _ _⟩
set_option maxRecDepth 100000 in
theorem len_calls (m : Nat) (w : World) (hm : m ≤ 12) : Calls Try.prog 47 #[.int .u64 m] w (fun e w' => ∃ k, e = .returned (.int .i64 k) ∧ Kp Non w w') := by
  go_enter Try.func47, Try.ntmps47
  go_wp2_with fail
  refine (len64_calls m w hm).mono ?_
  rintro e w1 ⟨k, rfl, hk1⟩
  go_wp2_with fail
  go_ret
  exact ⟨k, rfl, hk1⟩
/-- slices.Sort of a row of our own, or of none. -/
def SortOut (w : World) (base : Nat) (a : Option Addr) (n c : Nat) (l : List Int) (e : Ending) (w' : World) : Prop := e = .returned (.tuple #[]) ∧ OwnI w' base a n c l ∧ Kp (Blk a) w w'
set_option maxRecDepth 100000 in
set_option maxHeartbeats 1000000 in
theorem sort_calls (base : Nat) (a : Option Addr) (n c : Nat) (l : List Int) (w : World) (h : OwnI w base a n c l) (hn : n ≤ 12) : Calls Try.prog 28 #[.slice a n c] w (SortOut w base a n c (sortS ltI l)) := by
  have hw : IntKind.u64.wrap (n : Int) = n := IntWalk.u64_in _ (by omega)
  have hlen := h.len encI_len (by omega)
  rcases h.lie with ⟨rfl, rfl, rfl, hx⟩ | ⟨g, cur, rfl, h2⟩
  · obtain rfl : l = [] := List.eq_nil_of_length_eq_zero (by omega)
    have HL := Lib.hid (len_calls 0 w (by omega))
    clear hx hw hlen hn
    have HS : ∀ W k, Calls Try.prog 46 #[.slice none 0 0, .int .i64 0, .int .i64 0, .int .i64 k] W (fun e W' => e = .returned (.tuple #[]) ∧ Kp Non W W') := by
      intro W k
      have HI : Hid (Calls Try.prog 58 #[.slice none 0 0, .int .i64 0, .int .i64 0] W (fun e W' => e = .returned (.tuple #[]) ∧ Kp Non W W')) := by
        refine Lib.hid ?_
        go_enter Try.func58, Try.ntmps58
        go_wp2_with fail
        go_loopw [6] (fun v6 wr => v6 = .int .i64 1 ∧ wr = W) (fun _ _ => 0)
        case atStart => exact ⟨rfl, rfl⟩
        case round =>
          obtain ⟨rfl, rfl⟩ := hrel
          go_wp2_with fail
          go_end0
          exact ⟨rfl, Kp.refl _ _⟩
      go_enter Try.func46, Try.ntmps46
      go_wp2_with fail
      go_loopw [1, 2, 8] (fun v1 v2 _ wr => v1 = .int .i64 0 ∧ v2 = .int .i64 0 ∧ wr = W) (fun _ _ _ _ => 0)
      case atStart => exact ⟨rfl, rfl, rfl⟩
      case round =>
        obtain ⟨rfl, rfl, rfl⟩ := hrel
        go_wp2_with fail
        refine HI.out.mono ?_
        rintro e w1 ⟨rfl, hk1⟩
        go_wp2_with fail
        refine bodyPost_ret (results_none rfl _ _ _) rfl ?_
        exact ⟨rfl, hk1⟩
    have HS := Lib.hid HS
    go_enter Try.func28, Try.ntmps28
    go_wp2_with fail
    refine HL.out.mono ?_
    rintro e w1 ⟨k, rfl, hk1⟩
    go_wp2_with fail
    refine (HS.out w1 k).mono ?_
    rintro e w2 ⟨rfl, hk2⟩
    go_wp2_with fail
    go_end0
    exact ⟨rfl, h.non (hk1.trans hk2), (hk1.trans hk2).non⟩
  · clear h2 hlen
    have HL := Lib.hid (len_calls n w hn)
    have HD := Lib.hid fun W (r : Kp Non w W) k => pdq_calls base g n c l k W (h.non r) hn
    go_enter Try.func28, Try.ntmps28
    go_wp2_with fail
    refine HL.out.mono ?_
    rintro e w1 ⟨k, rfl, hk1⟩
    go_wp2_with fail
    refine (HD.out w1 hk1 k).mono ?_
    rintro e w2 ⟨rfl, hO2, hk2⟩
    go_wp2_with fail
    go_end0
    exact ⟨rfl, hO2, hk1.comp hk2 (fun _ _ f => f.elim) (fun i _ hi => ⟨_, rfl, Eq.symm hi⟩)⟩
end Go.Proofs.Ytpehfnobgdjgcaa
