/-
  JournalFull: what finds no room, or is too great, changes nothing; what is there stays readable. For every input.
-/
import Derived.Test.YtclbapmjhchokaaJ16
import Derived.Laws.MakeOwn
namespace Go.Proofs.Ytclbapmjhchokaa
open Go.RowKit

def big : List UInt8 := List.replicate 1048577 0
def bigc : Array Value := madeCells #[.int .u8 0] 1048577
theorem madeBig : ∀ w, (Instr.makeSlice 22 (.int .i64 1048577) (.int .i64 1048577)).run Try.prog w = .ok (.slice (some ⟨w.heap.size, 0, none⟩) 1048577 1048577) (w.alloc (.cells bigc 5)) := by
  intro w
  obtain ⟨i0, hi, hz0, hz1, hz2⟩ := info_parts info5
  have := run_make (P := Try.prog) w 22 5 i0 (.int .u8 0) Try.underlying22 hi hz0 .i64 .i64 1048577 1048577 (by omega) (by omega) (by rw [hz2]; omega) (by omega)
  rw [hz1] at this
  exact this
theorem bigc_list : bigc.toList = big.map byteV := by
  unfold bigc madeCells big
  rw [List.map_replicate, List.eq_replicate_iff]
  refine ⟨by simp, fun b hb => ?_⟩
  simp only [Array.toList_map, List.mem_map] at hb
  obtain ⟨i, _, rfl⟩ := hb
  simp [Nat.mod_one]
  rfl
theorem big_len : big.length = 1048577 := by unfold big; rw [List.length_replicate]
theorem bytesBig (w : World) : Bytes (w.alloc (.cells bigc 5)) (some ⟨w.heap.size, 0, none⟩) 1048577 1048577 big :=
  Bytes.ofCells (heap_alloc_new w _) (by rw [bigc_list, List.take_of_length_le (by rw [List.length_map, big_len]; exact Nat.le_refl _)]) big_len.symm (Nat.le_refl _) (by omega)

/-- The device behind m records b. -/
def fst (k : Int) (b : List UInt8) (m : Nat) : St := { room := k, image := frame [], stage := [], staged := false, log := frames (List.replicate m b), sure := 0, stop := -1, off := false }
def fjo (b : List UInt8) (m : Nat) : JSt := ⟨[], List.replicate m b, false⟩
theorem sizes_rep (b : List UInt8) (m : Nat) : sizes (List.replicate m b) = m * (b.length + 8) := by
  induction m with
  | zero => simp [sizes]
  | succ m ih => simp only [List.replicate_succ, sizes, ih, Nat.succ_mul]; omega
theorem rep_succ (b : List UInt8) (m : Nat) : List.replicate m b ++ [b] = List.replicate (m + 1) b := (List.replicate_succ').symm
theorem fst_new {k : Int} (b : List UInt8) (hk : 1 ≤ k) : jswap (St.new k) [] = (0, fst k b 0) := by
  rw [jswap_fits (s := St.new k) (b := []) rfl rfl (by simp) (by
    show secs (0 + 8) ≤ k - secs 0 - secs 0
    have : secs (0 + 8) = 1 := rfl
    have h0 : secs 0 = 0 := rfl
    omega)]
  rfl
theorem fst_ok {k : Int} {b : List UInt8} {m : Nat} (h0 : 0 ≤ k) (h1 : k ≤ 65536) (hb : b.length ≤ 3000) (hm : m ≤ 300) : (fst k b m).ok := by
  refine ⟨h0, h1, ?_, ?_, ?_, ?_, ?_, ?_⟩
  · show (frame []).length ≤ _
    rw [frame_len]; simp
  · simp [fst]
  · show (frames (List.replicate m b)).length ≤ _
    rw [frames_len, sizes_rep]
    have : m * (b.length + 8) ≤ 300 * 3008 := Nat.mul_le_mul hm (by omega)
    omega
  · simp [fst]
  · simp [fst]
  · simp [fst, StopOk]
theorem secs_ge (n k : Int) (h : 512 * k < n) : k < secs n := by unfold secs; omega
theorem fst_add {k : Int} {b : List UInt8} {m : Nat} (hb : b.length ≤ 3000) (h : (((m * (b.length + 8) + b.length + 8 : Nat)) : Int) ≤ (k - 1) * 512) : jadd (fst k b m) (fjo b m) b = (0, fst k b (m + 1), fjo b (m + 1)) := by
  have hi : ((fst k b m).image.length : Int) = 8 := by show ((frame []).length : Int) = 8; rw [frame_len]; rfl
  have hl : ((fst k b m).log.length : Int) = (m * (b.length + 8) : Nat) := by show ((frames (List.replicate m b)).length : Int) = _; rw [frames_len, sizes_rep]
  have hs : ((fst k b m).stage.length : Int) = 0 := rfl
  rw [jadd_fits (s := fst k b m) (J := fjo b m) rfl rfl rfl (by omega) (by
    rw [hi, hl, hs, show secs 8 = 1 from rfl, show secs 0 = 0 from rfl]
    have := secs_le ((m * (b.length + 8) : Nat) + ((b.length : Int) + 8)) (k - 1) (by omega)
    show secs ((m * (b.length + 8) : Nat) + ((b.length : Int) + 8)) ≤ k - 1 - 0
    omega)]
  simp only [fst, fjo, rep_succ, Prod.mk.injEq, St.mk.injEq, true_and, and_true]
  rw [← rep_succ, frames_append]
  simp [frames]
theorem fst_full {k : Int} {b : List UInt8} {m : Nat} (hb : b.length ≤ 3000) (h : ¬ (((m * (b.length + 8) + b.length + 8 : Nat)) : Int) ≤ (k - 1) * 512) : jadd (fst k b m) (fjo b m) b = (3, fst k b m, fjo b m) := by
  have hi : ((fst k b m).image.length : Int) = 8 := by show ((frame []).length : Int) = 8; rw [frame_len]; rfl
  have hl : ((fst k b m).log.length : Int) = (m * (b.length + 8) : Nat) := by show ((frames (List.replicate m b)).length : Int) = _; rw [frames_len, sizes_rep]
  have hs : ((fst k b m).stage.length : Int) = 0 := rfl
  have hr : (fst k b m).room = k := rfl
  have e : (fst k b m).append (frame b) = (3, fst k b m) := by
    unfold St.append
    rw [hi, hl, hs, hr, frame_len, show secs 8 = 1 from rfl, show secs 0 = 0 from rfl]
    have := secs_ge ((m * (b.length + 8) : Nat) + ((b.length + 8 : Nat) : Int)) (k - 1) (by omega)
    rw [decide_eq_true (by omega)]
    unfold St.count full3
    simp [fst, St.fin]
  unfold jadd japp
  rw [if_neg (by simp [fjo]), if_neg (by omega), e]
  simp [tell]

theorem jadd_big {s : St} {J : JSt} {r : List UInt8} (hJ : J.down = false) (h : 1048576 < r.length) : jadd s J r = (2, s, J) := by
  unfold jadd japp
  rw [if_neg (by simp [hJ]), if_pos h]
  simp [tell]
theorem jsave_big {s : St} {J : JSt} {r : List UInt8} (hJ : J.down = false) (h : 1048576 < r.length) : jsave s J r = (2, s, J) := by
  unfold jsave jswap
  rw [if_neg (by simp [hJ]), if_pos h]
  simp [tell]
/-- .. and all is sure. -/
def fsy (k : Int) (b : List UInt8) (m : Nat) : St := { fst k b m with sure := (fst k b m).log.length }
theorem fsy_open {k : Int} {b : List UInt8} {m : Nat} (hb : b.length ≤ 3000) : jopen (fsy k b m) = (0, fsy k b m, fjo b m) := by
  rw [jopen_frames (s := fsy k b m) (img := []) (p := []) (rs := List.replicate m b) rfl rfl rfl (by simp) (by simp [fsy, fst]) (fun r hr => by rw [(List.mem_replicate.1 hr).2]; omega) (by simp [unfWhy])]
  rfl

set_option maxRecDepth 100000 in
set_option maxHeartbeats 4000000 in
theorem jfull_walk (room : Int) (a : Option Addr) (n c : Nat) (l : List UInt8) (cnt : Int) (w : World) (hr0 : 0 ≤ room) (hr1 : room ≤ 18446744073709551615) (hc0 : -9223372036854775808 ≤ cnt) (hc1 : cnt ≤ 9223372036854775807) (hb : Bytes w a n c l) :
    Calls Try.prog 15 #[.int .u64 room, .slice a n c, .int .i64 cnt] w (TruePost w) := by
  have HL := Lib.hid (fun W => jlives_true W)
  have hmk := madeBig
  obtain ⟨q, hq⟩ : ∃ q : Int, (if (300 : Int) < cnt then 300 else cnt) = q := ⟨_, rfl⟩
  obtain ⟨lim, hlim⟩ : ∃ lim : Int, (if 0 < q then q else 0) = lim := ⟨_, rfl⟩
  have hl0 : 0 ≤ lim := by rw [← hlim]; split <;> omega
  have hl1 : lim ≤ 300 := by
    rw [← hlim, ← hq]
    split
    · split <;> omega
    · omega
  obtain ⟨k, hk⟩ : ∃ k : Int, 2 + room % 6 = k := ⟨_, rfl⟩
  have hk0 : 2 ≤ k := by omega
  have hk1 : k ≤ 7 := by omega
  have w0 : IntKind.i64.wrap (room % 6) = room % 6 := IntWalk.i64_in _ (by omega)
  have w1 : IntKind.i64.wrap (2 + room % 6) = k := by rw [hk]; exact IntWalk.i64_in _ (by omega)
  have HQ1 := Lib.hid hq
  have HQ2 := Lib.hid hlim
  go_enter Try.func15, Try.ntmps15
  go_wp2_with fail
  refine (small_calls a n c l w hb).mono ?_
  rintro e w1' ⟨rfl, rfl⟩
  have hbs := hb.small
  have hsl := sm_len l
  generalize sm l = b at *
  generalize min n 3000 = n' at *
  obtain rfl := hbs.len
  clear hb
  go_wp2_with fail
  refine (new_calls k _ (by omega) (by omega)).mono ?_
  rintro e w2 ⟨rfl, hd2, hk2⟩
  have hdw : w1'.heap.size ≤ w1'.heap.size := Nat.le_refl _
  generalize hgd : w1'.heap.size = d at hd2 hdw
  have hb2 := hbs.non hk2
  have hdw' : w1'.heap.size ≤ d := by omega
  go_wp2_with fail
  refine (format_calls d d (St.new k) none 0 0 [] w2 hd2 (St.new_ok k (by omega) (by omega)) (Bytes.empty _) (by omega) (fun f => f) (Nat.le_refl _) (Nat.le_of_lt hd2.lt)).mono ?_
  rw [fst_new b (by omega)]
  rintro e w3 ⟨hd3, hk3, hf⟩
  rw [if_pos rfl] at hf
  obtain ⟨j, rfl, hJ3, _⟩ := hf
  have hb3 := hb2.one hd2 hk3
  replace hk3 := Kp.dev hk2 hdw' hk3
  clear hk2 hd2 hb2 hd3 hgd hdw
  replace hJ3 : Jou Non d w3 j d (fst k b 0) (fjo b 0) none := hJ3
  go_wp2_with fail
  go_loopw [11, 12, 39] (fun v11 v12 v39 wr => ∃ (i m : Nat) (ra : Option Addr), (i : Int) ≤ lim ∧ m ≤ i ∧ v39 = .int .i64 i ∧ v11 = .int .i64 m ∧ v12 = .int .i64 (m * (b.length + 8) : Nat) ∧ Jou Non d wr j d (fst k b m) (fjo b m) ra ∧ Kp Non w1' wr) (fun _ _ v39 _ => (lim - intOf v39).toNat)
  case atStart => exact ⟨0, 0, none, by omega, Nat.le_refl _, rfl, rfl, by simp, hJ3, hk3⟩
  case round =>
    obtain ⟨i, m, ra, hi, hm, rfl, rfl, rfl, hJ, hkw⟩ := hrel
    have hbw := hbs.non hkw
    have hmb : m * (b.length + 8) ≤ 300 * 3008 := Nat.mul_le_mul (by omega) (by omega)
    have hok := fst_ok (k := k) (b := b) (m := m) (by omega) (by omega) hsl (by omega)
    have hsz : sizes (fjo b m).recs = m * (b.length + 8) := sizes_rep b m
    clear hJ3 hk3 hb3
    by_cases hlt : (i : Int) < lim
    · have v1 : IntKind.i64.wrap (((m * (b.length + 8) : Nat) : Int) + b.length) = ((m * (b.length + 8) : Nat) : Int) + b.length := IntWalk.i64_in _ (by omega)
      have v2 : IntKind.i64.wrap (((m * (b.length + 8) : Nat) : Int) + b.length + 8) = ((m * (b.length + 8) : Nat) : Int) + b.length + 8 := IntWalk.i64_in _ (by omega)
      have v3 : IntKind.i64.wrap (k - 1) = k - 1 := IntWalk.i64_in _ (by omega)
      have v4 : IntKind.i64.wrap ((k - 1) * 512) = (k - 1) * 512 := IntWalk.i64_in _ (by omega)
      have v5 : IntKind.i64.wrap (((m * (b.length + 8) : Nat) : Int) + ((b.length : Int) + 8)) = (((m + 1) * (b.length + 8) : Nat) : Int) := by
        rw [IntWalk.i64_in _ (by omega), Nat.succ_mul]
        omega
      have v6 : IntKind.i64.wrap ((m : Int) + 1) = ((m + 1 : Nat) : Int) := by rw [IntWalk.i64_in _ (by omega)]; omega
      by_cases hfit : (((m * (b.length + 8) + b.length + 8 : Nat)) : Int) ≤ (k - 1) * 512
      · have HA := fst_add (k := k) (m := m) hsl hfit
        have HS := sizes_rep b (m + 1)
        have g1 : ((m * (b.length + 8) : Nat) : Int) + b.length + 8 ≤ (k - 1) * 512 := by omega
        have HG := Lib.hid g1
        generalize hX : m * (b.length + 8) = X at *
        generalize hY : (m + 1) * (b.length + 8) = Y at *
        go_wp2_with fail
        refine (jadd_calls hJ hok a b.length c b hbw (by omega)).mono ?_
        rw [HA]
        rintro e w4 ⟨rfl, ra4, hra4, hJ4, hk4⟩
        replace hJ4 : Jou Non d w4 j d (fst k b (m + 1)) (fjo b (m + 1)) ra4 := hJ4
        have hkw4 : Kp Non w1' w4 := hkw.comp hk4 (fun _ _ f => f) (fun x hx q => by have := (hJ.old x q).1; omega)
        go_wp2_with fail
        refine (jcount_calls hJ4).mono ?_
        rw [show ((fjo b (m + 1)).recs.length : Int) = (m : Int) + 1 by simp [fjo]]
        rintro e w5 ⟨rfl, rfl⟩
        go_wp2_with fail
        refine (jsize_calls hJ4).mono ?_
        rw [show sizes (fjo b (m + 1)).recs = Y from HS]
        rintro e w6 ⟨rfl, rfl⟩
        go_wp2_with fail
        exact ⟨⟨i + 1, m + 1, ra4, by omega, by omega, by go_num, by simp, by rw [hY], hJ4, hkw4⟩, by simp [intOf]; omega⟩
      · have HA := fst_full (k := k) (m := m) hsl hfit
        have HS := sizes_rep b m
        have g1 : decide (((m * (b.length + 8) : Nat) : Int) + b.length + 8 ≤ (k - 1) * 512) = false := by simp only [decide_eq_false_iff_not]; omega
        generalize hX : m * (b.length + 8) = X at *
        go_wp2_with fail
        refine (jadd_calls hJ hok a b.length c b hbw (by omega)).mono ?_
        rw [HA]
        rintro e w4 ⟨rfl, ra4, hra4, hJ4, hk4⟩
        replace hJ4 : Jou Non d w4 j d (fst k b m) (fjo b m) ra4 := hJ4
        have hkw4 : Kp Non w1' w4 := hkw.comp hk4 (fun _ _ f => f) (fun x hx q => by have := (hJ.old x q).1; omega)
        go_wp2_with fail
        refine (jcount_calls hJ4).mono ?_
        rw [show ((fjo b m).recs.length : Int) = (m : Int) by simp [fjo]]
        rintro e w5 ⟨rfl, rfl⟩
        go_wp2_with fail
        refine (jsize_calls hJ4).mono ?_
        rw [show sizes (fjo b m).recs = X from HS]
        rintro e w6 ⟨rfl, rfl⟩
        go_wp2_with fail
        exact ⟨⟨i + 1, m, ra4, by omega, by omega, by go_num, rfl, by rw [hX], hJ4, hkw4⟩, by simp [intOf]; omega⟩
    · have g1 : decide ((i : Int) < lim) = false := by simp; omega
      have HA := Lib.hid (jadd_big (s := fst k b m) (J := fjo b m) (r := big) rfl (by rw [big_len]; omega))
      have HB := Lib.hid (jsave_big (s := fst k b m) (J := fjo b m) (r := big) rfl (by rw [big_len]; omega))
      have HY := Lib.hid (jsync_on (s := fst k b m) (J := fjo b m) rfl rfl rfl)
      have HO := Lib.hid (fsy_open (k := k) (b := b) (m := m) hsl)
      have hoks := Lib.hid hok.sync
      generalize hX : m * (b.length + 8) = X at *
      go_wp2_with fail
      have hkA : Kp Non wr (wr.alloc (.cells bigc 5)) := (Kp.refl _ _).alloc _
      refine (jadd_calls (hJ.non hkA) hok _ _ _ big (bytesBig wr) (by omega)).mono ?_
      rw [HA.out]
      rintro e w4 ⟨rfl, ra4, _, hJ4, hk4⟩
      replace hJ4 : Jou Non d w4 j d (fst k b m) (fjo b m) ra4 := hJ4
      have q4 : Kp Non w1' w4 := (hkw.trans hkA).comp hk4 (fun _ _ f => f) (fun x hx q => by have := ((hJ.non hkA).old x q).1; omega)
      clear hkw hk4 hJ hkA
      go_wp2_with fail
      have hkA : Kp Non w4 (w4.alloc (.cells bigc 5)) := (Kp.refl _ _).alloc _
      refine (jsave_calls (hJ4.non hkA) hok _ _ _ big (bytesBig w4) (by omega)).mono ?_
      rw [HB.out]
      rintro e w5 ⟨rfl, ra5, _, hJ5, hk5⟩
      replace hJ5 : Jou Non d w5 j d (fst k b m) (fjo b m) ra5 := hJ5
      have q5 : Kp Non w1' w5 := (q4.trans hkA).comp hk5 (fun _ _ f => f) (fun x hx q => by have := ((hJ4.non hkA).old x q).1; omega)
      clear q4 hk5 hJ4 hkA
      go_wp2_with fail
      refine (jcount_calls hJ5).mono ?_
      rw [show ((fjo b m).recs.length : Int) = (m : Int) by simp [fjo]]
      rintro e w6 ⟨rfl, rfl⟩
      go_wp2_with fail
      refine (jsync_calls hJ5 hok).mono ?_
      rw [HY.out]
      rintro e w7 ⟨rfl, ra7, _, hJ7, hk7⟩
      replace hJ7 : Jou Non d w7 j d (fsy k b m) (fjo b m) ra7 := hJ7
      have q7 : Kp Non w1' w7 := q5.comp hk7 (fun _ _ f => f) (fun x hx q => by have := (hJ5.old x q).1; omega)
      have hok7 : (fsy k b m).ok := by
        have := jsync_ok hok (fjo b m)
        rw [HY.out] at this
        exact this
      have HK := Lib.hid hok7
      clear q5 hk7 hJ5 hok hok7
      have hd7 := hJ7.dev
      go_wp2_with fail
      refine (open_calls d d (fsy k b m) w7 hd7 HK.out (fun f => f) (Nat.le_refl _) (Nat.le_of_lt hd7.lt)).mono ?_
      rw [HO.out]
      rintro e w8 ⟨_, hk8, hf⟩
      rw [if_pos rfl] at hf
      obtain ⟨j2, ra8, rfl, hJ8, _, _⟩ := hf
      replace hJ8 : Jou Non d w8 j2 d (fsy k b m) (fjo b m) ra8 := hJ8
      have q8 := Kp.dev q7 hdw' hk8
      go_wp2_with fail
      refine (jcount_calls hJ8).mono ?_
      rw [show ((fjo b m).recs.length : Int) = (m : Int) by simp [fjo]]
      rintro e w9 ⟨rfl, rfl⟩
      go_wp2_with fail
      refine (HL.out _).mono ?_
      rintro e wA ⟨rfl, hkA⟩
      go_wp2_with fail
      go_ret
      exact ⟨rfl, q8.trans hkA⟩

open Go.ChangeShapes Go.WideShapes Go.ChangeAt
set_option maxRecDepth 100000 in
theorem journal_full_lifted (os : Os) (started : os.Started) (H : Type) (enc : TypeId × Value → H) :
    ReturnsInHanded {} Try.checked os 15 .any (Rows.journalFullSpec.pre6 enc Try.prog Try.f15 Rows.journalFullRow.domain false) (Rows.journalFullSpec.post enc Try.prog Try.f15 false true false false) := by
  refine returnsInHanded_of_change_sized (C := Try.checked) own started (by kernel_rfl) Try.func15
    (ChangeSpec.witness6 (enc := enc) (C := Try.checked) false ⟨#[], #[.int .u64 0, .slice none 0 0, .int .i64 0], []⟩ 8 (by kernel_rfl) (by kernel_rfl) (by kernel_rfl) (by kernel_rfl)) ?_
  intro W base args ds gs before hval0 hW hcnd hsz0 _
  have hval : ∀ (j : Nat) t v, Try.f15.params[j]? = some t → args[j]? = some v → Value.okWide Try.prog W .any base t v := hval0
  have hsz : (DataW.weightsEach Try.prog (Try.f15.params.toList ++ Rows.journalFullSpec.plain.varTypes Try.prog) (ds ++ gs)).all (· ≤ reachBytes) = true := hsz0
  have hW' := hW
  obtain ⟨p, q, hA0, hV, rfl, hfz, hnd⟩ := hW
  have hA : DataW.TrodAll enc Try.prog W 0 (fun _ => true) true Try.f15.params.toList args.toList ds p := hA0
  rw [Try.params15] at hA hval hsz
  obtain ⟨v0, vs0, d0, ds0, p0, q0, hargs, rfl, rfl, h0, r0⟩ := trodAll_cons hA
  obtain ⟨v1, vs1, d1, ds1, p1, q1, rfl, rfl, rfl, h1, r1⟩ := trodAll_cons r0
  obtain ⟨v2, vs2, d2, ds2, p2, q2, rfl, rfl, rfl, h2, r2⟩ := trodAll_cons r1
  obtain ⟨rfl, rfl, rfl⟩ := trodAll_nil r2
  obtain rfl : args = #[v0, v1, v2] := by cases args; simp_all
  obtain ⟨rfl, rfl⟩ := trodVars_none hV
  have lt0 : ∀ x ∈ p0, x.block < W.heap.size := by obtain ⟨m, hm⟩ := h0; exact DataW.trod_lt m _ _ _ hm
  have k0 := h0
  obtain ⟨a0, rfl, _, _, w0⟩ := open_int Try.underlying40 (hval 0 40 v0 rfl rfl) h0
  simp only [Lit.wf, Bool.and_eq_true, decide_eq_true_eq] at w0
  have lt1 : ∀ x ∈ p1, x.block < W.heap.size := by obtain ⟨m, hm⟩ := h1; exact DataW.trod_lt m _ _ _ hm
  have k1 := h1
  obtain ⟨a1, n1, c1, rfl⟩ := okWide_slice Try.underlying22 (hval 1 22 v1 rfl rfl)
  obtain ⟨l1, b1⟩ := bytes_in h1
  have lt2 : ∀ x ∈ p2, x.block < W.heap.size := by obtain ⟨m, hm⟩ := h2; exact DataW.trod_lt m _ _ _ hm
  have k2 := h2
  obtain ⟨a2, rfl, _, _, w2⟩ := open_int Try.underlying3 (hval 2 3 v2 rfl rfl) h2
  simp only [Lit.wf, Bool.and_eq_true, decide_eq_true_eq] at w2
  clear hA0 hval0 hsz0
  refine (jfull_walk a0 a1 n1 c1 l1 a2 W w0.1 w0.2 w2.1 w2.2 b1).mono fun e W' ⟨he, hk⟩ => ?_
  have bel := hk.below
  subst he
  exact ⟨_, rfl, _, _, _, [], _, [], hW', trodAll_mk1 (shut_bool Try.underlying4 _), (trodAll_cons_mk (Below.trod laidOut (by kernel_rfl) (of_decide_eq_true (by kernel_rfl)) k0 bel lt0)
    (trodAll_cons_mk (Below.trod laidOut (by kernel_rfl) (of_decide_eq_true (by kernel_rfl)) k1 bel lt1)
    (trodAll_cons_mk (Below.trod laidOut (by kernel_rfl) (of_decide_eq_true (by kernel_rfl)) k2 bel lt2)
    trodAll_mk0))), rfl, bel.frame _, fun h => by cases h⟩

theorem journal_full : Rows.JournalFullSaid :=
  OpenClaim.holds_of_wide 15 Try.f15 rfl rfl rfl rfl rfl rfl rfl ⟨rfl, rfl, rfl, rfl, rfl⟩ rfl rfl rfl rfl rfl (by kernel_rfl) Try.func15 (by kernel_rfl)
    (of_decide_eq_true (by kernel_rfl)) (by unfold Func.isWrapper; first | (rw [if_pos (by decide +kernel)]; kernel_rfl) | (rw [if_neg (by decide +kernel)]; exact ⟨rfl, rfl⟩))
    (fun os started H enc _ => journal_full_lifted os started H enc)
#print axioms journal_full
end Go.Proofs.Ytclbapmjhchokaa
