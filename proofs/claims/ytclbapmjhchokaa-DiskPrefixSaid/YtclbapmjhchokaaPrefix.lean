/-
  DiskPrefix: behind a crash the log begins with all that was sure. For every input.
-/
import Derived.Test.YtclbapmjhchokaaP0
namespace Go.Proofs.Ytclbapmjhchokaa
open Go.RowKit

open Prefix in
set_option maxRecDepth 100000 in
set_option maxHeartbeats 16000000 in
theorem prefix_walk (m : Int) (a : Option Addr) (n c : Nat) (l : List OpD) (keep : Int) (w : World) (hl : Ops w a n c l) (hm : 0 ≤ m) :
    Calls Try.prog 8 #[.int .u64 m, .slice a n c, .int .i64 keep] w (TruePost w) := by
  have HL := Lib.hid (fun W => lives_true W)
  obtain ⟨i0, hi0, hz0, hz1, hz2⟩ := info_parts info5
  obtain ⟨hr1, hr2⟩ := roomOf_bd m
  go_enter Try.func8, Try.ntmps8
  go_wp2_with fail
  refine (roomfn_calls m _ hm).mono ?_
  rintro e w0 ⟨rfl, rfl⟩
  generalize roomOf m = r at *
  go_wp2_with fail
  refine (new_calls r _ hr1 hr2).mono ?_
  rintro e w1 ⟨rfl, hd1, hk1⟩
  have hdw : w0.heap.size ≤ w0.heap.size := Nat.le_refl _
  generalize hd : w0.heap.size = d at hd1
  have hdw' : w0.heap.size ≤ d := by omega
  clear hd hdw
  have hI0 : PInv (St.new r) [] [] [] 0 := ⟨St.new_ok r (by omega) hr2, rfl, fun _ => rfl, Int.le_refl _, Int.le_refl _, rfl, fun h => by cases h⟩
  go_wp2_with fail
  have HI := Lib.hid hI0
  clear hI0
  go_loopw [9, 10, 11, 12, 32] (fun v9 v10 v11 v12 v32 wr => ∃ (i : Nat) (s : St) (A I T : List UInt8) (S : Int) (a9 a10 a11 : Option Addr) (n9 c9 n10 c10 n11 c11 : Nat), i ≤ n ∧ i ≤ 100 ∧ v32 = .int .i64 i ∧ v9 = .slice a9 n9 c9 ∧ v10 = .slice a10 n10 c10 ∧ v11 = .slice a11 n11 c11 ∧ v12 = .int .i64 S ∧ Bytes wr a9 n9 c9 A ∧ Bytes wr a10 n10 c10 I ∧ Bytes wr a11 n11 c11 T ∧ Dev Non wr d s ∧ PInv s A I T S ∧ Kp Non w0 wr) (fun _ _ _ _ v32 _ => n - (intOf v32).toNat)
  case atStart => exact ⟨0, _, [], [], [], 0, none, none, none, 0, 0, 0, 0, 0, 0, Nat.zero_le _, by omega, rfl, rfl, rfl, rfl, rfl, Bytes.empty _, Bytes.empty _, Bytes.empty _, hd1, HI.out, hk1⟩
  case round =>
    obtain ⟨i, s, A, I, T, S, a9, a10, a11, n9, c9, n10, c10, n11, c11, hi, h100, rfl, rfl, rfl, rfl, rfl, hA9, hB10, hB11, hD, hP, hK⟩ := hrel
    have HS := Lib.hid hP
    clear hP hd1 hk1 HI
    have hcase : (i < n ∧ i ≠ 100 ∧ s.off = false) ∨ (¬ i < n ∨ (i < n ∧ i = 100) ∨ (i < n ∧ i ≠ 100 ∧ s.off = true)) := by
      by_cases h1 : i < n
      · by_cases h2 : i = 100
        · exact .inr (.inr (.inl ⟨h1, h2⟩))
        · cases h3 : s.off with
          | true => exact .inr (.inr (.inr ⟨h1, h2, rfl⟩))
          | false => exact .inl ⟨h1, h2, rfl⟩
      · exact .inr (.inl h1)
    rcases hcase with ⟨hlt, hne, hoff⟩ | hex
    · have hx0 : i < l.length := by have := hl.len; omega
      obtain ⟨b, o, ba, bc, rfl, hA⟩ := (hl.non hK).at_ i l[i] (List.getElem?_eq_getElem hx0)
      generalize l[i] = x at hA
      have c0 := hA.c0
      have c1 := hA.c1
      have c2 := hA.c2
      have c3 := hA.c3
      have g0 : (0 : Int) ≤ (i : Int) := by omega
      have g1 : (i : Int) < (n : Int) := by omega
      have g2 : ¬ (100 : Int) ≤ (i : Int) := by omega
      have hkW : Kp Non wr (wr.alloc (.cells (x.cells ba bc) 42)) := (Kp.refl Non wr).alloc _
      have hkA : Kp Non w0 (wr.alloc (.cells (x.cells ba bc) 42)) := hK.alloc _
      have hDA := hD.non hkW
      have hbA := hA.bytes.non hkW
      replace hA9 := hA9.non hkW
      replace hB10 := hB10.non hkW
      replace hB11 := hB11.non hkW
      have hX : (wr.alloc (.cells (x.cells ba bc) 42)).heap[wr.heap.size]? = some (.cells (x.cells ba bc) 42 (0, 0)) := heap_alloc_new wr _
      have hXd : ¬ wr.heap.size = d := by have := hD.lt; omega
      have hxok := hA.ok
      have HO := Lib.hid hoff
      clear hA hkW hoff
      unfold OpD.cells at *
      go_wp2_with fail
      refine (off_calls d s _ hDA).mono ?_
      rintro e w2 ⟨rfl, rfl⟩
      rw [HO.out]
      by_cases k7 : x.kind = 7
      · have gk : (x.kind == 7) = true := by simp [k7]
        clear k7
        go_wp2_with fail
        exact ⟨⟨i + 1, s, A, I, T, S, a9, a10, a11, n9, c9, n10, c10, n11, c11, by omega, by omega, by go_num, rfl, rfl, rfl, rfl, hA9, hB10, hB11, hDA, HS.out, hkA⟩, by simp [intOf]; omega⟩
      have gk : (x.kind == 7) = false := by simp [k7]
      have K7 := Lib.hid k7
      clear k7
      generalize wr.alloc _ = wA at *
      have x0 : wA.cell? ⟨wr.heap.size, 0, none⟩ = some (.int .i64 x.kind) := cell_of_row _ _ 0 _ _ _ hX
      have x1 : wA.cell? ⟨wr.heap.size, 1, none⟩ = some (.int .i64 x.n) := cell_of_row _ _ 1 _ _ _ hX
      have x2 : wA.cell? ⟨wr.heap.size, 2, none⟩ = some (.slice ba x.b.length bc) := cell_of_row _ _ 2 _ _ _ hX
      have x3 : wA.cell? ⟨wr.heap.size, 3, none⟩ = some (.int .u64 x.times) := cell_of_row _ _ 3 _ _ _ hX
      go_wp2_with fail
      refine (log_calls d s _ hDA HS.out.ok).mono ?_
      rintro e w2 ⟨hk2, he⟩
      rw [HO.out, if_neg (by simp)] at he
      obtain ⟨wa, wc, rfl, hO⟩ := he
      have hX2 := hk2.heap hX (fun f => f)
      have hD2 : Dev (fun k => wA.heap.size ≤ k ∧ k < w2.heap.size) w2 d s := hDA.more hk2 fun j hj => .inr hj
      have hb2 := hbA.non hk2
      have y0 : w2.cell? ⟨wr.heap.size, 0, none⟩ = some (.int .i64 x.kind) := cell_of_row _ _ 0 _ _ _ hX2
      have y1 : w2.cell? ⟨wr.heap.size, 1, none⟩ = some (.int .i64 x.n) := cell_of_row _ _ 1 _ _ _ hX2
      have y2 : w2.cell? ⟨wr.heap.size, 2, none⟩ = some (.slice ba x.b.length bc) := cell_of_row _ _ 2 _ _ _ hX2
      have y3 : w2.cell? ⟨wr.heap.size, 3, none⟩ = some (.int .u64 x.times) := cell_of_row _ _ 3 _ _ _ hX2
      clear c0 c1 c2 c3 x0 x1 x2 x3
      go_wp2_with fail
      refine (do_calls d s x ba bc _ hD2 HS.out.ok hb2 hxok).mono ?_
      rintro e w6 ⟨rfl, hD6, hk6⟩
      have hX6 := hk6.heap hX2 (fun f => hXd f)
      have hb6 := hb2.one hD2 hk6
      have hO6 := hO.kp hk6 (fun i hi e => by have h1 := (hO.lt i hi).1; have h2 := hDA.lt; have : i = d := e; omega)
      have hkA6 : Kp (One d) wA w6 := hk2.comp hk6 (fun _ _ f => f.elim) (fun _ _ h => h)
      have hA6 := hA9.one hDA hkA6
      have hB6 := hB10.one hDA hkA6
      have hC6 := hB11.one hDA hkA6
      have z0 : w6.cell? ⟨wr.heap.size, 0, none⟩ = some (.int .i64 x.kind) := cell_of_row _ _ 0 _ _ _ hX6
      have z1 : w6.cell? ⟨wr.heap.size, 1, none⟩ = some (.int .i64 x.n) := cell_of_row _ _ 1 _ _ _ hX6
      have z2 : w6.cell? ⟨wr.heap.size, 2, none⟩ = some (.slice ba x.b.length bc) := cell_of_row _ _ 2 _ _ _ hX6
      have z3 : w6.cell? ⟨wr.heap.size, 3, none⟩ = some (.int .u64 x.times) := cell_of_row _ _ 3 _ _ _ hX6
      have hkK := Kp.dev hkA hdw' hkA6
      have hDN : Dev Non w6 d (x.run s).2 := hD6.more (Kp.refl _ _) fun j hj => hj.elim
      clear y0 y1 y2 y3 hX2 hX
      have hoff := HO.out
      have hPs := HS.out
      by_cases k1 : x.kind = 1
      · have hp := p_append hPs hoff x.bytes
        rw [← run1 k1] at hp
        have gk1 : (x.kind == 1) = true := by simp [k1]
        have gk2 : (x.kind == 2) = false := by simp [k1]
        have gk3 : (x.kind == 3) = false := by simp [k1]
        have gk4 : (x.kind == 4) = false := by simp [k1]
        have gk5 : (x.kind == 5) = false := by simp [k1]
        have hloglen := hPs.ok.log
        have hbl := x.bytes_len
        clear k1 hoff hPs
        generalize (x.run s).1 = rr at *
        generalize (x.run s).2 = s' at *
        by_cases hrr : rr = 0 ∨ rr = 6
        · have HP := Lib.hid (hp.1 hrr)
          clear hp
          rcases hrr with rfl | rfl
          all_goals
            go_wp2_with fail
            refine (bytes_calls x ba bc _ hb6 hxok).mono ?_
            rintro e w7 ⟨xa, xc, rfl, hOx, hk7⟩
            have hO7 := hO6.kp hk7 (fun _ _ f => f)
            have hrow : ∀ j, Value.ownBlock (.slice wa s.log.length wc) = some j → wA.heap.size ≤ j ∧ j < w2.heap.size := fun j hj => World.ownsRow.lt hO j hj
            go_wp2_with ((at_builtin; refine wpList_append_bytes rfl _ _ 22 rfl wA.heap.size 5 i0 Try.underlying22 hi0 hz0 hz1 hz2 wa s.log.length wc s.log rfl hO7 xa x.bytes.length xc x.bytes rfl hOx.bytes (by omega) ?_ ?_; (have h1 := hkA6.size; have h2 := hk7.size; omega); intro a' c' w8 hO8 hg _))
            have hk8 : Kp (One d) wA w8 := (hkA6.comp hk7 (fun _ _ h => h) (fun _ _ f => f.elim)).grown hg fun j hj => .inr (hrow j hj).1
            have hD8 : Dev Non w8 d s' := ((hD6.non hk7).fenced ((Kp.refl (fun k => wA.heap.size ≤ k ∧ k < w2.heap.size) w7).grown hg fun j hj => .inl (hrow j hj)) (fun h => by have := hDA.lt; omega)).more (Kp.refl _ _) fun j hj => hj.elim
            refine ⟨⟨i + 1, s', s.log ++ x.bytes, I, T, S, a', a10, a11, s.log.length + x.bytes.length, c', n10, c10, n11, c11, by omega, by omega, by go_num, ?_, rfl, rfl, rfl, hO8.bytes, hB10.one hDA hk8, hB11.one hDA hk8, hD8, HP.out, Kp.dev hkA hdw' hk8⟩, by simp [intOf]; omega⟩
            try rfl
        · have HP := Lib.hid (hp.2 hrr)
          have gr : (rr == 0) = false := by simp; omega
          have gr6 : (rr == 6) = false := by simp; omega
          clear hp hrr
          go_wp2_with fail
          exact ⟨⟨i + 1, s', A, I, T, S, a9, a10, a11, n9, c9, n10, c10, n11, c11, by omega, by omega, by go_num, rfl, rfl, rfl, rfl, hA6, hB6, hC6, hDN, HP.out, hkK⟩, by simp [intOf]; omega⟩
      by_cases k2 : x.kind = 2
      · have hp := p_sync hPs hoff
        rw [← run2 k2] at hp
        have gk1 : (x.kind == 1) = false := by simp [k2]
        have gk2 : (x.kind == 2) = true := by simp [k2]
        have gk3 : (x.kind == 3) = false := by simp [k2]
        have gk4 : (x.kind == 4) = false := by simp [k2]
        have gk5 : (x.kind == 5) = false := by simp [k2]
        clear k1 k2 hoff hPs
        generalize (x.run s).1 = rr at *
        generalize (x.run s).2 = s' at *
        by_cases hrr : rr = 0
        · have HP := Lib.hid (hp.1 hrr)
          have gr : (rr == 0) = true := by simp [hrr]
          clear hp hrr
          go_wp2_with fail
          have hn9 := hA6.len
          refine ⟨⟨i + 1, s', A, I, T, n9, a9, a10, a11, n9, c9, n10, c10, n11, c11, by omega, by omega, by go_num, rfl, rfl, rfl, rfl, hA6, hB6, hC6, hDN, ?_, hkK⟩, by simp [intOf]; omega⟩
          rw [hn9]
          exact HP.out
        · have HP := Lib.hid (hp.2 hrr)
          have gr : (rr == 0) = false := by simp [hrr]
          clear hp hrr
          go_wp2_with fail
          exact ⟨⟨i + 1, s', A, I, T, S, a9, a10, a11, n9, c9, n10, c10, n11, c11, by omega, by omega, by go_num, rfl, rfl, rfl, rfl, hA6, hB6, hC6, hDN, HP.out, hkK⟩, by simp [intOf]; omega⟩
      by_cases k3 : x.kind = 3
      · have hp := p_cut hPs hoff x.n
        rw [← run3 k3] at hp
        have gk1 : (x.kind == 1) = false := by simp [k3]
        have gk2 : (x.kind == 2) = false := by simp [k3]
        have gk3 : (x.kind == 3) = true := by simp [k3]
        have gk4 : (x.kind == 4) = false := by simp [k3]
        have gk5 : (x.kind == 5) = false := by simp [k3]
        have hS0 := hPs.sure0
        clear k1 k2 k3 hoff hPs
        generalize (x.run s).1 = rr at *
        generalize (x.run s).2 = s' at *
        by_cases hrr : rr = 0
        · have HP := Lib.hid (hp.1 hrr).2
          obtain ⟨hn0, hn1⟩ := (hp.1 hrr).1
          have gr : (rr == 0) = true := by simp [hrr]
          have gn0 : decide (x.n < 0) = false := by simpa using hn0
          have gn1 : decide ((s.log.length : Int) < x.n) = false := by simpa using hn1
          have hwc := hO6.bytes.cap
          have gn2 : x.n ≤ (wc : Int) := by omega
          obtain ⟨q, hq⟩ : ∃ q : Int, (if x.n < S then x.n else S) = q := ⟨_, rfl⟩
          have hqm : q = min S x.n := by split at hq <;> omega
          have HQ := Lib.hid hqm
          clear hp hrr hqm
          go_wp2_with fail
          have hb9 := hO6.bytes.take x.n.toNat (by omega)
          refine ⟨⟨i + 1, s', s.log.take x.n.toNat, I, T, q, wa, a10, a11, x.n.toNat, wc, n10, c10, n11, c11, by omega, by omega, by go_num, ?_, rfl, rfl, rfl, hb9, hB6, hC6, hDN, ?_, hkK⟩, by simp [intOf]; omega⟩
          · try rfl
          · rw [HQ.out]; exact HP.out
        · have HP := Lib.hid (hp.2 hrr)
          have gr : (rr == 0) = false := by simp [hrr]
          clear hp hrr
          go_wp2_with fail
          exact ⟨⟨i + 1, s', A, I, T, S, a9, a10, a11, n9, c9, n10, c10, n11, c11, by omega, by omega, by go_num, rfl, rfl, rfl, rfl, hA6, hB6, hC6, hDN, HP.out, hkK⟩, by simp [intOf]; omega⟩
      by_cases k4 : x.kind = 4
      · have hp := p_stage hPs hoff x.bytes x.bytes_len
        rw [← run4 k4] at hp
        have gk1 : (x.kind == 1) = false := by simp [k4]
        have gk2 : (x.kind == 2) = false := by simp [k4]
        have gk3 : (x.kind == 3) = false := by simp [k4]
        have gk4 : (x.kind == 4) = true := by simp [k4]
        have gk5 : (x.kind == 5) = false := by simp [k4]
        clear k1 k2 k3 k4 hoff hPs
        generalize (x.run s).1 = rr at *
        generalize (x.run s).2 = s' at *
        by_cases hrr : rr = 0
        · have HP := Lib.hid (hp.1 hrr)
          have gr : (rr == 0) = true := by simp [hrr]
          clear hp hrr
          go_wp2_with fail
          refine (bytes_calls x ba bc _ hb6 hxok).mono ?_
          rintro e w7 ⟨xa, xc, rfl, hOx, hk7⟩
          go_wp2_with fail
          exact ⟨⟨i + 1, s', A, I, x.bytes, S, a9, a10, xa, n9, c9, n10, c10, x.bytes.length, xc, by omega, by omega, by go_num, rfl, rfl, rfl, rfl, hA6.non hk7, hB6.non hk7, hOx.bytes, hDN.non hk7, HP.out, hkK.trans hk7⟩, by simp [intOf]; omega⟩
        · have HP := Lib.hid (hp.2 hrr)
          have gr : (rr == 0) = false := by simp [hrr]
          clear hp hrr
          go_wp2_with fail
          exact ⟨⟨i + 1, s', A, I, T, S, a9, a10, a11, n9, c9, n10, c10, n11, c11, by omega, by omega, by go_num, rfl, rfl, rfl, rfl, hA6, hB6, hC6, hDN, HP.out, hkK⟩, by simp [intOf]; omega⟩
      by_cases k5 : x.kind = 5
      · have hp := p_commit hPs hoff
        rw [← run5 k5] at hp
        have gk1 : (x.kind == 1) = false := by simp [k5]
        have gk2 : (x.kind == 2) = false := by simp [k5]
        have gk3 : (x.kind == 3) = false := by simp [k5]
        have gk4 : (x.kind == 4) = false := by simp [k5]
        have gk5 : (x.kind == 5) = true := by simp [k5]
        clear k1 k2 k3 k4 k5 hoff hPs
        generalize (x.run s).1 = rr at *
        generalize (x.run s).2 = s' at *
        by_cases hrr : rr = 0
        · have HP := Lib.hid (hp.1 hrr)
          have gr : (rr == 0) = true := by simp [hrr]
          clear hp hrr
          go_wp2_with fail
          exact ⟨⟨i + 1, s', [], T, T, 0, none, a11, a11, 0, 0, n11, c11, n11, c11, by omega, by omega, by go_num, rfl, rfl, rfl, rfl, Bytes.empty _, hC6, hC6, hDN, HP.out, hkK⟩, by simp [intOf]; omega⟩
        · have HP := Lib.hid (hp.2 hrr)
          have gr : (rr == 0) = false := by simp [hrr]
          clear hp hrr
          go_wp2_with fail
          exact ⟨⟨i + 1, s', A, I, T, S, a9, a10, a11, n9, c9, n10, c10, n11, c11, by omega, by omega, by go_num, rfl, rfl, rfl, rfl, hA6, hB6, hC6, hDN, HP.out, hkK⟩, by simp [intOf]; omega⟩
      have HP := Lib.hid (p_other hPs x hxok k1 k2 k3 k4 k5 K7.out)
      have gk1 : (x.kind == 1) = false := by simp [*]
      have gk2 : (x.kind == 2) = false := by simp [*]
      have gk3 : (x.kind == 3) = false := by simp [*]
      have gk4 : (x.kind == 4) = false := by simp [*]
      have gk5 : (x.kind == 5) = false := by simp [*]
      clear k1 k2 k3 k4 k5 hoff hPs
      generalize (x.run s).1 = rr at *
      generalize (x.run s).2 = s' at *
      go_wp2_with fail
      exact ⟨⟨i + 1, s', A, I, T, S, a9, a10, a11, n9, c9, n10, c10, n11, c11, by omega, by omega, by go_num, rfl, rfl, rfl, rfl, hA6, hB6, hC6, hDN, HP.out, hkK⟩, by simp [intOf]; omega⟩
    · rcases hex with hge | ⟨hlt, h1⟩ | ⟨hlt, h1, hoff⟩
      · have g1 : ¬ (i : Int) < (n : Int) := by omega
        go_wp2_with fail
        refine (crash_calls d s keep _ hD HS.out.ok).mono ?_
        rintro e w3 ⟨rfl, hd3, hk3⟩
        obtain ⟨t1, t2, t3, t4, t5⟩ := p_crash HS.out keep
        have hok3 := HS.out.ok.crash keep
        have ho3 : (s.crash keep).off = false := rfl
        generalize s.crash keep = sc at *
        replace hA9 := hA9.one hD hk3
        replace hB10 := hB10.one hD hk3
        replace hK := Kp.dev hK hdw' hk3
        have HO3 := Lib.hid ho3
        have HT3 := Lib.hid t3
        have HT4 := Lib.hid t4
        have HT5 := Lib.hid t5
        clear hD hk3 hB11 ho3 t3 t4 t5
        go_wp2_with fail
        refine (log_calls d sc _ hd3 hok3).mono ?_
        rintro e w4 ⟨hk4, he⟩
        rw [HO3.out, if_neg (by simp)] at he
        obtain ⟨xa, xc, rfl, hX⟩ := he
        replace hA9 := hA9.non hk4
        replace hB10 := hB10.non hk4
        have hd4 := hd3.non hk4
        replace hK := hK.trans hk4
        have hXb := hX.bytes
        clear hd3 hk4 hX
        go_wp2_with fail
        refine (image_calls d sc _ hd4 hok3).mono ?_
        rintro e w5 ⟨hk5, he⟩
        rw [HO3.out, if_neg (by simp), HT4.out] at he
        obtain ⟨ya, yc, rfl, hY⟩ := he
        replace hA9 := hA9.non hk5
        replace hB10 := hB10.non hk5
        have hd5 := hd4.non hk5
        replace hK := hK.trans hk5
        have cv1 := conv_string w5.drew _ _ _ _ (hXb.non hk5).drew
        have cv2 := conv_string w5.drew _ _ _ _ (hA9.take sc.log.length t2).drew
        rw [← HT3.out] at cv2
        have cv3 := conv_string w5.drew _ _ _ _ hY.bytes.drew
        have cv4 := conv_string w5.drew _ _ _ _ hB10.drew
        have hn9 := hA9.len
        have hc9 := hA9.cap
        have hg1 : decide ((sc.log.length : Int) < S) = false := by simp; omega
        have hg2 : decide ((n9 : Int) < (sc.log.length : Int)) = false := by simp; omega
        have hg2' : ¬ n9 < sc.log.length := by omega
        have hg3 : (sc.log.length : Int) ≤ (c9 : Int) := by omega
        have hg3' : sc.log.length ≤ c9 := by omega
        have hg4 : (0 : Int) ≤ (sc.log.length : Int) := by omega
        clear hd4 hk5 hY hXb hA9 hB10 t1 t2 hn9 hc9
        generalize ({ data := sc.log.toArray } : ByteArray) = XS at *
        generalize ({ data := I.toArray } : ByteArray) = YS at *
        generalize hnl : sc.log.length = nl at *
        clear hnl
        go_wp2_with fail
        refine wp_region_chain [0,0,0,0,0,0,0,0,0,0,0,0,0,0,0,0,0,0,0,0,0,0,0,0,0,0,0,0,0,0,0,0,0,0,0,0] (by kernel_rfl) (by kernel_rfl) (fun w' => w' = w5.drew) rfl ?_
        repeat (first | (with_reducible refine pure_skip ?_) | ((first | (with_reducible refine pure_k rfl ?_) | (refine pure_ky (by rfl) ?_)); intro K hK'; apply Exists.intro; refine ⟨fun w' hC => ?_, ?_⟩; (subst hC; go_simp; rfl); go_simp; refine hK' _ ?_; clear hK' K))
        with_reducible refine pure_nil ?_
        repeat (with_reducible refine chain_skip0 ?_)
        with_reducible refine chain_nil ?_
        go_wp2_with fail
        refine (commit_calls d sc _ (hd5.non ((Kp.refl _ _).drew)) hok3).mono ?_
        rintro e w6 ⟨rfl, hd6, hk6⟩
        rw [HT5.out]
        replace hK := Kp.dev hK.drew hdw' hk6
        go_wp2_with fail
        refine (HL.out _).mono ?_
        rintro e w7 ⟨rfl, hk7⟩
        go_wp2_with fail
        go_ret
        exact ⟨rfl, hK.trans hk7⟩
      · have hx0 : i < l.length := by have := hl.len; omega
        obtain ⟨b, o, ba, bc, rfl, hA⟩ := (hl.non hK).at_ i l[i] (List.getElem?_eq_getElem hx0)
        generalize l[i] = x at hA
        have c0 := hA.c0
        have c1 := hA.c1
        have c2 := hA.c2
        have c3 := hA.c3
        have g0 : (0 : Int) ≤ (i : Int) := by omega
        have g1 : (i : Int) < (n : Int) := by omega
        have g2 : (100 : Int) ≤ (i : Int) := by omega
        have hkW : Kp Non wr (wr.alloc (.cells (x.cells ba bc) 42)) := (Kp.refl Non wr).alloc _
        replace hK := hK.trans hkW
        replace hD := hD.non hkW
        replace hA9 := hA9.non hkW
        replace hB10 := hB10.non hkW
        replace hB11 := hB11.non hkW
        clear hA hkW h1
        unfold OpD.cells at *
        go_wp2_with fail
        refine (crash_calls d s keep _ hD HS.out.ok).mono ?_
        rintro e w3 ⟨rfl, hd3, hk3⟩
        obtain ⟨t1, t2, t3, t4, t5⟩ := p_crash HS.out keep
        have hok3 := HS.out.ok.crash keep
        have ho3 : (s.crash keep).off = false := rfl
        generalize s.crash keep = sc at *
        replace hA9 := hA9.one hD hk3
        replace hB10 := hB10.one hD hk3
        replace hK := Kp.dev hK hdw' hk3
        have HO3 := Lib.hid ho3
        have HT3 := Lib.hid t3
        have HT4 := Lib.hid t4
        have HT5 := Lib.hid t5
        clear hD hk3 hB11 ho3 t3 t4 t5
        go_wp2_with fail
        refine (log_calls d sc _ hd3 hok3).mono ?_
        rintro e w4 ⟨hk4, he⟩
        rw [HO3.out, if_neg (by simp)] at he
        obtain ⟨xa, xc, rfl, hX⟩ := he
        replace hA9 := hA9.non hk4
        replace hB10 := hB10.non hk4
        have hd4 := hd3.non hk4
        replace hK := hK.trans hk4
        have hXb := hX.bytes
        clear hd3 hk4 hX
        go_wp2_with fail
        refine (image_calls d sc _ hd4 hok3).mono ?_
        rintro e w5 ⟨hk5, he⟩
        rw [HO3.out, if_neg (by simp), HT4.out] at he
        obtain ⟨ya, yc, rfl, hY⟩ := he
        replace hA9 := hA9.non hk5
        replace hB10 := hB10.non hk5
        have hd5 := hd4.non hk5
        replace hK := hK.trans hk5
        have cv1 := conv_string w5.drew _ _ _ _ (hXb.non hk5).drew
        have cv2 := conv_string w5.drew _ _ _ _ (hA9.take sc.log.length t2).drew
        rw [← HT3.out] at cv2
        have cv3 := conv_string w5.drew _ _ _ _ hY.bytes.drew
        have cv4 := conv_string w5.drew _ _ _ _ hB10.drew
        have hn9 := hA9.len
        have hc9 := hA9.cap
        have hg1 : decide ((sc.log.length : Int) < S) = false := by simp; omega
        have hg2 : decide ((n9 : Int) < (sc.log.length : Int)) = false := by simp; omega
        have hg2' : ¬ n9 < sc.log.length := by omega
        have hg3 : (sc.log.length : Int) ≤ (c9 : Int) := by omega
        have hg3' : sc.log.length ≤ c9 := by omega
        have hg4 : (0 : Int) ≤ (sc.log.length : Int) := by omega
        clear hd4 hk5 hY hXb hA9 hB10 t1 t2 hn9 hc9
        generalize ({ data := sc.log.toArray } : ByteArray) = XS at *
        generalize ({ data := I.toArray } : ByteArray) = YS at *
        generalize hnl : sc.log.length = nl at *
        clear hnl
        go_wp2_with fail
        refine wp_region_chain [0,0,0,0,0,0,0,0,0,0,0,0,0,0,0,0,0,0,0,0,0,0,0,0,0,0,0,0,0,0,0,0,0,0,0,0] (by kernel_rfl) (by kernel_rfl) (fun w' => w' = w5.drew) rfl ?_
        repeat (first | (with_reducible refine pure_skip ?_) | ((first | (with_reducible refine pure_k rfl ?_) | (refine pure_ky (by rfl) ?_)); intro K hK'; apply Exists.intro; refine ⟨fun w' hC => ?_, ?_⟩; (subst hC; go_simp; rfl); go_simp; refine hK' _ ?_; clear hK' K))
        with_reducible refine pure_nil ?_
        repeat (with_reducible refine chain_skip0 ?_)
        with_reducible refine chain_nil ?_
        go_wp2_with fail
        refine (commit_calls d sc _ (hd5.non ((Kp.refl _ _).drew)) hok3).mono ?_
        rintro e w6 ⟨rfl, hd6, hk6⟩
        rw [HT5.out]
        replace hK := Kp.dev hK.drew hdw' hk6
        go_wp2_with fail
        refine (HL.out _).mono ?_
        rintro e w7 ⟨rfl, hk7⟩
        go_wp2_with fail
        go_ret
        exact ⟨rfl, hK.trans hk7⟩
      · have hx0 : i < l.length := by have := hl.len; omega
        obtain ⟨b, o, ba, bc, rfl, hA⟩ := (hl.non hK).at_ i l[i] (List.getElem?_eq_getElem hx0)
        generalize l[i] = x at hA
        have c0 := hA.c0
        have c1 := hA.c1
        have c2 := hA.c2
        have c3 := hA.c3
        have g0 : (0 : Int) ≤ (i : Int) := by omega
        have g1 : (i : Int) < (n : Int) := by omega
        have g2 : ¬ (100 : Int) ≤ (i : Int) := by omega
        have hkW : Kp Non wr (wr.alloc (.cells (x.cells ba bc) 42)) := (Kp.refl Non wr).alloc _
        replace hK := hK.trans hkW
        replace hD := hD.non hkW
        replace hA9 := hA9.non hkW
        replace hB10 := hB10.non hkW
        replace hB11 := hB11.non hkW
        have HO := Lib.hid hoff
        clear hA hkW h1 hoff
        unfold OpD.cells at *
        go_wp2_with fail
        refine (off_calls d s _ hD).mono ?_
        rintro e w2 ⟨rfl, rfl⟩
        rw [HO.out]
        go_wp2_with fail
        refine (crash_calls d s keep _ hD HS.out.ok).mono ?_
        rintro e w3 ⟨rfl, hd3, hk3⟩
        obtain ⟨t1, t2, t3, t4, t5⟩ := p_crash HS.out keep
        have hok3 := HS.out.ok.crash keep
        have ho3 : (s.crash keep).off = false := rfl
        generalize s.crash keep = sc at *
        replace hA9 := hA9.one hD hk3
        replace hB10 := hB10.one hD hk3
        replace hK := Kp.dev hK hdw' hk3
        have HO3 := Lib.hid ho3
        have HT3 := Lib.hid t3
        have HT4 := Lib.hid t4
        have HT5 := Lib.hid t5
        clear hD hk3 hB11 ho3 t3 t4 t5
        go_wp2_with fail
        refine (log_calls d sc _ hd3 hok3).mono ?_
        rintro e w4 ⟨hk4, he⟩
        rw [HO3.out, if_neg (by simp)] at he
        obtain ⟨xa, xc, rfl, hX⟩ := he
        replace hA9 := hA9.non hk4
        replace hB10 := hB10.non hk4
        have hd4 := hd3.non hk4
        replace hK := hK.trans hk4
        have hXb := hX.bytes
        clear hd3 hk4 hX
        go_wp2_with fail
        refine (image_calls d sc _ hd4 hok3).mono ?_
        rintro e w5 ⟨hk5, he⟩
        rw [HO3.out, if_neg (by simp), HT4.out] at he
        obtain ⟨ya, yc, rfl, hY⟩ := he
        replace hA9 := hA9.non hk5
        replace hB10 := hB10.non hk5
        have hd5 := hd4.non hk5
        replace hK := hK.trans hk5
        have cv1 := conv_string w5.drew _ _ _ _ (hXb.non hk5).drew
        have cv2 := conv_string w5.drew _ _ _ _ (hA9.take sc.log.length t2).drew
        rw [← HT3.out] at cv2
        have cv3 := conv_string w5.drew _ _ _ _ hY.bytes.drew
        have cv4 := conv_string w5.drew _ _ _ _ hB10.drew
        have hn9 := hA9.len
        have hc9 := hA9.cap
        have hg1 : decide ((sc.log.length : Int) < S) = false := by simp; omega
        have hg2 : decide ((n9 : Int) < (sc.log.length : Int)) = false := by simp; omega
        have hg2' : ¬ n9 < sc.log.length := by omega
        have hg3 : (sc.log.length : Int) ≤ (c9 : Int) := by omega
        have hg3' : sc.log.length ≤ c9 := by omega
        have hg4 : (0 : Int) ≤ (sc.log.length : Int) := by omega
        clear hd4 hk5 hY hXb hA9 hB10 t1 t2 hn9 hc9
        generalize ({ data := sc.log.toArray } : ByteArray) = XS at *
        generalize ({ data := I.toArray } : ByteArray) = YS at *
        generalize hnl : sc.log.length = nl at *
        clear hnl
        go_wp2_with fail
        refine wp_region_chain [0,0,0,0,0,0,0,0,0,0,0,0,0,0,0,0,0,0,0,0,0,0,0,0,0,0,0,0,0,0,0,0,0,0,0,0] (by kernel_rfl) (by kernel_rfl) (fun w' => w' = w5.drew) rfl ?_
        repeat (first | (with_reducible refine pure_skip ?_) | ((first | (with_reducible refine pure_k rfl ?_) | (refine pure_ky (by rfl) ?_)); intro K hK'; apply Exists.intro; refine ⟨fun w' hC => ?_, ?_⟩; (subst hC; go_simp; rfl); go_simp; refine hK' _ ?_; clear hK' K))
        with_reducible refine pure_nil ?_
        repeat (with_reducible refine chain_skip0 ?_)
        with_reducible refine chain_nil ?_
        go_wp2_with fail
        refine (commit_calls d sc _ (hd5.non ((Kp.refl _ _).drew)) hok3).mono ?_
        rintro e w6 ⟨rfl, hd6, hk6⟩
        rw [HT5.out]
        replace hK := Kp.dev hK.drew hdw' hk6
        go_wp2_with fail
        refine (HL.out _).mono ?_
        rintro e w7 ⟨rfl, hk7⟩
        go_wp2_with fail
        go_ret
        exact ⟨rfl, hK.trans hk7⟩
open Go.ChangeShapes Go.WideShapes Go.ChangeAt
set_option maxRecDepth 100000 in
theorem disk_prefix_lifted (os : Os) (started : os.Started) (H : Type) (enc : TypeId × Value → H) :
    ReturnsInHanded {} Try.checked os 8 .any (Rows.diskPrefixSpec.pre6 enc Try.prog Try.f8 Rows.diskPrefixRow.domain false) (Rows.diskPrefixSpec.post enc Try.prog Try.f8 false true false false) := by
  refine returnsInHanded_of_change_sized (C := Try.checked) own started (by kernel_rfl) Try.func8
    (ChangeSpec.witness6 (enc := enc) (C := Try.checked) false ⟨#[], #[.int .u64 0, .slice none 0 0, .int .i64 0], []⟩ 8 (by kernel_rfl) (by kernel_rfl) (by kernel_rfl) (by kernel_rfl)) ?_
  intro W base args ds gs before hval0 hW hcnd hsz0 _
  have hval : ∀ (j : Nat) t v, Try.f8.params[j]? = some t → args[j]? = some v → Value.okWide Try.prog W .any base t v := hval0
  have hsz : (DataW.weightsEach Try.prog (Try.f8.params.toList ++ Rows.diskPrefixSpec.plain.varTypes Try.prog) (ds ++ gs)).all (· ≤ reachBytes) = true := hsz0
  have hW' := hW
  obtain ⟨p, q, hA0, hV, rfl, hfz, hnd⟩ := hW
  have hA : DataW.TrodAll enc Try.prog W 0 (fun _ => true) true Try.f8.params.toList args.toList ds p := hA0
  rw [Try.params8] at hA hval hsz
  obtain ⟨v0, vs0, d0, ds0, p0, q0, hargs, rfl, rfl, h0, r0⟩ := trodAll_cons hA
  obtain ⟨v1, vs1, d1, ds1, p1, q1, rfl, rfl, rfl, h1, r1⟩ := trodAll_cons r0
  obtain ⟨v2, vs2, d2, ds2, p2, q2, rfl, rfl, rfl, h2, r2⟩ := trodAll_cons r1
  obtain ⟨rfl, rfl, rfl⟩ := trodAll_nil r2
  obtain rfl : args = #[v0, v1, v2] := by cases args; simp_all
  obtain ⟨rfl, rfl⟩ := trodVars_none hV
  have lt0 : ∀ x ∈ p0, x.block < W.heap.size := by obtain ⟨m, hm⟩ := h0; exact DataW.trod_lt m _ _ _ hm
  have k0 := h0
  obtain ⟨a0, rfl, _, _, w0⟩ := open_int Try.underlying40 (hval 0 40 v0 rfl rfl) h0
  simp only [Lit.wf, Bool.and_eq_true, decide_eq_true_eq] at w0
  have lt1 : ∀ x ∈ p1, x.block < W.heap.size := by obtain ⟨m, hm⟩ := h1; exact DataW.trod_lt m _ _ _ hm
  have k1 := h1
  obtain ⟨a1, n1, c1, rfl⟩ := okWide_slice Try.underlying39 (hval 1 39 v1 rfl rfl)
  obtain ⟨l1, b1⟩ := ops_in h1 (fun x hx => by
    have := List.all_eq_true.1 hsz x (DataW.weights_mem_each (j := 1) (t := 39) (d := d1) rfl rfl x hx)
    simpa using this)
  have lt2 : ∀ x ∈ p2, x.block < W.heap.size := by obtain ⟨m, hm⟩ := h2; exact DataW.trod_lt m _ _ _ hm
  have k2 := h2
  obtain ⟨a2, rfl, _, _, w2⟩ := open_int Try.underlying3 (hval 2 3 v2 rfl rfl) h2
  simp only [Lit.wf, Bool.and_eq_true, decide_eq_true_eq] at w2
  clear hA0 hval0 hsz0
  refine (prefix_walk a0 a1 n1 c1 l1 a2 W b1 w0.1).mono fun e W' ⟨he, hk⟩ => ?_
  have bel := hk.below
  subst he
  exact ⟨_, rfl, _, _, _, [], _, [], hW', trodAll_mk1 (shut_bool Try.underlying4 _), (trodAll_cons_mk (Below.trod laidOut (by kernel_rfl) (of_decide_eq_true (by kernel_rfl)) k0 bel lt0)
    (trodAll_cons_mk (Below.trod laidOut (by kernel_rfl) (of_decide_eq_true (by kernel_rfl)) k1 bel lt1)
    (trodAll_cons_mk (Below.trod laidOut (by kernel_rfl) (of_decide_eq_true (by kernel_rfl)) k2 bel lt2)
    trodAll_mk0))), rfl, bel.frame _, fun h => by cases h⟩

theorem disk_prefix : Rows.DiskPrefixSaid :=
  OpenClaim.holds_of_wide 8 Try.f8 rfl rfl rfl rfl rfl rfl rfl ⟨rfl, rfl, rfl, rfl, rfl⟩ rfl rfl rfl rfl rfl (by kernel_rfl) Try.func8 (by kernel_rfl)
    (of_decide_eq_true (by kernel_rfl)) (by unfold Func.isWrapper; first | (rw [if_pos (by decide +kernel)]; kernel_rfl) | (rw [if_neg (by decide +kernel)]; exact ⟨rfl, rfl⟩))
    (fun os started H enc _ => disk_prefix_lifted os started H enc)
#print axioms disk_prefix
end Go.Proofs.Ytclbapmjhchokaa
