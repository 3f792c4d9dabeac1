/-
  JournalDown: when the power has gone nothing more is done. For every input.
-/
import Derived.Test.YtclbapmjhchokaaJ17
namespace Go.Proofs.Ytclbapmjhchokaa
open Go.RowKit

def di : List UInt8 := [105]
/-- The device ahead of the power's going. -/
def dst (stop : Int) (rs : List (List UInt8)) : St := { room := 400, image := frame di, stage := [], staged := false, log := frames rs, sure := 0, stop := stop, off := false }
theorem dst_new : jswap (St.new 400) di = (0, dst (-1) []) := by
  rw [jswap_fits (s := St.new 400) (b := di) rfl rfl (by simp [di]) (by decide)]
  rfl
theorem sizes_small : ∀ {rs : List (List UInt8)} , (∀ r ∈ rs, r.length ≤ 3000) → sizes rs ≤ 3008 * rs.length
  | [], _ => by simp [sizes]
  | r :: rs, h => by
    have h1 := h r List.mem_cons_self
    have h2 := sizes_small fun x hx => h x (List.mem_cons_of_mem _ hx)
    simp only [sizes, List.length_cons]
    omega
theorem dst_ok {stop : Int} {rs : List (List UInt8)} (h0 : -1 ≤ stop) (h1 : stop ≤ 100) (hl : rs.length ≤ 30) (hr : ∀ r ∈ rs, r.length ≤ 3000) : (dst stop rs).ok := by
  have hs := sizes_small hr
  refine ⟨by simp [dst], by simp [dst], ?_, ?_, ?_, ?_, ?_, ?_⟩
  · show (frame di).length ≤ _
    rw [frame_len]; simp [di]
  · simp [dst]
  · show (frames rs).length ≤ _
    rw [frames_len]; omega
  · simp [dst]
  · simp [dst]
  · simp only [StopOk, dst]; omega
theorem count_laid {s s1 : St} (ho : s.off = false) : s.count 0 s1 true = ((if s.stop = 0 then 6 else 0), s1.fin) := by
  unfold St.count
  rw [if_neg (by simp [ho]), if_neg (by simp)]
  simp
theorem dst_add {stop : Int} {rs : List (List UInt8)} {r : List UInt8} (hl : rs.length ≤ 30) (hr : ∀ r ∈ rs, r.length ≤ 3000) (hr1 : r.length ≤ 3000) :
    jadd (dst stop rs) ⟨di, rs, false⟩ r = ((if stop = 0 then 6 else 0), ({ dst stop rs with log := frames rs ++ frame r } : St).fin, if stop = 0 then ⟨di, rs, true⟩ else ⟨di, rs ++ [r], false⟩) := by
  have hs := sizes_small hr
  have hi : ((dst stop rs).image.length : Int) = 9 := by show ((frame di).length : Int) = 9; rw [frame_len]; rfl
  have hll : ((dst stop rs).log.length : Int) = (sizes rs : Nat) := by show ((frames rs).length : Int) = _; rw [frames_len]
  have hst : ((dst stop rs).stage.length : Int) = 0 := rfl
  have hrm : (dst stop rs).room = 400 := rfl
  have e : (dst stop rs).append (frame r) = ((if stop = 0 then 6 else 0), ({ dst stop rs with log := frames rs ++ frame r } : St).fin) := by
    unfold St.append
    rw [hi, hll, hst, hrm, frame_len, show secs 9 = 1 from rfl, show secs 0 = 0 from rfl]
    have := secs_le ((sizes rs : Nat) + ((r.length + 8 : Nat) : Int)) 399 (by omega)
    rw [decide_eq_false (by omega)]
    exact count_laid (s := dst stop rs) (s1 := { dst stop rs with log := frames rs ++ frame r }) rfl
  unfold jadd japp
  rw [if_neg (by simp), if_neg (by omega), e]
  by_cases h0 : stop = 0
  · simp [h0, tell]
  · simp [h0]
theorem dst_next {stop : Int} {rs : List (List UInt8)} {r : List UInt8} (h : 0 < stop) : ({ dst stop rs with log := frames rs ++ frame r } : St).fin = dst (stop - 1) (rs ++ [r]) := by
  unfold St.fin
  rw [if_neg (by simp only [dst]; omega), if_pos (by simp only [dst]; omega)]
  simp [dst, frames]
theorem jadd_down {s : St} {J : JSt} (h : J.down = true) (r : List UInt8) : jadd s J r = (7, s, J) := by unfold jadd; rw [if_pos h]
theorem jsync_down {s : St} {J : JSt} (h : J.down = true) : jsync s J = (7, s, J) := by unfold jsync; rw [if_pos h]

theorem jsave_downs {F : Nat → Prop} {b0 : Nat} {w : World} {j d : Nat} {s : St} {J : JSt} {ra : Option Addr} (h : Jou F b0 w j d s J ra) (hJ : J.down = true) (a : Option Addr) (n c : Nat) :
    Calls Try.prog 51 #[.pointer (some ⟨j, 0, none⟩), .slice a n c] w (JPost F b0 j d ra (7, s, J) w) := by
  have hmf := mfunc
  have h4 := h.cells4.1
  rw [hJ] at h4
  clear hJ
  go_enter Try.func51, Try.ntmps51
  go_wp2_with fail
  have hk0 : Kp Non w ((w.alloc (.cells #[.pointer (some ⟨j, 0, none⟩)] 56)).alloc (.cells #[.slice a n c] 22)) := ((Kp.refl _ _).alloc _).alloc _
  refine (try_down j _ _ _ (hk0.cell h4 (fun f => f))).mono ?_
  rintro e w1 ⟨rfl, rfl⟩
  go_wp2_with fail
  go_ret
  exact JPost.same h rfl hk0

set_option maxRecDepth 100000 in
set_option maxHeartbeats 8000000 in
theorem jdown_short (a : Option Addr) (n c : Nat) (l : List (List UInt8)) (un : Int) (o : JOp) (ba : Option Addr) (bc : Nat) (w : World) (hl : RowsB w a n c l) (hn : n ≤ 30) (hu0 : 0 ≤ un) (hu1 : un ≤ 18446744073709551615) (hb : Bytes w ba o.b.length bc o.b) :
    Calls Try.prog 18 #[.slice a n c, .int .u64 un, .agg #[.int .i64 o.kind, .int .i64 o.n, .slice ba o.b.length bc]] w (TruePost w) := by
  have HL := Lib.hid (fun W => jlives_true W)
  have hsame := fun (w : World) (C : Array Value) (n c : Nat) => Lib.run_convert_bytes_const (P := Try.prog) w 22 5 C n c Try.underlying22 Try.underlying5
  have g0 : decide ((30 : Int) < n) = false := by simp; omega
  obtain ⟨k, hk⟩ : ∃ k : Nat, (k : Int) = un % 30 := ⟨(un % 30).toNat, by omega⟩
  have hk1 : k < 30 := by omega
  have w0 : IntKind.i64.wrap (un % 30) = k := by rw [← hk]; exact IntWalk.i64_in _ (by omega)
  have hlen := hl.len
  have HN := Lib.hid hlen
  clear hlen
  have HK := Lib.hid hk
  clear hk
  go_enter Try.func18, Try.ntmps18
  go_wp2_with fail
  have hkB : Kp Non w (w.alloc (.cells #[.int .i64 o.kind, .int .i64 o.n, .slice ba o.b.length bc] 71)) := (Kp.refl _ _).alloc _
  have hbox := heap_alloc_new w (Obj.cells #[.int .i64 o.kind, .int .i64 o.n, .slice ba o.b.length bc] 71)
  have hl1 := hl.non hkB
  have hb1 := hb.non hkB
  generalize hbb : w.heap.size = bb at *
  generalize w.alloc (.cells #[.int .i64 o.kind, .int .i64 o.n, .slice ba o.b.length bc] 71) = wa at *
  refine (new_calls 400 wa (by omega) (by omega)).mono ?_
  rintro e w1 ⟨rfl, hd1, hk1⟩
  have hdw : w.heap.size ≤ wa.heap.size := hkB.size
  have hlt := heap_lt hbox
  generalize hgd : wa.heap.size = d at *
  have hbd : bb ≠ d := by omega
  have hbox1 := hk1.heap hbox (fun f => f)
  have q1 := hkB.trans hk1
  have hb2 := hb1.non hk1
  go_wp2_with fail
  have hkA : Kp Non w1 (w1.alloc (.cells #[.int .u8 105] 5 (1, 2))) := (Kp.refl _ _).alloc _
  refine (format_calls d d (St.new 400) _ 1 1 di _ (hd1.non hkA) (St.new_ok 400 (by omega) (by omega)) (Bytes.ofCells (heap_alloc_new w1 _) rfl rfl (Nat.le_refl _) (by omega)) (by omega) (fun f => f) (Nat.le_refl _) (by have := hd1.lt; have := hkA.size; omega)).mono ?_
  rw [dst_new]
  rintro e w2 ⟨hd2, hk2, hf⟩
  rw [if_pos rfl] at hf
  obtain ⟨j, rfl, hJ2, hjw⟩ := hf
  have hbox2 := hk2.heap (hkA.heap hbox1 (fun f => f)) hbd
  have hb3 := (hb2.non hkA).one (hd1.non hkA) hk2
  replace hk2 := Kp.dev (q1.trans hkA) (by omega) hk2
  replace hJ2 : Jou Non d w2 j d (dst (-1) []) ⟨di, [], false⟩ none := hJ2
  have hbj : bb ≠ j := by have := hk1.size; have := hkA.size; omega
  clear hk1 hkA hd1 hd2 hjw q1 hb1 hb2 hbox hbox1 hkB
  go_wp2_with fail
  refine (stop_calls d _ (k : Int) w2 hJ2.dev).mono ?_
  rintro e w3 ⟨rfl, hd3, hk3⟩
  have hm : max (k : Int) (-1) = k := by omega
  rw [hm] at hd3
  have hJ3 := hJ2.step hk3 hd3
  have hbox3 := hk3.heap hbox2 hbd
  have hb4 := hb3.one hJ2.dev hk3
  have q3 := Kp.dev hk2 (by omega) hk3
  replace hJ3 : Jou Non d w3 j d (dst (k : Int) []) ⟨di, [], false⟩ none := hJ3
  clear hd3 hk3 hJ2 hbox2 hb3 hk2
  go_wp2_with fail
  go_loopw [41] (fun v41 wr => ∃ (i : Nat) (s : St) (rs : List (List UInt8)) (dn : Bool) (ra : Option Addr), i ≤ n ∧ v41 = .int .i64 i ∧ Jou Non d wr j d s ⟨di, rs, dn⟩ ra ∧ s.ok ∧ Kp Non w wr ∧ wr.heap[bb]? = some (.cells #[.int .i64 o.kind, .int .i64 o.n, .slice ba o.b.length bc] 71 (0, 0)) ∧
    (∀ r ∈ rs, r.length ≤ 3000) ∧ ((i ≤ k ∧ rs.length = i ∧ s = dst ((k : Int) - i) rs ∧ dn = false) ∨ (k < i ∧ rs.length = k ∧ dn = true))) (fun v41 _ => n - (intOf v41).toNat)
  case atStart => exact ⟨0, _, [], false, none, Nat.zero_le _, rfl, hJ3, dst_ok (by omega) (by omega) (by simp) (by simp), q3, hbox3, by simp, .inl ⟨Nat.zero_le _, rfl, by simp, rfl⟩⟩
  case round =>
    obtain ⟨i, s, rs, dn, ra, hi, rfl, hJ, hok, hkw, hbx, hrs, hcase⟩ := hrel
    have hss := sizes_small hrs
    clear hJ3 q3 hbox3 hb4
    by_cases hlt : i < n
    · have hx0 : i < l.length := by have := HN.out; omega
      obtain ⟨b, og, ea, ec, rfl, hcl, hbe⟩ := (hl.non hkw).at_ i l[i] (List.getElem?_eq_getElem hx0)
      generalize l[i] = r at *
      have g1 : (i : Int) < (n : Int) := by omega
      have g2 : (0 : Int) ≤ (i : Int) := by omega
      have v6 : IntKind.i64.wrap ((i : Int) + 1) = (i : Int) + 1 := IntWalk.i64_in _ (by omega)
      have hsl := sm_len r
      have hbs := hbe.small
      have hmn : min r.length 3000 = (sm r).length := hbs.len
      rw [hmn] at hbs
      have HOK := Lib.hid hok
      have hsz : sizes rs ≤ 1000000000000 := by rcases hcase with ⟨q1, q2, _⟩ | ⟨q1, q2, _⟩ <;> omega
      clear hok
      rcases hcase with ⟨hik, hrl, rfl, rfl⟩ | ⟨hik, hrl, rfl⟩
      · by_cases hik2 : i < k
        · have t1 : (i : Int) < (k : Int) := by omega
          have t2 : ((i : Int) == (k : Int)) = false := by simp; omega
          have t3 : decide ((k : Int) < (i : Int)) = false := by simp; omega
          have t4 : decide ((k : Int) ≤ (i : Int)) = false := by simp; omega
          have t5 : (if (k : Int) < (i : Int) + 1 then (k : Int) else (i : Int) + 1) = (i : Int) + 1 := if_neg (by omega)
          have t6 : ¬ k < i := by omega
          have t7 : ¬ k ≤ i := by omega
          have t8 : ¬ i = k := by omega
          have HA := Lib.hid (dst_add (stop := (k : Int) - i) (rs := rs) (r := sm r) (by omega) hrs hsl)
          have HF := Lib.hid (dst_next (stop := (k : Int) - i) (rs := rs) (r := sm r) (by omega))
          go_wp2_with fail
          refine (small_calls ea r.length ec r wr hbe).mono ?_
          rintro e w4 ⟨rfl, rfl⟩
          rw [hmn]
          go_wp2_with fail
          refine (jadd_calls hJ HOK.out ea _ ec (sm r) hbs hsz).mono ?_
          rw [HA.out, HF.out, if_neg (by omega), if_neg (by omega)]
          rintro e w5 ⟨rfl, ra5, _, hJ5, hk5⟩
          replace hJ5 : Jou Non d w5 j d (dst ((k : Int) - i - 1) (rs ++ [sm r])) ⟨di, rs ++ [sm r], false⟩ ra5 := hJ5
          have hkw5 : Kp Non w w5 := hkw.comp hk5 (fun _ _ f => f) (fun x hx q => by have := (hJ.old x q).1; omega)
          have hbx5 := hk5.heap hbx (fun q => by rcases q with q | q | q; exact hbd q; exact hbj q; exact absurd q (fun q => by have := (hJ.old bb (.inr (.inr q))).1; omega))
          go_wp2_with fail
          refine (jdown_calls hJ5).mono ?_
          rintro e w6 ⟨rfl, rfl⟩
          go_wp2_with fail
          refine (jcount_calls hJ5).mono ?_
          rw [show (((⟨di, rs ++ [sm r], false⟩ : JSt).recs.length : Nat) : Int) = (i : Int) + 1 by simp [hrl]]
          rintro e w7 ⟨rfl, rfl⟩
          go_wp2_with fail
          have hl5 : (rs ++ [sm r]).length = i + 1 := by simp [hrl]
          have hr5 : ∀ x ∈ rs ++ [sm r], x.length ≤ 3000 := by
            intro x hx
            rcases List.mem_append.1 hx with hx | hx
            · exact hrs x hx
            · simp at hx; subst hx; exact hsl
          exact ⟨⟨i + 1, _, rs ++ [sm r], false, ra5, by omega, by simp, hJ5, dst_ok (by omega) (by omega) (by omega) hr5, hkw5, hbx5, hr5, .inl ⟨by omega, hl5, by congr 1; omega, rfl⟩⟩, by simp [intOf]; omega⟩
        · obtain rfl : i = k := by omega
          have t1 : decide ((i : Int) < (i : Int)) = false := by simp
          have t2 : ((i : Int) == (i : Int)) = true := by simp
          have t5 : (if (i : Int) < (i : Int) + 1 then (i : Int) else (i : Int) + 1) = (i : Int) := if_pos (by omega)
          have HA := Lib.hid (dst_add (stop := (i : Int) - i) (rs := rs) (r := sm r) (by omega) hrs hsl)
          have HK2 := Lib.hid (jadd_ok HOK.out (⟨di, rs, false⟩ : JSt) (sm r))
          go_wp2_with fail
          refine (small_calls ea r.length ec r wr hbe).mono ?_
          rintro e w4 ⟨rfl, rfl⟩
          rw [hmn]
          go_wp2_with fail
          refine (jadd_calls hJ HOK.out ea _ ec (sm r) hbs hsz).mono ?_
          have hk2 := HK2.out
          rw [HA.out, if_pos (by omega), if_pos (by omega)] at hk2 ⊢
          have HK3 := Lib.hid hk2
          clear hk2
          generalize ({ dst ((i : Int) - i) rs with log := frames rs ++ frame (sm r) } : St).fin = s5 at *
          rintro e w5 ⟨rfl, ra5, _, hJ5, hk5⟩
          replace hJ5 : Jou Non d w5 j d s5 ⟨di, rs, true⟩ ra5 := hJ5
          have hkw5 : Kp Non w w5 := hkw.comp hk5 (fun _ _ f => f) (fun x hx q => by have := (hJ.old x q).1; omega)
          have hbx5 := hk5.heap hbx (fun q => by rcases q with q | q | q; exact hbd q; exact hbj q; exact absurd q (fun q => by have := (hJ.old bb (.inr (.inr q))).1; omega))
          go_wp2_with fail
          refine (jdown_calls hJ5).mono ?_
          rintro e w6 ⟨rfl, rfl⟩
          go_wp2_with fail
          refine (jcount_calls hJ5).mono ?_
          rw [show (((⟨di, rs, true⟩ : JSt).recs.length : Nat) : Int) = (i : Int) by simp [hrl]]
          rintro e w7 ⟨rfl, rfl⟩
          go_wp2_with fail
          exact ⟨⟨i + 1, _, rs, true, ra5, by omega, by simp, hJ5, HK3.out, hkw5, hbx5, hrs, .inr ⟨by omega, hrl, rfl⟩⟩, by simp [intOf]; omega⟩
      · have t1 : decide ((i : Int) < (k : Int)) = false := by simp; omega
        have t2 : ((i : Int) == (k : Int)) = false := by simp; omega
        have t3 : (k : Int) < (i : Int) := by omega
        have t4 : (k : Int) ≤ (i : Int) := by omega
        have t5 : (if (k : Int) < (i : Int) + 1 then (k : Int) else (i : Int) + 1) = (k : Int) := if_pos (by omega)
        have t6 : ¬ i < k := by omega
        have t7 : k ≤ i := by omega
        have t8 : ¬ i = k := by omega
        have HA := Lib.hid (jadd_down (s := s) (J := ⟨di, rs, true⟩) rfl (sm r))
        go_wp2_with fail
        refine (small_calls ea r.length ec r wr hbe).mono ?_
        rintro e w4 ⟨rfl, rfl⟩
        rw [hmn]
        go_wp2_with fail
        refine (jadd_calls hJ HOK.out ea _ ec (sm r) hbs hsz).mono ?_
        rw [HA.out]
        rintro e w5 ⟨rfl, ra5, _, hJ5, hk5⟩
        replace hJ5 : Jou Non d w5 j d s ⟨di, rs, true⟩ ra5 := hJ5
        have hkw5 : Kp Non w w5 := hkw.comp hk5 (fun _ _ f => f) (fun x hx q => by have := (hJ.old x q).1; omega)
        have hbx5 := hk5.heap hbx (fun q => by rcases q with q | q | q; exact hbd q; exact hbj q; exact absurd q (fun q => by have := (hJ.old bb (.inr (.inr q))).1; omega))
        go_wp2_with fail
        refine (jdown_calls hJ5).mono ?_
        rintro e w6 ⟨rfl, rfl⟩
        go_wp2_with fail
        refine (jcount_calls hJ5).mono ?_
        rw [show (((⟨di, rs, true⟩ : JSt).recs.length : Nat) : Int) = (k : Int) by simp [hrl]]
        rintro e w7 ⟨rfl, rfl⟩
        go_wp2_with fail
        exact ⟨⟨i + 1, _, rs, true, ra5, by omega, by simp, hJ5, HOK.out, hkw5, hbx5, hrs, .inr ⟨by omega, hrl, rfl⟩⟩, by simp [intOf]; omega⟩
    · obtain rfl : i = n := by omega
      have g1 : ¬ (i : Int) < (i : Int) := by omega
      by_cases hik : i ≤ k
      · have t1 : (i : Int) ≤ (k : Int) := by omega
        clear hcase
        go_wp2_with fail
        refine (HL.out _).mono ?_
        rintro e w4 ⟨rfl, hk4⟩
        go_wp2_with fail
        go_ret
        exact ⟨rfl, hkw.trans hk4⟩
      · have t1 : decide ((i : Int) ≤ (k : Int)) = false := by simp; omega
        have t2 : ¬ i ≤ k := hik
        have hcase2 : k < i ∧ rs.length = k ∧ dn = true := by
          rcases hcase with ⟨q, _⟩ | q
          · omega
          · exact q
        obtain ⟨_, hrl, rfl⟩ := hcase2
        clear hcase
        have hsz : sizes rs ≤ 1000000000000 := by omega
        have HS := Lib.hid (jsync_down (s := s) (J := ⟨di, rs, true⟩) rfl)
        have HA := Lib.hid (jadd_down (s := s) (J := ⟨di, rs, true⟩) rfl o.b)
        have HOK := Lib.hid hok
        have hbw := hb.non hkw
        clear hok hss
        have c2 : wr.cell? ⟨bb, 2, none⟩ = some (.slice ba o.b.length bc) := cell_of_row wr bb 2 _ _ _ hbx
        have keep : ∀ {w1 w2 : World} {r1 : Option Addr}, Jou Non d w1 j d s ⟨di, rs, true⟩ r1 → Kp (JS d j r1) w1 w2 → ¬ JS d j r1 bb := by
          intro w1 w2 r1 h1 _ q
          rcases q with q | q | q
          · exact hbd q
          · exact hbj q
          · have := (h1.old bb (.inr (.inr q))).1
            omega
        go_wp2_with fail
        refine (jsync_calls hJ HOK.out).mono ?_
        rw [HS.out]
        rintro e w4 ⟨rfl, ra4, _, hJ4, hk4⟩
        replace hJ4 : Jou Non d w4 j d s ⟨di, rs, true⟩ ra4 := hJ4
        have hkw4 : Kp Non w w4 := hkw.comp hk4 (fun _ _ f => f) (fun x hx q => by have := (hJ.old x q).1; omega)
        have c24 := hk4.cell c2 (keep hJ hk4)
        have hb4 := hbw.nob hk4 hJ.noB
        go_wp2_with fail
        refine (jsave_downs hJ4 rfl ba _ bc).mono ?_
        rintro e w5 ⟨rfl, ra5, _, hJ5, hk5⟩
        replace hJ5 : Jou Non d w5 j d s ⟨di, rs, true⟩ ra5 := hJ5
        have hkw5 : Kp Non w w5 := hkw4.comp hk5 (fun _ _ f => f) (fun x hx q => by have := (hJ4.old x q).1; omega)
        have c25 := hk5.cell c24 (keep hJ4 hk5)
        have hb5 := hb4.nob hk5 hJ4.noB
        go_wp2_with fail
        refine (jadd_calls hJ5 HOK.out ba _ bc o.b hb5 hsz).mono ?_
        rw [HA.out]
        rintro e w6 ⟨rfl, ra6, _, hJ6, hk6⟩
        replace hJ6 : Jou Non d w6 j d s ⟨di, rs, true⟩ ra6 := hJ6
        have hkw6 : Kp Non w w6 := hkw5.comp hk6 (fun _ _ f => f) (fun x hx q => by have := (hJ5.old x q).1; omega)
        go_wp2_with fail
        refine (jcount_calls hJ6).mono ?_
        rw [show (((⟨di, rs, true⟩ : JSt).recs.length : Nat) : Int) = (k : Int) by simp [hrl]]
        rintro e w7 ⟨rfl, rfl⟩
        go_wp2_with fail
        refine (jimage_calls hJ6 (by simp [di])).mono ?_
        rintro e w8 ⟨a8, c8, rfl, hO8, hk8⟩
        have cv1 := conv_string w8 a8 _ c8 _ hO8.bytes
        have q8 := hkw6.trans hk8
        go_wp2_with fail
        refine (HL.out _).mono ?_
        rintro e w9 ⟨rfl, hk9⟩
        go_wp2_with fail
        go_ret
        exact ⟨rfl, q8.trans hk9⟩

set_option maxRecDepth 100000 in
theorem jdown_walk (a : Option Addr) (n c : Nat) (l : List (List UInt8)) (un : Int) (o : JOp) (ba : Option Addr) (bc : Nat) (w : World) (hl : RowsB w a n c l) (hu0 : 0 ≤ un) (hu1 : un ≤ 18446744073709551615) (hb : Bytes w ba o.b.length bc o.b) :
    Calls Try.prog 18 #[.slice a n c, .int .u64 un, .agg #[.int .i64 o.kind, .int .i64 o.n, .slice ba o.b.length bc]] w (TruePost w) := by
  by_cases hn : n ≤ 30
  · exact jdown_short a n c l un o ba bc w hl hn hu0 hu1 hb
  · have HL := Lib.hid (fun W => jlives_true W)
    have g0 : (30 : Int) < n := by omega
    go_enter Try.func18, Try.ntmps18
    go_wp2_with fail
    refine (HL.out _).mono ?_
    rintro e w4 ⟨rfl, hk4⟩
    go_wp2_with fail
    go_ret
    exact ⟨rfl, ((Kp.refl _ _).alloc _).trans hk4⟩

open Go.ChangeShapes Go.WideShapes Go.ChangeAt
set_option maxRecDepth 100000 in
theorem journal_down_lifted (os : Os) (started : os.Started) (H : Type) (enc : TypeId × Value → H) :
    ReturnsInHanded {} Try.checked os 18 .any (Rows.journalDownSpec.pre6 enc Try.prog Try.f18 Rows.journalDownRow.domain false) (Rows.journalDownSpec.post enc Try.prog Try.f18 false true false false) := by
  refine returnsInHanded_of_change_sized (C := Try.checked) own started (by kernel_rfl) Try.func18
    (ChangeSpec.witness6 (enc := enc) (C := Try.checked) false ⟨#[], #[.slice none 0 0, .int .u64 0, .agg #[.int .i64 0, .int .i64 0, .slice none 0 0]], []⟩ 8 (by kernel_rfl) (by kernel_rfl) (by kernel_rfl) (by kernel_rfl)) ?_
  intro W base args ds gs before hval0 hW hcnd hsz0 _
  have hval : ∀ (j : Nat) t v, Try.f18.params[j]? = some t → args[j]? = some v → Value.okWide Try.prog W .any base t v := hval0
  have hsz : (DataW.weightsEach Try.prog (Try.f18.params.toList ++ Rows.journalDownSpec.plain.varTypes Try.prog) (ds ++ gs)).all (· ≤ reachBytes) = true := hsz0
  have hW' := hW
  obtain ⟨p, q, hA0, hV, rfl, hfz, hnd⟩ := hW
  have hA : DataW.TrodAll enc Try.prog W 0 (fun _ => true) true Try.f18.params.toList args.toList ds p := hA0
  rw [Try.params18] at hA hval hsz
  obtain ⟨v0, vs0, d0, ds0, p0, q0, hargs, rfl, rfl, h0, r0⟩ := trodAll_cons hA
  obtain ⟨v1, vs1, d1, ds1, p1, q1, rfl, rfl, rfl, h1, r1⟩ := trodAll_cons r0
  obtain ⟨v2, vs2, d2, ds2, p2, q2, rfl, rfl, rfl, h2, r2⟩ := trodAll_cons r1
  obtain ⟨rfl, rfl, rfl⟩ := trodAll_nil r2
  obtain rfl : args = #[v0, v1, v2] := by cases args; simp_all
  obtain ⟨rfl, rfl⟩ := trodVars_none hV
  have lt0 : ∀ x ∈ p0, x.block < W.heap.size := by obtain ⟨m, hm⟩ := h0; exact DataW.trod_lt m _ _ _ hm
  have k0 := h0
  obtain ⟨a0, n0, c0, rfl⟩ := okWide_slice Try.underlying59 (hval 0 59 v0 rfl rfl)
  obtain ⟨l0, b0⟩ := rows_in h0 (fun x hx => by
    have := List.all_eq_true.1 hsz x (DataW.weights_mem_each (j := 0) (t := 59) (d := d0) rfl rfl x hx)
    simpa using this)
  have lt1 : ∀ x ∈ p1, x.block < W.heap.size := by obtain ⟨m, hm⟩ := h1; exact DataW.trod_lt m _ _ _ hm
  have k1 := h1
  obtain ⟨a1, rfl, _, _, w1⟩ := open_int Try.underlying40 (hval 1 40 v1 rfl rfl) h1
  simp only [Lit.wf, Bool.and_eq_true, decide_eq_true_eq] at w1
  have lt2 : ∀ x ∈ p2, x.block < W.heap.size := by obtain ⟨m, hm⟩ := h2; exact DataW.trod_lt m _ _ _ hm
  have k2 := h2
  obtain ⟨o2, ba2, bc2, rfl, b2, w2⟩ := jop_in (hval 2 71 v2 rfl rfl) h2 (fun x hx => by
    have := List.all_eq_true.1 hsz x (DataW.weights_mem_each (j := 2) (t := 71) (d := d2) rfl rfl x hx)
    simpa using this)
  clear hA0 hval0 hsz0
  refine (jdown_walk a0 n0 c0 l0 a1 o2 ba2 bc2 W b0 w1.1 w1.2 b2).mono fun e W' ⟨he, hk⟩ => ?_
  have bel := hk.below
  subst he
  exact ⟨_, rfl, _, _, _, [], _, [], hW', trodAll_mk1 (shut_bool Try.underlying4 _), (trodAll_cons_mk (Below.trod laidOut (by kernel_rfl) (of_decide_eq_true (by kernel_rfl)) k0 bel lt0)
    (trodAll_cons_mk (Below.trod laidOut (by kernel_rfl) (of_decide_eq_true (by kernel_rfl)) k1 bel lt1)
    (trodAll_cons_mk (Below.trod laidOut (by kernel_rfl) (of_decide_eq_true (by kernel_rfl)) k2 bel lt2)
    trodAll_mk0))), rfl, bel.frame _, fun h => by cases h⟩

theorem journal_down : Rows.JournalDownSaid :=
  OpenClaim.holds_of_wide 18 Try.f18 rfl rfl rfl rfl rfl rfl rfl ⟨rfl, rfl, rfl, rfl, rfl⟩ rfl rfl rfl rfl rfl (by kernel_rfl) Try.func18 (by kernel_rfl)
    (of_decide_eq_true (by kernel_rfl)) (by unfold Func.isWrapper; first | (rw [if_pos (by decide +kernel)]; kernel_rfl) | (rw [if_neg (by decide +kernel)]; exact ⟨rfl, rfl⟩))
    (fun os started H enc _ => journal_down_lifted os started H enc)
#print axioms journal_down
end Go.Proofs.Ytclbapmjhchokaa
