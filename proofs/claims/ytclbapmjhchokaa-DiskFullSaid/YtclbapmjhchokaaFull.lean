/-
  DiskFull: never more sectors are taken than there are, and what is refused changes nothing. For every input.
-/
import Derived.Test.YtclbapmjhchokaaF1
namespace Go.Proofs.Ytclbapmjhchokaa
open Go.RowKit

/-- What is to be seen of some bytes: nothing while the power is off. -/
def vis (off : Bool) (l : List UInt8) : List UInt8 := if off then [] else l
def errOf (off : Bool) : Int := if off then 6 else 0

theorem ReadPost.any {off : Bool} {l : List UInt8} {w : World} {e : Ending} {w' : World} (h : ReadPost off l w e w') :
    Kp Non w w' ∧ ∃ a n c, e = .returned (.tuple #[.slice a n c, .int .i64 (errOf off)]) ∧ Bytes w' a n c (vis off l) := by
  obtain ⟨hk, he⟩ := h
  refine ⟨hk, ?_⟩
  cases off with
  | true =>
    rw [if_pos rfl] at he
    exact ⟨none, 0, 0, he, Bytes.empty _⟩
  | false =>
    rw [if_neg (by simp)] at he
    obtain ⟨a, c, he, hO⟩ := he
    exact ⟨a, _, c, he, hO.bytes⟩

def roomOf (n : Int) : Int := 1 + n % 40
theorem roomfn_calls (n : Int) (w : World) (_h : 0 ≤ n) : Calls Try.prog 34 #[.int .u64 n] w fun e w' => e = .returned (.int .i64 (roomOf n)) ∧ w' = w := by
  go_enter Try.func34, Try.ntmps34
  go_wp2
  go_ret
  exact ⟨rfl, rfl⟩
theorem roomOf_bd (n : Int) (_h : 0 ≤ n) : 1 ≤ roomOf n ∧ roomOf n ≤ 65536 := by unfold roomOf; omega

namespace Full
/-- The bounds, and that no more is taken than there is. -/
def FInv (r : Int) (s : St) : Prop := s.ok ∧ s.room = r ∧ s.used ≤ r

theorem secs_mono {a b : Int} (h : a ≤ b) : secs a ≤ secs b := by unfold secs; omega
theorem secs_nonneg {a : Int} (h : 0 ≤ a) : 0 ≤ secs a := by unfold secs; omega

theorem used_fin (s : St) : s.fin.used = s.used ∧ s.fin.room = s.room := by
  unfold St.fin
  split
  · exact ⟨rfl, rfl⟩
  · split <;> exact ⟨rfl, rfl⟩

theorem used_count {s s1 : St} {ec : Int} {laid : Bool} {r : Int} (h : s.used ≤ r ∧ s.room = r) (h1 : ec = 0 → s1.used ≤ r ∧ s1.room = r) : (s.count ec s1 laid).2.used ≤ r ∧ (s.count ec s1 laid).2.room = r := by
  unfold St.count
  split
  · exact h
  · split
    · show s.fin.used ≤ r ∧ s.fin.room = r
      rw [(used_fin s).1, (used_fin s).2]; exact h
    · rename_i he
      show (St.fin _).used ≤ r ∧ (St.fin _).room = r
      rw [(used_fin _).1, (used_fin _).2]
      split
      · exact h1 (by simpa using he)
      · exact h

theorem finv_run {r : Int} {s : St} (o : OpD) (hok : o.ok) (h : FInv r s) : FInv r (o.run s).2 := by
  obtain ⟨h0, h1, h2⟩ := h
  have hs : s.used ≤ r ∧ s.room = r := ⟨h2, h1⟩
  have hi := secs_nonneg (a := s.image.length) (by omega)
  have hst := secs_nonneg (a := s.stage.length) (by omega)
  have hl := secs_nonneg (a := s.log.length) (by omega)
  have key : (o.run s).2.used ≤ r ∧ (o.run s).2.room = r := by
    unfold OpD.run
    split
    · refine used_count hs fun he => ?_
      have hr := full3_zero he
      simp only [decide_eq_false_iff_not, Int.not_lt] at hr
      refine ⟨?_, h1⟩
      show secs s.image.length + secs s.stage.length + secs (s.log ++ o.bytes).length ≤ r
      rw [List.length_append]
      push_cast
      omega
    · split
      · exact used_count hs fun _ => hs
      · split
        · refine used_count hs fun he => ⟨?_, h1⟩
          have := secs_mono (a := ((s.log.take o.n.toNat).length : Int)) (b := s.log.length) (by simp; omega)
          show secs s.image.length + secs s.stage.length + secs (s.log.take o.n.toNat).length ≤ r
          unfold St.used at h2
          omega
        · split
          · refine used_count hs fun he => ?_
            have hr := full3_zero he
            simp only [decide_eq_false_iff_not, Int.not_lt] at hr
            refine ⟨?_, h1⟩
            show secs s.image.length + secs o.bytes.length + secs s.log.length ≤ r
            omega
          · split
            · refine used_count hs fun he => ⟨?_, h1⟩
              show secs s.stage.length + secs 0 + secs 0 ≤ r
              rw [secs_zero]
              unfold St.used at h2
              omega
            · split
              · exact hs
              · split
                · refine ⟨?_, h1⟩
                  have := secs_mono (a := ((s.log.take (s.sure + s.stays o.n).toNat).length : Int)) (b := s.log.length) (by simp; omega)
                  show secs s.image.length + secs 0 + secs (s.log.take (s.sure + s.stays o.n).toNat).length ≤ r
                  rw [secs_zero]
                  unfold St.used at h2
                  omega
                · exact hs
  exact ⟨o.run_ok hok h0, key.2, key.1⟩

theorem fin_keep {s : St} (hz : ¬ s.stop = 0) : s.fin.off = s.off ∧ s.fin.log = s.log ∧ s.fin.image = s.image := by
  unfold St.fin
  rw [if_neg hz]
  split <;> exact ⟨rfl, rfl, rfl⟩

/-- What one call may come to. -/
theorem run_cases (o : OpD) (s : St) : (s.off = true ∧ (o.run s).1 = 6 ∧ (o.run s).2 = s) ∨ (s.off = true ∧ (o.run s).1 = 0) ∨
    (s.off = false ∧ ((o.run s).1 = 3 ∨ (o.run s).1 = 1 ∨ (o.run s).1 = 8) ∧ (o.run s).2.off = false ∧ (o.run s).2.log = s.log ∧ (o.run s).2.image = s.image ∧ (o.run s).2.used = s.used) ∨
    (s.off = false ∧ (o.run s).1 ≠ 3 ∧ (o.run s).1 ≠ 1 ∧ (o.run s).1 ≠ 8) := by
  have hc : ∀ (ec : Int) (s1 : St) (laid : Bool), ec = 0 ∨ ec = 3 ∨ ec = 1 ∨ ec = 8 → (s.off = true ∧ (s.count ec s1 laid).1 = 6 ∧ (s.count ec s1 laid).2 = s) ∨ (s.off = true ∧ (s.count ec s1 laid).1 = 0) ∨
      (s.off = false ∧ ((s.count ec s1 laid).1 = 3 ∨ (s.count ec s1 laid).1 = 1 ∨ (s.count ec s1 laid).1 = 8) ∧ (s.count ec s1 laid).2.off = false ∧ (s.count ec s1 laid).2.log = s.log ∧ (s.count ec s1 laid).2.image = s.image ∧ (s.count ec s1 laid).2.used = s.used) ∨
      (s.off = false ∧ (s.count ec s1 laid).1 ≠ 3 ∧ (s.count ec s1 laid).1 ≠ 1 ∧ (s.count ec s1 laid).1 ≠ 8) := by
    intro ec s1 laid hec
    cases ho : s.off with
    | true =>
      left
      unfold St.count
      rw [if_pos ho]
      exact ⟨rfl, rfl, rfl⟩
    | false =>
      right; right
      unfold St.count
      rw [if_neg (by simp [ho])]
      by_cases h0 : ec = 0
      · rw [if_neg (by simp [h0])]
        right
        by_cases hz : s.stop = 0
        · rw [if_pos hz]; exact ⟨rfl, by show (6 : Int) ≠ 3; decide, by show (6 : Int) ≠ 1; decide, by show (6 : Int) ≠ 8; decide⟩
        · rw [if_neg hz]; exact ⟨rfl, by show (0 : Int) ≠ 3; decide, by show (0 : Int) ≠ 1; decide, by show (0 : Int) ≠ 8; decide⟩
      · rw [if_pos h0]
        by_cases hz : s.stop = 0
        · right
          rw [if_pos hz]; exact ⟨rfl, by show (6 : Int) ≠ 3; decide, by show (6 : Int) ≠ 1; decide, by show (6 : Int) ≠ 8; decide⟩
        · left
          rw [if_neg hz]
          obtain ⟨q1, q2, q3⟩ := fin_keep hz
          exact ⟨rfl, by show ec = 3 ∨ ec = 1 ∨ ec = 8; omega, q1.trans ho, q2, q3, (used_fin s).1⟩
  have hf : ∀ r, full3 r = 0 ∨ full3 r = 3 ∨ full3 r = 1 ∨ full3 r = 8 := fun r => by cases r <;> simp [full3]
  have ha : ∀ r, arg1 r = 0 ∨ arg1 r = 3 ∨ arg1 r = 1 ∨ arg1 r = 8 := fun r => by cases r <;> simp [arg1]
  have hn : ∀ r, none8 r = 0 ∨ none8 r = 3 ∨ none8 r = 1 ∨ none8 r = 8 := fun r => by cases r <;> simp [none8]
  have hz : ∀ s' : St, (s.off = true ∧ ((0 : Int), s').1 = 6 ∧ ((0 : Int), s').2 = s) ∨ (s.off = true ∧ ((0 : Int), s').1 = 0) ∨
      (s.off = false ∧ (((0 : Int), s').1 = 3 ∨ ((0 : Int), s').1 = 1 ∨ ((0 : Int), s').1 = 8) ∧ ((0 : Int), s').2.off = false ∧ ((0 : Int), s').2.log = s.log ∧ ((0 : Int), s').2.image = s.image ∧ ((0 : Int), s').2.used = s.used) ∨
      (s.off = false ∧ ((0 : Int), s').1 ≠ 3 ∧ ((0 : Int), s').1 ≠ 1 ∧ ((0 : Int), s').1 ≠ 8) := by
    intro s'
    cases ho : s.off with
    | true => right; left; exact ⟨rfl, rfl⟩
    | false => right; right; right; exact ⟨rfl, by show (0 : Int) ≠ 3; decide, by show (0 : Int) ≠ 1; decide, by show (0 : Int) ≠ 8; decide⟩
  unfold OpD.run
  split
  · exact hc _ _ _ (hf _)
  · split
    · exact hc _ _ _ (.inl rfl)
    · split
      · exact hc _ _ _ (ha _)
      · split
        · exact hc _ _ _ (hf _)
        · split
          · exact hc _ _ _ (hn _)
          · split
            · exact hz _
            · split
              · exact hz _
              · exact hz _
end Full

open Full in
set_option maxRecDepth 100000 in
set_option maxHeartbeats 16000000 in
theorem full_walk (m : Int) (a : Option Addr) (n c : Nat) (l : List OpD) (w : World) (hl : Ops w a n c l) (hm : 0 ≤ m) :
    Calls Try.prog 9 #[.int .u64 m, .slice a n c] w (TruePost w) := by
  have HL := Lib.hid (fun W => lives_true W)
  obtain ⟨hr1, hr2⟩ := roomOf_bd m hm
  go_enter Try.func9, Try.ntmps9
  go_wp2_with fail
  refine (roomfn_calls m _ hm).mono ?_
  rintro e w0 ⟨rfl, rfl⟩
  have hrr := fun W => roomfn_calls m W hm
  have HRR := Lib.hid hrr
  clear hrr
  generalize roomOf m = r at *
  go_wp2_with fail
  refine (new_calls r _ hr1 hr2).mono ?_
  rintro e w1 ⟨rfl, hd1, hk1⟩
  have hdw : w0.heap.size ≤ w0.heap.size := Nat.le_refl _
  generalize hd : w0.heap.size = d at hd1
  have hdw' : w0.heap.size ≤ d := by omega
  clear hd hdw
  have hI0 : FInv r (St.new r) := ⟨St.new_ok r (by omega) hr2, rfl, by simp [St.new, St.used, secs]; omega⟩
  go_wp2_with fail
  have HI := Lib.hid hI0
  clear hI0
  go_loopw [30] (fun v30 wr => ∃ (i : Nat) (s : St), i ≤ n ∧ i ≤ 100 ∧ v30 = .int .i64 i ∧ Dev wr d s ∧ FInv r s ∧ Kp Non w0 wr) (fun v30 _ => n - (intOf v30).toNat)
  case atStart => exact ⟨0, _, Nat.zero_le _, by omega, rfl, hd1, HI.out, hk1⟩
  case round =>
    obtain ⟨i, s, hi, h100, rfl, hD, hI, hK⟩ := hrel
    have HS := Lib.hid hI
    clear hI
    by_cases hlt : i < n
    · have hx0 : i < l.length := by have := hl.len; omega
      obtain ⟨b, o, ba, bc, rfl, hA⟩ := (hl.non hK).at_ i l[i] (List.getElem?_eq_getElem hx0)
      generalize l[i] = x at hA
      have c0 := hA.c0
      have c1 := hA.c1
      have c2 := hA.c2
      have c3 := hA.c3
      have g0 : (0 : Int) ≤ (i : Int) := by omega
      have g1 : (i : Int) < (n : Int) := by omega
      have hkA : Kp Non w0 (wr.alloc (.cells (x.cells ba bc) 42)) := hK.alloc _
      have hDA := hD.non ((Kp.refl Non wr).alloc (.cells (x.cells ba bc) 42))
      have hbA := hA.bytes.non ((Kp.refl Non wr).alloc (.cells (x.cells ba bc) 42))
      have hX : (wr.alloc (.cells (x.cells ba bc) 42)).heap[wr.heap.size]? = some (.cells (x.cells ba bc) 42 (0, 0)) := heap_alloc_new wr _
      by_cases h50' : i = 100
      · have g2 : (100 : Int) ≤ (i : Int) := by omega
        clear h50'
        unfold OpD.cells at *
        go_wp2_with fail
        refine (HL.out _).mono ?_
        rintro e w6 ⟨rfl, hk6⟩
        go_wp2_with fail
        go_ret
        exact ⟨rfl, hkA.trans hk6⟩
      · have g2 : ¬ (100 : Int) ≤ (i : Int) := by omega
        clear h50'
        have hrc := run_cases x s
        have HRC := Lib.hid hrc
        have HF := Lib.hid (finv_run x hA.ok HS.out)
        have hxok := hA.ok
        clear hrc
        unfold OpD.cells at *
        go_wp2_with fail
        refine (log_calls d s _ hDA HS.out.1).mono ?_
        intro e w2 hp
        obtain ⟨hk2, a1, n1, e1, rfl, hB1⟩ := hp.any
        clear hp
        replace hX := hk2.heap hX (fun f => f)
        have hD2 := hDA.non hk2
        have hb2 := hbA.non hk2
        replace hk2 := hkA.trans hk2
        clear c0 c1 c2 c3 hA
        go_wp2_with fail
        refine (image_calls d s _ hD2 HS.out.1).mono ?_
        intro e w3 hp
        obtain ⟨hk3, a2, n2, e2, rfl, hB2⟩ := hp.any
        clear hp
        replace hX := hk3.heap hX (fun f => f)
        have hD3 := hD2.non hk3
        have hb3 := hb2.non hk3
        replace hB1 := hB1.non hk3
        replace hk3 := hk2.trans hk3
        clear hkA hk2 hDA hD2 hbA hb2
        go_wp2_with fail
        refine (used_calls d s _ hD3 HS.out.1).mono ?_
        rintro e w4 ⟨rfl, q, rfl⟩
        go_wp2_with fail
        have hD4 := hD3.non ((Kp.refl Non w3).drewN q)
        refine (off_calls d s _ hD4).mono ?_
        rintro e w5 ⟨rfl, rfl⟩
        have y0 : w3.cell? ⟨wr.heap.size, 0, none⟩ = some (.int .i64 x.kind) := cell_of_row _ _ 0 _ _ _ hX
        have y1 : w3.cell? ⟨wr.heap.size, 1, none⟩ = some (.int .i64 x.n) := cell_of_row _ _ 1 _ _ _ hX
        have y2 : w3.cell? ⟨wr.heap.size, 2, none⟩ = some (.slice ba x.b.length bc) := cell_of_row _ _ 2 _ _ _ hX
        have y3 : w3.cell? ⟨wr.heap.size, 3, none⟩ = some (.int .u64 x.times) := cell_of_row _ _ 3 _ _ _ hX
        go_wp2_with fail
        refine (do_calls d s x ba bc _ hD4 HS.out.1 (hb3.drewN q) hxok).mono ?_
        rintro e w6 ⟨rfl, hd6, hk6⟩
        replace hB1 := (hB1.drewN q).one hD4 hk6
        replace hB2 := (hB2.drewN q).one hD4 hk6
        replace hk6 := Kp.dev (hk3.drewN q) hdw' hk6
        clear y0 y1 y2 y3 hX hb3 hD3 hD4 hk3
        have hrc := HRC.out
        have hfi := HF.out
        clear HRC HF
        generalize (x.run s).1 = rr at *
        generalize (x.run s).2 = s' at *
        have hu0 : decide (r < s'.used) = false := by have := hfi.2.2; simpa using this
        have hu1 : decide (s'.used < 0) = false := by
          have h1 := secs_nonneg (a := s'.image.length) (by omega)
          have h2 := secs_nonneg (a := s'.stage.length) (by omega)
          have h3 := secs_nonneg (a := s'.log.length) (by omega)
          have : 0 ≤ s'.used := by unfold St.used; omega
          simpa using this
        have HF := Lib.hid hfi
        clear hfi
        go_wp2_with fail
        refine (used_calls d s' _ hd6 HF.out.1).mono ?_
        rintro e w7 ⟨rfl, q7, rfl⟩
        go_wp2_with fail
        refine (HRR.out _).mono ?_
        rintro e w8 ⟨rfl, rfl⟩
        go_wp2_with fail
        have hD8 := hd6.non ((Kp.refl Non w6).drewN q7)
        refine (used_calls d s' _ hD8 HF.out.1).mono ?_
        rintro e w9 ⟨rfl, q9, rfl⟩
        have hD9 := hd6.non ((Kp.refl Non w6).drewN (q7 + q9))
        replace hB1 := hB1.drewN (q7 + q9)
        replace hB2 := hB2.drewN (q7 + q9)
        replace hk6 := hk6.drewN (q7 + q9)
        clear hd6 hD8
        rw [World.drewN_drewN]
        generalize w6.drewN (q7 + q9) = W at *
        rcases hrc with ⟨ho, rfl, rfl⟩ | ⟨ho, rfl⟩ | ⟨ho, hrr, hs1, hs2, hs3, hs4⟩ | ⟨ho, hn3, hn1, hn8⟩
        · have HO := Lib.hid ho
          go_wp2_with fail
          refine (log_calls d s' _ hD9 HF.out.1).mono ?_
          intro e wA hp
          obtain ⟨hkA', a3, n3, e3, rfl, hB3⟩ := hp.any
          clear hp
          have hDA' := hD9.non hkA'
          replace hB1 := hB1.non hkA'
          replace hB2 := hB2.non hkA'
          replace hkA' := hk6.trans hkA'
          go_wp2_with fail
          refine (image_calls d s' _ hDA' HF.out.1).mono ?_
          intro e wB hp
          obtain ⟨hkB, a4, n4, e4, rfl, hB4⟩ := hp.any
          clear hp
          have hDB := hDA'.non hkB
          replace hB1 := hB1.non hkB
          replace hB2 := hB2.non hkB
          replace hB3 := hB3.non hkB
          replace hkB := hkA'.trans hkB
          clear hDA' hkA' hD9 hk6
          go_wp2_with fail
          refine (used_calls d s' _ hDB HF.out.1).mono ?_
          rintro e wC ⟨rfl, qC, rfl⟩
          have v1 := conv_string _ _ _ _ _ (hB1.drewN qC)
          have v2 := conv_string _ _ _ _ _ (hB2.drewN qC)
          have v3 := conv_string _ _ _ _ _ (hB3.drewN qC)
          have v4 := conv_string _ _ _ _ _ (hB4.drewN qC)
          go_wp2_with fail
          exact ⟨⟨i + 1, s', by omega, by omega, by go_num, hDB.non ((Kp.refl Non wB).drewN qC), HF.out, hkB.drewN qC⟩, by simp [intOf]; omega⟩
        · go_wp2_with fail
          exact ⟨⟨i + 1, s', by omega, by omega, by go_num, hD9, HF.out, hk6⟩, by simp [intOf]; omega⟩
        · have H1 := Lib.hid hs1
          have H2 := Lib.hid hs2
          have H3 := Lib.hid hs3
          have H4 := Lib.hid hs4
          clear hs1 hs2 hs3 hs4
          rw [ho] at hB1 hB2
          rcases hrr with rfl | rfl | rfl
          all_goals
            go_wp2_with fail
            refine (log_calls d s' _ hD9 HF.out.1).mono ?_
            intro e wA hp
            obtain ⟨hkA', a3, n3, e3, rfl, hB3⟩ := hp.any
            clear hp
            have hDA' := hD9.non hkA'
            replace hB1 := hB1.non hkA'
            replace hB2 := hB2.non hkA'
            replace hkA' := hk6.trans hkA'
            go_wp2_with fail
            refine (image_calls d s' _ hDA' HF.out.1).mono ?_
            intro e wB hp
            obtain ⟨hkB, a4, n4, e4, rfl, hB4⟩ := hp.any
            clear hp
            have hDB := hDA'.non hkB
            replace hB1 := hB1.non hkB
            replace hB2 := hB2.non hkB
            replace hB3 := hB3.non hkB
            replace hkB := hkA'.trans hkB
            clear hDA' hkA' hD9 hk6
            go_wp2_with fail
            refine (used_calls d s' _ hDB HF.out.1).mono ?_
            rintro e wC ⟨rfl, qC, rfl⟩
            rw [H1.out, H2.out] at hB3
            rw [H1.out, H3.out] at hB4
            rw [H4.out]
            have v1 := conv_string _ _ _ _ _ (hB1.drewN qC)
            have v2 := conv_string _ _ _ _ _ (hB2.drewN qC)
            have v3 := conv_string _ _ _ _ _ (hB3.drewN qC)
            have v4 := conv_string _ _ _ _ _ (hB4.drewN qC)
            go_wp2_with fail
            exact ⟨⟨i + 1, s', by omega, by omega, by go_num, hDB.non ((Kp.refl Non wB).drewN qC), HF.out, hkB.drewN qC⟩, by simp [intOf]; omega⟩
        · have b3 : (rr == 3) = false := by simpa using hn3
          have b1 : (rr == 1) = false := by simpa using hn1
          have b8 : (rr == 8) = false := by simpa using hn8
          clear hn3 hn1 hn8
          go_wp2_with fail
          exact ⟨⟨i + 1, s', by omega, by omega, by go_num, hD9, HF.out, hk6⟩, by simp [intOf]; omega⟩
    · have g1 : ¬ (i : Int) < (n : Int) := by omega
      go_wp2_with fail
      refine (HL.out _).mono ?_
      rintro e w6 ⟨rfl, hk6⟩
      go_wp2_with fail
      go_ret
      exact ⟨rfl, hK.trans hk6⟩

open Go.ChangeShapes Go.WideShapes Go.ChangeAt
set_option maxRecDepth 100000 in
theorem disk_full_lifted (os : Os) (started : os.Started) (H : Type) (enc : TypeId × Value → H) :
    ReturnsInHanded {} Try.checked os 9 .any (Rows.diskFullSpec.pre6 enc Try.prog Try.f9 Rows.diskFullRow.domain false) (Rows.diskFullSpec.post enc Try.prog Try.f9 false true false false) := by
  refine returnsInHanded_of_change_sized (C := Try.checked) own started (by kernel_rfl) Try.func9
    (ChangeSpec.witness6 (enc := enc) (C := Try.checked) false ⟨#[], #[.int .u64 0, .slice none 0 0], []⟩ 8 (by kernel_rfl) (by kernel_rfl) (by kernel_rfl) (by kernel_rfl)) ?_
  intro W base args ds gs before hval0 hW hcnd hsz0 _
  have hval : ∀ (j : Nat) t v, Try.f9.params[j]? = some t → args[j]? = some v → Value.okWide Try.prog W .any base t v := hval0
  have hsz : (DataW.weightsEach Try.prog (Try.f9.params.toList ++ Rows.diskFullSpec.plain.varTypes Try.prog) (ds ++ gs)).all (· ≤ reachBytes) = true := hsz0
  have hW' := hW
  obtain ⟨p, q, hA0, hV, rfl, hfz, hnd⟩ := hW
  have hA : DataW.TrodAll enc Try.prog W 0 (fun _ => true) true Try.f9.params.toList args.toList ds p := hA0
  rw [Try.params9] at hA hval hsz
  obtain ⟨v0, vs0, d0, ds0, p0, q0, hargs, rfl, rfl, h0, r0⟩ := trodAll_cons hA
  obtain ⟨v1, vs1, d1, ds1, p1, q1, rfl, rfl, rfl, h1, r1⟩ := trodAll_cons r0
  obtain ⟨rfl, rfl, rfl⟩ := trodAll_nil r1
  obtain rfl : args = #[v0, v1] := by cases args; simp_all
  obtain ⟨rfl, rfl⟩ := trodVars_none hV
  have lt0 : ∀ x ∈ p0, x.block < W.heap.size := by obtain ⟨m, hm⟩ := h0; exact DataW.trod_lt m _ _ _ hm
  have k0 := h0
  obtain ⟨a0, rfl, _, _, w0⟩ := open_int Try.underlying40 (hval 0 40 v0 rfl rfl) h0
  simp only [Lit.wf, Bool.and_eq_true, decide_eq_true_eq] at w0
  have lt1 : ∀ x ∈ p1, x.block < W.heap.size := by obtain ⟨m, hm⟩ := h1; exact DataW.trod_lt m _ _ _ hm
  have k1 := h1
  obtain ⟨a1, n1, c1, rfl⟩ := okWide_slice Try.underlying39 (hval 1 39 v1 rfl rfl)
  obtain ⟨l1, b1⟩ := ops_in h1 (fun x hx => by
    have := List.all_eq_true.1 hsz x (DataW.weights_mem_each (j := 1) (t := 39) (d := d1) rfl rfl x hx)
    simpa using this)
  clear hA0 hval0 hsz0
  refine (full_walk a0 a1 n1 c1 l1 W b1 w0.1).mono fun e W' ⟨he, hk⟩ => ?_
  have bel := hk.below
  subst he
  exact ⟨_, rfl, _, _, _, [], _, [], hW', trodAll_mk1 (shut_bool Try.underlying4 _), (trodAll_cons_mk (Below.trod laidOut (by kernel_rfl) (of_decide_eq_true (by kernel_rfl)) k0 bel lt0)
    (trodAll_cons_mk (Below.trod laidOut (by kernel_rfl) (of_decide_eq_true (by kernel_rfl)) k1 bel lt1)
    trodAll_mk0)), rfl, bel.frame _, fun h => by cases h⟩

theorem disk_full : Rows.DiskFullSaid :=
  OpenClaim.holds_of_wide 9 Try.f9 rfl rfl rfl rfl rfl rfl rfl ⟨rfl, rfl, rfl, rfl, rfl⟩ rfl rfl rfl rfl rfl (by kernel_rfl) Try.func9 (by kernel_rfl)
    (of_decide_eq_true (by kernel_rfl)) (by unfold Func.isWrapper; first | (rw [if_pos (by decide +kernel)]; kernel_rfl) | (rw [if_neg (by decide +kernel)]; exact ⟨rfl, rfl⟩))
    (fun os started H enc _ => disk_full_lifted os started H enc)
#print axioms disk_full
end Go.Proofs.Ytclbapmjhchokaa
