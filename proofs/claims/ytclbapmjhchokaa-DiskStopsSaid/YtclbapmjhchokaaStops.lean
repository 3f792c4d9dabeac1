/-
  DiskStops: the power goes at just the writing call that was named, and stays off till a crash. For every input.
-/
import Derived.Test.YtclbapmjhchokaaF1
namespace Go.Proofs.Ytclbapmjhchokaa
open Go.RowKit

namespace Stops
/-- What holds when so many calls have counted. -/
def SInv (k : Int) (c : Nat) (s : St) : Prop := s.ok ∧ ((c : Int) ≤ k → s.off = false ∧ s.stop = k - c) ∧ (k < c → s.off = true)
theorem as_count (o : OpD) (s : St) (h1 : 1 ≤ o.kind) (h5 : o.kind ≤ 5) : ∃ ec s1 laid, o.run s = s.count ec s1 laid ∧ ec ≠ 6 ∧ s1.off = s.off ∧ s1.stop = s.stop := by
  have hf : ∀ r, full3 r ≠ 6 := fun r => by cases r <;> decide
  have ha : ∀ r, arg1 r ≠ 6 := fun r => by cases r <;> decide
  have hn : ∀ r, none8 r ≠ 6 := fun r => by cases r <;> decide
  unfold OpD.run
  by_cases k1 : o.kind = 1
  · rw [if_pos k1]; exact ⟨_, _, _, rfl, hf _, rfl, rfl⟩
  rw [if_neg k1]
  by_cases k2 : o.kind = 2
  · rw [if_pos k2]; exact ⟨_, _, _, rfl, by decide, rfl, rfl⟩
  rw [if_neg k2]
  by_cases k3 : o.kind = 3
  · rw [if_pos k3]; exact ⟨_, _, _, rfl, ha _, rfl, rfl⟩
  rw [if_neg k3]
  by_cases k4 : o.kind = 4
  · rw [if_pos k4]; exact ⟨_, _, _, rfl, hf _, rfl, rfl⟩
  rw [if_neg k4, if_pos (by omega)]
  exact ⟨_, _, _, rfl, hn _, rfl, rfl⟩

theorem count_off {s s1 : St} {ec : Int} {laid : Bool} (h : s.off = true) : s.count ec s1 laid = (6, s) := by unfold St.count; rw [if_pos h]
theorem count_now {s s1 : St} {ec : Int} {laid : Bool} (h : s.off = false) (h0 : s.stop = 0) (h1 : s1.stop = s.stop) : (s.count ec s1 laid).1 = 6 ∧ (s.count ec s1 laid).2.off = true := by
  have hf : ∀ t : St, t.stop = 0 → t.fin.off = true := fun t ht => by unfold St.fin; rw [if_pos ht]
  unfold St.count
  rw [if_neg (by simp [h])]
  split
  · exact ⟨rfl, hf _ h0⟩
  · refine ⟨rfl, hf _ ?_⟩
    split
    · omega
    · exact h0
theorem count_later {s s1 : St} {ec : Int} {laid : Bool} (h : s.off = false) (h0 : 0 < s.stop) (h1 : s1.stop = s.stop) (h2 : s1.off = s.off) (he : ec ≠ 6) :
    (s.count ec s1 laid).1 ≠ 6 ∧ (s.count ec s1 laid).2.off = false ∧ (s.count ec s1 laid).2.stop = s.stop - 1 := by
  have hf : ∀ t : St, 0 < t.stop → t.fin = { t with stop := t.stop - 1 } := fun t ht => by unfold St.fin; rw [if_neg (by omega), if_pos ht]
  unfold St.count
  rw [if_neg (by simp [h])]
  split
  · rw [hf s h0]
    exact ⟨by rw [if_neg (by omega)]; exact he, h, rfl⟩
  · have e1 : (if s.stop ≠ 0 ∨ laid = true then s1 else s) = s1 := if_pos (.inl (by omega))
    rw [e1, hf s1 (by omega)]
    exact ⟨by rw [if_neg (by omega)]; show (0 : Int) ≠ 6; decide, by rw [← h, ← h2], by show s1.stop - 1 = _; omega⟩

theorem sstep {k : Int} {c : Nat} {s : St} {o : OpD} (hi : SInv k c s) (hok : o.ok) (h1 : 1 ≤ o.kind) (h5 : o.kind ≤ 5) :
    SInv k (c + 1) (o.run s).2 ∧ ((o.run s).1 = 6 ↔ k ≤ c) ∧ ((o.run s).2.off = true ↔ k ≤ c) := by
  have hk := o.run_ok hok hi.1
  obtain ⟨ec, s1, laid, he, h6, ho, hs⟩ := as_count o s h1 h5
  rw [he] at hk ⊢
  obtain ⟨_, ha, hb⟩ := hi
  unfold SInv
  by_cases hlt : (c : Int) < k
  · obtain ⟨h7, h8⟩ := ha (by omega)
    obtain ⟨r1, r2, r3⟩ := count_later (laid := laid) h7 (by omega) hs ho h6
    exact ⟨⟨hk, fun _ => ⟨r2, by rw [r3]; omega⟩, fun _ => by omega⟩, ⟨fun e => absurd e r1, fun _ => by omega⟩, ⟨(fun e => by rw [r2] at e; cases e), fun _ => by omega⟩⟩
  · by_cases heq : (c : Int) = k
    · obtain ⟨h7, h8⟩ := ha (by omega)
      obtain ⟨r1, r2⟩ := count_now (ec := ec) (laid := laid) h7 (by omega) hs
      exact ⟨⟨hk, fun _ => by omega, fun _ => r2⟩, ⟨fun _ => by omega, fun _ => r1⟩, ⟨fun _ => by omega, fun _ => r2⟩⟩
    · have h7 := hb (by omega)
      rw [count_off h7] at hk ⊢
      exact ⟨⟨hk, fun _ => by omega, fun _ => h7⟩, ⟨fun _ => by omega, fun _ => rfl⟩, ⟨fun _ => by omega, fun _ => h7⟩⟩
end Stops

open Stops in
set_option maxRecDepth 100000 in
set_option maxHeartbeats 4000000 in
theorem stops_walk (a : Option Addr) (n c : Nat) (l : List OpD) (m : Int) (w : World) (hl : Ops w a n c l) (hm : 0 ≤ m) :
    Calls Try.prog 6 #[.slice a n c, .int .u64 m] w (TruePost w) := by
  have HL := Lib.hid (fun W => lives_true W)
  have hnot := notB
  go_enter Try.func6, Try.ntmps6
  go_wp2_with fail
  refine (new_calls 40 _ (by omega) (by omega)).mono ?_
  rintro e w1 ⟨rfl, hd1, hk1⟩
  generalize hd : w.heap.size = d at *
  go_wp2_with fail
  refine (stop_calls d _ _ _ hd1).mono ?_
  rintro e w2 ⟨rfl, hd2, hk2⟩
  go_wp2_with fail
  have hI : SInv (m % 20) 0 { St.new 40 with stop := max (m % 20) (-1) } := ⟨(St.new_ok 40 (by omega) (by omega)).setStop _ (by omega), fun _ => ⟨rfl, by show max (m % 20) (-1) = _; omega⟩, fun _ => by omega⟩
  have hk0 : Kp Non w w2 := Kp.dev hk1 (by omega) hk2
  have hdw : w.heap.size ≤ d := by omega
  clear hk1 hk2 hd1 hd
  have HI := Lib.hid hI
  clear hI
  go_loopw [8, 26] (fun v8 v26 wr => ∃ (i cnt : Nat) (s : St), i ≤ n ∧ cnt ≤ i ∧ i ≤ 50 ∧ v26 = .int .i64 i ∧ v8 = .int .i64 cnt ∧ Dev wr d s ∧ SInv (m % 20) cnt s ∧ Kp Non w wr) (fun _ v26 _ => n - (intOf v26).toNat)
  case atStart => exact ⟨0, 0, _, Nat.zero_le _, Nat.le_refl _, by omega, rfl, rfl, hd2, HI.out, hk0⟩
  case round =>
    obtain ⟨i, cnt, s, hi, hci, h50, rfl, rfl, hD, hI, hK⟩ := hrel
    have HS := Lib.hid hI
    clear hI
    by_cases hlt : i < n
    · have hx0 : i < l.length := by have := hl.len; omega
      obtain ⟨b, o, ba, bc, rfl, hA⟩ := (hl.non hK).at_ i l[i] (List.getElem?_eq_getElem hx0)
      generalize l[i] = x at hA
      have c0 := hA.c0
      have c1 := hA.c1
      have c2 := hA.c2
      have c3 := hA.c3
      have g0 : (0 : Int) ≤ (i : Int) := by omega
      have g1 : (i : Int) < (n : Int) := by omega
      have hkA : Kp Non w (wr.alloc (.cells (x.cells ba bc) 42)) := hK.alloc _
      have hDA := hD.non ((Kp.refl Non wr).alloc (.cells (x.cells ba bc) 42))
      have hbA := hA.bytes.non ((Kp.refl Non wr).alloc (.cells (x.cells ba bc) 42))
      by_cases h50' : i = 50
      · have g2 : (50 : Int) ≤ (i : Int) := by omega
        clear h50'
        unfold OpD.cells at *
        go_wp2_with fail
        refine (crash_calls d s 0 _ hDA HS.out.1).mono ?_
        rintro e w3 ⟨rfl, hd3, hk3⟩
        replace hk3 := Kp.dev hkA hdw hk3
        go_wp2_with fail
        refine (off_calls d _ _ hd3).mono ?_
        rintro e w4 ⟨rfl, rfl⟩
        rw [show (s.crash 0).off = false from rfl]
        go_wp2_with fail
        refine (sync_calls d _ _ hd3 (HS.out.1.crash 0)).mono ?_
        rintro e w5 ⟨rfl, hd5, hk5⟩
        rw [sync_on (s := s.crash 0) rfl rfl]
        replace hk5 := Kp.dev hk3 hdw hk5
        go_wp2_with fail
        refine (HL.out _).mono ?_
        rintro e w6 ⟨rfl, hk6⟩
        go_wp2_with fail
        go_ret
        exact ⟨rfl, hk5.trans hk6⟩
      · have g2 : ¬ (50 : Int) ≤ (i : Int) := by omega
        clear h50'
        by_cases hk1 : x.kind < 1
        · unfold OpD.cells at *
          go_wp2_with fail
          exact ⟨⟨i + 1, cnt, s, by omega, by omega, by omega, by go_num, rfl, hDA, HS.out, hkA⟩, by simp [intOf]; omega⟩
        · have g3 : decide (x.kind < 1) = false := by simpa using hk1
          by_cases hk5 : 5 < x.kind
          · unfold OpD.cells at *
            go_wp2_with fail
            exact ⟨⟨i + 1, cnt, s, by omega, by omega, by omega, by go_num, rfl, hDA, HS.out, hkA⟩, by simp [intOf]; omega⟩
          · have g4 : decide (5 < x.kind) = false := by simpa using hk5
            have hst := sstep HS.out hA.ok (by omega) (by omega)
            have HST := Lib.hid hst
            have HDO := Lib.hid (do_calls d s x ba bc _ hDA HS.out.1 hbA hA.ok)
            clear hst hk1 hk5
            unfold OpD.cells at *
            go_wp2_with fail
            refine HDO.out.mono ?_
            rintro e w3 ⟨rfl, hd3, hk3⟩
            replace hk3 := Kp.dev hkA hdw hk3
            have hst := HST.out
            clear HST HDO
            generalize (x.run s).1 = r at *
            generalize (x.run s).2 = s' at *
            obtain ⟨hI', hr, hoff⟩ := hst
            have HS' := Lib.hid hI'
            clear hI'
            by_cases hkc : m % 20 ≤ cnt
            · obtain rfl := hr.2 hkc
              have ho := hoff.2 hkc
              have HO := Lib.hid ho
              clear hr hoff ho
              go_wp2_with fail
              refine (off_calls d _ _ hd3).mono ?_
              rintro e w4 ⟨rfl, rfl⟩
              rw [HO.out]
              go_wp2_with fail
              exact ⟨⟨i + 1, cnt + 1, s', by omega, by omega, by omega, by go_num, by go_num, hd3, HS'.out, hk3⟩, by simp [intOf]; omega⟩
            · have hr6 : (r == 6) = false := by
                have : r ≠ 6 := fun e => hkc (hr.1 e)
                simpa using this
              have ho : s'.off = false := by
                cases h : s'.off with
                | false => rfl
                | true => exact absurd (hoff.1 h) hkc
              have HO := Lib.hid ho
              have g6 : decide (m % 20 ≤ cnt) = false := by simpa using hkc
              clear hr hoff ho hkc
              go_wp2_with fail
              refine (off_calls d _ _ hd3).mono ?_
              rintro e w4 ⟨rfl, rfl⟩
              rw [HO.out]
              go_wp2_with fail
              exact ⟨⟨i + 1, cnt + 1, s', by omega, by omega, by omega, by go_num, by go_num, hd3, HS'.out, hk3⟩, by simp [intOf]; omega⟩
    · have g1 : ¬ (i : Int) < (n : Int) := by omega
      go_wp2_with fail
      refine (crash_calls d s 0 _ hD HS.out.1).mono ?_
      rintro e w3 ⟨rfl, hd3, hk3⟩
      replace hk3 := Kp.dev hK hdw hk3
      go_wp2_with fail
      refine (off_calls d _ _ hd3).mono ?_
      rintro e w4 ⟨rfl, rfl⟩
      rw [show (s.crash 0).off = false from rfl]
      go_wp2_with fail
      refine (sync_calls d _ _ hd3 (HS.out.1.crash 0)).mono ?_
      rintro e w5 ⟨rfl, hd5, hk5⟩
      rw [sync_on (s := s.crash 0) rfl rfl]
      replace hk5 := Kp.dev hk3 hdw hk5
      go_wp2_with fail
      refine (HL.out _).mono ?_
      rintro e w6 ⟨rfl, hk6⟩
      go_wp2_with fail
      go_ret
      exact ⟨rfl, hk5.trans hk6⟩

open Go.ChangeShapes Go.WideShapes Go.ChangeAt
set_option maxRecDepth 100000 in
theorem stops_lifted (os : Os) (started : os.Started) (H : Type) (enc : TypeId × Value → H) :
    ReturnsInHanded {} Try.checked os 6 .any (Rows.diskStopsSpec.pre6 enc Try.prog Try.f6 Rows.diskStopsRow.domain false) (Rows.diskStopsSpec.post enc Try.prog Try.f6 false true false false) := by
  refine returnsInHanded_of_change_sized (C := Try.checked) own started (by kernel_rfl) Try.func6
    (ChangeSpec.witness6 (enc := enc) (C := Try.checked) false ⟨#[], #[.slice none 0 0, .int .u64 0], []⟩ 8 (by kernel_rfl) (by kernel_rfl) (by kernel_rfl) (by kernel_rfl)) ?_
  intro W base args ds gs before hval0 hW hcnd hsz0 _
  have hval : ∀ (j : Nat) t v, Try.f6.params[j]? = some t → args[j]? = some v → Value.okWide Try.prog W .any base t v := hval0
  have hsz : (DataW.weightsEach Try.prog (Try.f6.params.toList ++ Rows.diskStopsSpec.plain.varTypes Try.prog) (ds ++ gs)).all (· ≤ reachBytes) = true := hsz0
  have hW' := hW
  obtain ⟨p, q, hA0, hV, rfl, hfz, hnd⟩ := hW
  have hA : DataW.TrodAll enc Try.prog W 0 (fun _ => true) true Try.f6.params.toList args.toList ds p := hA0
  rw [Try.params6] at hA hval hsz
  obtain ⟨v0, vs0, d0, ds0, p0, q0, hargs, rfl, rfl, h0, r0⟩ := trodAll_cons hA
  obtain ⟨v1, vs1, d1, ds1, p1, q1, rfl, rfl, rfl, h1, r1⟩ := trodAll_cons r0
  obtain ⟨rfl, rfl, rfl⟩ := trodAll_nil r1
  obtain rfl : args = #[v0, v1] := by cases args; simp_all
  obtain ⟨rfl, rfl⟩ := trodVars_none hV
  have lt0 : ∀ x ∈ p0, x.block < W.heap.size := by obtain ⟨m, hm⟩ := h0; exact DataW.trod_lt m _ _ _ hm
  have lt1 : ∀ x ∈ p1, x.block < W.heap.size := by obtain ⟨m, hm⟩ := h1; exact DataW.trod_lt m _ _ _ hm
  obtain ⟨a0, n0, c0, rfl⟩ := okWide_slice Try.underlying39 (hval 0 39 v0 rfl rfl)
  obtain ⟨l0, hl0⟩ := ops_in h0 (fun x hx => by
    have := List.all_eq_true.1 hsz x (DataW.weights_mem_each (j := 0) (t := 39) (d := d0) rfl rfl x hx)
    simpa using this)
  have k1 := h1
  obtain ⟨a1, rfl, _, _, w1⟩ := open_int Try.underlying40 (hval 1 40 v1 rfl rfl) h1
  simp only [Lit.wf, Bool.and_eq_true, decide_eq_true_eq] at w1
  clear hA0 hval0 hsz0
  refine (stops_walk a0 n0 c0 l0 a1 W hl0 w1.1).mono fun e W' ⟨he, hk⟩ => ?_
  have bel := hk.below
  subst he
  exact ⟨_, rfl, _, _, _, [], _, [], hW', trodAll_mk1 (shut_bool Try.underlying4 _), (trodAll_cons_mk (Below.trod laidOut (by kernel_rfl) (of_decide_eq_true (by kernel_rfl)) h0 bel lt0)
    (trodAll_cons_mk (Below.trod laidOut (by kernel_rfl) (of_decide_eq_true (by kernel_rfl)) k1 bel lt1) trodAll_mk0)), rfl, bel.frame _, fun h => by cases h⟩

theorem disk_stops : Rows.DiskStopsSaid :=
  OpenClaim.holds_of_wide 6 Try.f6 rfl rfl rfl rfl rfl rfl rfl ⟨rfl, rfl, rfl, rfl, rfl⟩ rfl rfl rfl rfl rfl (by kernel_rfl) Try.func6 (by kernel_rfl)
    (of_decide_eq_true (by kernel_rfl)) (by unfold Func.isWrapper; first | (rw [if_pos (by decide +kernel)]; kernel_rfl) | (rw [if_neg (by decide +kernel)]; exact ⟨rfl, rfl⟩))
    (fun os started H enc _ => stops_lifted os started H enc)
#print axioms disk_stops
end Go.Proofs.Ytclbapmjhchokaa
