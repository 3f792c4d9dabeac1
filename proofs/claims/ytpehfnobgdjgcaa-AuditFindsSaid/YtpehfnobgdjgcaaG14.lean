/-
  The puts that took effect: the document's.
-/
import Derived.Test.YtpehfnobgdjgcaaG13
namespace Go.Proofs.Ytpehfnobgdjgcaa
open Go.RowKit

theorem effK_snoc (l : List PutV) (p q : PutV) : effK (l ++ [q]) p = (effK l p && !(decide (q.cl = p.cl) && decide (p.sq ≤ q.sq))) := by
  simp [effK, List.all_append, Bool.and_assoc]
theorem effK_take {l : List PutV} {j : Nat} (h : j < l.length) (p : PutV) : effK (l.take (j + 1)) p = (effK (l.take j) p && !(decide (l[j].cl = p.cl) && decide (p.sq ≤ l[j].sq))) := by
  rw [List.take_succ_eq_append_getElem h, effK_snoc]

set_option maxRecDepth 100000 in
set_option maxHeartbeats 1000000 in
theorem rEffects_calls (a : Option Addr) (c : Nat) (l : List PutV) (w : World) (hl : Puts_ w a l.length c l) (hs : l.length ≤ 1000000) : Calls Try.prog 17 #[.slice a l.length c] w (RPutsOut (effL l) w) := by
  have hcx := hl.cap
  have hmx := hl.max
  obtain ⟨i0, hi0, hz0, hz1, hz2⟩ := info_parts infoRPut
  go_enter Try.func17, Try.ntmps17
  go_wp2_with fail
  go_loopw [3, 11] (fun v3 v11 wr => ∃ k : Nat, k ≤ l.length ∧ v11 = .int .i64 k ∧ (∃ n ax cx, v3 = .slice ax n cx ∧ n ≤ k ∧ OwnQ wr w.heap.size ax n cx (effT l k)) ∧ Kp Non w wr) (fun _ v11 _ => l.length - (intOf v11).toNat)
  case atStart => exact ⟨0, by omega, rfl, ⟨0, none, 0, rfl, by omega, OwnR.nil w w.heap.size 42⟩, Kp.refl _ _⟩
  case round =>
    obtain ⟨k, hk', rfl, ⟨n, ax, cx, rfl, hnk, hO⟩, hkr⟩ := hrel
    by_cases hlt : k < l.length
    · have g : (k : Int) < (l.length : Nat) := by omega
      obtain ⟨b, o, rfl⟩ := hl.there (by omega)
      obtain ⟨c0, c1, c2, c3, c4, c5⟩ := Puts_.cells (hl.non hkr) hlt
      have HON := Lib.hid (effT_on (List.getElem?_eq_getElem hlt))
      have HOF := Lib.hid (effT_off (List.getElem?_eq_getElem hlt))
      have HN := Lib.hid (BxQ.new2 wr l[k])
      generalize l[k] = x at *
      go_upto_region 5 with (fail)
      obtain ⟨V, eV, hN, kV⟩ := HN.out
      rw [eV]
      have HC := Lib.hid fun W (q : Kp Non V W) => BxQ.cells (Bx.non hN q)
      obtain ⟨n0, n1, n2, n3, n4, n5⟩ := hN.cells
      have hkV := hkr.trans kV
      have hO := hO.non kV
      clear eV HN hN c0 c1 c2 c3 c4 c5
      generalize wr.heap.size = bx at *
      have HS : Hid (decide (x.sq < 1) = !(effK (l.take 0) x)) := Lib.hid (by by_cases h : x.sq < 1 <;> simp [effK, h] <;> omega)
      go_wp2_with fail
      go_loopw [6, 23] (fun v6 v23 wi => ∃ j : Nat, j ≤ k ∧ v23 = .int .i64 j ∧ (∃ lb, v6 = .bool lb ∧ Hid (lb = !(effK (l.take j) x))) ∧ Kp Non V wi) (fun _ v23 _ => k - (intOf v23).toNat)
      case atStart => exact ⟨0, by omega, rfl, ⟨_, rfl, Lib.hid HS.out⟩, Kp.refl _ _⟩
      case round =>
        obtain ⟨j, hj', rfl, ⟨lb, rfl, hlb⟩, hki⟩ := hrel
        obtain ⟨n0, n1, n2, n3, n4, n5⟩ := HC.out _ hki
        by_cases hjt : j < k
        · have gj : (j : Int) < (k : Nat) := by omega
          have hjl : j < l.length := by omega
          have gjl : (j : Int) < (l.length : Nat) := by omega
          obtain ⟨c0, c1, c2, c3, c4, c5⟩ := Puts_.cells (hl.non (hkV.trans hki)) hjl
          have HST := Lib.hid (effK_take hjl x)
          have HN := Lib.hid (BxQ.new2 wr l[j])
          generalize l[j] = q at *
          go_upto_region 9 with (fail)
          obtain ⟨U, eU, hN, kU⟩ := HN.out
          rw [eU]
          obtain ⟨m0, m1, m2, m3, m4, m5⟩ := hN.cells
          have n1 := kU.cell n1 (fun f => f)
          have n2 := kU.cell n2 (fun f => f)
          have hkU := hki.trans kU
          clear eU HN hN c0 c1 c2 c3 c4 c5 n0 n3 n4 n5
          generalize wr.heap.size = bq at *
          rcases lb with _ | _
          · by_cases hc : q.cl = x.cl
            · have e1 : (q.cl == x.cl) = true := by simp [hc]
              rcases Bool.eq_false_or_eq_true (decide (x.sq ≤ q.sq)) with d | d
              · have HE : Hid (true = !(effK (l.take (j + 1)) x)) := Lib.hid (by rw [HST.out]; simp [hc, d])
                go_wp2_with fail
                go_roundw
                case rel => exact ⟨j + 1, by omega, by go_num, ⟨_, rfl, HE⟩, hkU⟩
                case measure => simp [intOf]; omega
              · have HE : Hid (false = !(effK (l.take (j + 1)) x)) := Lib.hid (by rw [HST.out, Bool.not_and, ← hlb.out]; simp [d])
                go_wp2_with fail
                go_roundw
                case rel => exact ⟨j + 1, by omega, by go_num, ⟨_, rfl, HE⟩, hkU⟩
                case measure => simp [intOf]; omega
            · have e1 : (q.cl == x.cl) = false := by simp [hc]
              have HE : Hid (false = !(effK (l.take (j + 1)) x)) := Lib.hid (by rw [HST.out, Bool.not_and, ← hlb.out]; simp [hc])
              go_wp2_with fail
              go_roundw
              case rel => exact ⟨j + 1, by omega, by go_num, ⟨_, rfl, HE⟩, hkU⟩
              case measure => simp [intOf]; omega
          · have HE : Hid (true = !(effK (l.take (j + 1)) x)) := Lib.hid (by rw [HST.out, Bool.not_and, ← hlb.out]; rfl)
            go_wp2_with fail
            go_roundw
            case rel => exact ⟨j + 1, by omega, by go_num, ⟨_, rfl, HE⟩, hkU⟩
            case measure => simp [intOf]; omega
        · obtain rfl : j = k := by omega
          have hO := hO.non hki
          have hkU := hkV.trans hki
          rcases lb with _ | _
          · have HE := Lib.hid (HON.out (by have := hlb.out; simpa using this))
            clear HON HOF HS HC
            go_wp2_with (at_builtin; refine wpList_append_row rfl _ _ 35 rfl w.heap.size 42 i0 _ 56 Try.underlying35 hi0 hz0 hz1 hz2 rfl (by decide) encPut_len encPut_one ax n cx _ rfl (hO.non ((Kp.refl _ _).alloc _)) _ 1 1 [x] rfl (Reads.new rfl rfl) (by omega) (by omega) ?_ ?_; exact ((hkU.alloc _).size); intro a3 c3 w3 hO3 hk3 _)
            have hk3 : Kp Non w w3 := (hkU.alloc _).comp hk3 (fun _ _ f => f) (fun i hi hs => absurd ((hO.blk i hs).1) (by omega))
            go_roundw
            case rel => exact ⟨j + 1, by omega, by go_num, ⟨n + 1, a3, c3, rfl, by omega, by rw [HE.out]; exact hO3⟩, hk3⟩
            case measure => simp [intOf]; omega
          · have HE := Lib.hid (HOF.out (by have := hlb.out; simpa using this))
            clear HON HOF HS HC
            go_wp2_with fail
            go_roundw
            case rel => exact ⟨j + 1, by omega, by go_num, ⟨n, ax, cx, rfl, by omega, by rw [HE.out]; exact hO⟩, hkU⟩
            case measure => simp [intOf]; omega
    · obtain rfl : k = l.length := by omega
      go_wp2_with fail
      go_ret
      exact ⟨ax, n, cx, rfl, hO, hkr⟩
end Go.Proofs.Ytpehfnobgdjgcaa
