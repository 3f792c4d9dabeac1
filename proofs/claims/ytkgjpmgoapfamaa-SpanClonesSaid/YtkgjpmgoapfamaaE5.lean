/-
  The document's Ends.
-/
import Derived.Test.YtkgjpmgoapfamaaE4
namespace Go.Proofs.Ytkgjpmgoapfamaa
open Go.RowKit

/-- A row of rows: each with its slice. -/
abbrev Rw := (Option Addr × Nat × Nat) × List Sp
def encR (r : Rw) : List Value := [.slice r.1.1 r.1.2.1 r.1.2.2]
theorem encR_len (r : Rw) : (encR r).length = 1 := rfl
structure Rows2 (w : World) (a : Option Addr) (n c : Nat) (R : List Rw) : Prop where
  reads : Reads encR 1 w a n c R
  each : ∀ r ∈ R, Spans w r.1.1 r.1.2.1 r.1.2.2 r.2
theorem Rows2.non {w w' : World} {a : Option Addr} {n c : Nat} {R : List Rw} (h : Rows2 w a n c R) (k : Kp Non w w') : Rows2 w' a n c R := ⟨h.reads.non k, fun r hr => (h.each r hr).non k⟩
theorem Rows2.c {w : World} {b o n c : Nat} {R : List Rw} (h : Reads encR 1 w (some ⟨b, o, none⟩) n c R) {j : Nat} (hj : j < R.length) : w.cell? ⟨b, o + j, none⟩ = some (.slice R[j].1.1 R[j].1.2.1 R[j].1.2.2) := by
  have := h.get (List.getElem?_eq_getElem hj) (i := 0) (v := .slice R[j].1.1 R[j].1.2.1 R[j].1.2.2) rfl
  simpa using this

theorem ends_snoc {R : List Rw} {j : Nat} (hj : j < R.length) : endsL ((R.take (j + 1)).map (·.2)) = R[j].2.foldl estep (endsL ((R.take j).map (·.2))) := by
  rw [List.take_succ_eq_append_getElem hj, List.map_append]
  unfold endsL
  rw [List.foldl_append]
  rfl

set_option maxRecDepth 100000 in
set_option maxHeartbeats 1000000 in
theorem ends_calls (a : Option Addr) (n c : Nat) (R : List Rw) (w : World) (h : Rows2 w a n c R) (hn : n ≤ 1000) (hr : ∀ r ∈ R, r.2.length ≤ 1000) : Calls Try.prog 51 #[.slice a n c] w (IntsOut w.heap.size (endsL (R.map (·.2))) w) := by
  obtain rfl := h.reads.len
  have hc := h.reads.cap
  have hm := h.reads.max
  have HR := Lib.hid hr
  clear hr
  go_enter Try.func51, Try.ntmps51
  go_wp2_with fail
  go_loopw [3, 10] (fun v3 v10 wr => ∃ (j : Nat) (out : List Int) (a3 : Option Addr) (c3 : Nat), j ≤ R.length ∧ v10 = .int .i64 j ∧ v3 = .slice a3 out.length c3 ∧ Hid (out = endsL ((R.take j).map (·.2))) ∧ Hid (RiseI out) ∧ out.length ≤ 2000 * j ∧ OwnI wr w.heap.size a3 out.length c3 out ∧ Kp Non w wr) (fun _ v10 _ => R.length - (intOf v10).toNat)
  case atStart => exact ⟨0, [], none, 0, by omega, rfl, rfl, Lib.hid rfl, Lib.hid List.Pairwise.nil, by simp, OwnR.nil _ _ _, Kp.refl _ _⟩
  case round =>
    obtain ⟨j, out, a3, c3, hj, rfl, rfl, HE, HS, hol, hO, hkr⟩ := hrel
    by_cases hlt : j < R.length
    · have g : (j : Int) < (R.length : Nat) := by omega
      obtain ⟨b, o, rfl⟩ := h.reads.there (by omega)
      have c0 := Rows2.c (h.non hkr).reads hlt
      have hX := (h.non hkr).each R[j] (List.getElem_mem hlt)
      have hl1 := HR.out R[j] (List.getElem_mem hlt)
      have HN := Lib.hid (ends_snoc hlt)
      generalize R[j] = r at *
      obtain ⟨⟨ra, rn, rc⟩, rl⟩ := r
      simp only at c0 hX hl1 HN
      obtain rfl := hX.len
      have hXc := hX.cap
      have hXm := hX.max
      go_wp2_with fail
      go_loopw [3, 16] (fun v3 v16 wx => ∃ (k : Nat) (out' : List Int) (a4 : Option Addr) (c4 : Nat), k ≤ rl.length ∧ v16 = .int .i64 k ∧ v3 = .slice a4 out'.length c4 ∧ Hid (out' = (rl.take k).foldl estep out) ∧ Hid (RiseI out') ∧ out'.length ≤ 2000 * j + 2 * k ∧ OwnI wx w.heap.size a4 out'.length c4 out' ∧ Kp Non w wx ∧ Kp Non wr wx) (fun _ v16 _ => rl.length - (intOf v16).toNat)
      case atStart => exact ⟨0, out, a3, c3, by omega, rfl, rfl, Lib.hid rfl, HS, by omega, hO, hkr, Kp.refl _ _⟩
      case round =>
        obtain ⟨k, out', a4, c4, hk, rfl, rfl, HF, HS', hol', hO', hkx, hrx⟩ := hrel
        by_cases hlk : k < rl.length
        · have g2 : (k : Int) < (rl.length : Nat) := by omega
          obtain ⟨rb, ro, rfl⟩ := hX.there (by omega)
          have d0 := Spans.c0 (hX.non hrx) hlk
          have d1 := Spans.c1 (hX.non hrx) hlk
          have HT := Lib.hid (List.take_succ_eq_append_getElem hlk)
          generalize rl[k] = s at *
          have hkA : Kp Non wr (wr.alloc (.cells #[.int .i64 s.1, .int .i64 s.2] 30)) := (Kp.refl _ wr).alloc _
          have n1 : (wr.alloc (.cells #[.int .i64 s.1, .int .i64 s.2] 30)).cell? ⟨wr.heap.size, 1, none⟩ = some (.int .i64 s.2) := (cell_new (w := wr) (cur := #[.int .i64 s.1, .int .i64 s.2]) (e := 30) (fr := (0, 0)) rfl 1)
          by_cases hs : s.1 < s.2
          · have HX : Hid (estep out' s = rinL (rinL out' s.1) s.2) := Lib.hid (if_pos hs)
            go_wp2_with fail
            refine (rin_calls w.heap.size a4 out'.length c4 out' s.1 _ (hO'.non hkA) (Nat.le_trans hkx.size hkA.size) HS'.out (by omega)).mono ?_
            rintro e w6 ⟨a6, c6, rfl, hO6, hk6⟩
            have n2 := hk6.cell n1 (fun f => f)
            have hl6 := rinL_len out' s.1
            have hK6 : Kp Non wr w6 := hkA.trans hk6
            have HS6 := Lib.hid (rinL_rise HS'.out s.1)
            go_wp2_with fail
            refine (rin_calls w.heap.size a6 (rinL out' s.1).length c6 (rinL out' s.1) s.2 _ hO6 (Nat.le_trans hkx.size hK6.size) HS6.out (by omega)).mono ?_
            rintro e w7 ⟨a7, c7, rfl, hO7, hk7⟩
            have hl7 := rinL_len (rinL out' s.1) s.2
            have HS7 := Lib.hid (rinL_rise HS6.out s.2)
            have hK7 : Kp Non wr w7 := hK6.trans hk7
            go_wp2_with fail
            go_roundw
            case rel =>
              refine ⟨k + 1, _, a7, c7, by omega, by go_num, rfl, Lib.hid ?_, HS7, by omega, hO7, hkx.trans hK7, hrx.trans hK7⟩
              rw [HT.out, List.foldl_append, ← HF.out]
              exact HX.out.symm
            case measure => simp [intOf]; omega
          · have HX : Hid (estep out' s = out') := Lib.hid (if_neg hs)
            have hd : decide (s.1 < s.2) = false := by simp; omega
            go_wp2_with fail
            go_roundw
            case rel =>
              refine ⟨k + 1, _, a4, c4, by omega, by go_num, rfl, Lib.hid ?_, HS', by omega, hO'.non hkA, hkx.trans hkA, hrx.trans hkA⟩
              rw [HT.out, List.foldl_append, ← HF.out]
              exact HX.out.symm
            case measure => simp [intOf]; omega
        · obtain rfl : k = rl.length := by omega
          go_wp2_with fail
          go_roundw
          case rel =>
            refine ⟨j + 1, _, a4, c4, by omega, by go_num, rfl, Lib.hid ?_, HS', by omega, hO', hkx⟩
            rw [HN.out, ← HE.out, HF.out, List.take_of_length_le (Nat.le_refl _)]
          case measure => simp [intOf]; omega
    · obtain rfl : j = R.length := by omega
      go_wp2_with fail
      go_ret
      refine ⟨a3, c3, ?_, ?_, hkr⟩
      · rw [HE.out, List.take_of_length_le (Nat.le_refl _)]; rfl
      · have := hO
        rw [HE.out, List.take_of_length_le (Nat.le_refl _)] at this
        exact this
end Go.Proofs.Ytkgjpmgoapfamaa
