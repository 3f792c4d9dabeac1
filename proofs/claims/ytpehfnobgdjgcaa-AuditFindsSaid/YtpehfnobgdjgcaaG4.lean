/-
  The same command? The document's.
-/
import Derived.Test.YtpehfnobgdjgcaaG3
namespace Go.Proofs.Ytpehfnobgdjgcaa
open Go.RowKit

set_option maxRecDepth 100000 in
set_option maxHeartbeats 1000000 in
theorem sameCmd_calls (x y : CmdV) (w : World) (hx : x.da.there w) (hy : y.da.there w) : Calls Try.prog 35 #[valCmd x, valCmd y] w (BoolOut (sameC x y) w) := by
  obtain ⟨op, cl, sq, fr, en, ⟨a, n, c, l⟩⟩ := x
  obtain ⟨op', cl', sq', fr', en', ⟨a', n', c', l'⟩⟩ := y
  obtain rfl : n = l.length := hx.len
  obtain rfl : n' = l'.length := hy.len
  have hS : Texts w a l.length c l := hx
  have hT : Texts w a' l'.length c' l' := hy
  clear hx hy
  obtain ⟨hx, hy, hk⟩ := boxC2 w ⟨op, cl, sq, fr, en, ⟨a, l.length, c, l⟩⟩ ⟨op', cl', sq', fr', en', ⟨a', l'.length, c', l'⟩⟩
  simp only [Tx.v] at hx hy hk
  have HS : Hid (sameC ⟨op, cl, sq, fr, en, ⟨a, l.length, c, l⟩⟩ ⟨op', cl', sq', fr', en', ⟨a', l'.length, c', l'⟩⟩ = ((op == op') && (cl == cl') && (sq == sq') && (fr == fr') && (en == en') && decide (l = l'))) := Lib.hid rfl
  show Calls Try.prog 35 #[.agg #[.int .i64 op, .int .i64 cl, .int .i64 sq, .int .i64 fr, .int .i64 en, .slice a l.length c], .agg #[.int .i64 op', .int .i64 cl', .int .i64 sq', .int .i64 fr', .int .i64 en', .slice a' l'.length c']] w _
  generalize sameC ⟨op, cl, sq, fr, en, ⟨a, l.length, c, l⟩⟩ ⟨op', cl', sq', fr', en', ⟨a', l'.length, c', l'⟩⟩ = sb at *
  go_enter Try.func35, Try.ntmps35
  go_upto_region 1 with (fail)
  generalize (w.alloc (.cells #[.int .i64 op, .int .i64 cl, .int .i64 sq, .int .i64 fr, .int .i64 en, .slice a l.length c] 57)).alloc (.cells #[.int .i64 op', .int .i64 cl', .int .i64 sq', .int .i64 fr', .int .i64 en', .slice a' l'.length c'] 57) = W at *
  have x0 := BoxC.c0 hx
  have x1 := BoxC.c1 hx
  have x2 := BoxC.c2 hx
  have x3 := BoxC.c3 hx
  have x4 := BoxC.c4 hx
  have x5 : W.cell? ⟨w.heap.size, 5, none⟩ = some (.slice a l.length c) := BoxC.c5 hx
  have y0 := BoxC.c0 hy
  have y1 := BoxC.c1 hy
  have y2 := BoxC.c2 hy
  have y3 := BoxC.c3 hy
  have y4 := BoxC.c4 hy
  have y5 : W.cell? ⟨w.heap.size + 1, 5, none⟩ = some (.slice a' l'.length c') := BoxC.c5 hy
  have hc := hS.cap
  have hm := hS.max
  have hc' := hT.cap
  have hm' := hT.max
  have hS := hS.non hk
  have hT := hT.non hk
  generalize w.heap.size = bs at *
  clear hx hy
  generalize e1 : (op == op') = p1 at HS ⊢
  generalize e2 : (cl == cl') = p2 at HS ⊢
  generalize e3 : (sq == sq') = p3 at HS ⊢
  generalize e4 : (fr == fr') = p4 at HS ⊢
  generalize e5 : (en == en') = p5 at HS ⊢
  have f1 : (op != op') = !p1 := by rw [← e1]; rfl
  have f2 : (cl != cl') = !p2 := by rw [← e2]; rfl
  have f3 : (sq != sq') = !p3 := by rw [← e3]; rfl
  have f4 : (fr != fr') = !p4 := by rw [← e4]; rfl
  have f5 : (en != en') = !p5 := by rw [← e5]; rfl
  clear e1 e2 e3 e4 e5
  rcases p1 with _ | _
  · go_wp2_with fail
    go_ret
    exact ⟨ret_bool (by rw [HS.out]; simp), hk⟩
  rcases p2 with _ | _
  · go_wp2_with fail
    go_ret
    exact ⟨ret_bool (by rw [HS.out]; simp), hk⟩
  rcases p3 with _ | _
  · go_wp2_with fail
    go_ret
    exact ⟨ret_bool (by rw [HS.out]; simp), hk⟩
  rcases p4 with _ | _
  · go_wp2_with fail
    go_ret
    exact ⟨ret_bool (by rw [HS.out]; simp), hk⟩
  rcases p5 with _ | _
  · go_wp2_with fail
    go_ret
    exact ⟨ret_bool (by rw [HS.out]; simp), hk⟩
  by_cases hl : l.length = l'.length
  · have HL := Lib.hid hl
    have e0 : ((l.length : Int) != (l'.length : Int)) = false := by simp [hl]
    clear hl
    go_wp2_with fail
    go_loopw [51] (fun v51 wr => ∃ k : Nat, k ≤ l.length ∧ v51 = .int .i64 k ∧ Hid (l.take k = l'.take k) ∧ Kp Non W wr) (fun v51 _ => l.length - (intOf v51).toNat)
    case atStart => exact ⟨0, by omega, rfl, Lib.hid (by simp), Kp.refl _ _⟩
    case round =>
      obtain ⟨k, hk', rfl, hall, hkr⟩ := hrel
      have x5 := hkr.cell x5 (fun f => f)
      have y5 := hkr.cell y5 (fun f => f)
      by_cases hlt : k < l.length
      · have g : (k : Int) < (l.length : Nat) := by omega
        have g' : (k : Int) < (l'.length : Nat) := by have := HL.out; omega
        have hlt' : k < l'.length := by rw [← HL.out]; exact hlt
        obtain ⟨b, o, rfl⟩ := hS.there (by omega)
        obtain ⟨b', o', rfl⟩ := hT.there (by have := HL.out; omega)
        have c0 := Texts.c (hS.non hkr) hlt
        have d0 := Texts.c (hT.non hkr) hlt'
        have HT := Lib.hid (fun (he : l[k] = l'[k]) => (show l.take (k + 1) = l'.take (k + 1) by rw [List.take_succ_eq_append_getElem hlt, List.take_succ_eq_append_getElem hlt', hall.out, he]))
        have HN := Lib.hid (fun (e : l = l') => (by subst e; rfl : l[k] = l'[k]))
        generalize l[k] = s at *
        generalize l'[k] = t at *
        by_cases he : s = t
        · have hb : (s.toList == t.toList) = true := by rw [he]; exact beq_self_eq_true _
          have HE := Lib.hid (HT.out he)
          clear he HT HN
          go_wp2_with fail
          go_quiet (fail)
          go_wp2_with fail
          go_roundw
          case rel => exact ⟨k + 1, by omega, by go_num, HE, hkr.drewN _⟩
          case measure => simp [intOf]; omega
        · have hb : (s.toList == t.toList) = false := (Lib.bytes_beq_false_iff _ _).2 he
          have HD : Hid (decide (l = l') = false) := Lib.hid (decide_eq_false fun e => he (HN.out e))
          clear he HT HN
          go_wp2_with fail
          go_quiet (fail)
          go_wp2_with fail
          go_ret
          exact ⟨ret_bool (by rw [HS.out, HD.out]; simp), hk.trans (hkr.drewN _)⟩
      · obtain rfl : k = l.length := by omega
        have hd : decide (l = l') = true := decide_eq_true (by
          have := hall.out
          rwa [List.take_of_length_le (Nat.le_refl _), List.take_of_length_le (by rw [HL.out]; exact Nat.le_refl _)] at this)
        have HD := Lib.hid hd
        clear hd
        go_wp2_with fail
        go_ret
        exact ⟨ret_bool (by rw [HS.out, HD.out]; simp), hk.trans hkr⟩
  · have e0 : ((l.length : Int) != (l'.length : Int)) = true := by simp; omega
    have HD : Hid (decide (l = l') = false) := Lib.hid (decide_eq_false fun e => hl (by rw [e]))
    clear hl
    go_wp2_with fail
    go_ret
    exact ⟨ret_bool (by rw [HS.out, HD.out]; simp), hk⟩
end Go.Proofs.Ytpehfnobgdjgcaa
