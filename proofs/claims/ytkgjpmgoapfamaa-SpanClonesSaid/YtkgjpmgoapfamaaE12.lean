/-
  Pieces.
-/
import Derived.Test.YtkgjpmgoapfamaaE7
import Derived.Test.YtkgjpmgoapfamaaA4
import Derived.Laws.Bits64
namespace Go.Proofs.Ytkgjpmgoapfamaa
open Go.RowKit

def piecesL (s : Sp) (m : Int) : List Sp := if m < 1 then [] else if s.2 ≤ s.1 then [] else if pn s m ≤ 4096 then pcs s m (pn s m) else []

set_option maxRecDepth 100000 in
set_option maxHeartbeats 1000000 in
theorem pieces_calls (s : Sp) (m : Int) (w : World) (hs1 : -9223372036854775808 ≤ s.1) (hs2 : s.2 ≤ 9223372036854775807) (hm2 : m ≤ 9223372036854775807) : Calls Try.prog 43 #[valS s, .int .i64 m] w (SpansOut (piecesL s m) w) := by
  have hb0 := BoxS.new w s
  have hkb : Kp Non w (w.alloc (.cells #[.int .i64 s.1, .int .i64 s.2] 30)) := (Kp.refl _ _).alloc _
  by_cases hm : m < 1
  · have HP : Hid (piecesL s m = []) := Lib.hid (if_pos hm)
    go_enter Try.func43, Try.ntmps43
    go_wp2_with fail
    go_ret
    rw [HP.out]
    exact ⟨none, 0, rfl, OwnR.nil _ _ _, hkb⟩
  · have hd : decide (m < 1) = false := decide_eq_false hm
    by_cases hs : s.2 ≤ s.1
    · have HP : Hid (piecesL s m = []) := Lib.hid (by unfold piecesL; rw [if_neg hm, if_pos hs])
      have HE := Lib.hid (empty_calls s (w.alloc (.cells #[.int .i64 s.1, .int .i64 s.2] 30)))
      rw [full_no hs] at HE
      simp only [Bool.not_false] at HE
      clear hm hs
      go_enter Try.func43, Try.ntmps43
      go_wp2_with fail
      go_loopw [4, 5] (fun v4 _ wr => v4 = .slice none 0 0 ∧ w.alloc (.cells #[.int .i64 s.1, .int .i64 s.2] 30) = wr) (fun _ _ _ => 0)
      case atStart => exact ⟨rfl, rfl⟩
      case round =>
        obtain ⟨rfl, rfl⟩ := hrel
        go_wp2_with fail
        refine HE.out.mono ?_
        rintro e w1 ⟨rfl, hk1⟩
        go_wp2_with fail
        go_ret
        rw [HP.out]
        exact ⟨none, 0, rfl, OwnR.nil _ _ _, hkb.trans hk1⟩
    · have hm1 : 1 ≤ m := by omega
      have hlt : s.1 < s.2 := by omega
      have HP : Hid (piecesL s m = if pn s m ≤ 4096 then pcs s m (pn s m) else []) := Lib.hid (by unfold piecesL; rw [if_neg hm, if_neg hs])
      have HZ := Lib.hid (cp_zero hlt m)
      have HL := Lib.hid (fun i (h : i < pn s m) => cp_lt (s := s) hm1 hlt h)
      have HEn := Lib.hid (fun i (h : pn s m ≤ i) => cp_end (s := s) hm1 hlt h)
      have HSt := Lib.hid (fun i (h : i < pn s m) => cp_step (s := s) hm1 hlt h)
      obtain ⟨i0, hi0, hz0, hz1, hz2⟩ := info_parts infoS
      have hbl := hb0.lt
      have hbw : w.heap.size ≤ w.heap.size := Nat.le_refl _
      clear hs hm
      go_enter Try.func43, Try.ntmps43
      go_wp2_with fail
      go_loopw [4, 5] (fun v4 _ wr => ∃ (i : Nat) (a4 : Option Addr) (c4 : Nat), i ≤ pn s m ∧ i ≤ 4096 ∧ v4 = .slice a4 i c4 ∧ BoxS wr w.heap.size (cp s m i, s.2) ∧ OwnS wr (w.heap.size + 1) a4 i c4 (pcs s m i) ∧ Kp Non w wr) (fun v4 _ _ => 5000 - (match v4 with | .slice _ n _ => n | _ => 0))
      case atStart => exact ⟨0, none, 0, by omega, by omega, rfl, by rw [HZ.out]; exact hb0, OwnR.nil _ _ _, hkb⟩
      case round =>
        obtain ⟨i, a4, c4, hi, hi4, rfl, hbx, hO, hkr⟩ := hrel
        have x0 := hbx.c0
        have x1 := hbx.c1
        have HE := Lib.hid (empty_calls (cp s m i, s.2) wr)
        have hbxl := hbx.lt
        have hfx := hbx.fz 0
        by_cases hin : i < pn s m
        · obtain ⟨k1, k2, k3⟩ := HL.out i hin
          have HS := Lib.hid (HSt.out i hin)
          have HPS := Lib.hid (pcs_snoc s m i)
          rw [full_yes k1] at HE
          simp only [Bool.not_true] at HE
          generalize cp s m i = c at *
          go_wp2_with fail
          refine HE.out.mono ?_
          rintro e w1 ⟨rfl, hk1⟩
          have hbx1 := hbx.non hk1
          have x0 := hbx1.c0
          have x1 := hbx1.c1
          have hO1 := hO.non hk1
          have hkw := hkr.trans hk1
          by_cases h4 : i = 4096
          · have HP2 : Hid (piecesL s m = []) := Lib.hid (by rw [HP.out, if_neg (by omega)])
            subst h4
            go_wp2_with fail
            go_ret
            rw [HP2.out]
            exact ⟨none, 0, rfl, OwnR.nil _ _ _, hkw⟩
          · have hne : ¬ ((i : Int) = 4096) := by omega
            have hw1 : IntKind.u64.wrap (IntKind.u64.wrap s.2 - IntKind.u64.wrap c) = s.2 - c := by simp only [IntKind.wrap_u64]; omega
            have hnb : ¬ Blk a4 w.heap.size := fun z => by have := (hO1.blk _ z).1; omega
            have hw2 : IntKind.u64.wrap m = m := by rw [IntKind.wrap_u64]; omega
            by_cases hgt : m < s.2 - c
            · have hw3 : IntKind.i64.wrap (c + m) = c + m := by rw [IntKind.wrap_i64]; omega
              have HX : Hid (cp s m (i + 1) = c + m) := Lib.hid (by rw [HS.out, if_pos hgt])
              go_wp2_with (at_builtin; refine wpList_append_row rfl _ _ 22 rfl (w.heap.size + 1) 30 i0 _ 16 Try.underlying22 hi0 hz0 hz1 hz2 rfl (by decide) encS_len encS_one a4 i c4 (pcs s m i) rfl (hO1.non ((Kp.refl _ _).alloc _)) _ 1 1 [(c, c + m)] rfl (Reads.new rfl rfl) (by omega) (by omega) ?_ ?_; exact Nat.le_trans (Nat.le_trans hbxl hk1.size) (by simp); intro a6 c6 w6 hO6 hq6 _; have hk6 : Kp (Blk a4) w1 w6 := ((Kp.refl _ _).alloc _).comp hq6 (fun _ _ f => f) (fun _ _ z => z); have hbx6 := hbx1.kp hk6 hnb; have z0 := hbx6.c0; have f6 := hbx6.fz 0)
              have hkw6 : Kp Non w w6 := hkw.comp hk6 (fun _ _ f => f) (fun j hj z => by have := (hO1.blk j z).1; omega)
              go_roundw
              case rel =>
                refine ⟨i + 1, a6, c6, by omega, by omega, rfl, ?_, ?_, (hkw6.setCell (p := ⟨w.heap.size, 0, none⟩) (.inr (Nat.le_refl _)) _)⟩
                · have := hbx6.set (c + m)
                  rw [HX.out]
                  exact this
                · rw [HPS.out, HX.out]
                  refine OwnR.kp (by simpa using hO6) ((Kp.refl (One w.heap.size) w6).setCell (p := ⟨w.heap.size, 0, none⟩) (.inl rfl) _) (fun j z e => ?_)
                  have h7 := (hO6.blk j z).1
                  have e : j = w.heap.size := e
                  omega
              case measure => simp; omega
            · have HX : Hid (cp s m (i + 1) = s.2) := Lib.hid (by rw [HS.out, if_neg hgt])
              have hdg : decide (m < s.2 - c) = false := decide_eq_false hgt
              go_wp2_with (at_builtin; refine wpList_append_row rfl _ _ 22 rfl (w.heap.size + 1) 30 i0 _ 16 Try.underlying22 hi0 hz0 hz1 hz2 rfl (by decide) encS_len encS_one a4 i c4 (pcs s m i) rfl (hO1.non ((Kp.refl _ _).alloc _)) _ 1 1 [(c, s.2)] rfl (Reads.new rfl rfl) (by omega) (by omega) ?_ ?_; exact Nat.le_trans (Nat.le_trans hbxl hk1.size) (by simp); intro a6 c6 w6 hO6 hq6 _; have hk6 : Kp (Blk a4) w1 w6 := ((Kp.refl _ _).alloc _).comp hq6 (fun _ _ f => f) (fun _ _ z => z); have hbx6 := hbx1.kp hk6 hnb; have z0 := hbx6.c0; have f6 := hbx6.fz 0)
              have hkw6 : Kp Non w w6 := hkw.comp hk6 (fun _ _ f => f) (fun j hj z => by have := (hO1.blk j z).1; omega)
              go_roundw
              case rel =>
                refine ⟨i + 1, a6, c6, by omega, by omega, rfl, ?_, ?_, (hkw6.setCell (p := ⟨w.heap.size, 0, none⟩) (.inr (Nat.le_refl _)) _)⟩
                · have := hbx6.set (s.2)
                  rw [HX.out]
                  exact this
                · rw [HPS.out, HX.out]
                  refine OwnR.kp (by simpa using hO6) ((Kp.refl (One w.heap.size) w6).setCell (p := ⟨w.heap.size, 0, none⟩) (.inl rfl) _) (fun j z e => ?_)
                  have h7 := (hO6.blk j z).1
                  have e : j = w.heap.size := e
                  omega
              case measure => simp; omega
        · obtain rfl : i = pn s m := by omega
          have k1 := HEn.out _ (Nat.le_refl _)
          rw [k1] at HE x0 hbx
          rw [full_no (Int.le_refl _)] at HE
          simp only [Bool.not_false] at HE
          have HP2 : Hid (piecesL s m = pcs s m (pn s m)) := Lib.hid (by rw [HP.out, if_pos hi4])
          have hpl := pcs_len s m (pn s m)
          have HPL := Lib.hid hpl
          clear hpl
          generalize pn s m = K at *
          go_wp2_with fail
          refine HE.out.mono ?_
          rintro e w1 ⟨rfl, hk1⟩
          go_wp2_with fail
          go_ret
          rw [HP2.out]
          have hO1 := (hO.non hk1).lower (Nat.le_succ _)
          exact ⟨a4, c4, by rw [HPL.out]; rfl, by rw [HPL.out]; exact hO1, hkr.trans hk1⟩
end Go.Proofs.Ytkgjpmgoapfamaa
