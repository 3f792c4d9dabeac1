/-
  The document's 'in': a number more, in its place. (Printed by gen_e4.py.)
-/
import Derived.Test.YtkgjpmgoapfamaaE2
import Derived.Test.YtkgjpmgoapfamaaA2
namespace Go.Proofs.Ytkgjpmgoapfamaa
open Go.RowKit

/-- A row of numbers, own from base on, comes out. -/
def IntsOut (base : Nat) (l : List Int) (w : World) (e : Ending) (w' : World) : Prop := ∃ a c, e = .returned (.slice a l.length c) ∧ OwnI w' base a l.length c l ∧ Kp Non w w'

set_option maxRecDepth 100000 in
set_option maxHeartbeats 1000000 in
theorem rin_calls (base : Nat) (a : Option Addr) (n c : Nat) (l : List Int) (x : Int) (w : World) (h : OwnI w base a n c l) (hb : base ≤ w.heap.size) (hr : RiseI l) (hl : n ≤ 1000000000) : Calls Try.prog 69 #[.slice a n c, .int .i64 x] w (IntsOut base (rinL l x) w) := by
  obtain rfl := h.len encI_len (by omega)
  obtain ⟨i0, hi0, hz0, hz1, hz2⟩ := info_parts infoI
  have hRd := h.reads encI_len (by omega)
  have hc := hRd.cap
  have hm := hRd.max
  have HRI := Lib.hid hr
  have HOW := Lib.hid h
  clear hr h
  go_enter Try.func69, Try.ntmps69
  go_wp2_with fail
  go_loopw [5, 6, 11] (fun v5 v6 v11 wr => ∃ (k : Nat) (out : List Int) (lb : Bool) (a5 : Option Addr) (c5 : Nat), k ≤ l.length ∧ v5 = .slice a5 out.length c5 ∧ v6 = .bool lb ∧ v11 = .int .i64 k ∧ Hid (RInv l x k lb out) ∧ OwnI wr w.heap.size a5 out.length c5 out ∧ Kp Non w wr) (fun _ _ v11 _ => l.length - (intOf v11).toNat)
  case atStart => exact ⟨0, [], false, none, 0, by omega, rfl, rfl, rfl, Lib.hid (RInv.start _ _), OwnR.nil _ _ _, Kp.refl _ _⟩
  case round =>
    obtain ⟨k, out, lb, a5, c5, hk, rfl, rfl, rfl, HI, hO, hkr⟩ := hrel
    have hlo := HI.out.len
    by_cases hlt : k < l.length
    · have g : (k : Int) < (l.length : Nat) := by omega
      obtain ⟨b, o, rfl⟩ := hRd.there (by omega)
      have c0 := Ints.c (hRd.non hkr) hlt
      by_cases hx : l[k] = x
      · have HE : Hid (rinL l x = l) := Lib.hid (rinL_there HRI.out (by rw [← hx]; exact List.getElem_mem hlt))
        generalize l[k] = y at *
        subst hx
        go_wp2_with fail
        go_ret
        rw [IntsOut, HE.out]
        exact ⟨_, c, rfl, HOW.out.non hkr, hkr⟩
      · have HL := Lib.hid (fun (h : lb = false) (hn : l[k] < x) => (by subst h; exact HI.out.low hlt hn : RInv l x (k + 1) false (out ++ [l[k]])))
        have HM := Lib.hid (fun (h : lb = false) (hn : x < l[k]) => (by subst h; exact HI.out.mid hlt hn : RInv l x (k + 1) true (out ++ [x] ++ [l[k]])))
        have HT := Lib.hid (fun (h : lb = true) => (by subst h; exact HI.out.more hlt : RInv l x (k + 1) true (out ++ [l[k]])))
        generalize l[k] = y at *
        cases lb with
        | false =>
          by_cases hxy : x < y
          · go_wp2_with (first | (at_builtin; refine wpList_append_row rfl _ _ 37 rfl w.heap.size 3 i0 _ 8 Try.underlying37 hi0 hz0 hz1 hz2 rfl (by decide) encI_len encI_one a5 out.length c5 out rfl (hO.non ((Kp.refl _ _).alloc _)) _ 1 1 [x] rfl (Reads.new rfl rfl) (by omega) (by omega) ?_ ?_; exact Nat.le_trans hkr.size (by simp); intro a6 c6 w6 hO6 hq6 _; have hk6 : Kp Non w w6 := (hkr.alloc _).comp hq6 (fun _ _ f => f) (fun i hi q => by have := (hO.blk i q).1; omega); clear hq6) | (at_builtin; refine wpList_append_row rfl _ _ 37 rfl w.heap.size 3 i0 _ 8 Try.underlying37 hi0 hz0 hz1 hz2 rfl (by decide) encI_len encI_one a6 (out.length + 1) c6 (out ++ [x]) rfl (hO6.non ((Kp.refl _ _).alloc _)) _ 1 1 [y] rfl (Reads.new rfl rfl) (by omega) (by omega) ?_ ?_; exact Nat.le_trans hk6.size (by simp); intro a7 c7 w7 hO7 hq7 _; have hk7 : Kp Non w w7 := (hk6.alloc _).comp hq7 (fun _ _ f => f) (fun i hi q => by have := (hO6.blk i q).1; omega); clear hq7))
            go_roundw
            case rel => exact ⟨k + 1, out ++ [x] ++ [y], true, a7, c7, by omega, by simp, rfl, by go_num, Lib.hid (HM.out rfl hxy), by simpa using hO7, hk7⟩
            case measure => simp [intOf]; omega
          · have hd : decide (x < y) = false := by simp; omega
            go_wp2_with (at_builtin; refine wpList_append_row rfl _ _ 37 rfl w.heap.size 3 i0 _ 8 Try.underlying37 hi0 hz0 hz1 hz2 rfl (by decide) encI_len encI_one a5 out.length c5 out rfl (hO.non ((Kp.refl _ _).alloc _)) _ 1 1 [y] rfl (Reads.new rfl rfl) (by omega) (by omega) ?_ ?_; exact Nat.le_trans hkr.size (by simp); intro a6 c6 w6 hO6 hq6 _; have hk6 : Kp Non w w6 := (hkr.alloc _).comp hq6 (fun _ _ f => f) (fun i hi q => by have := (hO.blk i q).1; omega); clear hq6)
            go_roundw
            case rel => exact ⟨k + 1, out ++ [y], false, a6, c6, by omega, by simp, rfl, by go_num, Lib.hid (HL.out rfl (by omega)), by simpa using hO6, hk6⟩
            case measure => simp [intOf]; omega
        | true =>
          by_cases hxy : x < y
          · go_wp2_with (at_builtin; refine wpList_append_row rfl _ _ 37 rfl w.heap.size 3 i0 _ 8 Try.underlying37 hi0 hz0 hz1 hz2 rfl (by decide) encI_len encI_one a5 out.length c5 out rfl (hO.non ((Kp.refl _ _).alloc _)) _ 1 1 [y] rfl (Reads.new rfl rfl) (by omega) (by omega) ?_ ?_; exact Nat.le_trans hkr.size (by simp); intro a6 c6 w6 hO6 hq6 _; have hk6 : Kp Non w w6 := (hkr.alloc _).comp hq6 (fun _ _ f => f) (fun i hi q => by have := (hO.blk i q).1; omega); clear hq6)
            go_roundw
            case rel => exact ⟨k + 1, out ++ [y], true, a6, c6, by omega, by simp, rfl, by go_num, Lib.hid (HT.out rfl), by simpa using hO6, hk6⟩
            case measure => simp [intOf]; omega
          · have hd : decide (x < y) = false := by simp; omega
            go_wp2_with (at_builtin; refine wpList_append_row rfl _ _ 37 rfl w.heap.size 3 i0 _ 8 Try.underlying37 hi0 hz0 hz1 hz2 rfl (by decide) encI_len encI_one a5 out.length c5 out rfl (hO.non ((Kp.refl _ _).alloc _)) _ 1 1 [y] rfl (Reads.new rfl rfl) (by omega) (by omega) ?_ ?_; exact Nat.le_trans hkr.size (by simp); intro a6 c6 w6 hO6 hq6 _; have hk6 : Kp Non w w6 := (hkr.alloc _).comp hq6 (fun _ _ f => f) (fun i hi q => by have := (hO.blk i q).1; omega); clear hq6)
            go_roundw
            case rel => exact ⟨k + 1, out ++ [y], true, a6, c6, by omega, by simp, rfl, by go_num, Lib.hid (HT.out rfl), by simpa using hO6, hk6⟩
            case measure => simp [intOf]; omega
    · obtain rfl : k = l.length := by omega
      cases lb with
      | false =>
        have HE := Lib.hid HI.out.last
        go_wp2_with (at_builtin; refine wpList_append_row rfl _ _ 37 rfl w.heap.size 3 i0 _ 8 Try.underlying37 hi0 hz0 hz1 hz2 rfl (by decide) encI_len encI_one a5 out.length c5 out rfl (hO.non ((Kp.refl _ _).alloc _)) _ 1 1 [x] rfl (Reads.new rfl rfl) (by omega) (by omega) ?_ ?_; exact Nat.le_trans hkr.size (by simp); intro a6 c6 w6 hO6 hq6 _; have hk6 : Kp Non w w6 := (hkr.alloc _).comp hq6 (fun _ _ f => f) (fun i hi q => by have := (hO.blk i q).1; omega); clear hq6)
        go_ret
        rw [IntsOut, ← HE.out]
        exact ⟨a6, c6, by simp, by simpa using hO6.lower hb, hk6⟩
      | true =>
        have HE := Lib.hid HI.out.done
        go_wp2_with fail
        go_ret
        rw [IntsOut, ← HE.out]
        exact ⟨a5, c5, rfl, hO.lower hb, hkr⟩
end Go.Proofs.Ytkgjpmgoapfamaa
