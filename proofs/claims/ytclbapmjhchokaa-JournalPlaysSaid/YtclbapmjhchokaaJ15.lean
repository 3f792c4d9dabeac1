/-
  The document's example of a journal.
-/
import Derived.Test.YtclbapmjhchokaaJ14
namespace Go.Proofs.Ytclbapmjhchokaa
open Go.RowKit

def la : List UInt8 := [97]
def lb : List UInt8 := [98, 98]
def ls : List UInt8 := [115]
def u0 : St := St.new 10
def u1 : St := { u0 with image := frame ls }
def u2 : St := { u1 with log := frame la }
def u3 : St := { u2 with sure := 9 }
def u4 : St := { u3 with log := frame la ++ frame lb }
def u5 : St := u4.crash 3
def v1 : JSt := ⟨ls, [], false⟩
def v2 : JSt := ⟨ls, [la], false⟩
def v4 : JSt := ⟨ls, [la, lb], false⟩
theorem la_len : (frame la).length = 9 := frame_len la
theorem lb_len : (frame lb).length = 10 := frame_len lb
theorem ls_len : (frame ls).length = 9 := frame_len ls
theorem u0_ok : u0.ok := St.new_ok 10 (by omega) (by omega)
theorem lw1 : jswap u0 ls = (0, u1) := jswap_fits rfl rfl (by simp [ls]) (by decide)
theorem lw2 : jadd u1 v1 la = (0, u2, v2) := jadd_fits rfl rfl rfl (by simp [la]) (by simp only [u1, u0, St.new, ls_len]; decide)
theorem lw3 : jsync u2 v2 = (0, u3, v2) := by
  rw [jsync_on (s := u2) (J := v2) rfl rfl rfl]
  simp only [u2, la_len, u3]
  rfl
theorem lw4 : jadd u3 v2 lb = (0, u4, v4) := jadd_fits rfl rfl rfl (by simp [lb]) (by simp only [u3, u2, u1, u0, St.new, ls_len, la_len]; decide)
theorem lw5 : u5 = { u4 with log := frames [la] ++ (frame lb).take 3, sure := 12 } := by
  unfold u5 St.crash St.stays
  have h1 : (u4.log.length : Int) = 19 := by simp [u4, la_len, lb_len]
  have h2 : u4.sure = 9 := rfl
  rw [h1, h2]
  have h3 : u4.log.take ((9 : Int) + max 0 (min 3 (19 - 9))).toNat = frames [la] ++ (frame lb).take 3 := by
    show (frame la ++ frame lb).take 12 = _
    rw [List.take_append, la_len, List.take_of_length_le (by rw [la_len]; omega)]
    simp [frames]
  rw [h3]
  rfl
def u6 : St := { u4 with log := frame la, sure := 9 }
theorem lw6 : jopen u5 = (0, u6, v2) := by
  have hp := unf_piece (l := lb) (p := (frame lb).take 3) (by simp [lb]) (List.take_prefix _ _) (by rw [List.length_take, lb_len]; simp [lb])
  have hl : ((frame lb).take 3).length = 3 := by rw [List.length_take, lb_len]; rfl
  rw [jopen_frames (s := u5) (img := ls) (p := (frame lb).take 3) (rs := [la]) (by rw [lw5]; rfl) (by rw [lw5]; rfl) (by rw [lw5]; rfl) (by simp [ls]) (by rw [lw5]) (by simp [la]) hp, if_neg (by omega), lw5]
  simp [u6, u4, frames, sizes, la, v2]
  rfl
theorem u1_ok : u1.ok := by have := jswap_ok u0_ok ls; rw [lw1] at this; exact this
theorem japp_ok {s : St} (h : s.ok) (r : List UInt8) : (japp s r).2.ok := by
  unfold japp
  split
  · exact h
  · exact h.append _
theorem jadd_ok {s : St} (h : s.ok) (J : JSt) (r : List UInt8) : (jadd s J r).2.1.ok := by
  unfold jadd
  split
  · exact h
  · exact japp_ok h r
theorem jsync_ok {s : St} (h : s.ok) (J : JSt) : (jsync s J).2.1.ok := by
  unfold jsync
  split
  · exact h
  · exact h.sync
theorem jsave_ok {s : St} (h : s.ok) (J : JSt) (b : List UInt8) : (jsave s J b).2.1.ok := by
  unfold jsave
  split
  · exact h
  · exact jswap_ok h b
theorem jopen_ok {s : St} (h : s.ok) : (jopen s).2.1.ok := by
  unfold jopen
  simp only
  split
  · exact h
  · split
    · exact h
    · split
      · exact h
      · split
        · exact h.cut _
        · exact h
theorem u2_ok : u2.ok := by have := jadd_ok u1_ok v1 la; rw [lw2] at this; exact this
theorem u3_ok : u3.ok := by have := jsync_ok u2_ok v2; rw [lw3] at this; exact this
theorem u4_ok : u4.ok := by have := jadd_ok u3_ok v2 lb; rw [lw4] at this; exact this
theorem u5_ok : u5.ok := u4_ok.crash 3

set_option maxRecDepth 100000 in
set_option maxHeartbeats 4000000 in
theorem jlives_true (w : World) : Calls Try.prog 45 #[] w (TruePost w) := by
  have hsame := fun (w : World) (C : Array Value) (n c : Nat) => Lib.run_convert_bytes_const (P := Try.prog) w 22 5 C n c Try.underlying22 Try.underlying5
  go_enter Try.func45, Try.ntmps45
  go_wp2_with fail
  refine (new_calls 10 w (by omega) (by omega)).mono ?_
  rintro e w1 ⟨rfl, hd1, hk1⟩
  generalize hn1 : w.heap.size = d at *
  have hdw : w.heap.size ≤ d := by omega
  go_wp2_with fail
  have hkA : Kp Non w1 (w1.alloc (.cells #[.int .u8 115] 5 (1, 2))) := (Kp.refl _ _).alloc _
  refine (format_calls d d u0 _ 1 1 ls _ (hd1.non hkA) u0_ok (Bytes.ofCells (heap_alloc_new w1 _) rfl rfl (Nat.le_refl _) (by omega)) (by omega) (fun f => f) (Nat.le_refl _) (by have := hd1.lt; have := hkA.size; omega)).mono ?_
  rw [lw1]
  rintro e w2 ⟨hd2, hk2, hf⟩
  rw [if_pos rfl] at hf
  obtain ⟨j, rfl, hJ2, hjw⟩ := hf
  replace hk2 := Kp.dev (hk1.trans hkA) hdw hk2
  clear hk1 hkA hd1 hd2 hjw
  replace hJ2 : Jou Non d w2 j d u1 v1 none := hJ2
  have hdd := hk2.size
  go_wp2_with fail
  have hkA : Kp Non w2 (w2.alloc (.cells #[.int .u8 97] 5 (1, 2))) := (Kp.refl _ _).alloc _
  refine (jadd_calls (hJ2.non hkA) u1_ok _ 1 1 la (Bytes.ofCells (heap_alloc_new w2 _) rfl rfl (Nat.le_refl _) (by omega)) (by simp [v1, sizes])).mono ?_
  rw [lw2]
  rintro e w3 ⟨rfl, ra3, _, hJ3, hk3⟩
  have q3 : Kp Non w w3 := (hk2.trans hkA).comp hk3 (fun _ _ f => f.elim) (fun i hi q => by have := ((hJ2.non hkA).old i q).1; omega)
  clear hk2 hkA hk3 hJ2
  replace hJ3 : Jou Non d w3 j d u2 v2 ra3 := hJ3
  go_wp2_with fail
  refine (jsync_calls hJ3 u2_ok).mono ?_
  rw [lw3]
  rintro e w4 ⟨rfl, ra4, _, hJ4, hk4⟩
  have q4 : Kp Non w w4 := q3.comp hk4 (fun _ _ f => f.elim) (fun i hi q => by have := (hJ3.old i q).1; omega)
  clear q3 hk4 hJ3
  replace hJ4 : Jou Non d w4 j d u3 v2 ra4 := hJ4
  go_wp2_with fail
  have hkA : Kp Non w4 (w4.alloc (.cells #[.int .u8 98, .int .u8 98] 5 (2, 3))) := (Kp.refl _ _).alloc _
  refine (jadd_calls (hJ4.non hkA) u3_ok _ 2 2 lb (Bytes.ofCells (heap_alloc_new w4 _) rfl rfl (Nat.le_refl _) (by omega)) (by simp [v2, sizes, la])).mono ?_
  rw [lw4]
  rintro e w5 ⟨rfl, ra5, _, hJ5, hk5⟩
  have q5 : Kp Non w w5 := (q4.trans hkA).comp hk5 (fun _ _ f => f.elim) (fun i hi q => by have := ((hJ4.non hkA).old i q).1; omega)
  have hd5 : Dev Non w5 d u4 := hJ5.dev
  clear q4 hkA hk5 hJ4 hJ5
  go_wp2_with fail
  refine (crash_calls d u4 3 _ hd5 u4_ok).mono ?_
  rintro e w6 ⟨rfl, hd6, hk6⟩
  replace hk6 := Kp.dev q5 hdw hk6
  clear q5 hd5
  go_wp2_with fail
  refine (open_calls d d u5 _ hd6 u5_ok (fun f => f) (Nat.le_refl _) (Nat.le_of_lt hd6.lt)).mono ?_
  rw [lw6]
  rintro e w7 ⟨hd7, hk7, hf⟩
  rw [if_pos rfl] at hf
  obtain ⟨j2, ra7, rfl, hJ7, _, _⟩ := hf
  replace hk7 := Kp.dev hk6 hdw hk7
  clear hk6 hd6 hd7
  replace hJ7 : Jou Non d w7 j2 d u6 v2 ra7 := hJ7
  go_wp2_with fail
  refine (jrecords_calls hJ7 (by simp [v2, la]) (by simp [v2])).mono ?_
  rintro e w8 ⟨a8, c8, vs8, rfl, hS8, hR8, _, hk8⟩
  have hJ8 := hJ7.non hk8
  replace hk8 := hk7.trans hk8
  clear hk7 hJ7
  replace hS8 : SRow w8 22 a8 1 c8 vs8 := hS8
  obtain ⟨b8, k8, hv8, hB8, _⟩ := hR8.at_ 0 la rfl
  obtain ⟨g8, rfl, hc8⟩ := hS8.cl hv8
  go_wp2_with fail
  refine (jimage_calls hJ8 (by simp [v2, ls])).mono ?_
  rintro e w9 ⟨a9, c9, rfl, hO9, hk9⟩
  have hJ9 := hJ8.non hk9
  have hB9 := hB8.non hk9
  have hc9 := hk9.cell hc8 (fun f => f)
  have q9 := hk8.trans hk9
  have cv1 := conv_string w9 a9 _ c9 _ hO9.bytes
  have cv2 := conv_string w9 b8 _ k8 _ hB9
  clear hc8 hk8 hk9 hJ8
  go_wp2_with fail
  refine (jsize_calls hJ9).mono ?_
  rw [show sizes v2.recs = 9 from rfl]
  rintro e wA ⟨rfl, rfl⟩
  go_wp2_with fail
  go_ret
  exact ⟨rfl, q9⟩
end Go.Proofs.Ytclbapmjhchokaa
