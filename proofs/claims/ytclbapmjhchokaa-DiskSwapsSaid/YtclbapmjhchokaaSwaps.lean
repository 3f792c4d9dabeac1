/-
  DiskSwaps: an image is exchanged whole, and what was only staged is lost in a crash. For every input.
-/
import Derived.Test.YtclbapmjhchokaaF0
import Derived.Lib.SmallJoins
namespace Go.Proofs.Ytclbapmjhchokaa
open Go.RowKit

namespace Swaps
def q0 : St := St.new 40
def q1 (al : List UInt8) : St := { q0 with stage := al, staged := true }
def q2 (al : List UInt8) : St := { q0 with image := al }
def q3 (al cl : List UInt8) : St := { q0 with image := al, log := cl }
def q4 (al cl : List UInt8) : St := { q0 with image := al, log := cl, sure := cl.length }
def q5 (al bl cl : List UInt8) : St := { q0 with image := al, log := cl, sure := cl.length, stage := bl, staged := true }
def q6 (bl : List UInt8) : St := { q0 with image := bl }

theorem f1 (al : List UInt8) (h : al.length ≤ 3000) : q0.putStage al = (0, q1 al) :=
  stage_fits rfl rfl (by
    have h1 : secs (al.length : Int) ≤ 6 := secs_le _ _ (by omega)
    show secs (al.length : Int) ≤ 40 - secs 0 - secs 0
    rw [secs_zero]; omega)
theorem f2 (al : List UInt8) : (q1 al).commit = (0, q2 al) := commit_on rfl rfl rfl
theorem f3 (al cl : List UInt8) (h : al.length ≤ 3000) (h' : cl.length ≤ 3000) : (q2 al).append cl = (0, q3 al cl) :=
  append_fits rfl rfl (by
    have h1 : secs ((0 : Int) + cl.length) ≤ 6 := secs_le _ _ (by omega)
    have h2 : secs (al.length : Int) ≤ 6 := secs_le _ _ (by omega)
    show secs ((0 : Int) + cl.length) ≤ 40 - secs al.length - secs 0
    rw [secs_zero]; omega)
theorem f4 (al cl : List UInt8) : (q3 al cl).sync = (0, q4 al cl) := sync_on rfl rfl
theorem f5 (al bl cl : List UInt8) (h : al.length ≤ 3000) (hb : bl.length ≤ 3000) (h' : cl.length ≤ 3000) : (q4 al cl).putStage bl = (0, q5 al bl cl) :=
  stage_fits rfl rfl (by
    have h1 : secs (al.length : Int) ≤ 6 := secs_le _ _ (by omega)
    have h2 : secs (bl.length : Int) ≤ 6 := secs_le _ _ (by omega)
    have h3 : secs (cl.length : Int) ≤ 6 := secs_le _ _ (by omega)
    show secs (bl.length : Int) ≤ 40 - secs al.length - secs cl.length
    omega)
theorem f6 (al bl cl : List UInt8) : (q5 al bl cl).commit = (0, q6 bl) := commit_on rfl rfl rfl
theorem f7 (al bl cl : List UInt8) : (q5 al bl cl).crash 0 = q4 al cl := by
  simp only [St.crash, St.stays, q5, q4]
  have e : max (0 : Int) (min 0 ((cl.length : Int) - cl.length)) = 0 := by omega
  rw [e]
  simp
  exact ⟨rfl, rfl, rfl, rfl⟩
theorem f8 (bl : List UInt8) : (q6 bl).crash 5 = q6 bl := rfl
theorem f9 (al cl : List UInt8) : (q4 al cl).commit.1 = 8 := rfl

theorem ok1 (al : List UInt8) (h : al.length ≤ 3000) : (q1 al).ok := by
  have := (St.new_ok 40 (by omega) (by omega)).putStage al
  rw [show St.new 40 = q0 from rfl, f1 al h] at this
  exact this
theorem ok2 (al : List UInt8) (h : al.length ≤ 3000) : (q2 al).ok := by
  have := (ok1 al h).commit
  rw [f2] at this
  exact this
theorem ok3 (al cl : List UInt8) (h : al.length ≤ 3000) (h' : cl.length ≤ 3000) : (q3 al cl).ok := by
  have := (ok2 al h).append cl
  rw [f3 al cl h h'] at this
  exact this
theorem ok4 (al cl : List UInt8) (h : al.length ≤ 3000) (h' : cl.length ≤ 3000) : (q4 al cl).ok := by
  have := (ok3 al cl h h').sync
  rw [f4] at this
  exact this
theorem ok5 (al bl cl : List UInt8) (h : al.length ≤ 3000) (hb : bl.length ≤ 3000) (h' : cl.length ≤ 3000) : (q5 al bl cl).ok := by
  have := (ok4 al cl h h').putStage bl
  rw [f5 al bl cl h hb h'] at this
  exact this
end Swaps

open Swaps in
set_option maxRecDepth 100000 in
set_option maxHeartbeats 4000000 in
theorem swaps_long (aa : Option Addr) (an ac : Nat) (ba : Option Addr) (bn bc : Nat) (ca : Option Addr) (cn cc : Nat) (w : World) (h : 3000 < an ∨ 3000 < bn ∨ 3000 < cn) :
    Calls Try.prog 5 #[.slice aa an ac, .slice ba bn bc, .slice ca cn cc] w (TruePost w) := by
  have HL := Lib.hid (fun W => lives_true W)
  by_cases h1 : 3000 < an
  · have g1 : (3000 : Int) < an := by omega
    clear h h1
    go_enter Try.func5, Try.ntmps5
    go_wp2_with fail
    refine (HL.out _).mono ?_
    rintro e w1 ⟨rfl, hk⟩
    go_wp2_with fail
    go_ret
    exact ⟨rfl, hk⟩
  · have g1 : decide ((3000 : Int) < an) = false := by simp; omega
    by_cases h2 : 3000 < bn
    · have g2 : (3000 : Int) < bn := by omega
      clear h h1 h2
      go_enter Try.func5, Try.ntmps5
      go_wp2_with fail
      refine (HL.out _).mono ?_
      rintro e w1 ⟨rfl, hk⟩
      go_wp2_with fail
      go_ret
      exact ⟨rfl, hk⟩
    · have g2 : decide ((3000 : Int) < bn) = false := by simp; omega
      have g3 : (3000 : Int) < cn := by omega
      clear h h1 h2
      go_enter Try.func5, Try.ntmps5
      go_wp2_with fail
      refine (HL.out _).mono ?_
      rintro e w1 ⟨rfl, hk⟩
      go_wp2_with fail
      go_ret
      exact ⟨rfl, hk⟩

open Swaps in
set_option maxRecDepth 100000 in
set_option maxHeartbeats 8000000 in
theorem swaps_short (aa : Option Addr) (an ac : Nat) (al : List UInt8) (ba : Option Addr) (bn bc : Nat) (bl : List UInt8) (ca : Option Addr) (cn cc : Nat) (cl : List UInt8) (w : World)
    (h1 : an ≤ 3000) (h2 : bn ≤ 3000) (h3 : cn ≤ 3000) (ha : Bytes w aa an ac al) (hb : Bytes w ba bn bc bl) (hc : Bytes w ca cn cc cl) :
    Calls Try.prog 5 #[.slice aa an ac, .slice ba bn bc, .slice ca cn cc] w (TruePost w) := by
  have HL := Lib.hid (fun W => lives_true W)
  have g1 : decide ((3000 : Int) < an) = false := by simp; omega
  have g2 : decide ((3000 : Int) < bn) = false := by simp; omega
  have g3 : decide ((3000 : Int) < cn) = false := by simp; omega
  have hal : al.length ≤ 3000 := by have := ha.len; omega
  have hbl : bl.length ≤ 3000 := by have := hb.len; omega
  have hcl : cl.length ≤ 3000 := by have := hc.len; omega
  have HE1 := Lib.hid (f1 al hal)
  have HE2 := Lib.hid (f2 al)
  have HE3 := Lib.hid (f3 al cl hal hcl)
  have HE4 := Lib.hid (f4 al cl)
  have HE5 := Lib.hid (f5 al bl cl hal hbl hcl)
  have HE6 := Lib.hid (f6 al bl cl)
  have HE7 := Lib.hid (f7 al bl cl)
  have HE8 := Lib.hid (f8 bl)
  have HE9 := Lib.hid (f9 al cl)
  have o1 := ok1 al hal
  have o2 := ok2 al hal
  have o3 := ok3 al cl hal hcl
  have o4 := ok4 al cl hal hcl
  have o5 := ok5 al bl cl hal hbl hcl
  have o6 : (q6 bl).ok := ok2 bl hbl
  go_enter Try.func5, Try.ntmps5
  go_wp2_with fail
  refine (new_calls 40 _ (by omega) (by omega)).mono ?_
  rintro e w1 ⟨rfl, hd1, hk1⟩
  have hdl : w.heap.size ≤ w.heap.size := Nat.le_refl _
  generalize hdd : w.heap.size = d at hd1
  have hdw : w.heap.size ≤ d := by omega
  clear hdd hdl
  go_wp2_with fail
  refine (stage_calls d q0 _ _ _ al _ hd1 (St.new_ok 40 (by omega) (by omega)) (ha.non hk1) (by omega)).mono ?_
  rintro e w2 ⟨rfl, hd2, kw⟩
  rw [HE1.out] at hd2 ⊢
  replace hk1 := Kp.dev hk1 hdw kw
  clear hd1 kw
  go_wp2_with fail
  refine (commit_calls d (q1 al) _ hd2 o1).mono ?_
  rintro e w3 ⟨rfl, hd3, kw⟩
  rw [HE2.out] at hd3 ⊢
  replace hk1 := Kp.dev hk1 hdw kw
  clear hd2 kw
  go_wp2_with fail
  refine (append_calls d (q2 al) _ _ _ cl _ hd3 o2 (hc.non hk1) (by omega)).mono ?_
  rintro e w4 ⟨rfl, hd4, kw⟩
  rw [HE3.out] at hd4 ⊢
  replace hk1 := Kp.dev hk1 hdw kw
  clear hd3 kw
  go_wp2_with fail
  refine (sync_calls d (q3 al cl) _ hd4 o3).mono ?_
  rintro e w5 ⟨rfl, hd5, kw⟩
  rw [HE4.out] at hd5 ⊢
  replace hk1 := Kp.dev hk1 hdw kw
  clear hd4 kw
  go_wp2_with fail
  refine (stage_calls d (q4 al cl) _ _ _ bl _ hd5 o4 (hb.non hk1) (by omega)).mono ?_
  rintro e w6 ⟨rfl, hd6, kw⟩
  rw [HE5.out] at hd6 ⊢
  replace hk1 := Kp.dev hk1 hdw kw
  clear hd5 kw
  go_wp2_with fail
  refine (clone_calls d (q5 al bl cl) _ hd6 o5).mono ?_
  rintro e w7 ⟨x, rfl, hxx, hx7, kw⟩
  have hdx : d ≠ x := by have := hd6.lt; omega
  have hxw : w.heap.size ≤ x := by have := hd6.lt; omega
  replace hd6 := hd6.non kw
  replace hk1 := hk1.trans kw
  clear kw
  go_wp2_with fail
  refine (crash_calls x (q5 al bl cl) 0 _ hx7 o5).mono ?_
  rintro e w8 ⟨rfl, hx8, kw⟩
  rw [HE7.out] at hx8
  have hd8 : Dev w8 d (q5 al bl cl) := by
    obtain ⟨_, _, _, _, _, _, A⟩ := hd6
    obtain ⟨_, _, _, _, _, _, B⟩ := hx7
    exact ⟨_, _, _, _, _, _, A.one B hdx kw⟩
  replace hk1 := Kp.dev hk1 hxw kw
  clear kw hd6 hx7
  go_wp2_with fail
  refine (image_calls x _ _ hx8 o4).mono ?_
  rintro e w9 ⟨kw, he⟩
  rw [show (q4 al cl).off = false from rfl, if_neg (by simp), show (q4 al cl).image = al from rfl] at he
  obtain ⟨xa, xc, rfl, hX⟩ := he
  replace hX := hX.bytes
  replace hk1 := hk1.trans kw
  have hd9 := hd8.non kw
  have hx9 := hx8.non kw
  clear kw hd8 hx8
  go_wp2_with fail
  refine (log_calls x _ _ hx9 o4).mono ?_
  rintro e w10 ⟨kw, he⟩
  rw [show (q4 al cl).off = false from rfl, if_neg (by simp), show (q4 al cl).log = cl from rfl] at he
  obtain ⟨ya, yc, rfl, hY⟩ := he
  replace hY := hY.bytes
  replace hX := hX.non kw
  replace hk1 := hk1.trans kw
  have hd10 := hd9.non kw
  have hx10 := hx9.non kw
  clear kw hd9 hx9
  have v1 := conv_string _ _ _ _ _ hX
  have v2 := conv_string _ _ _ _ _ hY
  have v3 := conv_string _ _ _ _ _ (ha.non hk1)
  have v4 := conv_string _ _ _ _ _ (hc.non hk1)
  go_wp2_with fail
  refine (commit_calls x (q4 al cl) _ hx10 o4).mono ?_
  rintro e w11 ⟨rfl, hx11, kw⟩
  rw [HE9.out]
  have hd11 : Dev w11 d (q5 al bl cl) := by
    obtain ⟨_, _, _, _, _, _, A⟩ := hd10
    obtain ⟨_, _, _, _, _, _, B⟩ := hx10
    exact ⟨_, _, _, _, _, _, A.one B hdx kw⟩
  replace hk1 := Kp.dev hk1 hxw kw
  clear kw v1 v2 v3 v4 hX hY hx10 hx11 hd10
  go_wp2_with fail
  refine (commit_calls d (q5 al bl cl) _ hd11 o5).mono ?_
  rintro e w12 ⟨rfl, hd12, kw⟩
  rw [HE6.out] at hd12 ⊢
  replace hk1 := Kp.dev hk1 hdw kw
  clear hd11 kw
  go_wp2_with fail
  refine (crash_calls d (q6 bl) 5 _ hd12 o6).mono ?_
  rintro e w13 ⟨rfl, hd13, kw⟩
  rw [HE8.out] at hd13
  replace hk1 := Kp.dev hk1 hdw kw
  clear kw hd12
  go_wp2_with fail
  refine (image_calls d _ _ hd13 o6).mono ?_
  rintro e w14 ⟨kw, he⟩
  rw [show (q6 bl).off = false from rfl, if_neg (by simp), show (q6 bl).image = bl from rfl] at he
  obtain ⟨za, zc, rfl, hZ⟩ := he
  replace hZ := hZ.bytes
  replace hk1 := hk1.trans kw
  have hd14 := hd13.non kw
  clear kw hd13
  go_wp2_with fail
  refine (log_calls d _ _ hd14 o6).mono ?_
  rintro e w15 ⟨kw, he⟩
  rw [show (q6 bl).off = false from rfl, if_neg (by simp), show (q6 bl).log = [] from rfl] at he
  obtain ⟨ua, uc, rfl, hU⟩ := he
  replace hZ := hZ.non kw
  replace hk1 := hk1.trans kw
  clear kw hd14 hU
  have v1 := conv_string _ _ _ _ _ hZ
  have v2 := conv_string _ _ _ _ _ (hb.non hk1)
  simp only [List.length_nil]
  go_wp2_with fail
  refine (HL.out _).mono ?_
  rintro e w16 ⟨rfl, hk9⟩
  go_wp2_with fail
  go_ret
  exact ⟨rfl, hk1.trans hk9⟩

theorem swaps_walk (aa : Option Addr) (an ac : Nat) (al : List UInt8) (ba : Option Addr) (bn bc : Nat) (bl : List UInt8) (ca : Option Addr) (cn cc : Nat) (cl : List UInt8) (w : World)
    (ha : Bytes w aa an ac al) (hb : Bytes w ba bn bc bl) (hc : Bytes w ca cn cc cl) :
    Calls Try.prog 5 #[.slice aa an ac, .slice ba bn bc, .slice ca cn cc] w (TruePost w) := by
  by_cases h : 3000 < an ∨ 3000 < bn ∨ 3000 < cn
  · exact swaps_long aa an ac ba bn bc ca cn cc w h
  · exact swaps_short aa an ac al ba bn bc bl ca cn cc cl w (by omega) (by omega) (by omega) ha hb hc

open Go.ChangeShapes Go.WideShapes Go.ChangeAt
set_option maxRecDepth 100000 in
theorem disk_swaps_lifted (os : Os) (started : os.Started) (H : Type) (enc : TypeId × Value → H) :
    ReturnsInHanded {} Try.checked os 5 .any (Rows.diskSwapsSpec.pre6 enc Try.prog Try.f5 Rows.diskSwapsRow.domain false) (Rows.diskSwapsSpec.post enc Try.prog Try.f5 false true false false) := by
  refine returnsInHanded_of_change_sized (C := Try.checked) own started (by kernel_rfl) Try.func5
    (ChangeSpec.witness6 (enc := enc) (C := Try.checked) false ⟨#[], #[.slice none 0 0, .slice none 0 0, .slice none 0 0], []⟩ 8 (by kernel_rfl) (by kernel_rfl) (by kernel_rfl) (by kernel_rfl)) ?_
  intro W base args ds gs before hval0 hW hcnd hsz0 _
  have hval : ∀ (j : Nat) t v, Try.f5.params[j]? = some t → args[j]? = some v → Value.okWide Try.prog W .any base t v := hval0
  have hsz : (DataW.weightsEach Try.prog (Try.f5.params.toList ++ Rows.diskSwapsSpec.plain.varTypes Try.prog) (ds ++ gs)).all (· ≤ reachBytes) = true := hsz0
  have hW' := hW
  obtain ⟨p, q, hA0, hV, rfl, hfz, hnd⟩ := hW
  have hA : DataW.TrodAll enc Try.prog W 0 (fun _ => true) true Try.f5.params.toList args.toList ds p := hA0
  rw [Try.params5] at hA hval hsz
  obtain ⟨v0, vs0, d0, ds0, p0, q0, hargs, rfl, rfl, h0, r0⟩ := trodAll_cons hA
  obtain ⟨v1, vs1, d1, ds1, p1, q1, rfl, rfl, rfl, h1, r1⟩ := trodAll_cons r0
  obtain ⟨v2, vs2, d2, ds2, p2, q2, rfl, rfl, rfl, h2, r2⟩ := trodAll_cons r1
  obtain ⟨rfl, rfl, rfl⟩ := trodAll_nil r2
  obtain rfl : args = #[v0, v1, v2] := by cases args; simp_all
  obtain ⟨rfl, rfl⟩ := trodVars_none hV
  have lt0 : ∀ x ∈ p0, x.block < W.heap.size := by obtain ⟨m, hm⟩ := h0; exact DataW.trod_lt m _ _ _ hm
  have k0 := h0
  obtain ⟨a0, n0, c0, rfl⟩ := okWide_slice Try.underlying22 (hval 0 22 v0 rfl rfl)
  obtain ⟨l0, b0⟩ := bytes_in h0
  have lt1 : ∀ x ∈ p1, x.block < W.heap.size := by obtain ⟨m, hm⟩ := h1; exact DataW.trod_lt m _ _ _ hm
  have k1 := h1
  obtain ⟨a1, n1, c1, rfl⟩ := okWide_slice Try.underlying22 (hval 1 22 v1 rfl rfl)
  obtain ⟨l1, b1⟩ := bytes_in h1
  have lt2 : ∀ x ∈ p2, x.block < W.heap.size := by obtain ⟨m, hm⟩ := h2; exact DataW.trod_lt m _ _ _ hm
  have k2 := h2
  obtain ⟨a2, n2, c2, rfl⟩ := okWide_slice Try.underlying22 (hval 2 22 v2 rfl rfl)
  obtain ⟨l2, b2⟩ := bytes_in h2
  clear hA0 hval0 hsz0
  refine (swaps_walk a0 n0 c0 l0 a1 n1 c1 l1 a2 n2 c2 l2 W b0 b1 b2).mono fun e W' ⟨he, hk⟩ => ?_
  have bel := hk.below
  subst he
  exact ⟨_, rfl, _, _, _, [], _, [], hW', trodAll_mk1 (shut_bool Try.underlying4 _), (trodAll_cons_mk (Below.trod laidOut (by kernel_rfl) (of_decide_eq_true (by kernel_rfl)) k0 bel lt0)
    (trodAll_cons_mk (Below.trod laidOut (by kernel_rfl) (of_decide_eq_true (by kernel_rfl)) k1 bel lt1)
    (trodAll_cons_mk (Below.trod laidOut (by kernel_rfl) (of_decide_eq_true (by kernel_rfl)) k2 bel lt2)
    trodAll_mk0))), rfl, bel.frame _, fun h => by cases h⟩

theorem disk_swaps : Rows.DiskSwapsSaid :=
  OpenClaim.holds_of_wide 5 Try.f5 rfl rfl rfl rfl rfl rfl rfl ⟨rfl, rfl, rfl, rfl, rfl⟩ rfl rfl rfl rfl rfl (by kernel_rfl) Try.func5 (by kernel_rfl)
    (of_decide_eq_true (by kernel_rfl)) (by unfold Func.isWrapper; first | (rw [if_pos (by decide +kernel)]; kernel_rfl) | (rw [if_neg (by decide +kernel)]; exact ⟨rfl, rfl⟩))
    (fun os started H enc _ => disk_swaps_lifted os started H enc)
#print axioms disk_swaps
end Go.Proofs.Ytclbapmjhchokaa
