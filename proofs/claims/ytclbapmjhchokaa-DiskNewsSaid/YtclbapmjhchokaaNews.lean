/-
  DiskNews: New answers a device for just the numbers of sectors that there may be, and ErrArg else; a new device is empty. For every input.
-/
import Derived.Test.YtclbapmjhchokaaL1
import Derived.Test.YtclbapmjhchokaaRows
import Derived.ProofKit
import Derived.OpenShut
import Derived.ShutString
import Derived.ChangeOld
namespace Go.Proofs.Ytclbapmjhchokaa
open Go.RowKit

theorem notB : ∀ (x : Bool) (w : World), (Op.unary .not (.bool x)).run Try.prog w = .ok (.bool (!x)) w := fun _ _ => rfl

set_option maxRecDepth 100000 in
set_option maxHeartbeats 1000000 in
theorem news_bad (n : Int) (w : World) (h : n < 1 ∨ 65536 < n) : Calls Try.prog 4 #[.int .i64 n] w (TruePost w) := by
  have hnot := notB
  have hL := lives_true w
  have HL := Lib.hid hL
  clear hL
  have HN := Lib.hid (new_bad n w h)
  rcases h with h | h
  · have h1 : ¬ 1 ≤ n := by omega
    go_enter Try.func4, Try.ntmps4
    go_wp2_with fail
    refine HN.out.mono ?_
    rintro e w1 ⟨rfl, rfl⟩
    go_wp2_with fail
    refine HL.out.mono ?_
    rintro e w2 ⟨rfl, hk⟩
    go_wp2_with fail
    go_ret
    exact ⟨rfl, hk⟩
  · have h1 : 1 ≤ n := by omega
    have h2 : decide (n ≤ 65536) = false := by simp; omega
    go_enter Try.func4, Try.ntmps4
    go_wp2_with fail
    refine HN.out.mono ?_
    rintro e w1 ⟨rfl, rfl⟩
    go_wp2_with fail
    refine HL.out.mono ?_
    rintro e w2 ⟨rfl, hk⟩
    go_wp2_with fail
    go_ret
    exact ⟨rfl, hk⟩

set_option maxRecDepth 100000 in
set_option maxHeartbeats 1000000 in
theorem news_good (n : Int) (w : World) (h1 : 1 ≤ n) (h2 : n ≤ 65536) : Calls Try.prog 4 #[.int .i64 n] w (TruePost w) := by
  have hnot := notB
  have hok : (St.new n).ok := St.new_ok n (by omega) h2
  go_enter Try.func4, Try.ntmps4
  go_wp2_with fail
  refine (new_calls n w h1 h2).mono ?_
  rintro e w1 ⟨rfl, hd1, hk1⟩
  generalize hn1 : w.heap.size = d1 at *
  have HN := Lib.hid hn1
  clear hn1
  go_wp2_with fail
  refine (image_calls d1 _ _ hd1 hok).mono ?_
  rintro e w2 ⟨hk2, he⟩
  rw [show (St.new n).off = false from rfl, if_neg (by simp)] at he
  obtain ⟨a, c, rfl, hB⟩ := he
  have hd2 := hd1.non hk2
  replace hk2 := hk1.trans hk2
  clear hk1
  rw [show (St.new n).image.length = 0 from rfl]
  go_wp2_with fail
  refine (room_calls d1 _ _ hd2).mono ?_
  rintro e w3 ⟨rfl, rfl⟩
  rw [show (St.new n).room = n from rfl]
  go_wp2_with fail
  refine (used_calls d1 _ _ hd2 hok).mono ?_
  rintro e w4 ⟨rfl, k, rfl⟩
  rw [show (St.new n).used = 0 from by simp [St.new, St.used, secs]]
  go_wp2_with fail
  refine (off_calls d1 _ _ (hd2.non ((Kp.refl _ _).drewN k))).mono ?_
  rintro e w5 ⟨rfl, rfl⟩
  rw [show (St.new n).off = false from rfl]
  go_wp2_with fail
  refine (lives_true _).mono ?_
  rintro e w6 ⟨rfl, hk6⟩
  go_wp2_with fail
  go_ret
  exact ⟨rfl, (hk2.drewN k).trans hk6⟩

theorem news_walk (n : Int) (w : World) : Calls Try.prog 4 #[.int .i64 n] w (TruePost w) := by
  by_cases h : n < 1 ∨ 65536 < n
  · exact news_bad n w h
  · exact news_good n w (by omega) (by omega)

open Go.ChangeShapes Go.WideShapes Go.ChangeAt
theorem own : ownKnob Try.prog.godebug = none := by kernel_rfl
theorem laidOut : laidOutB Try.prog = true := by kernel_rfl

set_option maxRecDepth 100000 in
theorem news_lifted (os : Os) (started : os.Started) (H : Type) (enc : TypeId × Value → H) :
    ReturnsInHanded {} Try.checked os 4 .any (Rows.diskNewsSpec.pre6 enc Try.prog Try.f4 Rows.diskNewsRow.domain false) (Rows.diskNewsSpec.post enc Try.prog Try.f4 false true false false) := by
  refine returnsInHanded_of_change (C := Try.checked) own started (by kernel_rfl) Try.func4
    (ChangeSpec.witness6 (enc := enc) (C := Try.checked) false ⟨#[], #[.int .i64 0], []⟩ 8 (by kernel_rfl) (by kernel_rfl) (by kernel_rfl) (by kernel_rfl)) ?_
  intro W base args ds gs before hval0 hW hcnd _
  have hval : ∀ (j : Nat) t v, Try.f4.params[j]? = some t → args[j]? = some v → Value.okWide Try.prog W .any base t v := hval0
  have hW' := hW
  obtain ⟨p, q, hA0, hV, rfl, hfz, hnd⟩ := hW
  have hA : DataW.TrodAll enc Try.prog W 0 (fun _ => true) true Try.f4.params.toList args.toList ds p := hA0
  rw [Try.params4] at hA hval
  obtain ⟨v0, vs0, d0, ds0, p0, q0, hargs, rfl, rfl, h0, r0⟩ := trodAll_cons hA
  obtain ⟨rfl, rfl, rfl⟩ := trodAll_nil r0
  obtain rfl : args = #[v0] := by cases args; simp_all
  obtain ⟨rfl, rfl⟩ := trodVars_none hV
  have k0 := h0
  have lt0 : ∀ x ∈ p0, x.block < W.heap.size := by obtain ⟨m, hm⟩ := k0; exact DataW.trod_lt m _ _ _ hm
  obtain ⟨a0, rfl, rfl, rfl, w0⟩ := open_int Try.underlying3 (hval 0 3 v0 rfl rfl) h0
  clear hA0 hval0
  refine (news_walk a0 W).mono fun e W' ⟨he, hk⟩ => ?_
  have bel := hk.below
  subst he
  exact ⟨_, rfl, _, _, _, [], _, [], hW', trodAll_mk1 (shut_bool Try.underlying4 _), (trodAll_cons_mk (Below.trod laidOut (by kernel_rfl) (of_decide_eq_true (by kernel_rfl)) k0 bel lt0) trodAll_mk0), rfl, bel.frame _, fun h => by cases h⟩

theorem disk_news : Rows.DiskNewsSaid :=
  OpenClaim.holds_of_wide 4 Try.f4 rfl rfl rfl rfl rfl rfl rfl ⟨rfl, rfl, rfl, rfl, rfl⟩ rfl rfl rfl rfl rfl (by kernel_rfl) Try.func4 (by kernel_rfl)
    (of_decide_eq_true (by kernel_rfl)) (by unfold Func.isWrapper; first | (rw [if_pos (by decide +kernel)]; kernel_rfl) | (rw [if_neg (by decide +kernel)]; exact ⟨rfl, rfl⟩))
    (fun os started H enc _ => news_lifted os started H enc)
#print axioms disk_news
end Go.Proofs.Ytclbapmjhchokaa
