/-
  Same: a device has what the document's has.
-/
import Derived.Test.YtclbapmjhchokaaS5
namespace Go.Proofs.Ytclbapmjhchokaa
open Go.RowKit

set_option maxRecDepth 100000 in
set_option maxHeartbeats 4000000 in
theorem same_calls {F : Nat → Prop} (d x : Nat) (s : St) (w : World) (hd : Dev F w d s) (hx : Ref w x s) (hok : s.ok) :
    Calls Try.prog 37 #[.pointer (some ⟨d, 0, none⟩), .pointer (some ⟨x, 0, none⟩)] w (TruePost w) := by
  have hD : ∀ n, Dev F (w.drewN n) d s := fun n => hd.non ((Kp.refl Non w).drewN n)
  have h27 := fun n => used_calls d s _ (hD n) hok
  have h81 := fun n => refused_calls x s _ (hx.non ((Kp.refl Non w).drewN n)) hok
  have h26 := fun n => room_calls d s _ (hD n)
  have hx' := hx
  obtain ⟨ia, ic, sa, sc, la, lc, h⟩ := hx'
  have x0 := h.c0
  have x1 := h.c1
  have x4 := h.c4
  have x7 := h.c7
  cases ho : s.off with
  | true =>
    have h28 : ∀ n, Calls Try.prog 28 #[.pointer (some ⟨d, 0, none⟩)] (w.drewN n) fun e w' => e = .returned (.bool true) ∧ w' = w.drewN n := fun n => by
      have := off_calls d s _ (hD n)
      rwa [ho] at this
    rw [ho] at x7
    have HO := Lib.hid ho
    clear ho
    go_enter Try.func37, Try.ntmps37
    go_wp2_with fail
    go_quiet (first | (go_at_call 28; exact Calls.quiet_of_same (h28 _)) | (go_at_call 27; exact Calls.quiet_of (h27 _)) | (go_at_call 81; exact Calls.quiet_of (h81 _)) | (go_at_call 26; exact Calls.quiet_of_same (h26 _)))
    go_wp2_with fail
    refine (log_calls d s _ (hD _) hok).mono ?_
    rintro e w1 ⟨hk1, he⟩
    rw [HO.out, if_pos rfl] at he
    subst he
    have hd1 := (hD _).non hk1
    have y7 : w1.cell? ⟨x, 7, none⟩ = some (.bool true) := hk1.cell (a := ⟨x, 7, none⟩) x7 (fun f => f)
    go_wp2_with fail
    refine (image_calls d s _ hd1 hok).mono ?_
    rintro e w2 ⟨hk2, he⟩
    rw [HO.out, if_pos rfl] at he
    subst he
    have z7 : w2.cell? ⟨x, 7, none⟩ = some (.bool true) := hk2.cell (a := ⟨x, 7, none⟩) y7 (fun f => f)
    go_wp2
    go_ret
    exact ⟨rfl, (((Kp.refl Non w).drewN _).trans hk1).trans hk2⟩
  | false =>
    have h28 : ∀ n, Calls Try.prog 28 #[.pointer (some ⟨d, 0, none⟩)] (w.drewN n) fun e w' => e = .returned (.bool false) ∧ w' = w.drewN n := fun n => by
      have := off_calls d s _ (hD n)
      rwa [ho] at this
    rw [ho] at x7
    have HO := Lib.hid ho
    clear ho
    go_enter Try.func37, Try.ntmps37
    go_wp2_with fail
    go_quiet (first | (go_at_call 28; exact Calls.quiet_of_same (h28 _)) | (go_at_call 27; exact Calls.quiet_of (h27 _)) | (go_at_call 81; exact Calls.quiet_of (h81 _)) | (go_at_call 26; exact Calls.quiet_of_same (h26 _)))
    go_wp2_with fail
    refine (log_calls d s _ (hD _) hok).mono ?_
    rintro e w1 ⟨hk1, he⟩
    rw [HO.out, if_neg (by simp)] at he
    obtain ⟨a1, e1, rfl, hB1⟩ := he
    have hd1 := (hD _).non hk1
    have h1 := (h.drewN _).non hk1
    go_wp2_with fail
    refine (image_calls d s _ hd1 hok).mono ?_
    rintro e w2 ⟨hk2, he⟩
    rw [HO.out, if_neg (by simp)] at he
    obtain ⟨a2, e2, rfl, hB2⟩ := he
    have h2 := h1.non hk2
    have z1 := h2.c1
    have z4 := h2.c4
    have z7 := h2.c7
    rw [HO.out] at z7
    have cv1 := conv_string w2.drew _ _ _ _ (hB1.bytes.non hk2).drew
    have cv2 := conv_string w2.drew _ _ _ _ hB2.bytes.drew
    have cv3 := conv_string w2.drew _ _ _ _ h2.log.drew
    have cv4 := conv_string w2.drew _ _ _ _ h2.image.drew
    clear x0 x1 x4 x7 h27 h81 h26 h28
    go_wp2_with fail
    refine wp_region_chain [0,0,0,0,0,0,0,0,0,0,0,0,0,0,0,0,0,0,0,0,0,0,0,0,0,0,0] (by kernel_rfl) (by kernel_rfl) (fun w' => w' = w2.drew) rfl ?_
    repeat (first | (with_reducible refine pure_skip ?_) | ((first | (with_reducible refine pure_k rfl ?_) | (refine pure_ky (by rfl) ?_)); intro K hK; apply Exists.intro; refine ⟨fun w' hC => ?_, ?_⟩; (subst hC; go_simp; rfl); go_simp; refine hK _ ?_; clear hK K))
    with_reducible refine pure_nil ?_
    repeat (with_reducible refine chain_skip0 ?_)
    with_reducible refine chain_nil ?_
    go_wp2
    go_ret
    exact ⟨rfl, ((((Kp.refl Non w).drewN _).trans hk1).trans hk2).drew⟩
end Go.Proofs.Ytclbapmjhchokaa
