/-
  The document's example of layer 12.
-/
import Derived.Test.YtdijaillcajpaaaV5
import Derived.Laws.StructEq
namespace Go.Proofs.Ytdijaillcajpaaa
open Go.RowKit

set_option maxRecDepth 100000 in
theorem run_eqChg (x y : Chg) (w : World) : (Op.equalIn 10000 32 (valChg x) (valChg y)).run Try.prog w = .ok (x.ki == y.ki && (x.sh == y.sh && (x.ot == y.ot && (x.at_ == y.at_ && (x.out == y.out && x.inn == y.inn))))) w := by
  have u3 := Try.underlying3
  have hS : Try.prog.underlying 32 = some (.struct (Try.prog.fieldsOf 32)) := by kernel_rfl
  have hp : Try.prog.stoodInHeld 32 = false := by kernel_rfl
  rw [show (10000 : Nat) = 9999 + 1 from rfl, run_equalIn_agg w 9999 32 _ _ hS hp]
  simp only [Program.fieldsOf, Try.underlying32]
  obtain ⟨a, b, c, d, e, f⟩ := x
  obtain ⟨a', b', c', d', e', f'⟩ := y
  go_simp
  by_cases h1 : a = a' <;> by_cases h2 : b = b' <;> by_cases h3 : c = c' <;> by_cases h4 : d = d' <;> by_cases h5 : e = e' <;> by_cases h6 : f = f' <;> simp [h1, h2, h3, h4, h5, h6]
def eqChg (x y : Chg) : Bool := x.ki == y.ki && (x.sh == y.sh && (x.ot == y.ot && (x.at_ == y.at_ && (x.out == y.out && x.inn == y.inn))))
theorem eqChg_self (x : Chg) : eqChg x x = true := by simp [eqChg]
theorem eqChg_iff (x y : Chg) : eqChg x y = true ↔ x = y := by
  obtain ⟨a, b, c, d, e, f⟩ := x
  obtain ⟨a', b', c', d', e', f'⟩ := y
  simp [eqChg]
@[go_sem] theorem guardChg : Try.prog.eqGuardType Try.prog.depth 32 = false := by kernel_rfl
@[go_sem high] theorem run_eqlChg (x y : Chg) (w : World) : (binOp .eql 32 (valChg x) (valChg y)).run Try.prog w = .ok (.bool (eqChg x y)) w := by
  rw [run_eql_struct, run_eqChg]
  rfl
theorem lives_hot : hotL ⟨10, 0, 0, 0, 9⟩ [⟨1, 12, 0, 3⟩] (newA 8 [0, 1, 2]).sh = (12, ⟨1, 1, 0, 3, 0, 0⟩, true) := by kernel_rfl
theorem lives_dec {c : Chg} {ok : Bool} (h : DecP ⟨10, 0, 0, 0, 9⟩ [⟨1, 12, 0, 3⟩] (newA 8 [0, 1, 2]) c ok) : c = ⟨1, 1, 0, 3, 0, 0⟩ ∧ ok = true := by
  rcases h with ⟨_, ⟨_, h⟩ | ⟨_, ⟨_, h⟩ | ⟨_, ⟨h0, h⟩ | ⟨⟨c1, h⟩, _⟩⟩⟩⟩ | ⟨h, _⟩
  · exact absurd rfl (h.1 rfl).1
  · have := (h.1 rfl).1; simp at this
  · have := h.1
    rw [lives_hot] at this
    exact ⟨this, h0⟩
  · have := h.2
    rw [lives_hot] at this
    cases this
  · exact absurd (by unfold MayP newA; simp) h
theorem ints3 (w : World) : Ints (w.alloc (.cells #[.int .i64 0, .int .i64 1, .int .i64 2] 3)) (some ⟨w.heap.size, 0, none⟩) 3 3 [0, 1, 2] :=
  (OwnR.mk (enc := encI) (k := 1) (base := 0) (n := 3) (c := 3) (Nat.zero_le _) (heap_alloc_new w _) (Nat.le_refl _) (by decide) rfl rfl rfl : OwnI _ 0 _ 3 3 [0, 1, 2]).reads encI_len (by omega)
set_option maxRecDepth 100000 in
set_option maxHeartbeats 1000000 in
theorem lives12_calls (w : World) : Calls Try.prog 35 #[] w (BoolOut true w) := by
  go_enter Try.func35, Try.ntmps35
  go_wp2_with fail
  refine (anew_yes 8 (some ⟨w.heap.size, 0, none⟩) 3 3 [0, 1, 2] _ (ints3 w) (by omega) (by omega) (by decide)).mono ?_
  rintro e W1 ⟨m, G, rfl, hA, hk1, _⟩
  have hk1' : Kp Non w W1 := ((Kp.refl _ _).alloc _).trans hk1
  go_wp2_with fail
  have ka : Kp Non W1 (W1.alloc (.cells #[.int .i64 1, .int .i64 12, .int .i64 0, .int .i64 3] 129)) := (Kp.refl _ _).alloc _
  refine (decide_calls (R := ⟨10, 0, 0, 0, 9⟩) (ll := [⟨1, 12, 0, 3⟩]) (lc := 1) (vc := 0) (vl := []) (fun W v a c L la lc va vc h => vmute_zero h rfl) (hA.non ka) (Reads.new (enc := encLd) (k := 4) (x := (⟨1, 12, 0, 3⟩ : LoadV)) rfl rfl) (Reads.empty _)).mono ?_
  rintro e W2 ⟨c, ok, rfl, hP, hk2⟩
  obtain ⟨rfl, rfl⟩ := lives_dec hP
  have hk2' : Kp Non w W2 := (hk1'.trans ka).trans hk2
  go_wp2_with fail
  go_ret
  exact ⟨rfl, hk2'.alloc _⟩
end Go.Proofs.Ytdijaillcajpaaa
