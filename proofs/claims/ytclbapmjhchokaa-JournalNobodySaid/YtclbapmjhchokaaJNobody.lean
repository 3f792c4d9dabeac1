/-
  JournalNobody: a journal that there is not has nothing. For every input.
-/
import Derived.Test.YtclbapmjhchokaaJ16
namespace Go.Proofs.Ytclbapmjhchokaa
open Go.RowKit

/-- An answer, and nothing turned. -/
def Ans (r : Int) (w : World) (e : Ending) (w' : World) : Prop := e = .returned (.int .i64 r) ∧ Kp Non w w'
theorem call_nil (f1 f2 : Value) (laid : Bool) (w : World) : Calls Try.prog 62 #[.pointer none, f1, f2, .bool laid] w (Ans 8 w) := by
  have hmf := mfunc
  go_enter_defers Try.func62, Try.ntmps62
  go_wp2
  simp only [bodyPostD, Leaves]
  refine ⟨.int .i64 8, by simp [results, Try.results62, go_sem], rfl, ((Kp.refl _ _).alloc _).alloc _⟩
theorem stage_nil (a : Option Addr) (n c : Nat) (w : World) : Calls Try.prog 29 #[.pointer none, .slice a n c] w (Ans 8 w) := by
  have hmf := mfunc
  go_enter Try.func29, Try.ntmps29
  go_wp2_with fail
  refine (call_nil _ _ _ _).mono ?_
  rintro e w1 ⟨rfl, hk⟩
  go_wp2
  go_ret
  exact ⟨rfl, (((Kp.refl _ _).alloc _).alloc _).trans hk⟩
theorem read_nil (f : Value) (w : World) : Calls Try.prog 68 #[.pointer none, f] w fun e w' => e = .returned (.tuple #[.slice none 0 0, .int .i64 8]) ∧ w' = w := by
  go_enter Try.func68, Try.ntmps68
  go_wp2
  go_ret2
  exact ⟨rfl, rfl⟩
theorem image_nil (w : World) : Calls Try.prog 25 #[.pointer none] w fun e w' => e = .returned (.tuple #[.slice none 0 0, .int .i64 8]) ∧ Kp Non w w' := by
  have hmf := mfunc
  go_enter Try.func25, Try.ntmps25
  go_wp2_with fail
  refine (read_nil _ _).mono ?_
  rintro e w1 ⟨rfl, rfl⟩
  go_wp2
  go_ret2
  exact ⟨rfl, (Kp.refl _ _).alloc _⟩
theorem open_nil (w : World) : Calls Try.prog 40 #[.pointer none] w fun e w' => e = .returned (.tuple #[.pointer none, .int .i64 8]) ∧ Kp Non w w' := by
  go_enter Try.func40, Try.ntmps40
  go_wp2_with fail
  refine (image_nil _).mono ?_
  rintro e w1 ⟨rfl, hk⟩
  go_wp2_with fail
  go_ret2
  exact ⟨rfl, hk⟩
theorem swap_nil (a : Option Addr) (n c : Nat) (l : List UInt8) (w : World) (hb : Bytes w a n c l) (hn : n ≤ 1048576) : Calls Try.prog 85 #[.pointer none, .slice a n c] w (Ans 8 w) := by
  go_enter Try.func85, Try.ntmps85
  go_wp2_with fail
  refine (frame_calls a n c l w hb hn).mono ?_
  rintro e w1 ⟨fa, fc, rfl, _, hk⟩
  go_wp2_with fail
  refine (stage_nil _ _ _ _).mono ?_
  rintro e w2 ⟨rfl, hk2⟩
  go_wp2_with fail
  go_ret
  exact ⟨rfl, hk.trans hk2⟩
theorem format_nil (a : Option Addr) (n c : Nat) (l : List UInt8) (w : World) (hb : Bytes w a n c l) (hn : n ≤ 1048576) : Calls Try.prog 46 #[.pointer none, .slice a n c] w fun e w' => e = .returned (.tuple #[.pointer none, .int .i64 8]) ∧ Kp Non w w' := by
  go_enter Try.func46, Try.ntmps46
  go_wp2_with fail
  refine (swap_nil a n c l w hb hn).mono ?_
  rintro e w1 ⟨rfl, hk⟩
  go_wp2_with fail
  go_ret2
  exact ⟨rfl, hk⟩

set_option maxRecDepth 100000 in
set_option maxHeartbeats 2000000 in
theorem jnobody_walk (a : Option Addr) (n c : Nat) (l : List UInt8) (w : World) (hb : Bytes w a n c l) : Calls Try.prog 16 #[.slice a n c] w (TruePost w) := by
  have HL := Lib.hid (fun W => jlives_true W)
  go_enter Try.func16, Try.ntmps16
  go_wp2_with fail
  refine (open_nil w).mono ?_
  rintro e w1 ⟨rfl, hk1⟩
  have hb1 := hb.non hk1
  go_wp2_with fail
  refine (small_calls a n c l w1 hb1).mono ?_
  rintro e w2 ⟨rfl, rfl⟩
  go_wp2_with fail
  refine (format_nil a (min n 3000) c (sm l) w2 hb1.small (by omega)).mono ?_
  rintro e w3 ⟨rfl, hk3⟩
  have q3 := hk1.trans hk3
  have hb3 := hb1.non hk3
  go_wp2_with fail
  refine (new_calls 2 w3 (by omega) (by omega)).mono ?_
  rintro e w4 ⟨rfl, hd4, hk4⟩
  have hdw : w.heap.size ≤ w3.heap.size := q3.size
  generalize w3.heap.size = d at *
  have q4 := q3.trans hk4
  have hb4 := hb3.non hk4
  go_wp2_with fail
  refine (open_calls d d (St.new 2) w4 hd4 (St.new_ok 2 (by omega) (by omega)) (fun f => f) (Nat.le_refl _) (Nat.le_of_lt hd4.lt)).mono ?_
  rw [show jopen (St.new 2) = (8, St.new 2, ⟨unfData [], (scanL []).1, false⟩) from rfl]
  rintro e w5 ⟨hd5, hk5, hf⟩
  rw [if_neg (by omega)] at hf
  subst hf
  have hb5 := hb4.one hd4 hk5
  have q5 := Kp.dev q4 hdw hk5
  go_wp2_with fail
  refine (small_calls a n c l w5 hb5).mono ?_
  rintro e w6 ⟨rfl, rfl⟩
  go_wp2_with fail
  have hmin : min n 3000 ≤ 1048576 := by omega
  refine (frame_calls a (min n 3000) c (sm l) w6 hb5.small hmin).mono ?_
  rintro e w7 ⟨fa, fc, rfl, _, hk7⟩
  have q7 := q5.trans hk7
  have hpos : (0 : Int) < ((sm l).length : Int) + 8 := by omega
  have hpos' : 0 < (sm l).length + 8 := by omega
  clear hk1 hb1 hk3 q3 hb3 hk4 q4 hb4 hd4 hd5 hk5 hb5 q5 hk7 hmin
  go_wp2_with fail
  refine (jnil_add _ _ _ _).mono ?_
  rintro e w8 ⟨rfl, hk8⟩
  go_wp2_with fail
  refine (jnil_sync _).mono ?_
  rintro e w9 ⟨rfl, rfl⟩
  go_wp2_with fail
  refine (jnil_save _ _ _ _).mono ?_
  rintro e wA ⟨rfl, hkA⟩
  have qA := (q7.trans hk8).trans hkA
  go_wp2_with fail
  refine (jnil_down _).mono ?_
  rintro e wB ⟨rfl, rfl⟩
  go_wp2_with fail
  refine (jnil_count _).mono ?_
  rintro e wC ⟨rfl, rfl⟩
  go_wp2_with fail
  refine (jnil_size _).mono ?_
  rintro e wD ⟨rfl, rfl⟩
  go_wp2_with fail
  refine (jnil_image _).mono ?_
  rintro e wE ⟨rfl, rfl⟩
  go_wp2_with fail
  refine (jnil_records _).mono ?_
  rintro e wF ⟨rfl, rfl⟩
  go_wp2_with fail
  refine (HL.out _).mono ?_
  rintro e wG ⟨rfl, hkG⟩
  go_wp2_with fail
  go_ret
  exact ⟨rfl, qA.trans hkG⟩

open Go.ChangeShapes Go.WideShapes Go.ChangeAt
set_option maxRecDepth 100000 in
theorem journal_nobody_lifted (os : Os) (started : os.Started) (H : Type) (enc : TypeId × Value → H) :
    ReturnsInHanded {} Try.checked os 16 .any (Rows.journalNobodySpec.pre6 enc Try.prog Try.f16 Rows.journalNobodyRow.domain false) (Rows.journalNobodySpec.post enc Try.prog Try.f16 false true false false) := by
  refine returnsInHanded_of_change_sized (C := Try.checked) own started (by kernel_rfl) Try.func16
    (ChangeSpec.witness6 (enc := enc) (C := Try.checked) false ⟨#[], #[.slice none 0 0], []⟩ 8 (by kernel_rfl) (by kernel_rfl) (by kernel_rfl) (by kernel_rfl)) ?_
  intro W base args ds gs before hval0 hW hcnd hsz0 _
  have hval : ∀ (j : Nat) t v, Try.f16.params[j]? = some t → args[j]? = some v → Value.okWide Try.prog W .any base t v := hval0
  have hsz : (DataW.weightsEach Try.prog (Try.f16.params.toList ++ Rows.journalNobodySpec.plain.varTypes Try.prog) (ds ++ gs)).all (· ≤ reachBytes) = true := hsz0
  have hW' := hW
  obtain ⟨p, q, hA0, hV, rfl, hfz, hnd⟩ := hW
  have hA : DataW.TrodAll enc Try.prog W 0 (fun _ => true) true Try.f16.params.toList args.toList ds p := hA0
  rw [Try.params16] at hA hval hsz
  obtain ⟨v0, vs0, d0, ds0, p0, q0, hargs, rfl, rfl, h0, r0⟩ := trodAll_cons hA
  obtain ⟨rfl, rfl, rfl⟩ := trodAll_nil r0
  obtain rfl : args = #[v0] := by cases args; simp_all
  obtain ⟨rfl, rfl⟩ := trodVars_none hV
  have lt0 : ∀ x ∈ p0, x.block < W.heap.size := by obtain ⟨m, hm⟩ := h0; exact DataW.trod_lt m _ _ _ hm
  have k0 := h0
  obtain ⟨a0, n0, c0, rfl⟩ := okWide_slice Try.underlying22 (hval 0 22 v0 rfl rfl)
  obtain ⟨l0, b0⟩ := bytes_in h0
  clear hA0 hval0 hsz0
  refine (jnobody_walk a0 n0 c0 l0 W b0).mono fun e W' ⟨he, hk⟩ => ?_
  have bel := hk.below
  subst he
  exact ⟨_, rfl, _, _, _, [], _, [], hW', trodAll_mk1 (shut_bool Try.underlying4 _), (trodAll_cons_mk (Below.trod laidOut (by kernel_rfl) (of_decide_eq_true (by kernel_rfl)) k0 bel lt0)
    trodAll_mk0), rfl, bel.frame _, fun h => by cases h⟩

theorem journal_nobody : Rows.JournalNobodySaid :=
  OpenClaim.holds_of_wide 16 Try.f16 rfl rfl rfl rfl rfl rfl rfl ⟨rfl, rfl, rfl, rfl, rfl⟩ rfl rfl rfl rfl rfl (by kernel_rfl) Try.func16 (by kernel_rfl)
    (of_decide_eq_true (by kernel_rfl)) (by unfold Func.isWrapper; first | (rw [if_pos (by decide +kernel)]; kernel_rfl) | (rw [if_neg (by decide +kernel)]; exact ⟨rfl, rfl⟩))
    (fun os started H enc _ => journal_nobody_lifted os started H enc)
#print axioms journal_nobody
end Go.Proofs.Ytclbapmjhchokaa
