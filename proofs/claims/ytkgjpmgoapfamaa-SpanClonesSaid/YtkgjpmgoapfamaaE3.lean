/-
  The law's examples.
-/
import Derived.Test.YtkgjpmgoapfamaaE2
import Derived.Test.YtkgjpmgoapfamaaM5I
import Derived.Test.YtkgjpmgoapfamaaM5T
namespace Go.Proofs.Ytkgjpmgoapfamaa
open Go.RowKit

theorem Reads.newL {α : Type} {enc : α → List Value} {k : Nat} (hk : ∀ x, (enc x).length = k) {w : World} {b : Nat} {cur : Array Value} {e : TypeId} {fr : Nat × Nat} {l : List α} {n : Nat} (hb : b = w.heap.size) (hc : cur.toList = l.flatMap enc) (hn : n = l.length) (hm : l.length ≤ 1000) : Reads enc k (w.alloc (.cells cur e fr)) (some ⟨b, 0, none⟩) n n l := by
  subst hn
  refine ⟨rfl, Nat.le_refl _, by omega, (fun h => by cases h), fun j y hy => ⟨b, 0, rfl, fun i v hv => ?_⟩⟩
  have hi : i < k := by have := (List.getElem?_eq_some_iff.1 hv).1; rwa [hk] at this
  have h1 := flat_at enc k hk hy hi
  rw [hv] at h1
  rw [Nat.zero_add, cell_new hb, ← Array.getElem?_toList, hc]
  exact h1

theorem Kp.later {S : Nat → Prop} {a b c : World} (h : Kp Non a b) (k : Kp S b c) (hS : ∀ i, S i → a.heap.size ≤ i) : Kp Non a c :=
  h.comp k (fun _ _ f => f) fun i hi q => by have := hS i q; omega

theorem norm_ex : norm [(5, 8), (1, 3), (3, 4), (7, 9)] = [(1, 4), (5, 9)] := by decide
theorem put_ex1 : putC ([] : List (Sp × Int)) (0, 9) 1 = [((0, 9), 1)] := by decide
theorem put_ex2 : putC ([((0, 9), 1)] : List (Sp × Int)) (3, 5) 2 = [((0, 3), 1), ((3, 5), 2), ((5, 9), 1)] := by decide
theorem put_ex3 : putC ([((0, 3), 1), ((3, 5), 2), ((5, 9), 1)] : List (Sp × Int)) (3, 5) 1 = [((0, 9), 1)] := by decide

set_option maxRecDepth 100000 in
set_option maxHeartbeats 1000000 in
theorem lives_true (w : World) : Calls Try.prog 22 #[] w (BoolOut true w) := by
  have q1 : Reads encS 2 (w.alloc (.cells #[.int .i64 5, .int .i64 8, .int .i64 1, .int .i64 3, .int .i64 3, .int .i64 4, .int .i64 7, .int .i64 9] 30)) (some ⟨w.heap.size, 0, none⟩) 4 4 [(5, 8), (1, 3), (3, 4), (7, 9)] := Reads.newL encS_len rfl rfl rfl (by decide)
  have HN := Lib.hid (norm_calls _ 4 4 _ _ q1 (by omega))
  rw [norm_ex] at HN
  go_enter Try.func22, Try.ntmps22
  go_wp2_with fail
  refine HN.out.mono ?_
  rintro e w1 ⟨a1, c1, rfl, hO1, hk1⟩
  have hk1' : Kp Non w w1 := ((Kp.refl _ w).alloc _).trans hk1
  clear HN hk1 q1
  simp only [List.length_cons, List.length_nil, Nat.reduceAdd] at hO1 ⊢
  go_wp2_with fail
  have hM0 : MapI (w1.alloc (.cells #[.slice none 0 0, .slice none 0 0] 41)) w1.heap.size [] none 0 none 0 := ⟨heap_alloc_new w1 _, OwnR.nil _ _ _, OwnR.nil _ _ _⟩
  have hA : Kp Non w1 (w1.alloc (.cells #[.slice none 0 0, .slice none 0 0] 41)) := (Kp.refl _ w1).alloc _
  have hO2 := hO1.non hA
  have HP := Lib.hid (putI_calls w1.heap.size [] none 0 none 0 (0, 9) 1 _ hM0 (by decide) (by decide))
  rw [put_ex1] at HP
  refine HP.out.mono ?_
  rintro e w2 ⟨rfl, al2, cl2, av2, cv2, hM2, hk2, hf2⟩
  clear HP
  have hS1 : ∀ i, MSI w1.heap.size none none i → w1.heap.size ≤ i := by
    rintro i (rfl | ⟨_, q, _⟩ | ⟨_, q, _⟩)
    · exact Nat.le_refl _
    · cases q
    · cases q
  have hS2 : ∀ i, MSI w1.heap.size al2 av2 i → w1.heap.size ≤ i := fun i hi => (hf2 i hi).elim (hS1 i) fun q => Nat.le_trans hA.size q
  have hK2 := hA.later hk2 hS1
  clear hk2 hf2 hM0 hO2 hA hS1
  go_wp2_with fail
  have HP := Lib.hid (putI_calls w1.heap.size [((0, 9), 1)] al2 cl2 av2 cv2 (3, 5) 2 _ hM2 (by decide) (by decide))
  rw [put_ex2] at HP
  refine HP.out.mono ?_
  rintro e w3 ⟨rfl, al3, cl3, av3, cv3, hM3, hk3, hf3⟩
  have hS3 : ∀ i, MSI w1.heap.size al3 av3 i → w1.heap.size ≤ i := fun i hi => (hf3 i hi).elim (hS2 i) fun q => Nat.le_trans hK2.size q
  have hK3 := hK2.later hk3 hS2
  clear HP hk3 hf3 hM2 hS2 hK2
  go_wp2_with fail
  refine (lenI_calls w1.heap.size _ al3 cl3 av3 cv3 _ hM3 (by decide)).mono ?_
  rintro e w4 ⟨rfl, hk4⟩
  have hM4 := hM3.non hk4
  have hK4 := hK3.trans hk4
  clear hk4 hM3 hK3
  go_wp2_with fail
  have HP := Lib.hid (putI_calls w1.heap.size [((0, 3), 1), ((3, 5), 2), ((5, 9), 1)] al3 cl3 av3 cv3 (3, 5) 1 _ hM4 (by decide) (by decide))
  rw [put_ex3] at HP
  refine HP.out.mono ?_
  rintro e w5 ⟨rfl, al5, cl5, av5, cv5, hM5, hk5, hf5⟩
  have hK5 := hK4.later hk5 hS3
  clear HP hk5 hf5 hM4 hS3 hK4
  have hO5 := (hO1.non hK5).reads encS_len (by omega)
  have hM6 := hM5.non ((Kp.refl _ w5).alloc (.cells #[.int .i64 1, .int .i64 4, .int .i64 5, .int .i64 9] 30))
  have q2 : Reads encS 2 (w5.alloc (.cells #[.int .i64 1, .int .i64 4, .int .i64 5, .int .i64 9] 30)) (some ⟨w5.heap.size, 0, none⟩) 2 2 [(1, 4), (5, 9)] := Reads.newL encS_len rfl rfl rfl (by decide)
  have q1 := hO5.non ((Kp.refl _ w5).alloc (.cells #[.int .i64 1, .int .i64 4, .int .i64 5, .int .i64 9] 30))
  have HS := Lib.hid (same_calls a1 2 c1 _ _ 2 2 _ _ q1 q2)
  rw [show decide (([(1, 4), (5, 9)] : List Sp) = [(1, 4), (5, 9)]) = true from by decide] at HS
  clear hO5 hM5 hO1
  go_wp2_with fail
  refine HS.out.mono ?_
  rintro e w6 ⟨rfl, hk6⟩
  have hM7 := hM6.non hk6
  clear HS
  go_wp2_with fail
  refine (lenI_calls w1.heap.size _ al5 cl5 av5 cv5 _ hM7 (by decide)).mono ?_
  rintro e w7 ⟨rfl, hk7⟩
  go_wp2_with fail
  go_ret
  exact ⟨rfl, hk1'.trans ((((hK5.alloc _).trans hk6).trans hk7))⟩
end Go.Proofs.Ytkgjpmgoapfamaa
