/-
  The call of octet that takes a frame.
-/
import Derived.Test.YtclbapmjhchokaaJ3
namespace Go.Proofs.Ytclbapmjhchokaa
open Go.RowKit

theorem Addr.add_add' (a : Addr) (k j : Nat) : (a.add k).add j = a.add (k + j) := by
  unfold Addr.add
  by_cases hk : k = 0
  · subst hk; simp
  · by_cases hj : j = 0
    · subst hj; simp [hk]
    · have : k + j ≠ 0 := by omega
      simp [hk, hj, Nat.add_assoc]
theorem Bytes.drop {w : World} {a : Option Addr} {n c : Nat} {l : List UInt8} (h : Bytes w a n c l) (k : Nat) (hk : k ≤ n) : Bytes w (a.map (·.add k)) (n - k) (c - k) (l.drop k) := by
  have h1 := h.len
  have h2 := h.cap
  have h3 := h.max
  refine ⟨by simp [h1], by omega, by omega, fun e => ?_, fun ad j b ha hb => ?_⟩
  · cases a with
    | none => have := h.nil rfl; omega
    | some ad => cases e
  · cases a with
    | none => cases ha
    | some ad0 =>
      simp only [Option.map_some, Option.some.injEq] at ha
      subst ha
      rw [Addr.add_add']
      exact h.cells ad0 (k + j) b rfl (by rw [List.getElem?_drop] at hb; exact hb)

def unfErr (k : Nat) : Int := if k = 1 then 8 else if k = 2 then 4 else 5
def UnfPost (at_ : Nat) (b : List UInt8) (w : World) (e : Ending) (w' : World) : Prop :=
  Kp Non w w' ∧ if unfWhy b = 0 then ∃ a c, e = .returned (.tuple #[.slice a (num4 b) c, .int .i64 ((at_ + num4 b + 8 : Nat) : Int), .int .i64 0]) ∧ OwnB w' w.heap.size 5 a (num4 b) c (unfData b)
    else e = .returned (.tuple #[.slice none 0 0, .int .i64 0, .int .i64 (unfErr (unfWhy b))])
theorem unf_is {at_ : Nat} {b : List UInt8} {w : World} {e : Ending} {w' : World} (k : Nat) (hk : unfWhy b = k) (h0 : k ≠ 0) (h : Kp Non w w') (he : e = .returned (.tuple #[.slice none 0 0, .int .i64 0, .int .i64 (unfErr k)])) : UnfPost at_ b w e w' := by
  refine ⟨h, ?_⟩
  rw [if_neg (by omega), hk]
  exact he

set_option maxRecDepth 100000 in
set_option maxHeartbeats 2000000 in
theorem unframe_calls (a : Option Addr) (n c : Nat) (l : List UInt8) (at_ : Nat) (w : World) (hb : Bytes w a n c l) (h : n ≤ 1000000000000) (ha : at_ ≤ n) : Calls Try.prog 82 #[.slice a n c, .int .i64 at_] w (UnfPost at_ (l.drop at_) w) := by
  obtain ⟨i0, hi0, hz0, hz1, hz2⟩ := info_parts info5
  have g1 : decide ((n : Int) < at_) = false := by simp; omega
  have g2 : (0 : Int) ≤ at_ := by omega
  have g3 : (at_ : Int) ≤ n := by omega
  have g4 : at_ ≤ n := ha
  have g5 : n ≤ c := by have := hb.cap; omega
  have g6 : decide ((at_ : Int) < 0) = false := by simp
  have g7 : ¬ n < at_ := by omega
  have hB := hb.drop at_ ha
  have hat : at_ ≤ 1000000000000 := by omega
  have hbl : n - at_ ≤ 1000000000000 := by omega
  clear hb
  go_enter Try.func82, Try.ntmps82
  have hn := hB.len
  by_cases h0 : n - at_ = 0
  · have q0 : ((n - at_ : Nat) : Int) = 0 := by omega
    have q1 : (((n - at_ : Nat) : Int) == 0) = true := by simp; omega
    have hy : unfWhy (l.drop at_) = 1 := by unfold unfWhy; rw [← hn, h0]; rfl
    clear hn
    go_wp2_with fail
    all_goals go_ret3
    all_goals exact unf_is 1 hy (by omega) (Kp.refl _ _) rfl
  · by_cases h4 : n - at_ < 4
    · have q1 : (((n - at_ : Nat) : Int) == 0) = false := by simp; omega
      have q2 : ((n - at_ : Nat) : Int) < 4 := by omega
      have hy : unfWhy (l.drop at_) = 2 := by unfold unfWhy; rw [← hn, if_neg h0, if_pos h4]
      clear hn
      go_wp2_with fail
      all_goals go_ret3
      all_goals exact unf_is 2 hy (by omega) (Kp.refl _ _) rfl
    · have q1 : (((n - at_ : Nat) : Int) == 0) = false := by simp; omega
      have q2 : decide (((n - at_ : Nat) : Int) < 4) = false := by simp; omega
      have HN := Lib.hid hn
      clear hn
      go_wp2_with fail
      generalize l.drop at_ = b at *
      generalize Option.map (fun x => x.add at_) a = a' at *
      generalize hn' : n - at_ = n' at *
      generalize c - at_ = c' at *
      refine (number_calls a' n' c' b w hB (by omega)).mono ?_
      rintro e w1 ⟨rfl, hk1⟩
      have hn := HN.out
      have hy0 : unfWhy b = if 1048576 < num4 b ∨ b.length < num4 b + 8 then 2 else if num4 (b.drop (num4 b + 4)) ≠ crc (b.take (num4 b + 4)) then 3 else 0 := by
        unfold unfWhy
        rw [← hn, if_neg h0, if_neg h4]
      have HY := Lib.hid hy0
      have hlt := num4_lt b
      clear hy0
      generalize hm : num4 b = m at *
      by_cases hbig : 1048576 < m
      · have q3 : (1048576 : Int) < m := by omega
        have hy : unfWhy b = 2 := by rw [HY.out, if_pos (.inl hbig)]
        clear hn
        go_wp2_with fail
        all_goals go_ret3
        all_goals exact unf_is 2 hy (by omega) hk1 rfl
      · have q3 : decide ((1048576 : Int) < m) = false := by simp; omega
        have q3' : m ≤ 1048576 := by omega
        have q4 : IntKind.i64.wrap ((n' : Int) - 8) = (n' : Int) - 8 := IntWalk.i64_in _ (by omega)
        by_cases hsh : n' < m + 8
        · have q5 : (n' : Int) - 8 < m := by omega
          have hy : unfWhy b = 2 := by rw [HY.out, ← hn, if_pos (.inr hsh)]
          clear hn
          go_wp2_with fail
          all_goals go_ret3
          all_goals exact unf_is 2 hy (by omega) hk1 rfl
        · have q5 : decide ((n' : Int) - 8 < m) = false := by simp; omega
          have q6 : IntKind.u32.wrap (4 + (m : Int)) = 4 + (m : Int) := by rw [wrap32u]; omega
          have q7 : (0 : Int) ≤ 4 + (m : Int) := by omega
          have q8 : (4 : Int) + (m : Int) ≤ n' := by omega
          have q9 : n' ≤ c' := hB.cap
          have q10 : (4 : Int) + (m : Int) ≤ c' := by omega
          have q11 : (4 + (m : Int)).toNat = 4 + m := by omega
          have q12 : 4 + m ≤ n' := by omega
          have q13 : 4 + m ≤ c' := by omega
          have hB1 := hB.non hk1
          clear hn
          have l1 : 4 + m ≤ b.length := by have := HN.out; omega
          have l2 := HN.out
          have HL := Lib.hid l2
          clear l2
          go_wp2_with fail
          refine (number_calls _ _ _ _ w1 (hB1.drop (4 + m) q12) (by omega)).mono ?_
          rintro e w2 ⟨rfl, hk2⟩
          have hk3 := hk1.trans hk2
          have hB2 := hB1.non hk2
          have hT := hB2.take (4 + m) l1
          go_wp2_with fail
          have hC := cell_of_row _ _ 0 _ _ _ (heap_alloc_new w2 (Obj.cells #[Value.slice a' (4 + m) c'] 22))
          have hkA := (Kp.refl Non w2).alloc (Obj.cells #[Value.slice a' (4 + m) c'] 22)
          refine (sum_calls w2.heap.size a' (4 + m) c' _ _ (hT.non hkA) hC).mono ?_
          rintro e w3 ⟨rfl, rfl⟩
          have hk4 := hk3.trans hkA
          have hT4 := (hT.non hkA).drop 4 (by omega)
          rw [Nat.add_comm m 4] at HY
          have hnot : ¬ (1048576 < m ∨ b.length < m + 8) := by have := HL.out; omega
          have e12 : (b.take (4 + m)).drop 4 = unfData b := by
            unfold unfData
            rw [hm, List.drop_take, Nat.add_sub_cancel_left]
          rw [e12] at hT4
          by_cases hs : num4 (b.drop (4 + m)) = crc (b.take (4 + m))
          · have q14 : (((num4 (b.drop (4 + m)) : Nat) : Int) != ((crc (b.take (4 + m)) : Nat) : Int)) = false := by rw [hs]; simp
            have hy : unfWhy b = 0 := by rw [HY.out, if_neg hnot, if_neg (by rw [hs]; exact fun h => h rfl)]
            have q15 : IntKind.i64.wrap ((at_ : Int) + m) = (at_ : Int) + m := IntWalk.i64_in _ (by omega)
            have q16 : IntKind.i64.wrap ((at_ : Int) + m + 8) = (at_ : Int) + m + 8 := IntWalk.i64_in _ (by omega)
            generalize num4 (b.drop (4 + m)) = v1 at *
            generalize crc (b.take (4 + m)) = v2 at *
            rw [Nat.add_sub_cancel_left] at hT4
            have hbase := hk4.size
            have q17 : 4 ≤ 4 + m := by omega
            have q18 : 4 + m - 4 = m := by omega
            have q19 : ¬ (4 + m < 4) := by omega
            go_wp2_with ((at_builtin; refine wpList_append_bytes rfl _ _ 22 rfl w.heap.size 5 i0 Try.underlying22 hi0 hz0 hz1 hz2 none 0 0 [] rfl (OwnB.nil _ _ _) (Option.map (fun x => x.add 4) a') m (c' - 4) (unfData b) rfl hT4 (by omega) hbase ?_; intro a2 c2 w3 hO2 hg2 _; have hk5 : Kp Non w w3 := hk4.grown hg2 (fun j hj => by cases hj); rw [Nat.zero_add, List.nil_append] at hO2; simp only [Nat.zero_add]))
            go_ret3
            refine ⟨hk5, ?_⟩
            rw [if_pos hy, hm]
            exact ⟨a2, c2, by rw [Int.natCast_add, Int.natCast_add]; rfl, hO2⟩
          · have q14 : (((num4 (b.drop (4 + m)) : Nat) : Int) != ((crc (b.take (4 + m)) : Nat) : Int)) = true := by simp; omega
            have hy : unfWhy b = 3 := by rw [HY.out, if_neg hnot, if_pos hs]
            generalize num4 (b.drop (4 + m)) = v1 at *
            generalize crc (b.take (4 + m)) = v2 at *
            go_wp2_with fail
            all_goals go_ret3
            all_goals exact unf_is 3 hy (by omega) hk4 rfl
end Go.Proofs.Ytclbapmjhchokaa
