/-
  The document's call that takes a frame.
-/
import Derived.Test.YtclbapmjhchokaaJ18
import Derived.Test.YtclbapmjhchokaaR3
import Derived.Test.YtclbapmjhchokaaS6
namespace Go.Proofs.Ytclbapmjhchokaa
open Go.RowKit

def UnfRPost (b : List UInt8) (w : World) (e : Ending) (w' : World) : Prop :=
  Kp Non w w' ∧ if unfWhy b = 0 then ∃ a c, e = .returned (.tuple #[.slice a (num4 b) c, .int .i64 ((num4 b + 8 : Nat) : Int), .int .i64 0]) ∧ OwnB w' w.heap.size 5 a (num4 b) c (unfData b)
    else e = .returned (.tuple #[.slice none 0 0, .int .i64 0, .int .i64 (unfWhy b : Nat)])
theorem unfR_is {b : List UInt8} {w : World} {e : Ending} {w' : World} (k : Nat) (hk : unfWhy b = k) (h0 : k ≠ 0) (h : Kp Non w w') (he : e = .returned (.tuple #[.slice none 0 0, .int .i64 0, .int .i64 (k : Nat)])) : UnfRPost b w e w' := by
  refine ⟨h, ?_⟩
  rw [if_neg (by omega), hk]
  exact he
theorem le4_inj {a b : Nat} (ha : a < 4294967296) (hb : b < 4294967296) (h : le4 a = le4 b) : a = b := by
  have h1 := num4_le4 ha []
  have h2 := num4_le4 hb []
  rw [← h1, ← h2, h]
/-- A sum as text is its own just when it is as a number. -/
theorem sum_text {l : List UInt8} {x : Nat} (h : 4 ≤ l.length) (hx : x < 4294967296) : le4 x = l.take 4 ↔ num4 l = x := by
  rw [← le4_num4 h]
  exact ⟨fun e => (le4_inj hx (num4_lt l) e).symm, fun e => by rw [e]⟩

set_option maxRecDepth 100000 in
set_option maxHeartbeats 2000000 in
theorem unframeR_calls (a : Option Addr) (n c : Nat) (b : List UInt8) (w : World) (hb : Bytes w a n c b) (h : n ≤ 1000000000000) : Calls Try.prog 83 #[.slice a n c] w (UnfRPost b w) := by
  obtain ⟨i0, hi0, hz0, hz1, hz2⟩ := info_parts info5
  have hn := hb.len
  by_cases h0 : n = 0
  · have hy : unfWhy b = 1 := by unfold unfWhy; rw [← hn, if_pos h0]
    subst h0
    clear hn
    go_enter Try.func83, Try.ntmps83
    go_wp2_with fail
    all_goals go_ret3
    all_goals exact unfR_is 1 hy (by omega) (Kp.refl _ _) rfl
  · by_cases h4 : n < 4
    · have q1 : ((n : Int) == 0) = false := by simp; omega
      have q2 : (n : Int) < 4 := by omega
      have hy : unfWhy b = 2 := by unfold unfWhy; rw [← hn, if_neg h0, if_pos h4]
      clear hn
      go_enter Try.func83, Try.ntmps83
      go_wp2_with fail
      all_goals go_ret3
      all_goals exact unfR_is 2 hy (by omega) (Kp.refl _ _) rfl
    · have q1 : ((n : Int) == 0) = false := by simp; omega
      have q2 : decide ((n : Int) < 4) = false := by simp; omega
      have q2' : ¬ n < 4 := h4
      have HN := Lib.hid hn
      have hy0 : unfWhy b = if 1048576 < num4 b ∨ b.length < num4 b + 8 then 2 else if num4 (b.drop (num4 b + 4)) ≠ crc (b.take (num4 b + 4)) then 3 else 0 := by
        unfold unfWhy
        rw [← hn, if_neg h0, if_neg h4]
      have HY := Lib.hid hy0
      have hlt := num4_lt b
      obtain ⟨ad, rfl⟩ := hb.there (by omega)
      obtain ⟨b0, b1, b2, b3, r, hr⟩ := four_of (l := b) (by omega)
      have c0 := hb.cellAt (i := 0) (by omega)
      have c1 := hb.cellAt (i := 1) (by omega)
      have c2 := hb.cellAt (i := 2) (by omega)
      have c3 := hb.cellAt (i := 3) (by omega)
      have e0 : b[0]'(by omega) = b0 := by simp [hr]
      have e1 : b[1]'(by omega) = b1 := by simp [hr]
      have e2 : b[2]'(by omega) = b2 := by simp [hr]
      have e3 : b[3]'(by omega) = b3 := by simp [hr]
      rw [e0] at c0
      rw [e1] at c1
      rw [e2] at c2
      rw [e3] at c3
      have l0 := b0.toNat_lt
      have l1 := b1.toNat_lt
      have l2 := b2.toNat_lt
      have l3 := b3.toNat_lt
      have hv : b0.toNat + 256 * b1.toNat + 65536 * b2.toNat + 16777216 * b3.toNat = num4 b := by rw [hr]; rfl
      clear e0 e1 e2 e3 hr hy0 hn
      generalize b0.toNat = x0 at *
      generalize b1.toNat = x1 at *
      generalize b2.toNat = x2 at *
      generalize b3.toNat = x3 at *
      generalize hm : num4 b = m at *
      have HM := Lib.hid hm
      have w0 : IntKind.i64.wrap (x0 : Int) = x0 := IntWalk.i64_in _ (by omega)
      have w1 : IntKind.i64.wrap (x1 : Int) = x1 := IntWalk.i64_in _ (by omega)
      have w2 : IntKind.i64.wrap (x2 : Int) = x2 := IntWalk.i64_in _ (by omega)
      have w3 : IntKind.i64.wrap (x3 : Int) = x3 := IntWalk.i64_in _ (by omega)
      have v1 : IntKind.i64.wrap (256 * (x1 : Int)) = 256 * (x1 : Int) := IntWalk.i64_in _ (by omega)
      have v2 : IntKind.i64.wrap (65536 * (x2 : Int)) = 65536 * (x2 : Int) := IntWalk.i64_in _ (by omega)
      have v3 : IntKind.i64.wrap (16777216 * (x3 : Int)) = 16777216 * (x3 : Int) := IntWalk.i64_in _ (by omega)
      have o1 : IntKind.i64.wrap ((x0 : Int) + 256 * (x1 : Int)) = (x0 : Int) + 256 * (x1 : Int) := IntWalk.i64_in _ (by omega)
      have o2 : IntKind.i64.wrap ((x0 : Int) + 256 * (x1 : Int) + 65536 * (x2 : Int)) = (x0 : Int) + 256 * (x1 : Int) + 65536 * (x2 : Int) := IntWalk.i64_in _ (by omega)
      have o3 : IntKind.i64.wrap ((x0 : Int) + 256 * (x1 : Int) + 65536 * (x2 : Int) + 16777216 * (x3 : Int)) = (m : Int) := by rw [IntWalk.i64_in _ (by omega)]; omega
      have g0 : (0 : Int) < n := by omega
      have p0 : 0 < n := by omega
      have p1 : 1 < n := by omega
      have p2 : 2 < n := by omega
      have p3 : 3 < n := by omega
      have g1 : (1 : Int) < n := by omega
      have g2 : (2 : Int) < n := by omega
      have g3 : (3 : Int) < n := by omega
      replace c0 : w.cell? ad = some (.int .u8 (x0 : Nat)) := c0
      replace c1 : w.cell? ⟨ad.block, ad.off + 1, none⟩ = some (.int .u8 (x1 : Nat)) := c1
      replace c2 : w.cell? ⟨ad.block, ad.off + 2, none⟩ = some (.int .u8 (x2 : Nat)) := c2
      replace c3 : w.cell? ⟨ad.block, ad.off + 3, none⟩ = some (.int .u8 (x3 : Nat)) := c3
      go_enter Try.func83, Try.ntmps83
      go_wp2_with fail
      go_quiet (fail)
      clear c0 c1 c2 c3
      have hkq : Kp Non w (w.drewN nq) := (Kp.refl _ _).drewN _
      have hbq := hb.non hkq
      generalize w.drewN nq = wq at *
      generalize (some ad : Option Addr) = aa at *
      obtain ⟨k4, hk4⟩ : ∃ k4, k4 = m + 4 := ⟨_, rfl⟩
      obtain ⟨k8, hk8⟩ : ∃ k8, k8 = m + 8 := ⟨_, rfl⟩
      have z8 : IntKind.i64.wrap ((m : Int) + 8) = (k8 : Int) := by rw [IntWalk.i64_in _ (by omega)]; omega
      have z4 : IntKind.i64.wrap ((m : Int) + 4) = (k4 : Int) := by rw [IntWalk.i64_in _ (by omega)]; omega
      rw [← hk4, ← hk8] at HY
      have H48 := Lib.hid (And.intro hk4 hk8)
      clear w0 w1 w2 w3 v1 v2 v3 o1 o2
      by_cases hbig : 1048576 < m
      · have q3 : (1048576 : Int) < m := by omega
        have hy : unfWhy b = 2 := by rw [HY.out, if_pos (.inl hbig)]
        go_wp2_with fail
        all_goals go_ret3
        all_goals exact unfR_is 2 hy (by omega) hkq rfl
      · have q3 : decide ((1048576 : Int) < m) = false := by simp; omega
        have q3' : ¬ 1048576 < m := hbig
        by_cases hsh : n < m + 8
        · have q5 : (n : Int) < (k8 : Int) := by omega
          have q6 : n < k8 := by omega
          have hy : unfWhy b = 2 := by rw [HY.out, ← HN.out, if_pos (.inr (by omega))]
          go_wp2_with fail
          all_goals go_ret3
          all_goals exact unfR_is 2 hy (by omega) hkq rfl
        · have q5 : decide ((n : Int) < (k8 : Int)) = false := by simp; omega
          have q5' : ¬ n < k8 := by omega
          have hcap := hbq.cap
          have s1 : k4 ≤ n := by omega
          have s2 : k8 ≤ n := by omega
          have s3 : k8 ≤ c := by omega
          have s4 : k4 ≤ c := by omega
          have s5 : (0 : Int) ≤ (k4 : Int) := by omega
          have s6 : (k4 : Int) ≤ (c : Int) := by omega
          have s7 : (k8 : Int) ≤ (c : Int) := by omega
          have s10 : k8 - k4 = 4 := by omega
          have s11 : (k4 : Int) ≤ (k8 : Int) := by omega
          have s12 : ¬ c = k4 := by omega
          have s13 : k4 ≤ k8 := by omega
          clear hk4 hk8
          have cvf0 : ∀ w', Bytes w' aa n c b → (convert 22 9 (.slice (aa.map (·.add k4)) 4 (c - k4))).run Try.prog w' = .ok (.string ⟨((b.drop k4).take 4).toArray⟩) w' := fun w' hB =>
            conv_string w' _ _ _ _ ((hB.drop k4 s1).take 4 (by rw [List.length_drop]; have := HN.out; omega))
          have hbt : Bytes wq.drew aa k4 c (b.take k4) := (hbq.drew).take k4 (by have := HN.out; omega)
          have hcl := crc_lt (b.take k4)
          generalize hqq : crc (b.take k4) = q at *
          have HQ := Lib.hid hqq
          clear hqq
          have hdl : 4 ≤ (b.drop k4).length := by rw [List.length_drop]; have := HN.out; omega
          have hst := sum_text (l := b.drop k4) (x := q) hdl hcl
          have HY2 : unfWhy b = if num4 (b.drop k4) ≠ q then 3 else 0 := by
            have h1 := HY.out
            rw [if_neg (by have := HN.out; omega)] at h1
            exact h1
          by_cases hs : num4 (b.drop k4) = q
          · have cvf := cvf0
            rw [← hst.2 hs] at cvf
            clear cvf0
            have hn1 : (le4 q == le4 q) = true := by simp
            have hy : unfWhy b = 0 := by rw [HY2, if_neg (fun h => h hs)]
            clear HY HY2 hst
            have hbd := hbq.drew
            have hkd : Kp Non w wq.drew := hkq.drew
            go_wp2_with fail
            refine wp_region_chain [0,0,0,0,1,1,1,0,0,0,0,0,0,0,2] (by kernel_rfl) (by kernel_rfl) (fun w' => Bytes w' aa n c b) hbq.drew ?_
            generalize hwd : wq.drew = wd at *
            refine PB.out ?_
            repeat (first | (with_reducible refine pb_skip ?_) | ((with_reducible refine pb_k rfl ?_); intro K hK; apply Exists.intro; refine ⟨fun w' hC => ?_, ?_⟩; (have cv := cvf w' hC; go_simp; rfl); go_simp; refine hK _ ?_; clear hK K))
            with_reducible refine pb_nil ?_
            refine CB.out ?_
            repeat (with_reducible refine cb_skip ?_)
            with_reducible refine cb_step rfl fun K hK => ?_
            go_simp
            have hcc := crc_calls aa k4 c (b.take k4) wd hbt
            rw [HQ.out] at hcc
            refine hcc.mono ?_
            rintro e w5 ⟨rfl, rfl⟩
            go_simp
            refine hK _ _ (fun _ => hbd) ?_
            clear hK K
            with_reducible refine cb_step rfl fun K hK => ?_
            go_simp
            refine (reffour_calls q w5 hcl).mono ?_
            rintro e w6 ⟨rfl, rfl⟩
            have hkA : Kp Non w5 (w5.alloc (.cells (F4 q) 5)) := (Kp.refl _ _).alloc _
            have hb6 := hbd.non hkA
            have cv6 := conv_string (w5.alloc (.cells (F4 q) 5)) _ _ _ _ (F4_own q w5).bytes
            go_simp
            refine hK _ _ (fun _ => hb6) ?_
            clear hK K
            with_reducible refine cb_step rfl fun K hK => ?_
            go_simp
            refine hK _ _ (fun _ => hb6) ?_
            clear hK K
            repeat (with_reducible refine cb_skip ?_)
            with_reducible refine cb_step rfl fun K hK => ?_
            go_simp
            refine hK _ _ (fun h => by cases h) ?_
            clear hK K
            with_reducible refine cb_nil ?_
            have hk6 := hkd.trans hkA
            have hT4 := (hb6.take k4 (by have := HN.out; omega)).drop 4 (by have := H48.out; omega)
            have e12 : (b.take k4).drop 4 = unfData b := by
              unfold unfData
              rw [HM.out, List.drop_take, H48.out.1, Nat.add_sub_cancel]
            rw [e12, show k4 - 4 = m by have := H48.out; omega] at hT4
            generalize w5.alloc (.cells (F4 q) 5) = w6 at *
            have hkB : Kp Non w6 (w6.alloc (.cells #[] 5)) := (Kp.refl _ _).alloc _
            have hOZ := OwnB.zero w6 5
            have hTB := hT4.non hkB
            have hk7 := hk6.trans hkB
            have u1 : 4 ≤ k4 := by have := H48.out; omega
            have u2 : k4 - 4 = m := by have := H48.out; omega
            have u3 : (4 : Int) ≤ (k4 : Int) := by omega
            have u4 : ¬ c = 4 := by have := H48.out; omega
            have u5 : 4 ≤ c := by have := H48.out; omega
            have hbs : w.heap.size ≤ w6.heap.size := hk6.size
            go_wp2_with ((at_builtin; refine wpList_append_bytes rfl _ _ 22 rfl w6.heap.size 5 i0 Try.underlying22 hi0 hz0 hz1 hz2 (some ⟨w6.heap.size, 0, none⟩) 0 0 [] rfl hOZ (aa.map (·.add 4)) m (c - 4) (unfData b) rfl hTB (by omega) hkB.size ?_; intro a2 c2 w7 hO7 hg7 _; have hk8 : Kp Non w w7 := hk7.grown hg7 (fun j hj => .inr (by have := (World.ownsRow.lt hOZ j hj).1; omega)); rw [Nat.zero_add, List.nil_append] at hO7; simp only [Nat.zero_add]))
            go_ret3
            refine ⟨hk8, ?_⟩
            rw [if_pos hy, HM.out, ← H48.out.2]
            exact ⟨a2, c2, rfl, hO7.base hbs⟩
          · have hne : ¬ le4 q = (b.drop k4).take 4 := fun h => hs (hst.1 h)
            have hy : unfWhy b = 3 := by rw [HY2, if_pos hs]
            have hn1 : (le4 q == (b.drop k4).take 4) = false := beq_false_of_ne hne
            have cvf := cvf0
            clear HY HY2 hst hne
            have hbd := hbq.drew
            have hkd : Kp Non w wq.drew := hkq.drew
            go_wp2_with fail
            refine wp_region_chain [0,0,0,0,1,1,1,0,0,0,0,0,0,0,2] (by kernel_rfl) (by kernel_rfl) (fun w' => Bytes w' aa n c b) hbq.drew ?_
            generalize hwd : wq.drew = wd at *
            refine PB.out ?_
            repeat (first | (with_reducible refine pb_skip ?_) | ((with_reducible refine pb_k rfl ?_); intro K hK; apply Exists.intro; refine ⟨fun w' hC => ?_, ?_⟩; (have cv := cvf w' hC; go_simp; rfl); go_simp; refine hK _ ?_; clear hK K))
            with_reducible refine pb_nil ?_
            refine CB.out ?_
            repeat (with_reducible refine cb_skip ?_)
            with_reducible refine cb_step rfl fun K hK => ?_
            go_simp
            have hcc := crc_calls aa k4 c (b.take k4) wd hbt
            rw [HQ.out] at hcc
            refine hcc.mono ?_
            rintro e w5 ⟨rfl, rfl⟩
            go_simp
            refine hK _ _ (fun _ => hbd) ?_
            clear hK K
            with_reducible refine cb_step rfl fun K hK => ?_
            go_simp
            refine (reffour_calls q w5 hcl).mono ?_
            rintro e w6 ⟨rfl, rfl⟩
            have hkA : Kp Non w5 (w5.alloc (.cells (F4 q) 5)) := (Kp.refl _ _).alloc _
            have hb6 := hbd.non hkA
            have cv6 := conv_string (w5.alloc (.cells (F4 q) 5)) _ _ _ _ (F4_own q w5).bytes
            go_simp
            refine hK _ _ (fun _ => hb6) ?_
            clear hK K
            with_reducible refine cb_step rfl fun K hK => ?_
            go_simp
            refine hK _ _ (fun _ => hb6) ?_
            clear hK K
            repeat (with_reducible refine cb_skip ?_)
            with_reducible refine cb_step rfl fun K hK => ?_
            go_simp
            refine hK _ _ (fun h => by cases h) ?_
            clear hK K
            with_reducible refine cb_nil ?_
            have hk6 := hkd.trans hkA
            go_wp2_with fail
            all_goals go_ret3
            all_goals exact unfR_is 3 hy (by omega) hk6 rfl
end Go.Proofs.Ytclbapmjhchokaa
