/-
  Meet.
-/
import Derived.Test.YtkgjpmgoapfamaaE7
import Derived.Test.YtkgjpmgoapfamaaRF
namespace Go.Proofs.Ytkgjpmgoapfamaa
open Go.RowKit

theorem meet_step {A B : List Sp} {i k : Nat} (hi : i < A.length) (hk : k < B.length) : meet (A.drop i) (B.drop k) = bothL A[i] B[k] ++ (if A[i].2 < B[k].2 then meet (A.drop (i + 1)) (B.drop k) else meet (A.drop i) (B.drop (k + 1))) := by
  rw [List.drop_eq_getElem_cons hi, List.drop_eq_getElem_cons hk, meet]
  split <;> rfl
theorem meet_end {A B : List Sp} {i k : Nat} (h : A.length ≤ i ∨ B.length ≤ k) : meet (A.drop i) (B.drop k) = [] := by
  rcases h with h | h
  · rw [List.drop_eq_nil_of_le h]; simp [meet]
  · rw [List.drop_eq_nil_of_le h]
    cases A.drop i <;> simp [meet]

theorem Kp.of_new {a W : World} (h : Kp Non a W) (b : Nat) (hb : a.heap.size ≤ b) (u v : Value) : Kp Non a ((W.setCell ⟨b, 0, none⟩ u).setCell ⟨b, 1, none⟩ v) :=
  (h.setCell (p := ⟨b, 0, none⟩) (.inr hb) u).setCell (p := ⟨b, 1, none⟩) (.inr hb) v
theorem BoxS.set1 {W : World} {b : Nat} {s : Sp} (h : BoxS W b s) (x : Int) : BoxS (W.setCell ⟨b, 1, none⟩ (.int .i64 x)) b (s.1, x) := by
  have := heap_setCell_same W b 1 _ _ (.int .i64 x) h
  exact this


set_option maxRecDepth 100000 in
set_option maxHeartbeats 1000000 in
theorem meet_calls (a : Option Addr) (n c : Nat) (la : List Sp) (a' : Option Addr) (n' c' : Nat) (lb : List Sp) (w : World) (h : Spans w a n c la) (h' : Spans w a' n' c' lb) (hn : n ≤ 1000000000) (hn' : n' ≤ 1000000000) :
    Calls Try.prog 42 #[.slice a n c, .slice a' n' c'] w (SpansOut (meetN la lb) w) := by
  obtain rfl := h.len
  obtain rfl := h'.len
  obtain ⟨i0, hi0, hz0, hz1, hz2⟩ := info_parts infoS
  go_enter Try.func42, Try.ntmps42
  go_wp2_with fail
  refine (norm_calls a la.length c la w h (by omega)).mono ?_
  rintro e w1 ⟨a1, cc1, rfl, hO1, hk1⟩
  go_wp2_with fail
  refine (norm_calls a' lb.length c' lb w1 (h'.non hk1) (by omega)).mono ?_
  rintro e w2 ⟨a2, cc2, rfl, hO2, hk2⟩
  have hA := (hO1.non hk2).reads encS_len (by omega)
  have hB := hO2.reads encS_len (by omega)
  have hkw : Kp Non w w2 := hk1.trans hk2
  have hMN : meet (norm la) (norm lb) = meetN la lb := rfl
  have hla := norm_len la
  have hlb := norm_len lb
  clear hO1 hO2 hk1 hk2 h h'
  have HR := Lib.hid hMN
  clear hMN
  generalize norm la = A at *
  generalize norm lb = B at *
  have hcA := hA.cap
  have hmA := hA.max
  have hcB := hB.cap
  have hmB := hB.max
  go_wp2_with fail
  go_loopw [5, 6, 7] (fun v5 v6 v7 wr => ∃ (i k : Nat) (out : List Sp) (a5 : Option Addr) (c5 : Nat), i ≤ A.length ∧ k ≤ B.length ∧ v5 = .slice a5 out.length c5 ∧ v6 = .int .i64 i ∧ v7 = .int .i64 k ∧ Hid (out ++ meet (A.drop i) (B.drop k) = meet A B) ∧ out.length ≤ i + k ∧ OwnS wr w2.heap.size a5 out.length c5 out ∧ Kp Non w2 wr) (fun _ v6 v7 _ => A.length - (intOf v6).toNat + (B.length - (intOf v7).toNat))
  case atStart => exact ⟨0, 0, [], none, 0, by omega, by omega, rfl, rfl, rfl, Lib.hid rfl, by simp, OwnR.nil _ _ _, Kp.refl _ _⟩
  case round =>
    obtain ⟨i, k, out, a5, c5, hi, hk, rfl, rfl, rfl, HM, hol, hO, hkr⟩ := hrel
    by_cases hlt : i < A.length
    · have g : (i : Int) < (A.length : Nat) := by omega
      by_cases hlk : k < B.length
      · have g2 : (k : Int) < (B.length : Nat) := by omega
        obtain ⟨b, o, rfl⟩ := hA.there (by omega)
        obtain ⟨b', o', rfl⟩ := hB.there (by omega)
        have c0 := Spans.c0 (hA.non hkr) hlt
        have c1 := Spans.c1 (hA.non hkr) hlt
        have d0 := Spans.c0 (hB.non hkr) hlk
        have d1 := Spans.c1 (hB.non hkr) hlk
        have HS := Lib.hid (meet_step hlt hlk)
        have hbA : b < w2.heap.size := hA.lt (by omega) encS_len (by omega) b ⟨_, rfl, rfl⟩
        have hbB : b' < w2.heap.size := hB.lt (by omega) encS_len (by omega) b' ⟨_, rfl, rfl⟩
        generalize A[i] = s at *
        generalize B[k] = t at *
        have HC := Lib.hid (fun W => both_calls s t W)
        have hbl : ∀ q, both s t = q → bothL s t = if q.1 < q.2 then [q] else [] := fun q e => by subst e; rfl
        have HBL := Lib.hid hbl
        clear hbl
        obtain ⟨q, hq⟩ : ∃ q, both s t = q := ⟨_, rfl⟩
        rw [hq] at HC
        have HB := HBL.out q hq
        clear HBL hq
        have HB := Lib.hid HB
        go_wp2_with fail
        refine wp_region_free [0,0,0,0,0,0,0,0,1,1,2] (by kernel_rfl) (by kernel_rfl) (fun w' => w'.cell? ⟨b, o + i * 2, none⟩ = some (.int .i64 s.1) ∧ w'.cell? ⟨b, o + i * 2 + 1, none⟩ = some (.int .i64 s.2) ∧ w'.cell? ⟨b', o' + k * 2, none⟩ = some (.int .i64 t.1) ∧ w'.cell? ⟨b', o' + k * 2 + 1, none⟩ = some (.int .i64 t.2)) ⟨c0, c1, d0, d1⟩ [8,9,10] rfl ?_
        repeat (first | (with_reducible refine pure_skip ?_) | ((with_reducible refine pure_k rfl ?_); intro K hK; apply Exists.intro; refine ⟨fun w' hC => ?_, ?_⟩; (obtain ⟨g1, g2, g3, g4⟩ := hC; go_simp; rfl); go_simp; refine hK _ ?_; clear hK K))
        with_reducible refine pure_nil ?_
        show wpFree _ _ _ _ _ 3 _ _ _
        refine free_two 8 9 (by kernel_rfl) ?_ ?_
        · refine free_at _ rfl rfl 1 rfl rfl fun K hK => ?_
          go_simp
          refine (HC.out _).mono ?_
          rintro e w3 ⟨rfl, hk3⟩
          have hk3' : Kp Non wr w3 := ((Kp.refl _ wr).drew).trans hk3
          refine hK _ _ (fun _ => ⟨hk3'.cell c0 (fun f => f), hk3'.cell c1 (fun f => f), hk3'.cell d0 (fun f => f), hk3'.cell d1 (fun f => f)⟩) ?_
          clear hK K
          refine free_one 9 (by kernel_rfl) ?_
          refine free_at _ rfl rfl 1 rfl rfl fun K hK => ?_
          go_simp
          refine hK _ _ (fun _ => ⟨(hk3'.alloc _).cell c0 (fun f => f), (hk3'.alloc _).cell c1 (fun f => f), (hk3'.alloc _).cell d0 (fun f => f), (hk3'.alloc _).cell d1 (fun f => f)⟩) ?_
          clear hK K
          refine free_one 10 (by kernel_rfl) ?_
          refine free_at _ rfl rfl 2 rfl rfl fun K hK => ?_
          go_simp
          refine hK _ _ (fun h => by cases h) ?_
          clear hK K
          refine free_nil ?_
          -- the box lies in W4
          have hbx : BoxS (w3.alloc (.cells #[.int .i64 q.1, .int .i64 q.2] 30)) (w3.heap.size) q := BoxS.new w3 q
          have hk4 : Kp Non wr (w3.alloc (.cells #[.int .i64 q.1, .int .i64 q.2] 30)) := hk3'.alloc _
          have hbl : w3.heap.size < (w3.alloc (.cells #[.int .i64 q.1, .int .i64 q.2] 30)).heap.size := hbx.lt
          have hbo : w2.heap.size ≤ w3.heap.size := by have := hkr.size; have := hk3'.size; omega
          obtain ⟨W4, hW4⟩ : ∃ W, W = w3.alloc (.cells #[.int .i64 q.1, .int .i64 q.2] 30) := ⟨_, rfl⟩
          rw [← hW4] at hbx hk4 hbl ⊢
          clear hW4
          generalize w3.heap.size = bx at *
          have x0 := hbx.c0
          have x1 := hbx.c1
          have HE := Lib.hid (empty_calls q W4)
          by_cases hfl : q.1 < q.2
          · rw [full_yes hfl] at HE
            simp only [Bool.not_true] at HE
            go_wp2_with fail
            refine HE.out.mono ?_
            rintro e w5 ⟨rfl, hk5⟩
            have x0 := hk5.cell x0 (fun f => f)
            have x1 := hk5.cell x1 (fun f => f)
            have hk45 : Kp Non wr w5 := hk4.trans hk5
            have hO5 := hO.non hk45
            have hsz : w2.heap.size ≤ w5.heap.size := Nat.le_trans hkr.size hk45.size
            go_wp2_with (at_builtin; refine wpList_append_row rfl _ _ 22 rfl w2.heap.size 30 i0 _ 16 Try.underlying22 hi0 hz0 hz1 hz2 rfl (by decide) encS_len encS_one a5 out.length c5 out rfl (hO5.non ((Kp.refl _ _).alloc _)) _ 1 1 [q] rfl (Reads.new rfl rfl) (by omega) (by omega) ?_ ?_; exact Nat.le_trans hsz (by simp); intro a6 c6 w6 hO6 hq6 _)
            have hk6 : Kp (Blk a5) wr w6 := (hk45.alloc (.cells #[.int .i64 q.1, .int .i64 q.2] 30)).comp hq6 (fun _ _ f => f.elim) (fun _ _ z => z)
            have hk26 : Kp Non w2 w6 := hkr.comp hk6 (fun _ _ f => f) (fun i hi z => by have := (hO.blk i z).1; omega)
            have hnb : ∀ x, x < w2.heap.size → ¬ Blk a5 x := fun x hx z => by have := (hO.blk x z).1; omega
            -- what lies behind the test
            have z2 := (hk6.drew).cell c1 (hnb _ hbA)
            have z3 := (hk6.drew).cell d1 (hnb _ hbB)
            have hbl2 : bothL s t = [q] := (by rw [HB.out, if_pos hfl])
            have HBL := Lib.hid hbl2
            clear hbl2
            by_cases hst : s.2 < t.2
            · have HX : Hid ((out ++ [q]) ++ meet (A.drop (i + 1)) (B.drop k) = meet A B) := Lib.hid (by rw [← HM.out, HS.out, HBL.out, if_pos hst]; simp)
              go_wp2_with fail
              refine wp_region_chain [0,0,0,0,0,0,0,0,0,0,0] (by kernel_rfl) (by kernel_rfl) (fun w' => w'.cell? ⟨b, o + i * 2 + 1, none⟩ = some (.int .i64 s.2) ∧ w'.cell? ⟨b', o' + k * 2 + 1, none⟩ = some (.int .i64 t.2)) ⟨z2, z3⟩ ?_
              repeat (first | (with_reducible refine pure_skip ?_) | ((with_reducible refine pure_k rfl ?_); intro K hK; apply Exists.intro; refine ⟨fun w' hC => ?_, ?_⟩; (obtain ⟨g1, g2⟩ := hC; go_simp; rfl); go_simp; refine hK _ ?_; clear hK K))
              with_reducible refine pure_nil ?_
              repeat (with_reducible refine chain_skip0 ?_)
              with_reducible refine chain_nil ?_
              go_wp2_with fail
              go_roundw
              case rel => exact ⟨i + 1, k, out ++ [q], a6, c6, by omega, by omega, by simp, by go_num, rfl, HX, by simp; omega, by simpa using hO6.non ((Kp.refl _ _).drew), hk26.drew⟩
              case measure => simp [intOf]; omega
            · have HX : Hid ((out ++ [q]) ++ meet (A.drop i) (B.drop (k + 1)) = meet A B) := Lib.hid (by rw [← HM.out, HS.out, HBL.out, if_neg hst]; simp)
              have hd : decide (s.2 < t.2) = false := by simp; omega
              go_wp2_with fail
              refine wp_region_chain [0,0,0,0,0,0,0,0,0,0,0] (by kernel_rfl) (by kernel_rfl) (fun w' => w'.cell? ⟨b, o + i * 2 + 1, none⟩ = some (.int .i64 s.2) ∧ w'.cell? ⟨b', o' + k * 2 + 1, none⟩ = some (.int .i64 t.2)) ⟨z2, z3⟩ ?_
              repeat (first | (with_reducible refine pure_skip ?_) | ((with_reducible refine pure_k rfl ?_); intro K hK; apply Exists.intro; refine ⟨fun w' hC => ?_, ?_⟩; (obtain ⟨g1, g2⟩ := hC; go_simp; rfl); go_simp; refine hK _ ?_; clear hK K))
              with_reducible refine pure_nil ?_
              repeat (with_reducible refine chain_skip0 ?_)
              with_reducible refine chain_nil ?_
              go_wp2_with fail
              go_roundw
              case rel => exact ⟨i, k + 1, out ++ [q], a6, c6, by omega, by omega, by simp, rfl, by go_num, HX, by simp; omega, by simpa using hO6.non ((Kp.refl _ _).drew), hk26.drew⟩
              case measure => simp [intOf]; omega
          · rw [full_no (by omega)] at HE
            simp only [Bool.not_false] at HE
            go_wp2_with fail
            refine HE.out.mono ?_
            rintro e w5 ⟨rfl, hk5⟩
            have hk45 : Kp Non wr w5 := hk4.trans hk5
            -- what lies behind the test
            have z2 := (hk45.drew).cell c1 (fun f => f)
            have z3 := (hk45.drew).cell d1 (fun f => f)
            have hbl2 : bothL s t = ([] : List Sp) := (by rw [HB.out, if_neg (show ¬ q.1 < q.2 by omega)])
            have HBL := Lib.hid hbl2
            clear hbl2
            by_cases hst : s.2 < t.2
            · have HX : Hid ((out ++ ([] : List Sp)) ++ meet (A.drop (i + 1)) (B.drop k) = meet A B) := Lib.hid (by rw [← HM.out, HS.out, HBL.out, if_pos hst]; simp)
              go_wp2_with fail
              refine wp_region_chain [0,0,0,0,0,0,0,0,0,0,0] (by kernel_rfl) (by kernel_rfl) (fun w' => w'.cell? ⟨b, o + i * 2 + 1, none⟩ = some (.int .i64 s.2) ∧ w'.cell? ⟨b', o' + k * 2 + 1, none⟩ = some (.int .i64 t.2)) ⟨z2, z3⟩ ?_
              repeat (first | (with_reducible refine pure_skip ?_) | ((with_reducible refine pure_k rfl ?_); intro K hK; apply Exists.intro; refine ⟨fun w' hC => ?_, ?_⟩; (obtain ⟨g1, g2⟩ := hC; go_simp; rfl); go_simp; refine hK _ ?_; clear hK K))
              with_reducible refine pure_nil ?_
              repeat (with_reducible refine chain_skip0 ?_)
              with_reducible refine chain_nil ?_
              go_wp2_with fail
              go_roundw
              case rel => exact ⟨i + 1, k, out ++ ([] : List Sp), a5, c5, by omega, by omega, by simp, by go_num, rfl, HX, by simp; omega, by simpa using (hO.non hk45).non ((Kp.refl _ _).drew), (hkr.trans hk45).drew⟩
              case measure => simp [intOf]; omega
            · have HX : Hid ((out ++ ([] : List Sp)) ++ meet (A.drop i) (B.drop (k + 1)) = meet A B) := Lib.hid (by rw [← HM.out, HS.out, HBL.out, if_neg hst]; simp)
              have hd : decide (s.2 < t.2) = false := by simp; omega
              go_wp2_with fail
              refine wp_region_chain [0,0,0,0,0,0,0,0,0,0,0] (by kernel_rfl) (by kernel_rfl) (fun w' => w'.cell? ⟨b, o + i * 2 + 1, none⟩ = some (.int .i64 s.2) ∧ w'.cell? ⟨b', o' + k * 2 + 1, none⟩ = some (.int .i64 t.2)) ⟨z2, z3⟩ ?_
              repeat (first | (with_reducible refine pure_skip ?_) | ((with_reducible refine pure_k rfl ?_); intro K hK; apply Exists.intro; refine ⟨fun w' hC => ?_, ?_⟩; (obtain ⟨g1, g2⟩ := hC; go_simp; rfl); go_simp; refine hK _ ?_; clear hK K))
              with_reducible refine pure_nil ?_
              repeat (with_reducible refine chain_skip0 ?_)
              with_reducible refine chain_nil ?_
              go_wp2_with fail
              go_roundw
              case rel => exact ⟨i, k + 1, out ++ ([] : List Sp), a5, c5, by omega, by omega, by simp, rfl, by go_num, HX, by simp; omega, by simpa using (hO.non hk45).non ((Kp.refl _ _).drew), (hkr.trans hk45).drew⟩
              case measure => simp [intOf]; omega
        · refine free_at _ rfl rfl 1 rfl rfl fun K hK => ?_
          go_simp
          have hkA : Kp Non wr (wr.alloc (.cells #[.int .i64 0, .int .i64 0] 30)).drew := ((Kp.refl _ wr).alloc _).drew
          refine hK _ _ (fun _ => ⟨hkA.cell c0 (fun f => f), hkA.cell c1 (fun f => f), hkA.cell d0 (fun f => f), hkA.cell d1 (fun f => f)⟩) ?_
          clear hK K
          refine free_one 8 (by kernel_rfl) ?_
          refine free_at _ rfl rfl 1 rfl rfl fun K hK => ?_
          go_simp
          refine (HC.out _).mono ?_
          rintro e w3 ⟨rfl, hk3⟩
          have hk3' : Kp Non wr w3 := hkA.trans hk3
          refine hK _ _ (fun _ => ⟨hk3'.cell c0 (fun f => f), hk3'.cell c1 (fun f => f), hk3'.cell d0 (fun f => f), hk3'.cell d1 (fun f => f)⟩) ?_
          clear hK K
          refine free_one 10 (by kernel_rfl) ?_
          refine free_at _ rfl rfl 2 rfl rfl fun K hK => ?_
          have hbz : BoxS w3 wr.heap.size (0, 0) := BoxS.non (W := (wr.alloc (.cells #[.int .i64 0, .int .i64 0] 30)).drew) (heap_alloc_new wr _) hk3
          have z0 := hbz.c0
          have z1 := hbz.c1
          have f0 := hbz.fz 0
          have f1 := hbz.fz 1
          go_simp
          refine hK _ _ (fun h => by cases h) ?_
          clear hK K
          refine free_nil ?_
          clear z0 z1 f0 f1
          -- the box lies in W4
          have hbx : BoxS ((w3.setCell ⟨wr.heap.size, 0, none⟩ (.int .i64 q.1)).setCell ⟨wr.heap.size, 1, none⟩ (.int .i64 q.2)) (wr.heap.size) q := (hbz.set q.1).set1 q.2
          have hk4 : Kp Non wr ((w3.setCell ⟨wr.heap.size, 0, none⟩ (.int .i64 q.1)).setCell ⟨wr.heap.size, 1, none⟩ (.int .i64 q.2)) := Kp.of_new hk3' wr.heap.size (Nat.le_refl _) (.int .i64 q.1) (.int .i64 q.2)
          have hbl : wr.heap.size < ((w3.setCell ⟨wr.heap.size, 0, none⟩ (.int .i64 q.1)).setCell ⟨wr.heap.size, 1, none⟩ (.int .i64 q.2)).heap.size := hbx.lt
          have hbo : w2.heap.size ≤ wr.heap.size := by have := hkr.size; have := hk3'.size; omega
          obtain ⟨W4, hW4⟩ : ∃ W, W = (w3.setCell ⟨wr.heap.size, 0, none⟩ (.int .i64 q.1)).setCell ⟨wr.heap.size, 1, none⟩ (.int .i64 q.2) := ⟨_, rfl⟩
          rw [← hW4] at hbx hk4 hbl ⊢
          clear hW4
          generalize wr.heap.size = bx at *
          have x0 := hbx.c0
          have x1 := hbx.c1
          have HE := Lib.hid (empty_calls q W4)
          by_cases hfl : q.1 < q.2
          · rw [full_yes hfl] at HE
            simp only [Bool.not_true] at HE
            go_wp2_with fail
            refine HE.out.mono ?_
            rintro e w5 ⟨rfl, hk5⟩
            have x0 := hk5.cell x0 (fun f => f)
            have x1 := hk5.cell x1 (fun f => f)
            have hk45 : Kp Non wr w5 := hk4.trans hk5
            have hO5 := hO.non hk45
            have hsz : w2.heap.size ≤ w5.heap.size := Nat.le_trans hkr.size hk45.size
            go_wp2_with (at_builtin; refine wpList_append_row rfl _ _ 22 rfl w2.heap.size 30 i0 _ 16 Try.underlying22 hi0 hz0 hz1 hz2 rfl (by decide) encS_len encS_one a5 out.length c5 out rfl (hO5.non ((Kp.refl _ _).alloc _)) _ 1 1 [q] rfl (Reads.new rfl rfl) (by omega) (by omega) ?_ ?_; exact Nat.le_trans hsz (by simp); intro a6 c6 w6 hO6 hq6 _)
            have hk6 : Kp (Blk a5) wr w6 := (hk45.alloc (.cells #[.int .i64 q.1, .int .i64 q.2] 30)).comp hq6 (fun _ _ f => f.elim) (fun _ _ z => z)
            have hk26 : Kp Non w2 w6 := hkr.comp hk6 (fun _ _ f => f) (fun i hi z => by have := (hO.blk i z).1; omega)
            have hnb : ∀ x, x < w2.heap.size → ¬ Blk a5 x := fun x hx z => by have := (hO.blk x z).1; omega
            -- what lies behind the test
            have z2 := (hk6.drew).cell c1 (hnb _ hbA)
            have z3 := (hk6.drew).cell d1 (hnb _ hbB)
            have hbl2 : bothL s t = [q] := (by rw [HB.out, if_pos hfl])
            have HBL := Lib.hid hbl2
            clear hbl2
            by_cases hst : s.2 < t.2
            · have HX : Hid ((out ++ [q]) ++ meet (A.drop (i + 1)) (B.drop k) = meet A B) := Lib.hid (by rw [← HM.out, HS.out, HBL.out, if_pos hst]; simp)
              go_wp2_with fail
              refine wp_region_chain [0,0,0,0,0,0,0,0,0,0,0] (by kernel_rfl) (by kernel_rfl) (fun w' => w'.cell? ⟨b, o + i * 2 + 1, none⟩ = some (.int .i64 s.2) ∧ w'.cell? ⟨b', o' + k * 2 + 1, none⟩ = some (.int .i64 t.2)) ⟨z2, z3⟩ ?_
              repeat (first | (with_reducible refine pure_skip ?_) | ((with_reducible refine pure_k rfl ?_); intro K hK; apply Exists.intro; refine ⟨fun w' hC => ?_, ?_⟩; (obtain ⟨g1, g2⟩ := hC; go_simp; rfl); go_simp; refine hK _ ?_; clear hK K))
              with_reducible refine pure_nil ?_
              repeat (with_reducible refine chain_skip0 ?_)
              with_reducible refine chain_nil ?_
              go_wp2_with fail
              go_roundw
              case rel => exact ⟨i + 1, k, out ++ [q], a6, c6, by omega, by omega, by simp, by go_num, rfl, HX, by simp; omega, by simpa using hO6.non ((Kp.refl _ _).drew), hk26.drew⟩
              case measure => simp [intOf]; omega
            · have HX : Hid ((out ++ [q]) ++ meet (A.drop i) (B.drop (k + 1)) = meet A B) := Lib.hid (by rw [← HM.out, HS.out, HBL.out, if_neg hst]; simp)
              have hd : decide (s.2 < t.2) = false := by simp; omega
              go_wp2_with fail
              refine wp_region_chain [0,0,0,0,0,0,0,0,0,0,0] (by kernel_rfl) (by kernel_rfl) (fun w' => w'.cell? ⟨b, o + i * 2 + 1, none⟩ = some (.int .i64 s.2) ∧ w'.cell? ⟨b', o' + k * 2 + 1, none⟩ = some (.int .i64 t.2)) ⟨z2, z3⟩ ?_
              repeat (first | (with_reducible refine pure_skip ?_) | ((with_reducible refine pure_k rfl ?_); intro K hK; apply Exists.intro; refine ⟨fun w' hC => ?_, ?_⟩; (obtain ⟨g1, g2⟩ := hC; go_simp; rfl); go_simp; refine hK _ ?_; clear hK K))
              with_reducible refine pure_nil ?_
              repeat (with_reducible refine chain_skip0 ?_)
              with_reducible refine chain_nil ?_
              go_wp2_with fail
              go_roundw
              case rel => exact ⟨i, k + 1, out ++ [q], a6, c6, by omega, by omega, by simp, rfl, by go_num, HX, by simp; omega, by simpa using hO6.non ((Kp.refl _ _).drew), hk26.drew⟩
              case measure => simp [intOf]; omega
          · rw [full_no (by omega)] at HE
            simp only [Bool.not_false] at HE
            go_wp2_with fail
            refine HE.out.mono ?_
            rintro e w5 ⟨rfl, hk5⟩
            have hk45 : Kp Non wr w5 := hk4.trans hk5
            -- what lies behind the test
            have z2 := (hk45.drew).cell c1 (fun f => f)
            have z3 := (hk45.drew).cell d1 (fun f => f)
            have hbl2 : bothL s t = ([] : List Sp) := (by rw [HB.out, if_neg (show ¬ q.1 < q.2 by omega)])
            have HBL := Lib.hid hbl2
            clear hbl2
            by_cases hst : s.2 < t.2
            · have HX : Hid ((out ++ ([] : List Sp)) ++ meet (A.drop (i + 1)) (B.drop k) = meet A B) := Lib.hid (by rw [← HM.out, HS.out, HBL.out, if_pos hst]; simp)
              go_wp2_with fail
              refine wp_region_chain [0,0,0,0,0,0,0,0,0,0,0] (by kernel_rfl) (by kernel_rfl) (fun w' => w'.cell? ⟨b, o + i * 2 + 1, none⟩ = some (.int .i64 s.2) ∧ w'.cell? ⟨b', o' + k * 2 + 1, none⟩ = some (.int .i64 t.2)) ⟨z2, z3⟩ ?_
              repeat (first | (with_reducible refine pure_skip ?_) | ((with_reducible refine pure_k rfl ?_); intro K hK; apply Exists.intro; refine ⟨fun w' hC => ?_, ?_⟩; (obtain ⟨g1, g2⟩ := hC; go_simp; rfl); go_simp; refine hK _ ?_; clear hK K))
              with_reducible refine pure_nil ?_
              repeat (with_reducible refine chain_skip0 ?_)
              with_reducible refine chain_nil ?_
              go_wp2_with fail
              go_roundw
              case rel => exact ⟨i + 1, k, out ++ ([] : List Sp), a5, c5, by omega, by omega, by simp, by go_num, rfl, HX, by simp; omega, by simpa using (hO.non hk45).non ((Kp.refl _ _).drew), (hkr.trans hk45).drew⟩
              case measure => simp [intOf]; omega
            · have HX : Hid ((out ++ ([] : List Sp)) ++ meet (A.drop i) (B.drop (k + 1)) = meet A B) := Lib.hid (by rw [← HM.out, HS.out, HBL.out, if_neg hst]; simp)
              have hd : decide (s.2 < t.2) = false := by simp; omega
              go_wp2_with fail
              refine wp_region_chain [0,0,0,0,0,0,0,0,0,0,0] (by kernel_rfl) (by kernel_rfl) (fun w' => w'.cell? ⟨b, o + i * 2 + 1, none⟩ = some (.int .i64 s.2) ∧ w'.cell? ⟨b', o' + k * 2 + 1, none⟩ = some (.int .i64 t.2)) ⟨z2, z3⟩ ?_
              repeat (first | (with_reducible refine pure_skip ?_) | ((with_reducible refine pure_k rfl ?_); intro K hK; apply Exists.intro; refine ⟨fun w' hC => ?_, ?_⟩; (obtain ⟨g1, g2⟩ := hC; go_simp; rfl); go_simp; refine hK _ ?_; clear hK K))
              with_reducible refine pure_nil ?_
              repeat (with_reducible refine chain_skip0 ?_)
              with_reducible refine chain_nil ?_
              go_wp2_with fail
              go_roundw
              case rel => exact ⟨i, k + 1, out ++ ([] : List Sp), a5, c5, by omega, by omega, by simp, rfl, by go_num, HX, by simp; omega, by simpa using (hO.non hk45).non ((Kp.refl _ _).drew), (hkr.trans hk45).drew⟩
              case measure => simp [intOf]; omega
      · have HX : Hid (out = meetN la lb) := Lib.hid (by have := HM.out; rw [meet_end (.inr (by omega)), List.append_nil] at this; rw [this]; exact HR.out)
        have hd : decide ((k : Int) < (B.length : Nat)) = false := by simp; omega
        go_wp2_with fail
        go_ret
        rw [← HX.out]
        exact ⟨a5, c5, rfl, hO.lower hkw.size, hkw.trans hkr⟩
    · have HX : Hid (out = meetN la lb) := Lib.hid (by have := HM.out; rw [meet_end (.inl (by omega)), List.append_nil] at this; rw [this]; exact HR.out)
      have hd : decide ((i : Int) < (A.length : Nat)) = false := by simp; omega
      go_wp2_with fail
      go_ret
      rw [← HX.out]
      exact ⟨a5, c5, rfl, hO.lower hkw.size, hkw.trans hkr⟩
end Go.Proofs.Ytkgjpmgoapfamaa
