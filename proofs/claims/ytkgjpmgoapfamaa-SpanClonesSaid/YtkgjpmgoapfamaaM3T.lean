/-
  (*Map).Clone, Get. (Printed by gen_map.py.)
-/
import Derived.Test.YtkgjpmgoapfamaaM2T
namespace Go.Proofs.Ytkgjpmgoapfamaa
open Go.RowKit

/-- A Map that has been made. -/
def CloneOutT (M : List (Sp × ByteArray)) (w : World) (e : Ending) (w' : World) : Prop :=
  ∃ c al cl av cv, e = .returned (.pointer (some ⟨c, 0, none⟩)) ∧ MapT w' c M al cl av cv ∧ Kp Non w w' ∧ ∀ i, MST c al av i → w.heap.size ≤ i

set_option maxRecDepth 100000 in
theorem cloneT_nil (w : World) : Calls Try.prog 81 #[.pointer none] w (CloneOutT [] w) := by
  go_enter Try.func81, Try.ntmps81
  go_wp2_with fail
  go_ret
  refine ⟨w.heap.size, none, 0, none, 0, rfl, ⟨heap_alloc_new w _, OwnR.nil _ _ _, OwnR.nil _ _ _⟩, (Kp.refl _ _).alloc _, ?_⟩
  rintro i (rfl | ⟨_, h, _⟩ | ⟨_, h, _⟩)
  · exact Nat.le_refl _
  · cases h
  · cases h

set_option maxRecDepth 100000 in
set_option maxHeartbeats 1000000 in
theorem cloneT_calls (m : Nat) (M : List (Sp × ByteArray)) (al : Option Addr) (cl : Nat) (av : Option Addr) (cv : Nat) (w : World) (hM : MapT w m M al cl av cv) (hl : M.length ≤ 1000000000000) :
    Calls Try.prog 81 #[.pointer (some ⟨m, 0, none⟩)] w (CloneOutT M w) := by
  have m0 := hM.c0
  have m1 := hM.c1
  have hMl : (M.map (·.1)).length = M.length := by simp
  have hMl2 : (M.map (·.2)).length = M.length := by simp
  have HS := Lib.hid (fun (W : World) (hW : Kp Non w W) => cloneS_calls al M.length cl (M.map (·.1)) W ((hM.spans.non hW).reads encS_len (by omega)) hl)
  have HV := Lib.hid (fun (W : World) (hW : Kp Non w W) => cloneTs_calls av M.length cv (M.map (·.2)) W ((hM.vals.non hW).reads encT_len (by omega)) hl)
  go_enter Try.func81, Try.ntmps81
  go_wp2_with fail
  refine wp_region_chain [0,0,0,0,1,0,0,0,0,2,2,2,2] (by kernel_rfl) (by kernel_rfl) (fun w' => w'.cell? ⟨m, 0, none⟩ = some (.slice al M.length cl) ∧ w'.cell? ⟨m, 1, none⟩ = some (.slice av M.length cv)) ⟨m0, m1⟩ ?_
  repeat (first | (with_reducible refine pure_skip ?_) | ((with_reducible refine pure_k rfl ?_); intro K hK; apply Exists.intro; refine ⟨fun w' hC => ?_, ?_⟩; (obtain ⟨g1, g2⟩ := hC; go_simp; rfl); go_simp; refine hK _ ?_; clear hK K))
  with_reducible refine pure_nil ?_
  repeat (with_reducible refine chain_skip0 ?_)
  with_reducible refine chain_step rfl fun K hK => ?_
  go_simp
  refine (HS.out _ (Kp.drew (Kp.refl _ _))).mono ?_
  rintro e w1 ⟨a1, c1, rfl, hO1, hk1⟩
  rw [hMl] at hO1 ⊢
  have hk1' : Kp Non w w1 := (Kp.drew (Kp.refl _ _)).trans hk1
  refine hK _ _ (fun _ => ⟨hk1'.cell m0 (fun f => f), hk1'.cell m1 (fun f => f)⟩) ?_
  clear hK K
  repeat (with_reducible refine chain_skip0 ?_)
  with_reducible refine chain_step rfl fun K hK => ?_
  go_simp
  refine (HV.out _ hk1').mono ?_
  rintro e w2 ⟨a2, c2, rfl, hO2, hk2⟩
  rw [hMl2] at hO2 ⊢
  have hk2' : Kp Non w w2 := hk1'.trans hk2
  have hO1' := hO1.non hk2
  refine hK _ _ (fun h => by cases h) ?_
  clear hK K
  repeat (with_reducible refine chain_skip0 ?_)
  with_reducible refine chain_step rfl fun K hK => ?_
  go_simp
  refine hK _ _ (fun h => by cases h) ?_
  clear hK K
  repeat (with_reducible refine chain_skip0 ?_)
  with_reducible refine chain_step rfl fun K hK => ?_
  go_simp
  refine hK _ _ (fun h => by cases h) ?_
  clear hK K
  repeat (with_reducible refine chain_skip0 ?_)
  with_reducible refine chain_step rfl fun K hK => ?_
  go_simp
  refine hK _ _ (fun h => by cases h) ?_
  clear hK K
  with_reducible refine chain_nil ?_
  go_wp2_with fail
  go_ret
  have hkA := (Kp.refl Non w2).alloc (.cells #[.slice a1 M.length c1, .slice a2 M.length c2] 66 (0, 0))
  refine ⟨w2.heap.size, a1, c1, a2, c2, rfl, ⟨heap_alloc_new w2 _, (hO1'.lower (Nat.zero_le _)).non hkA, (hO2.lower (Nat.zero_le _)).non hkA⟩, hk2'.trans hkA, ?_⟩
  rintro i (rfl | q | q)
  · exact hk2'.size
  · exact (hO1'.blk i q).1
  · have := (hO2.blk i q).1; exact Nat.le_trans hk1'.size this

theorem get_firstT {M : List (Sp × ByteArray)} {k : Nat} {x : Int} (hk : k < M.length) (h : ∀ p ∈ M.take k, ¬ Sin p.1 x) (hx : Sin M[k].1 x) : get M x = some M[k].2 := by
  have e1 : M = M.take k ++ (M[k] :: M.drop (k + 1)) := by rw [← List.drop_eq_getElem_cons hk, List.take_append_drop]
  conv => lhs; rw [e1]
  rw [get_append, get_none h, get_in hx.1 hx.2]
  rfl

/-- What a look-up says. -/
def GetOutT (r : Option ByteArray) (w : World) (e : Ending) (w' : World) : Prop := e = .returned (.tuple #[.string (r.getD (⟨#[]⟩ : ByteArray)), .bool r.isSome]) ∧ Kp Non w w'

set_option maxRecDepth 100000 in
theorem getT_nil (x : Int) (w : World) : Calls Try.prog 41 #[.pointer none, .int .i64 x] w (GetOutT none w) := by
  go_enter Try.func41, Try.ntmps41
  go_wp2_with fail
  go_ret2
  exact ⟨rfl, Kp.refl _ _⟩

set_option maxRecDepth 100000 in
set_option maxHeartbeats 1000000 in
theorem getT_calls (m : Nat) (M : List (Sp × ByteArray)) (al : Option Addr) (cl : Nat) (av : Option Addr) (cv : Nat) (x : Int) (w : World) (hM : MapT w m M al cl av cv) :
    Calls Try.prog 41 #[.pointer (some ⟨m, 0, none⟩), .int .i64 x] w (GetOutT (get M x) w) := by
  have m0 := hM.c0
  have hRS := hM.spans.reads encS_len (by omega)
  have hRV := hM.vals.reads encT_len (by omega)
  have hcS := hRS.cap
  have hmS := hRS.max
  have hcV := hRV.cap
  have hmV := hRV.max
  have hMl : (M.map (·.1)).length = M.length := by simp
  have hMl2 : (M.map (·.2)).length = M.length := by simp
  go_enter Try.func41, Try.ntmps41
  go_wp2_with fail
  go_loopw [17] (fun v17 wr => ∃ k : Nat, k ≤ M.length ∧ v17 = .int .i64 k ∧ (∀ p ∈ M.take k, ¬ Sin p.1 x) ∧ Kp Non w wr) (fun v17 _ => M.length - (intOf v17).toNat)
  case atStart => exact ⟨0, by omega, rfl, (by simp), Kp.refl _ _⟩
  case round =>
    obtain ⟨k, hk, rfl, hall, hkr⟩ := hrel
    have HA := Lib.hid hall
    clear hall
    by_cases hlt : k < M.length
    · have g : (k : Int) < (M.length : Nat) := by omega
      have hMr := hM.non hkr
      have m1 := (hMr.non ((Kp.refl _ wr).alloc (.cells #[.int .i64 M[k].1.1, .int .i64 M[k].1.2] 30))).c1
      obtain ⟨bl, ol, rfl⟩ := hRS.there (by omega)
      obtain ⟨bv, ov, rfl⟩ := hRV.there (by omega)
      have c0 := Spans.c0 (hRS.non hkr) (j := k) (by rw [hMl]; exact hlt)
      have c1 := Spans.c1 (hRS.non hkr) (j := k) (by rw [hMl]; exact hlt)
      have v0 := Texts.c ((hRV.non hkr).non ((Kp.refl _ wr).alloc (.cells #[.int .i64 M[k].1.1, .int .i64 M[k].1.2] 30))) (j := k) (by rw [hMl2]; exact hlt)
      simp only [List.getElem_map] at c0 c1 v0
      have HG := Lib.hid (get_firstT (x := x) hlt HA.out)
      have HT := Lib.hid (List.take_succ_eq_append_getElem hlt)
      have hkN : Kp Non w (wr.alloc (.cells #[.int .i64 M[k].1.1, .int .i64 M[k].1.2] 30)) := hkr.alloc _
      clear hMr
      generalize M[k] = p at *
      by_cases h1 : p.1.1 ≤ x
      · by_cases h2 : x < p.1.2
        · have hg := Lib.hid (HG.out ⟨h1, h2⟩)
          clear HG
          go_wp2_with fail
          go_ret2
          exact ⟨by rw [hg.out]; rfl, hkN⟩
        · go_wp2_with fail
          go_roundw
          case rel =>
            refine ⟨k + 1, by omega, by go_num, ?_, hkN⟩
            rw [HT.out]
            intro q hq
            rcases List.mem_append.1 hq with hq | hq
            · exact HA.out q hq
            · simp at hq; subst hq; exact fun hs => h2 hs.2
          case measure => simp [intOf]; omega
      · have d1 : decide (p.1.1 ≤ x) = false := by simp; omega
        go_wp2_with fail
        go_roundw
        case rel =>
          refine ⟨k + 1, by omega, by go_num, ?_, hkN⟩
          rw [HT.out]
          intro q hq
          rcases List.mem_append.1 hq with hq | hq
          · exact HA.out q hq
          · simp at hq; subst hq; exact fun hs => h1 hs.1
        case measure => simp [intOf]; omega
    · obtain rfl : k = M.length := by omega
      have hg : get M x = none := get_none fun p hp => HA.out p (by rw [List.take_of_length_le (Nat.le_refl _)]; exact hp)
      have HG := Lib.hid hg
      clear hg
      go_wp2_with fail
      go_ret2
      exact ⟨by rw [HG.out]; rfl, hkr⟩
end Go.Proofs.Ytkgjpmgoapfamaa
