/-
  (*Map).Clone, Get. (Printed by gen_map_at.py, and turned.)
-/
import Derived.Test.YtdijaillcajpaaaM2A
namespace Go.Proofs.Ytdijaillcajpaaa
open Go.RowKit
variable {U : MapU}

/-- The block m is a Map that holds the pieces M. -/
structure MapI (w : World) (m : Nat) (M : List (Sp × Int)) (al : Option Addr) (cl : Nat) (av : Option Addr) (cv : Nat) : Prop where
  box : w.heap[m]? = some (.cells #[.slice al M.length cl, .slice av M.length cv] 88 (0, 0))
  spans : OwnS w 0 al M.length cl (M.map (·.1))
  vals : OwnI w 0 av M.length cv (M.map (·.2))
/-- The blocks that a Map's calls may change. -/
def MSI (m : Nat) (al av : Option Addr) (i : Nat) : Prop := i = m ∨ Blk al i ∨ Blk av i
section
variable {w w' : World} {m : Nat} {M : List (Sp × Int)} {al : Option Addr} {cl : Nat} {av : Option Addr} {cv : Nat}
theorem MapI.c0 (h : MapI w m M al cl av cv) : w.cell? ⟨m, 0, none⟩ = some (.slice al M.length cl) := (cell_of_row w m 0 _ _ _ h.box).trans rfl
theorem MapI.c1 (h : MapI w m M al cl av cv) : w.cell? ⟨m, 1, none⟩ = some (.slice av M.length cv) := (cell_of_row w m 1 _ _ _ h.box).trans rfl
theorem MapI.fz (h : MapI w m M al cl av cv) (i : Nat) : w.frozen? ⟨m, i, none⟩ = false := by
  have := h.box
  simp [World.frozen?, this]
theorem MapI.lt (h : MapI w m M al cl av cv) : m < w.heap.size := heap_lt h.box
theorem MapI.ml (h : MapI w m M al cl av cv) : ∀ i, Blk al i → i ≠ m := fun i hi e => by
  obtain ⟨cs, hc⟩ := h.spans.tag i hi
  rw [e, h.box] at hc
  simp at hc
theorem MapI.mv (h : MapI w m M al cl av cv) : ∀ i, Blk av i → i ≠ m := fun i hi e => by
  obtain ⟨cs, hc⟩ := h.vals.tag i hi
  rw [e, h.box] at hc
  simp at hc
theorem MapI.lv (h : MapI w m M al cl av cv) : ∀ i, Blk al i → ¬ Blk av i := fun i hi hj => by
  obtain ⟨cs, hc⟩ := h.spans.tag i hi
  obtain ⟨cs', hc'⟩ := h.vals.tag i hj
  rw [hc'] at hc
  simp at hc
theorem MapI.old (h : MapI w m M al cl av cv) : ∀ i, MSI m al av i → i < w.heap.size := by
  rintro i (rfl | hi | hi)
  · exact h.lt
  · exact (h.spans.blk i hi).2
  · exact (h.vals.blk i hi).2
theorem MapI.kp {S : Nat → Prop} (h : MapI w m M al cl av cv) (k : Kp S w w') (hn : ∀ i, MSI m al av i → ¬ S i) : MapI w' m M al cl av cv :=
  ⟨k.heap h.box (hn m (.inl rfl)), h.spans.kp k (fun i hi => hn i (.inr (.inl hi))), h.vals.kp k (fun i hi => hn i (.inr (.inr hi)))⟩
theorem MapI.non (h : MapI w m M al cl av cv) (k : Kp Non w w') : MapI w' m M al cl av cv := h.kp k fun _ _ f => f
end
/-- A Map that has been made. -/
def CloneOutI (M : List (Sp × Int)) (w : World) (e : Ending) (w' : World) : Prop :=
  ∃ c al cl av cv, e = .returned (.pointer (some ⟨c, 0, none⟩)) ∧ MapI w' c M al cl av cv ∧ Kp Non w w' ∧ ∀ i, MSI c al av i → w.heap.size ≤ i

set_option maxRecDepth 100000 in
set_option maxHeartbeats 1000000 in
theorem cloneA_calls (m : Nat) (M : List (Sp × Int)) (al : Option Addr) (cl : Nat) (av : Option Addr) (cv : Nat) (w : World) (hM : MapA U w m M al cl av cv) (hl : M.length ≤ 1000000000000) :
    Calls Try.prog 74 #[.pointer (some ⟨m, 4, none⟩)] w (CloneOutI M w) := by
  have m0 := hM.c0
  have m1 := hM.c1
  have hMl : (M.map (·.1)).length = M.length := by simp
  have hMl2 : (M.map (·.2)).length = M.length := by simp
  have HS := Lib.hid (fun (W : World) (hW : Kp Non w W) => cloneS_calls al M.length cl (M.map (·.1)) W ((hM.spans.non hW).reads encS_len (by omega)) hl)
  have HV := Lib.hid (fun (W : World) (hW : Kp Non w W) => cloneIs_calls av M.length cv (M.map (·.2)) W ((hM.vals.non hW).reads encI_len (by omega)) hl)
  go_enter Try.func74, Try.ntmps74
  go_wp2_with fail
  refine wp_region_chain [0,0,0,0,1,0,0,0,0,2,2,2,2] (by kernel_rfl) (by kernel_rfl) (fun w' => w'.cell? ⟨m, 4, none⟩ = some (.slice al M.length cl) ∧ w'.cell? ⟨m, 5, none⟩ = some (.slice av M.length cv)) ⟨m0, m1⟩ ?_
  repeat (first | (with_reducible refine pure_skip ?_) | ((with_reducible refine pure_k rfl ?_); intro K hK; apply Exists.intro; refine ⟨fun w' hC => ?_, ?_⟩; (obtain ⟨g1, g2⟩ := hC; go_simp; rfl); go_simp; refine hK _ ?_; clear hK K))
  with_reducible refine pure_nil ?_
  repeat (with_reducible refine chain_skip0 ?_)
  with_reducible refine chain_step rfl fun K hK => ?_
  go_simp
  refine (HS.out _ (Kp.drew (Kp.refl _ _))).mono ?_
  rintro e w1 ⟨a1, c1, rfl, hO1, hk1⟩
  rw [hMl] at hO1 ⊢
  have hk1' : Kp Non w w1 := (Kp.drew (Kp.refl _ _)).trans hk1
  refine hK _ _ (fun _ => ⟨hk1'.cell m0 (fun f => f), hk1'.cell m1 (fun f => f)⟩) ?_
  clear hK K
  repeat (with_reducible refine chain_skip0 ?_)
  with_reducible refine chain_step rfl fun K hK => ?_
  go_simp
  refine (HV.out _ hk1').mono ?_
  rintro e w2 ⟨a2, c2, rfl, hO2, hk2⟩
  rw [hMl2] at hO2 ⊢
  have hk2' : Kp Non w w2 := hk1'.trans hk2
  have hO1' := hO1.non hk2
  refine hK _ _ (fun h => by cases h) ?_
  clear hK K
  repeat (with_reducible refine chain_skip0 ?_)
  with_reducible refine chain_step rfl fun K hK => ?_
  go_simp
  refine hK _ _ (fun h => by cases h) ?_
  clear hK K
  repeat (with_reducible refine chain_skip0 ?_)
  with_reducible refine chain_step rfl fun K hK => ?_
  go_simp
  refine hK _ _ (fun h => by cases h) ?_
  clear hK K
  repeat (with_reducible refine chain_skip0 ?_)
  with_reducible refine chain_step rfl fun K hK => ?_
  go_simp
  refine hK _ _ (fun h => by cases h) ?_
  clear hK K
  with_reducible refine chain_nil ?_
  go_wp2_with fail
  go_ret
  have hkA := (Kp.refl Non w2).alloc (.cells #[.slice a1 M.length c1, .slice a2 M.length c2] 88 (0, 0))
  refine ⟨w2.heap.size, a1, c1, a2, c2, rfl, ⟨heap_alloc_new w2 _, (hO1'.lower (Nat.zero_le _)).non hkA, (hO2.lower (Nat.zero_le _)).non hkA⟩, hk2'.trans hkA, ?_⟩
  rintro i (rfl | q | q)
  · exact hk2'.size
  · exact (hO1'.blk i q).1
  · have := (hO2.blk i q).1; exact Nat.le_trans hk1'.size this

theorem get_firstA {M : List (Sp × Int)} {k : Nat} {x : Int} (hk : k < M.length) (h : ∀ p ∈ M.take k, ¬ Sin p.1 x) (hx : Sin M[k].1 x) : get M x = some M[k].2 := by
  have e1 : M = M.take k ++ (M[k] :: M.drop (k + 1)) := by rw [← List.drop_eq_getElem_cons hk, List.take_append_drop]
  conv => lhs; rw [e1]
  rw [get_append, get_none h, get_in hx.1 hx.2]
  rfl

/-- What a look-up says. -/
def GetOutA (r : Option Int) (w : World) (e : Ending) (w' : World) : Prop := e = .returned (.tuple #[.int .i64 (r.getD (0 : Int)), .bool r.isSome]) ∧ Kp Non w w'

set_option maxRecDepth 100000 in
set_option maxHeartbeats 1000000 in
theorem getA_calls (m : Nat) (M : List (Sp × Int)) (al : Option Addr) (cl : Nat) (av : Option Addr) (cv : Nat) (x : Int) (w : World) (hM : MapA U w m M al cl av cv) :
    Calls Try.prog 51 #[.pointer (some ⟨m, 4, none⟩), .int .i64 x] w (GetOutA (get M x) w) := by
  have m0 := hM.c0
  have hRS := hM.spans.reads encS_len (by omega)
  have hRV := hM.vals.reads encI_len (by omega)
  have hcS := hRS.cap
  have hmS := hRS.max
  have hcV := hRV.cap
  have hmV := hRV.max
  have hMl : (M.map (·.1)).length = M.length := by simp
  have hMl2 : (M.map (·.2)).length = M.length := by simp
  go_enter Try.func51, Try.ntmps51
  go_wp2_with fail
  go_loopw [17] (fun v17 wr => ∃ k : Nat, k ≤ M.length ∧ v17 = .int .i64 k ∧ (∀ p ∈ M.take k, ¬ Sin p.1 x) ∧ Kp Non w wr) (fun v17 _ => M.length - (intOf v17).toNat)
  case atStart => exact ⟨0, by omega, rfl, (by simp), Kp.refl _ _⟩
  case round =>
    obtain ⟨k, hk, rfl, hall, hkr⟩ := hrel
    have HA := Lib.hid hall
    clear hall
    by_cases hlt : k < M.length
    · have g : (k : Int) < (M.length : Nat) := by omega
      have hMr := hM.non hkr
      have m1 := (hMr.non ((Kp.refl _ wr).alloc (.cells #[.int .i64 M[k].1.1, .int .i64 M[k].1.2] 36))).c1
      obtain ⟨bl, ol, rfl⟩ := hRS.there (by omega)
      obtain ⟨bv, ov, rfl⟩ := hRV.there (by omega)
      have c0 := Spans.c0 (hRS.non hkr) (j := k) (by rw [hMl]; exact hlt)
      have c1 := Spans.c1 (hRS.non hkr) (j := k) (by rw [hMl]; exact hlt)
      have v0 := Ints.c ((hRV.non hkr).non ((Kp.refl _ wr).alloc (.cells #[.int .i64 M[k].1.1, .int .i64 M[k].1.2] 36))) (j := k) (by rw [hMl2]; exact hlt)
      simp only [List.getElem_map] at c0 c1 v0
      have HG := Lib.hid (get_firstA (x := x) hlt HA.out)
      have HT := Lib.hid (List.take_succ_eq_append_getElem hlt)
      have hkN : Kp Non w (wr.alloc (.cells #[.int .i64 M[k].1.1, .int .i64 M[k].1.2] 36)) := hkr.alloc _
      clear hMr
      generalize M[k] = p at *
      by_cases h1 : p.1.1 ≤ x
      · by_cases h2 : x < p.1.2
        · have hg := Lib.hid (HG.out ⟨h1, h2⟩)
          clear HG
          go_wp2_with fail
          go_ret2
          exact ⟨by rw [hg.out]; rfl, hkN⟩
        · go_wp2_with fail
          go_roundw
          case rel =>
            refine ⟨k + 1, by omega, by go_num, ?_, hkN⟩
            rw [HT.out]
            intro q hq
            rcases List.mem_append.1 hq with hq | hq
            · exact HA.out q hq
            · simp at hq; subst hq; exact fun hs => h2 hs.2
          case measure => simp [intOf]; omega
      · have d1 : decide (p.1.1 ≤ x) = false := by simp; omega
        go_wp2_with fail
        go_roundw
        case rel =>
          refine ⟨k + 1, by omega, by go_num, ?_, hkN⟩
          rw [HT.out]
          intro q hq
          rcases List.mem_append.1 hq with hq | hq
          · exact HA.out q hq
          · simp at hq; subst hq; exact fun hs => h1 hs.1
        case measure => simp [intOf]; omega
    · obtain rfl : k = M.length := by omega
      have hg : get M x = none := get_none fun p hp => HA.out p (by rw [List.take_of_length_le (Nat.le_refl _)]; exact hp)
      have HG := Lib.hid hg
      clear hg
      go_wp2_with fail
      go_ret2
      exact ⟨by rw [HG.out]; rfl, hkr⟩
end Go.Proofs.Ytdijaillcajpaaa
