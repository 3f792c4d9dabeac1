/-
  The document's Map: Get.
-/
import Derived.Test.YtkgjpmgoapfamaaE15
import Derived.Test.YtkgjpmgoapfamaaM3I
namespace Go.Proofs.Ytkgjpmgoapfamaa
open Go.RowKit

set_option maxRecDepth 100000 in
set_option maxHeartbeats 1000000 in
theorem rGet_calls (b : Nat) (ops : List Done) (al : Option Addr) (cl : Nat) (av : Option Addr) (cv : Nat) (ao : Option Addr) (co : Nat) (x : Int) (w : World) (hM : RMap w b ops al cl av cv ao co) (hl : ops.length ≤ 1000000) :
    Calls Try.prog 33 #[.pointer (some ⟨b, 0, none⟩), .int .i64 x] w (GetOutI (getD ops x) w) := by
  have m0 := hM.c0
  have hRS := hM.spans.reads encS_len (by omega)
  have hRV := hM.vals.reads encI_len (by omega)
  have hRO := hM.ons.reads encB_len (by omega)
  have hcS := hRS.cap
  have hmS := hRS.max
  have hcV := hRV.cap
  have hmV := hRV.max
  have hcO := hRO.cap
  have hmO := hRO.max
  have hM1 : (ops.map (·.1)).length = ops.length := by simp
  have hM2 : (ops.map (·.2.1)).length = ops.length := by simp
  have hM3 : (ops.map (·.2.2)).length = ops.length := by simp
  have hw0 : IntKind.i64.wrap ((ops.length : Int) - 1) = (ops.length : Int) - 1 := by rw [IntKind.wrap_i64] <;> omega
  go_enter Try.func33, Try.ntmps33
  go_wp2_with fail
  go_loopw [4, 5, 6] (fun v4 v5 v6 wr => ∃ k : Nat, k ≤ ops.length ∧ v6 = .int .i64 ((k : Int) - 1) ∧ (∀ o ∈ ops.drop k, ¬ Sin o.1 x) ∧ Kp Non w wr) (fun _ _ v6 _ => (intOf v6 + 1).toNat)
  case atStart => exact ⟨ops.length, Nat.le_refl _, by simp, (by simp), Kp.refl _ _⟩
  case round =>
    obtain ⟨k, hk, rfl, hall, hkr⟩ := hrel
    have HA := Lib.hid hall
    clear hall
    rcases Nat.eq_zero_or_pos k with rfl | hpos
    · have hg : getD ops x = none := getD_none fun o ho => HA.out o (by simpa using ho)
      have HG := Lib.hid hg
      clear hg
      have g0 : ¬ (0 : Int) ≤ ((0 : Nat) : Int) - 1 := by omega
      go_wp2_with fail
      go_ret2
      exact ⟨by rw [HG.out]; rfl, hkr⟩
    · obtain ⟨j, rfl⟩ : ∃ j, k = j + 1 := ⟨k - 1, by omega⟩
      have ej : (((j + 1 : Nat) : Int) - 1) = (j : Int) := by omega
      rw [ej]
      have g : (j : Int) < (ops.length : Nat) := by omega
      have hlt : j < ops.length := by omega
      have hMr := hM.non hkr
      have r0 := hMr.c0
      have r1 := hMr.c1
      have r2 := hMr.c2
      obtain ⟨bl, ol, rfl⟩ := hRS.there (by omega)
      obtain ⟨bv, ov, rfl⟩ := hRV.there (by omega)
      obtain ⟨bo, oo, rfl⟩ := hRO.there (by omega)
      have c0 := Spans.c0 (hRS.non hkr) (j := j) (by rw [hM1]; exact hlt)
      have c1 := Spans.c1 (hRS.non hkr) (j := j) (by rw [hM1]; exact hlt)
      have v0 := Ints.c (hRV.non hkr) (j := j) (by rw [hM2]; exact hlt)
      have o0 := Bools.c (hRO.non hkr) (j := j) (by rw [hM3]; exact hlt)
      simp only [List.getElem_map] at c0 c1 v0 o0
      have HG := Lib.hid (fun h => getD_hit (x := x) hlt h HA.out)
      have hdr : ops.drop j = ops[j] :: ops.drop (j + 1) := List.drop_eq_getElem_cons hlt
      have HT := Lib.hid hdr
      have gj : (0 : Int) ≤ (j : Int) := by omega
      have hwj : IntKind.i64.wrap ((j : Int) - 1) = (j : Int) - 1 := by rw [IntKind.wrap_i64] <;> omega
      clear hMr hdr ej
      generalize ops[j] = p at *
      by_cases h1 : p.1.1 ≤ x
      · by_cases h2 : x < p.1.2
        · have hg := HG.out ⟨h1, h2⟩
          cases hb : p.2.2 with
          | true =>
            rw [hb] at hg o0
            have hg := Lib.hid hg
            clear HG hb
            go_wp2_with fail
            go_ret2
            first | exact ⟨rfl, hkr⟩ | exact ⟨by rw [hg.out]; rfl, hkr⟩
          | false =>
            rw [hb] at hg o0
            have hg := Lib.hid hg
            clear HG hb
            go_wp2_with fail
            go_ret2
            first | exact ⟨rfl, hkr⟩ | exact ⟨by rw [hg.out]; rfl, hkr⟩
        · go_wp2_with fail
          go_roundw
          case rel =>
            refine ⟨j, by omega, by go_num, ?_, hkr⟩
            rw [HT.out]
            intro q hq
            rcases List.mem_cons.1 hq with rfl | hq
            · exact fun hs => h2 hs.2
            · exact HA.out q hq
          case measure => simp [intOf]
      · have d1 : decide (p.1.1 ≤ x) = false := by simp; omega
        go_wp2_with fail
        go_roundw
        case rel =>
          refine ⟨j, by omega, by go_num, ?_, hkr⟩
          rw [HT.out]
          intro q hq
          rcases List.mem_cons.1 hq with rfl | hq
          · exact fun hs => h1 hs.1
          · exact HA.out q hq
        case measure => simp [intOf]
end Go.Proofs.Ytkgjpmgoapfamaa
