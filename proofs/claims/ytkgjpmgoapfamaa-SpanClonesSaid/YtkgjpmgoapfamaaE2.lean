/-
  The document's Plain, at a row that is plain.
-/
import Derived.Test.YtkgjpmgoapfamaaE1
namespace Go.Proofs.Ytkgjpmgoapfamaa
open Go.RowKit

theorem Plain.one {l : List Sp} (h : Plain l) {k : Nat} (hk : k < l.length) : l[k].1 < l[k].2 := h.lt _ (List.getElem_mem hk)
theorem Plain.two {l : List Sp} (h : Plain l) {k : Nat} (hk : k + 1 < l.length) : l[k].2 < l[k + 1].1 := by
  have e : l = l.take (k + 1) ++ l.drop (k + 1) := (List.take_append_drop _ _).symm
  rw [e, plain_append] at h
  refine h.2.2 _ ?_ _ ?_
  · rw [List.take_succ_eq_append_getElem (show k < l.length by omega)]; exact List.mem_append.2 (.inr (List.mem_singleton.2 rfl))
  · rw [List.drop_eq_getElem_cons hk]; exact List.mem_cons_self

set_option maxRecDepth 100000 in
set_option maxHeartbeats 1000000 in
theorem plain_calls (a : Option Addr) (n c : Nat) (l : List Sp) (w : World) (h : Spans w a n c l) (hp : Plain l) : Calls Try.prog 21 #[.slice a n c] w (BoolOut true w) := by
  obtain rfl := h.len
  have hc := h.cap
  have hm := h.max
  have HP := Lib.hid hp
  clear hp
  go_enter Try.func21, Try.ntmps21
  go_wp2_with fail
  go_loopw [7] (fun v7 wr => ∃ k : Nat, k ≤ l.length ∧ v7 = .int .i64 k ∧ Kp Non w wr) (fun v7 _ => l.length - (intOf v7).toNat)
  case atStart => exact ⟨0, by omega, rfl, Kp.refl _ _⟩
  case round =>
    obtain ⟨k, hk, rfl, hkr⟩ := hrel
    by_cases hlt : k < l.length
    · have g : (k : Int) < (l.length : Nat) := by omega
      obtain ⟨b, o, rfl⟩ := h.there (by omega)
      have c0 := Spans.c0 (h.non hkr) hlt
      have c1 := Spans.c1 (h.non hkr) hlt
      have hkN : Kp Non w (wr.alloc (.cells #[.int .i64 l[k].1, .int .i64 l[k].2] 30)).drew := (hkr.alloc _).drew
      have n0 : (wr.alloc (.cells #[.int .i64 l[k].1, .int .i64 l[k].2] 30)).drew.cell? ⟨wr.heap.size, 0, none⟩ = some (.int .i64 l[k].1) := (cell_new (w := wr) (cur := #[.int .i64 l[k].1, .int .i64 l[k].2]) (e := 30) (fr := (0, 0)) rfl 0)
      have n1 : (wr.alloc (.cells #[.int .i64 l[k].1, .int .i64 l[k].2] 30)).drew.cell? ⟨wr.heap.size, 1, none⟩ = some (.int .i64 l[k].2) := (cell_new (w := wr) (cur := #[.int .i64 l[k].1, .int .i64 l[k].2]) (e := 30) (fr := (0, 0)) rfl 1)
      have h1 : decide (l[k].2 ≤ l[k].1) = false := by have := HP.out.one hlt; simp; omega
      cases k with
      | zero =>
        generalize l[0] = s at *
        simp only [Nat.zero_mul, Nat.add_zero] at c0 c1
        go_wp2_with fail
        refine wp_region_chain [0,0,0,0,0,0,0,0,0,0,0,0,0,0,0,0,0,0,0,0] (by kernel_rfl) (by kernel_rfl) (fun w' => w'.cell? ⟨wr.heap.size, 0, none⟩ = some (.int .i64 s.1) ∧ w'.cell? ⟨wr.heap.size, 1, none⟩ = some (.int .i64 s.2)) ⟨n0, n1⟩ ?_
        iterate 6 ((with_reducible refine pure_k rfl ?_); intro K hK; apply Exists.intro; refine ⟨fun w' hC => ?_, ?_⟩; (obtain ⟨g1, g2⟩ := hC; go_simp; rfl); go_simp; refine hK _ ?_; clear hK K)
        iterate 3 ((with_reducible refine pure_ky (by simp [Region.wanted, yielded]) ?_); intro K hK; apply Exists.intro; refine ⟨fun w' hC => ?_, ?_⟩; (obtain ⟨g1, g2⟩ := hC; go_simp; rfl); go_simp; refine hK _ ?_; clear hK K)
        iterate 9 ((with_reducible refine pure_kn (by simp [Region.wanted, yielded]) ?_); intro K hK; go_simp; refine hK _ ?_; clear hK K)
        iterate 1 ((with_reducible refine pure_ky (by simp [Region.wanted, yielded]) ?_); intro K hK; apply Exists.intro; refine ⟨fun w' hC => ?_, ?_⟩; (obtain ⟨g1, g2⟩ := hC; go_simp; rfl); go_simp; refine hK _ ?_; clear hK K)
        iterate 1 ((with_reducible refine pure_k rfl ?_); intro K hK; apply Exists.intro; refine ⟨fun w' hC => ?_, ?_⟩; (obtain ⟨g1, g2⟩ := hC; go_simp; rfl); go_simp; refine hK _ ?_; clear hK K)
        with_reducible refine pure_nil ?_
        repeat (with_reducible refine chain_skip0 ?_)
        with_reducible refine chain_nil ?_
        go_wp2_with fail
        go_roundw
        case rel => exact ⟨1, by omega, by go_num, hkN⟩
        case measure => simp [intOf]; omega
      | succ j =>
        have p1 := Spans.c1 (h.non hkN) (j := j) (by omega)
        have h2 : decide (l[j + 1].1 ≤ l[j].2) = false := by have := HP.out.two hlt; simp; omega
        have hpos : decide ((0 : Int) < ((j + 1 : Nat) : Int)) = true := by simp
        have hw1 : IntKind.i64.wrap (j : Int) = (j : Int) := by rw [IntKind.wrap_i64] <;> omega
        have gj : (j : Int) < (l.length : Nat) := by omega
        generalize l[j + 1] = s at *
        generalize l[j] = q at *
        go_wp2_with fail
        refine wp_region_chain [0,0,0,0,0,0,0,0,0,0,0,0,0,0,0,0,0,0,0,0] (by kernel_rfl) (by kernel_rfl) (fun w' => w'.cell? ⟨wr.heap.size, 0, none⟩ = some (.int .i64 s.1) ∧ w'.cell? ⟨wr.heap.size, 1, none⟩ = some (.int .i64 s.2) ∧ w'.cell? ⟨b, o + j * 2 + 1, none⟩ = some (.int .i64 q.2)) ⟨n0, n1, p1⟩ ?_
        iterate 6 ((with_reducible refine pure_k rfl ?_); intro K hK; apply Exists.intro; refine ⟨fun w' hC => ?_, ?_⟩; (obtain ⟨g1, g2, g3⟩ := hC; go_simp; rfl); go_simp; refine hK _ ?_; clear hK K)
        iterate 13 ((with_reducible refine pure_ky (by simp [Region.wanted, yielded]) ?_); intro K hK; apply Exists.intro; refine ⟨fun w' hC => ?_, ?_⟩; (obtain ⟨g1, g2, g3⟩ := hC; go_simp; rfl); go_simp; refine hK _ ?_; clear hK K)
        iterate 1 ((with_reducible refine pure_k rfl ?_); intro K hK; apply Exists.intro; refine ⟨fun w' hC => ?_, ?_⟩; (obtain ⟨g1, g2, g3⟩ := hC; go_simp; rfl); go_simp; refine hK _ ?_; clear hK K)
        with_reducible refine pure_nil ?_
        repeat (with_reducible refine chain_skip0 ?_)
        with_reducible refine chain_nil ?_
        go_wp2_with fail
        go_roundw
        case rel => exact ⟨j + 1 + 1, by omega, by go_num, hkN⟩
        case measure => simp [intOf]; omega
    · obtain rfl : k = l.length := by omega
      go_wp2_with fail
      go_ret
      exact ⟨rfl, hkr⟩
end Go.Proofs.Ytkgjpmgoapfamaa
