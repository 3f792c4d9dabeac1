/-
  The device: Crash, Clone, and the device that there is not.
-/
import Derived.Test.YtclbapmjhchokaaE6
namespace Go.Proofs.Ytclbapmjhchokaa
open Go.RowKit
variable {F : Nat → Prop}

/-- How many waiting bytes stay. -/
def St.stays (s : St) (keep : Int) : Int := max 0 (min keep (s.log.length - s.sure))
def St.crash (s : St) (keep : Int) : St :=
  { s with log := s.log.take (s.sure + s.stays keep).toNat, sure := s.sure + s.stays keep, stage := [], staged := false, off := false, stop := -1 }

set_option maxRecDepth 100000 in
set_option maxHeartbeats 1000000 in
theorem crash_calls (d : Nat) (s : St) (keep : Int) (w : World) (hd : Dev F w d s) (hok : s.ok) : Calls Try.prog 23 #[.pointer (some ⟨d, 0, none⟩), .int .i64 keep] w (VoidPost F d (s.crash keep) w) := by
  obtain ⟨ia, ic, sa, sc, la, lc, hd⟩ := hd
  have c2 := hd.c2
  have c3 := hd.c3
  have c4 := hd.c4
  have c5 := hd.c5
  have c6 := hd.c6
  have c7 := hd.c7
  have f := hd.f
  have b3 := hok.log
  have b4 := hok.sure0
  have b5 := hok.sure1
  have hcap := hd.log.cap
  have hw1 : IntKind.i64.wrap ((s.log.length : Int) - s.sure) = (s.log.length : Int) - s.sure := IntWalk.i64_in _ (by omega)
  obtain ⟨q, hq⟩ : ∃ q, (if (s.log.length : Int) - s.sure < keep then (s.log.length : Int) - s.sure else keep) = q := ⟨_, rfl⟩
  obtain ⟨k, hk⟩ : ∃ k, (if 0 < q then q else 0) = k := ⟨_, rfl⟩
  have hsk : s.stays keep = k := by
    unfold St.stays
    split at hq <;> split at hk <;> omega
  have hk0 : 0 ≤ k := by split at hk <;> omega
  have hk1 : s.sure + k ≤ s.log.length := by split at hq <;> split at hk <;> omega
  have hle : s.sure + k ≤ lc := by omega
  have hle0 : 0 ≤ s.sure + k := by omega
  have hw2 : IntKind.i64.wrap (s.sure + k) = s.sure + k := IntWalk.i64_in _ (by omega)
  have HK := Lib.hid hsk
  clear hsk
  go_enter Try.func23, Try.ntmps23
  go_wp2_with fail
  refine wp_region_chain [0,0,0,0,0,0,0,0,0,0,0,0,0,2] (by kernel_rfl) (by kernel_rfl) (fun w' => w'.cell? ⟨d, 4, none⟩ = some (.slice la s.log.length lc) ∧ w'.cell? ⟨d, 5, none⟩ = some (.int .i64 s.sure)) ⟨c4, c5⟩ ?_
  repeat (first | (with_reducible refine pure_skip ?_) | ((with_reducible refine pure_k rfl ?_); intro K hK; apply Exists.intro; refine ⟨fun w' hC => ?_, ?_⟩; (obtain ⟨g1, g2⟩ := hC; go_simp; rfl); go_simp; refine hK _ ?_; clear hK K))
  with_reducible refine pure_nil ?_
  repeat (with_reducible refine chain_skip0 ?_)
  with_reducible refine chain_step rfl fun K hK => ?_
  go_simp
  refine hK _ _ (fun h => by cases h) ?_
  clear hK K
  with_reducible refine chain_nil ?_
  go_wp2_with fail
  refine wp_region_chain [0,0,0,0,0,0,0,0,0,0,0,0,0,0,2] (by kernel_rfl) (by kernel_rfl) (fun w' => w'.cell? ⟨d, 4, none⟩ = some (.slice la s.log.length lc) ∧ w'.cell? ⟨d, 5, none⟩ = some (.int .i64 s.sure)) ⟨c4, c5⟩ ?_
  repeat (first | (with_reducible refine pure_skip ?_) | ((with_reducible refine pure_k rfl ?_); intro K hK; apply Exists.intro; refine ⟨fun w' hC => ?_, ?_⟩; (obtain ⟨g1, g2⟩ := hC; go_simp; rfl); go_simp; refine hK _ ?_; clear hK K))
  with_reducible refine pure_nil ?_
  repeat (with_reducible refine chain_skip0 ?_)
  with_reducible refine chain_step rfl fun K hK => ?_
  go_simp
  refine hK _ _ (fun h => by cases h) ?_
  clear hK K
  with_reducible refine chain_nil ?_
  clear hw1 hw2 hq hk
  go_wp2
  go_end0
  rw [show max (s.sure + k) 0 = s.sure + k from by omega]
  unfold St.crash
  rw [HK.out]
  exact ⟨rfl, ((((((hd.setLog (hd.log.take (s.sure + k).toNat (by omega)) (hd.al.take _)).setSure (s.sure + k)).setStage (Bytes.empty _) Away.nil).setStaged false).setOff false).setStop (-1)).drew.drew.dev, (((((((Kp.refl _ _).set1 _ _).set1 _ _).set1 _ _).set1 _ _).set1 _ _).set1 _ _).drew.drew⟩

def ClonePost (F : Nat → Prop) (s : St) (w : World) (e : Ending) (w' : World) : Prop := ∃ c, e = .returned (.pointer (some ⟨c, 0, none⟩)) ∧ w.heap.size ≤ c ∧ Dev F w' c s ∧ Kp Non w w'

set_option maxRecDepth 100000 in
set_option maxHeartbeats 1000000 in
theorem clone_calls (d : Nat) (s : St) (w : World) (hd : Dev F w d s) (hok : s.ok) : Calls Try.prog 31 #[.pointer (some ⟨d, 0, none⟩)] w (ClonePost F s w) := by
  obtain ⟨ia, ic, sa, sc, la, lc, hd⟩ := hd
  have c0 := hd.c0
  have c1 := hd.c1
  have c2 := hd.c2
  have c3 := hd.c3
  have c4 := hd.c4
  have c5 := hd.c5
  have c6 := hd.c6
  have c7 := hd.c7
  have b1 := hok.image
  have b2 := hok.stage
  have b3 := hok.log
  obtain ⟨i0, hi, hz0, hz1, hz2⟩ := info_parts info5
  go_enter Try.func31, Try.ntmps31
  go_wp2_with fail
  clear c0 c1 c2 c3 c4 c5 c6 c7
  have hk0 : Kp Non w (w.alloc (.cells (s.row ia ic sa sc la lc) 86)) := (Kp.refl _ _).alloc _
  have hdd := hd.non hk0
  have hcc : DevAt F (w.alloc (.cells (s.row ia ic sa sc la lc) 86)) w.heap.size s ia ic sa sc la lc := ⟨heap_alloc_new w _, hdd.image, hdd.stage, hdd.log, hdd.fence, hdd.ai, hdd.as_, hdd.al⟩
  have hlt : d < w.heap.size := hd.lt
  clear hd
  unfold St.row at hk0 hdd hcc
  generalize w.alloc _ = W at *
  generalize hcn : w.heap.size = c at *
  have HC := Lib.hid hcn
  clear hcn
  have c1 := hdd.c1
  have c2 := hdd.c2
  have c4 := hdd.c4
  have hne : ¬ d = c := by omega
  have hne' : ¬ c = d := by omega
  have hcl := hcc.lt
  refine wp_region_chain [0,0,0,0,1,0,0,0,0,1,0,0,0,0,1,0,1,0,1,0,1] (by kernel_rfl) (by kernel_rfl) (fun w' => w'.cell? ⟨d, 1, none⟩ = some (.slice ia s.image.length ic) ∧ w'.cell? ⟨d, 2, none⟩ = some (.slice sa s.stage.length sc) ∧ w'.cell? ⟨d, 4, none⟩ = some (.slice la s.log.length lc)) ⟨c1, c2, c4⟩ ?_
  repeat (first | (with_reducible refine pure_skip ?_) | ((with_reducible refine pure_k rfl ?_); intro K hK; apply Exists.intro; refine ⟨fun w' hC => ?_, ?_⟩; (obtain ⟨g1, g2, g3⟩ := hC; go_simp; rfl); go_simp; refine hK _ ?_; clear hK K))
  with_reducible refine pure_nil ?_
  repeat (with_reducible refine chain_skip0 ?_)
  with_reducible refine chain_step rfl fun K hK => ?_
  refine wp_append_full2 _ _ 22 rfl 5 i0 Try.underlying22 hi hz0 hz1 hz2 none 0 [] rfl (Bytes.empty _) ia s.image.length ic s.image rfl hdd.image.drew (by omega) ?_
  intro a1 e1 w1 hB1 hk1 hwh1
  rw [Nat.zero_add, List.nil_append] at hB1
  have hA1 : Away F a1 s.image := Away.new (w := W) hdd.fence hwh1
  replace hk1 : Kp Non W w1 := ((Kp.refl _ W).drew).trans hk1
  go_simp
  refine hK _ _ (fun _ => ⟨(hdd.non hk1).c1, (hdd.non hk1).c2, (hdd.non hk1).c4⟩) ?_
  clear hK K
  repeat (with_reducible refine chain_skip0 ?_)
  with_reducible refine chain_step rfl fun K hK => ?_
  refine wp_append_full2 _ _ 22 rfl 5 i0 Try.underlying22 hi hz0 hz1 hz2 none 0 [] rfl (Bytes.empty _) sa s.stage.length sc s.stage rfl (hdd.non hk1).stage (by omega) ?_
  intro a2 e2 w2 hB2 hk2 hwh2
  rw [Nat.zero_add, List.nil_append] at hB2
  have hA2 : Away F a2 s.stage := Away.new (w := w1) (hdd.non hk1).fence hwh2
  replace hB1 := hB1.non hk2
  replace hk2 := hk1.trans hk2
  clear hk1
  go_simp
  refine hK _ _ (fun _ => ⟨(hdd.non hk2).c1, (hdd.non hk2).c2, (hdd.non hk2).c4⟩) ?_
  clear hK K
  repeat (with_reducible refine chain_skip0 ?_)
  with_reducible refine chain_step rfl fun K hK => ?_
  refine wp_append_full2 _ _ 22 rfl 5 i0 Try.underlying22 hi hz0 hz1 hz2 none 0 [] rfl (Bytes.empty _) la s.log.length lc s.log rfl (hdd.non hk2).log (by omega) ?_
  intro a3 e3 w3 hB3 hk3 hwh3
  rw [Nat.zero_add, List.nil_append] at hB3
  have hA3 : Away F a3 s.log := Away.new (w := w2) (hdd.non hk2).fence hwh3
  replace hB1 := hB1.non hk3
  replace hB2 := hB2.non hk3
  replace hk3 := hk2.trans hk3
  clear hk2
  have hc3 := hcc.non hk3
  have hd3 := hdd.non hk3
  have x1 := hd3.c1
  have x2 := hd3.c2
  have x4 := hd3.c4
  have y1 := hc3.c1
  have y2 := hc3.c2
  have y4 := hc3.c4
  have z1 := hc3.f 1
  have z2 := hc3.f 2
  have z4 := hc3.f 4
  go_simp
  refine hK _ _ (fun _ => ⟨x1, x2, x4⟩) ?_
  clear hK K
  repeat (with_reducible refine chain_skip0 ?_)
  with_reducible refine chain_step rfl fun K hK => ?_
  go_simp
  refine hK _ _ (fun _ => ⟨by go_simp, by go_simp, by go_simp⟩) ?_
  clear hK K
  repeat (with_reducible refine chain_skip0 ?_)
  with_reducible refine chain_step rfl fun K hK => ?_
  go_simp
  refine hK _ _ (fun _ => ⟨by go_simp, by go_simp, by go_simp⟩) ?_
  clear hK K
  repeat (with_reducible refine chain_skip0 ?_)
  with_reducible refine chain_step rfl fun K hK => ?_
  go_simp
  refine hK _ _ (fun _ => ⟨by go_simp, by go_simp, by go_simp⟩) ?_
  clear hK K
  with_reducible refine chain_nil ?_
  go_wp2
  go_ret
  have hn : w.heap.size = c := HC.out
  have hkk : Kp (One c) w3 (((w3.setCell ⟨c, 1, none⟩ (.slice a1 s.image.length e1)).setCell ⟨c, 2, none⟩ (.slice a2 s.stage.length e2)).setCell ⟨c, 4, none⟩ (.slice a3 s.log.length e3)) := (((Kp.refl _ _).set1 _ _).set1 _ _).set1 _ _
  have hD1 := hc3.setImage hB1 hA1
  have hD2 := hD1.setStage (hB2.one hc3.dev ((Kp.refl _ _).set1 _ _)) hA2
  have hD3 := hD2.setLog ((hB3.one hc3.dev ((Kp.refl _ _).set1 _ _)).one hD1.dev ((Kp.refl _ _).set1 _ _)) hA3
  exact ⟨c, rfl, by omega, hD3.dev, (hk0.trans hk3).comp hkk (fun _ _ f => f.elim) (fun i hi h => by have : i = c := h; omega)⟩
end Go.Proofs.Ytclbapmjhchokaa
