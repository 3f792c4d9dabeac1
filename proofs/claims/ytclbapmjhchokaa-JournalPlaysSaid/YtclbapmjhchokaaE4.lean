/-
  The device's closures that write.
-/
import Derived.Test.YtclbapmjhchokaaE3
import Derived.Test.YtclbapmjhchokaaR0
namespace Go.Proofs.Ytclbapmjhchokaa
open Go.RowKit
variable {F : Nat → Prop}

theorem info5 : (Try.prog.info? 5).map (fun i => (i.zero, i.size, i.bytes)) = some (some (.int .u8 0), 1, 1) := by kernel_rfl

/-- What a closure that writes leaves. -/
def DoesPost (F : Nat → Prop) (d : Nat) (s1 : St) (W : World) (e : Ending) (w' : World) : Prop := e = .returned (.tuple #[]) ∧ Kp (One d) W w' ∧ Dev F w' d s1

theorem Bytes.drew {w : World} {a : Option Addr} {n c : Nat} {l : List UInt8} (h : Bytes w a n c l) : Bytes w.drew a n c l := ⟨h.len, h.cap, h.max, h.nil, h.cells⟩
theorem Bytes.drewN {w : World} {a : Option Addr} {n c : Nat} {l : List UInt8} (h : Bytes w a n c l) (k : Nat) : Bytes (w.drewN k) a n c l := ⟨h.len, h.cap, h.max, h.nil, h.cells⟩
theorem DevAt.drew {w : World} {d : Nat} {s : St} {ia ic sa sc la lc} (h : DevAt F w d s ia ic sa sc la lc) : DevAt F w.drew d s ia ic sa sc la lc := ⟨h.row, h.image.drew, h.stage.drew, h.log.drew, h.fence, h.ai, h.as_, h.al⟩
theorem DevAt.dev {w : World} {d : Nat} {s : St} {ia ic sa sc la lc} (h : DevAt F w d s ia ic sa sc la lc) : Dev F w d s := ⟨_, _, _, _, _, _, h⟩
theorem Kp.set1 {a w : World} {d : Nat} (h : Kp (One d) a w) (i : Nat) (v : Value) : Kp (One d) a (w.setCell ⟨d, i, none⟩ v) := h.setCell (p := ⟨d, i, none⟩) (.inl rfl) v

theorem Bytes.full {w : World} {a : Option Addr} {n c : Nat} {l : List UInt8} (h : Bytes w a n c l) : Bytes w a n n l :=
  ⟨h.len, Nat.le_refl _, Nat.le_trans h.cap h.max, fun ha => by have := h.nil ha; have := h.cap; omega, h.cells⟩
theorem Kp.fr {S : Nat → Prop} {w w' : World} (h : Kp S w w') {a : Addr} (hl : a.block < w.heap.size) (hf : w.frozen? a = false) (hn : ¬ S a.block) : w'.frozen? a = false :=
  (World.frozen?_of_block (h.block a.block hl hn)).trans hf
theorem Bytes.take {w : World} {a : Option Addr} {n c : Nat} {l : List UInt8} (h : Bytes w a n c l) (k : Nat) (hk : k ≤ l.length) : Bytes w a k c (l.take k) := by
  have hl := h.len
  have hc := h.cap
  refine ⟨by simp; omega, by omega, h.max, h.nil, fun ad j b ha hb => h.cells ad j b ha ?_⟩
  rw [List.getElem?_take] at hb
  split at hb
  · exact hb
  · cases hb

set_option maxHeartbeats 400000 in
theorem sync_does (bx d : Nat) (s : St) (w : World) (hx : Box w bx (.pointer (some ⟨d, 0, none⟩)) 25) (hd : Dev F w d s) :
    Calls Try.prog 67 #[.pointer (some ⟨bx, 0, none⟩)] w (DoesPost F d { s with sure := s.log.length } w) := by
  obtain ⟨ia, ic, sa, sc, la, lc, hd⟩ := hd
  have hxc := hx.c
  have c4 := hd.c4
  have c5 := hd.c5
  have f5 := hd.f 5
  go_enter Try.func67, Try.ntmps67
  go_wp2
  go_region
  all_goals
    go_wp2
    go_end0
    exact ⟨rfl, ((Kp.refl _ _).set1 _ _).drew, (hd.setSure _).drew.dev⟩

set_option maxHeartbeats 400000 in
theorem commit_does (bx d : Nat) (s : St) (w : World) (hx : Box w bx (.pointer (some ⟨d, 0, none⟩)) 25) (hd : Dev F w d s) :
    Calls Try.prog 74 #[.pointer (some ⟨bx, 0, none⟩)] w (DoesPost F d { s with image := s.stage, stage := [], staged := false, log := [], sure := 0 } w) := by
  have hn := hx.ne hd
  obtain ⟨ia, ic, sa, sc, la, lc, hd⟩ := hd
  have hxc := hx.c
  have c1 := hd.c1
  have c2 := hd.c2
  have c3 := hd.c3
  have c4 := hd.c4
  have c5 := hd.c5
  have f := hd.f
  have hn' : ¬ d = bx := fun h => hn h.symm
  have b2 := hd.stage
  go_enter Try.func74, Try.ntmps74
  go_wp2
  go_region
  all_goals
    go_wp2
    go_end0
    exact ⟨rfl, ((((((Kp.refl _ _).set1 _ _).set1 _ _).set1 _ _).set1 _ _).set1 _ _).drew, (((((hd.setImage b2 hd.as_).setStage (Bytes.empty _) Away.nil).setStaged false).setLog (Bytes.empty _) Away.nil).setSure 0).drew.dev⟩

set_option maxHeartbeats 400000 in
theorem cut_does (bx bn d : Nat) (s : St) (n : Int) (w : World) (hx : Box w bx (.pointer (some ⟨d, 0, none⟩)) 25) (hn : Box w bn (.int .i64 n) 3) (hd : Dev F w d s) (hok : s.ok) (h0 : 0 ≤ n) (h1 : n ≤ s.log.length) :
    Calls Try.prog 99 #[.pointer (some ⟨bx, 0, none⟩), .pointer (some ⟨bn, 0, none⟩)] w (DoesPost F d { s with log := s.log.take n.toNat, sure := min s.sure n } w) := by
  have hne := hx.ne hd
  have hne2 := hn.ne hd
  obtain ⟨ia, ic, sa, sc, la, lc, hd⟩ := hd
  have hxc := hx.c
  have hnc := hn.c
  have c4 := hd.c4
  have c5 := hd.c5
  have f4 := hd.f 4
  have f5 := hd.f 5
  have hn' : ¬ d = bx := fun h => hne h.symm
  have hn'' : ¬ d = bn := fun h => hne2 h.symm
  have hcap := hd.log.cap
  have hmax := hd.log.max
  have hl : n ≤ lc := by omega
  have b3 := hok.log
  go_enter Try.func99, Try.ntmps99
  go_wp2
  go_region
  all_goals go_wp2
  all_goals go_region
  all_goals go_wp2
  all_goals
    go_end0
    first
      | (have hlt : n < s.sure := by assumption
         rw [show min s.sure n = n from by omega]
         exact ⟨rfl, (((Kp.refl _ _).set1 _ _).set1 _ _).drew.drew, ((hd.setLog (hd.log.take n.toNat (by omega)) (hd.al.take _)).setSure n).drew.drew.dev⟩)
      | (have hlt : s.sure ≤ n := by assumption
         rw [show min s.sure n = s.sure from by omega]
         exact ⟨rfl, (((Kp.refl _ _).set1 _ _).set1 _ _).drew.drew, ((hd.setLog (hd.log.take n.toNat (by omega)) (hd.al.take _)).setSure s.sure).drew.drew.dev⟩)

set_option maxRecDepth 100000 in
set_option maxHeartbeats 400000 in
theorem append_does (bx bb d : Nat) (s : St) (ba : Option Addr) (bn bc : Nat) (bl : List UInt8) (w : World) (hx : Box w bx (.pointer (some ⟨d, 0, none⟩)) 25) (hb : Box w bb (.slice ba bn bc) 22) (hd : Dev F w d s) (hok : s.ok)
    (hbl : Bytes w ba bn bc bl) (hbn : bn ≤ 1000000000000) :
    Calls Try.prog 65 #[.pointer (some ⟨bx, 0, none⟩), .pointer (some ⟨bb, 0, none⟩)] w (DoesPost F d { s with log := s.log ++ bl } w) := by
  have hne := hx.ne hd
  have hne2 := hb.ne hd
  obtain ⟨ia, ic, sa, sc, la, lc, hd⟩ := hd
  have hxc := hx.c
  have hbc := hb.c
  have c4 := hd.c4
  have f4 := hd.f 4
  have hn' : ¬ d = bx := fun h => hne h.symm
  have hn'' : ¬ d = bb := fun h => hne2 h.symm
  have hcap := hd.log.cap
  have hl : (s.log.length : Int) ≤ lc := by omega
  have b3 := hok.log
  obtain ⟨i0, hi, hz0, hz1, hz2⟩ := info_parts info5
  have hlt := hd.lt
  go_enter Try.func65, Try.ntmps65
  go_wp2_with fail
  refine wp_region_chain [0,0,0,0,0,0,0,0,0,0,0,0,0,0,0,0,0,1,0,0,2] (by kernel_rfl) (by kernel_rfl) (fun w' => w'.cell? ⟨bx, 0, none⟩ = some (.pointer (some ⟨d, 0, none⟩)) ∧ w'.cell? ⟨bb, 0, none⟩ = some (.slice ba bn bc) ∧ w'.cell? ⟨d, 4, none⟩ = some (.slice la s.log.length lc)) ⟨hxc, hbc, c4⟩ ?_
  repeat (first | (with_reducible refine pure_skip ?_) | ((with_reducible refine pure_k rfl ?_); intro K hK; apply Exists.intro; refine ⟨fun w' hC => ?_, ?_⟩; (obtain ⟨g1, g2, g3⟩ := hC; go_simp; rfl); go_simp; refine hK _ ?_; clear hK K))
  with_reducible refine pure_nil ?_
  repeat (with_reducible refine chain_skip0 ?_)
  with_reducible refine chain_step rfl fun K hK => ?_
  refine wp_append_full2 _ _ 22 rfl 5 i0 Try.underlying22 hi hz0 hz1 hz2 la s.log.length s.log rfl hd.log.full.drew ba bn bc bl rfl hbl.drew (by omega) ?_
  intro a' c' w1 hB hk hwh
  have y4 : w1.cell? ⟨d, 4, none⟩ = _ := hk.cell (a := ⟨d, 4, none⟩) c4 (fun f => f)
  have z4 : w1.frozen? ⟨d, 4, none⟩ = false := hk.fr (a := ⟨d, 4, none⟩) hlt f4 (fun f => f)
  go_simp
  refine hK _ _ (fun _ => ⟨hk.cell (a := ⟨bx, 0, none⟩) hxc (fun f => f), hk.cell (a := ⟨bb, 0, none⟩) hbc (fun f => f), y4⟩) ?_
  clear hK K
  repeat (with_reducible refine chain_skip0 ?_)
  with_reducible refine chain_step rfl fun K hK => ?_
  go_simp
  refine hK _ _ (fun h => by cases h) ?_
  clear hK K
  with_reducible refine chain_nil ?_
  go_wp2
  go_end0
  have hk1 : Kp Non w w1 := ((Kp.refl _ w).drew).trans hk
  exact ⟨rfl, (hk1.non).set1 _ _, ((hd.non hk1).setLog hB (hd.al.app (w := w) hd.fence hwh)).dev⟩

set_option maxRecDepth 100000 in
set_option maxHeartbeats 400000 in
theorem stage_does (bx bb d : Nat) (s : St) (ba : Option Addr) (bn bc : Nat) (bl : List UInt8) (w : World) (hx : Box w bx (.pointer (some ⟨d, 0, none⟩)) 25) (hb : Box w bb (.slice ba bn bc) 22) (hd : Dev F w d s)
    (hbl : Bytes w ba bn bc bl) (hbn : bn ≤ 1000000000000) :
    Calls Try.prog 72 #[.pointer (some ⟨bb, 0, none⟩), .pointer (some ⟨bx, 0, none⟩)] w (DoesPost F d { s with stage := bl, staged := true } w) := by
  have hne := hx.ne hd
  have hne2 := hb.ne hd
  obtain ⟨ia, ic, sa, sc, la, lc, hd⟩ := hd
  have hxc := hx.c
  have hbc := hb.c
  have c2 := hd.c2
  have f2 := hd.f 2
  have c3 := hd.c3
  have f3 := hd.f 3
  have hn' : ¬ d = bx := fun h => hne h.symm
  have hn'' : ¬ d = bb := fun h => hne2 h.symm
  obtain ⟨i0, hi, hz0, hz1, hz2⟩ := info_parts info5
  have hlt := hd.lt
  go_enter Try.func72, Try.ntmps72
  go_wp2_with fail
  refine wp_region_chain [0,0,0,1,0,0,1,0,0,1] (by kernel_rfl) (by kernel_rfl) (fun w' => w'.cell? ⟨bx, 0, none⟩ = some (.pointer (some ⟨d, 0, none⟩)) ∧ w'.cell? ⟨bb, 0, none⟩ = some (.slice ba bn bc)) ⟨hxc, hbc⟩ ?_
  repeat (first | (with_reducible refine pure_skip ?_) | ((with_reducible refine pure_k rfl ?_); intro K hK; apply Exists.intro; refine ⟨fun w' hC => ?_, ?_⟩; (obtain ⟨g1, g2⟩ := hC; go_simp; rfl); go_simp; refine hK _ ?_; clear hK K))
  with_reducible refine pure_nil ?_
  repeat (with_reducible refine chain_skip0 ?_)
  with_reducible refine chain_step rfl fun K hK => ?_
  refine wp_append_full2 _ _ 22 rfl 5 i0 Try.underlying22 hi hz0 hz1 hz2 none 0 [] rfl (Bytes.empty _) ba bn bc bl rfl hbl.drew (by omega) ?_
  intro a' c' w1 hB hk hwh
  rw [Nat.zero_add, List.nil_append] at hB
  have x1 : w1.cell? ⟨bx, 0, none⟩ = _ := hk.cell (a := ⟨bx, 0, none⟩) hxc (fun f => f)
  have x2 : w1.cell? ⟨bb, 0, none⟩ = _ := hk.cell (a := ⟨bb, 0, none⟩) hbc (fun f => f)
  have y2 : w1.cell? ⟨d, 2, none⟩ = _ := hk.cell (a := ⟨d, 2, none⟩) c2 (fun f => f)
  have z2 : w1.frozen? ⟨d, 2, none⟩ = false := hk.fr (a := ⟨d, 2, none⟩) hlt f2 (fun f => f)
  have y3 : w1.cell? ⟨d, 3, none⟩ = _ := hk.cell (a := ⟨d, 3, none⟩) c3 (fun f => f)
  have z3 : w1.frozen? ⟨d, 3, none⟩ = false := hk.fr (a := ⟨d, 3, none⟩) hlt f3 (fun f => f)
  go_simp
  refine hK _ _ (fun _ => ⟨x1, x2⟩) ?_
  clear hK K
  repeat (with_reducible refine chain_skip0 ?_)
  with_reducible refine chain_step rfl fun K hK => ?_
  go_simp
  refine hK _ _ (fun _ => ⟨by go_simp, by go_simp⟩) ?_
  clear hK K
  repeat (with_reducible refine chain_skip0 ?_)
  with_reducible refine chain_step rfl fun K hK => ?_
  go_simp
  refine hK _ _ (fun _ => ⟨by go_simp, by go_simp⟩) ?_
  clear hK K
  with_reducible refine chain_nil ?_
  go_wp2
  go_end0
  have hk1 : Kp Non w w1 := ((Kp.refl _ w).drew).trans hk
  exact ⟨rfl, ((hk1.non).set1 _ _).set1 _ _, (((hd.non hk1).setStage hB (Away.new (w := w) hd.fence hwh)).setStaged true).dev⟩
end Go.Proofs.Ytclbapmjhchokaa
