/-
  Decide.
-/
import Derived.Test.YtdijaillcajpaaaV4
import Derived.Test.YtdijaillcajpaaaR4
namespace Go.Proofs.Ytdijaillcajpaaa
open Go.RowKit

def MuteP (R : RulV) (sh : List Shd) (c : Chg) (ok : Bool) : Prop := (ok = true → R.mute ≠ 0 ∧ ∃ s ∈ sh, ∃ out inn, out ∈ s.me ∧ inn ∉ s.me ∧ 0 ≤ inn ∧ inn < 7 ∧ c = ⟨3, s.id, 0, 0, out, inn⟩) ∧ (ok = false → c = zeroC)
/-- What is decided. -/
def DecP (R : RulV) (ll : List LoadV) (A : Atl) (c : Chg) (ok : Bool) : Prop :=
  (MayP R ∧ A.op = [] ∧ A.ep < R.cap) ∧ ((ok = true ∧ MuteP R A.sh c true) ∨ (∃ c1, MuteP R A.sh c1 false) ∧ ((ok = true ∧ LongP R A.sh c true) ∨ (∃ c1, LongP R A.sh c1 false) ∧ ((ok = true ∧ HotP R ll A.sh c true) ∨ (∃ c1, HotP R ll A.sh c1 false) ∧ ColdP R A.sh c ok)))
  ∨ ¬ (MayP R ∧ A.op = [] ∧ A.ep < R.cap) ∧ c = zeroC ∧ ok = false
structure CD (b0 : Nat) (R : RulV) (w' : World) : Prop where
  r0 : w'.cell? ⟨b0, 0, none⟩ = some (.int .i64 R.hot)
  r1 : w'.cell? ⟨b0, 1, none⟩ = some (.int .i64 R.cold)
  r2 : w'.cell? ⟨b0, 2, none⟩ = some (.int .i64 R.long)
  r3 : w'.cell? ⟨b0, 3, none⟩ = some (.int .i64 R.mute)
  r4 : w'.cell? ⟨b0, 4, none⟩ = some (.int .i64 R.cap)
theorem Bx.rul {W : World} {b : Nat} {R : RulV} (h : Bx W b 64 [.int .i64 R.hot, .int .i64 R.cold, .int .i64 R.long, .int .i64 R.mute, .int .i64 R.cap]) : CD b R W := ⟨h.c rfl, h.c rfl, h.c rfl, h.c rfl, h.c rfl⟩
section
variable {v : Nat} {R : RulV} {sh : List Shd} {a : Option Addr} {c : Nat} {L : List ShdV} {la : Option Addr} {lc : Nat} {ll : List LoadV} {va : Option Addr} {vc : Nat} {vl : List Int} {w : World}
set_option maxRecDepth 100000 in
theorem vmute_zero (h : ViewAt w v R sh a c L la lc ll va vc vl) (hz : R.mute = 0) : Calls Try.prog 63 #[.pointer (some ⟨v, 0, none⟩)] w (DecOut (MuteP R sh) w) := by
  have e0 : (R.mute == 0) = true := by simpa using hz
  obtain ⟨V, hV, hB0, hk0⟩ : ∃ V, (w.alloc (.cells #[.pointer (some ⟨v, 0, none⟩)] 124)).alloc (.cells #[.int .i64 0, .int .i64 0, .int .i64 0, .int .i64 0, .int .i64 0, .int .i64 0] 32) = V ∧ Bx V (w.heap.size + 1) 32 (encChg zeroC) ∧ Kp Non w V := ⟨_, rfl, by rw [← World.size_alloc w]; exact Bx.new _ _ (encChg zeroC), ((Kp.refl _ _).alloc _).alloc _⟩
  have hVV := h.non hk0
  have v4 := hVV.cells.2.2.2.2.1
  clear hz
  have hp : V.cell? ⟨w.heap.size, 0, none⟩ = some (.pointer (some ⟨v, 0, none⟩)) := by
    rw [← hV]
    exact ((Kp.refl Non (w.alloc (.cells #[.pointer (some ⟨v, 0, none⟩)] 124))).alloc _).cell (cell_new (w := w) rfl 0) (fun f => f)
  have f0 := hB0.frChg
  obtain ⟨f0, f1, f2, f3, f4, f5⟩ := f0
  obtain ⟨y0, y1, y2, y3, y4, y5⟩ := hB0.chg
  go_enter Try.func63, Try.ntmps63
  go_wp2_with fail
  obtain ⟨W', hW', hB', hk'⟩ := hB0.setChg zeroC
  have hW' : _ = W' := hW'
  exact ⟨rfl, _, results_cell_chg (b := w.heap.size + 1) (x := zeroC) rfl _ _ rfl rfl (hW' ▸ hB'), zeroC, false, rfl, ⟨(fun h => by cases h), fun _ => rfl⟩, Kp.comp hk0 (hW' ▸ hk') (fun _ _ f => f) (fun i hi e => by have e : i = w.heap.size + 1 := e; omega)⟩
set_option maxRecDepth 100000 in
set_option maxHeartbeats 4000000 in
theorem decide_calls {m : Nat} {A : Atl} {G : Geo} (HM : ∀ W v a c L la lc va vc, ViewAt W v R A.sh a c L la lc ll va vc vl → Calls Try.prog 63 #[.pointer (some ⟨v, 0, none⟩)] W (DecOut (MuteP R A.sh) W)) (h : AtlAt w m A G) (hl : Reads encLd 4 w la ll.length lc ll) (hv : Ints w va vl.length vc vl) :
    Calls Try.prog 32 #[.pointer (some ⟨m, 0, none⟩), valRul R, .slice la ll.length lc, .slice va vl.length vc] w (DecOut (DecP R ll A) w) := by
  obtain ⟨V, hV, hR, hB, hk0⟩ : ∃ V, (w.alloc (.cells #[.int .i64 R.hot, .int .i64 R.cold, .int .i64 R.long, .int .i64 R.mute, .int .i64 R.cap] 64)).alloc (.cells #[.int .i64 0, .int .i64 0, .int .i64 0, .int .i64 0, .int .i64 0, .int .i64 0] 32) = V ∧ Bx V w.heap.size 64 [.int .i64 R.hot, .int .i64 R.cold, .int .i64 R.long, .int .i64 R.mute, .int .i64 R.cap] ∧ Bx V (w.heap.size + 1) 32 (encChg zeroC) ∧ Kp Non w V :=
    ⟨_, rfl, Bx.non (Bx.new w _ [.int .i64 R.hot, .int .i64 R.cold, .int .i64 R.long, .int .i64 R.mute, .int .i64 R.cap]) ((Kp.refl _ _).alloc _), by rw [← World.size_alloc w]; exact Bx.new _ _ (encChg zeroC), ((Kp.refl _ _).alloc _).alloc _⟩
  have HC := Lib.hid (fun W (q : Kp Non V W) => (hR.non q).rul)
  have HMay := Lib.hid (fun W => wMay_calls R W)
  have hopn : G.op.n = A.op.length := by
    have := Reads.len h.r.op.1.there
    rw [this, h.opl]
  have hop3 := h.good.op3
  have HOp := Lib.hid (fun W (q : Kp Non V W) => aopen_calls ((h.r.non hk0).non q) (by omega))
  have HEp := Lib.hid (fun W (q : Kp Non V W) => aepoch_calls ((h.r.non hk0).non q))
  have HSh := Lib.hid (fun W (q : Kp Non V W) => ashards_calls ((h.non hk0).non q))
  have kd : Kp Non V V.drew := Kp.drew (Kp.refl _ _)
  clear hopn
  go_enter Try.func32, Try.ntmps32
  go_wp2_with fail
  clear hV
  by_cases hm : MayP R
  · have hmb : mayB R = true := decide_eq_true hm
    rw [hmb] at HMay
    have HHM := Lib.hid hm
    by_cases ho : A.op = []
    · have d1 : decide (0 < A.op.length) = false := by rw [ho]; rfl
      have d1' : ¬ 0 < A.op.length := by rw [ho]; simp
      by_cases he : R.cap ≤ A.ep
      · have d2 : decide (R.cap ≤ A.ep) = true := by simpa using he
        have HNO : Hid (¬ (MayP R ∧ A.op = [] ∧ A.ep < R.cap)) := Lib.hid (fun q => by omega)
        have HHo := Lib.hid ho
        clear ho hm hmb
        refine wp_region_pieces [(8, [0,0,0,0,2,2,2,2,9,9,9,9,9,9,9,9,9,9,9,9], CD w.heap.size R), (14, [9,9,9,9,9,9,9,9,0,2,2,2,2,2,9,9,9,9,9,9], CD w.heap.size R), (20, [9,9,9,9,9,9,9,9,9,9,9,9,9,9,0,1,0,0,2,2], CD w.heap.size R)] (by kernel_rfl) (by kernel_rfl) ?_
        refine (And.intro ?_ ?_ : _ ∧ _)
        · exact HC.out _ kd
        refine PB.out ?_
        repeat (first | (with_reducible refine pb_skip ?_) | ((first | (with_reducible refine pb_k rfl ?_) | ((with_reducible refine pb_ky ?hg ?_); (case hg => simp [Region.wanted, yielded]; done))); intro K hK; apply Exists.intro; refine ⟨fun w' hC => ?_, ?_⟩; (obtain ⟨j0, j1, j2, j3, j4⟩ := hC; go_simp; rfl); go_simp; refine hK _ ?_; clear hK K) | ((with_reducible refine pb_kn ?hg ?_); (case hg => simp [Region.wanted, yielded]; done); intro K hK; go_simp; refine hK _ ?_; clear hK K))
        with_reducible refine pb_nil ?_
        simp only [List.take_succ_cons, List.take_zero, List.drop_zero]
        refine CB.out ?_
        repeat (with_reducible refine cb_skip ?_)
        with_reducible refine cb_ky (by simp [Region.wanted, yielded]) fun K hK => ?_
        go_simp
        refine (HMay.out _).mono ?_
        rintro e W1 ⟨rfl, hk1⟩
        have hk1' := kd.trans hk1
        refine hK _ _ (fun h => by cases h) ?_
        clear hK K
        repeat (with_reducible refine cb_skip ?_)
        with_reducible refine cb_ky (by simp [Region.wanted, yielded]) fun K hK => ?_
        go_simp
        refine hK _ _ (fun h => by cases h) ?_
        clear hK K
        repeat (with_reducible refine cb_skip ?_)
        with_reducible refine cb_step rfl fun K hK => ?_
        go_simp
        refine hK _ _ (fun h => by cases h) ?_
        clear hK K
        repeat (with_reducible refine cb_skip ?_)
        with_reducible refine cb_step rfl fun K hK => ?_
        go_simp
        refine hK _ _ (fun h => by cases h) ?_
        clear hK K
        repeat (with_reducible refine cb_skip ?_)
        with_reducible refine cb_nil ?_
        simp only [Then, wpPieces]
        refine (And.intro ?_ ?_ : _ ∧ _)
        · exact HC.out _ hk1'
        refine PB.out ?_
        repeat (first | (with_reducible refine pb_skip ?_) | ((first | (with_reducible refine pb_k rfl ?_) | ((with_reducible refine pb_ky ?hg ?_); (case hg => simp [Region.wanted, yielded]; done))); intro K hK; apply Exists.intro; refine ⟨fun w' hC => ?_, ?_⟩; (obtain ⟨j0, j1, j2, j3, j4⟩ := hC; go_simp; rfl); go_simp; refine hK _ ?_; clear hK K) | ((with_reducible refine pb_kn ?hg ?_); (case hg => simp [Region.wanted, yielded]; done); intro K hK; go_simp; refine hK _ ?_; clear hK K))
        with_reducible refine pb_nil ?_
        simp only [List.take_succ_cons, List.take_zero, List.drop_succ_cons, List.drop_zero]
        refine CB.out ?_
        repeat (with_reducible refine cb_skip ?_)
        with_reducible refine cb_ky (by simp [Region.wanted, yielded]) fun K hK => ?_
        go_simp
        refine (HOp.out _ hk1').mono ?_
        rintro e W2 ⟨x', rfl, hx1, hx2, _, hk2⟩
        have hn' : x'.n = A.op.length := by
          have := Reads.len hx1.there
          rw [this, hx2, h.opl]
        rw [hn']
        have hk2' := hk1'.trans hk2
        refine hK _ _ (fun h => by cases h) ?_
        clear hK K
        repeat (with_reducible refine cb_skip ?_)
        with_reducible refine cb_ky (by simp [Region.wanted, yielded]) fun K hK => ?_
        go_simp
        refine hK _ _ (fun h => by cases h) ?_
        clear hK K
        repeat (with_reducible refine cb_skip ?_)
        with_reducible refine cb_ky (by simp [Region.wanted, yielded]) fun K hK => ?_
        go_simp
        refine hK _ _ (fun h => by cases h) ?_
        clear hK K
        repeat (with_reducible refine cb_skip ?_)
        with_reducible refine cb_step rfl fun K hK => ?_
        go_simp
        refine hK _ _ (fun h => by cases h) ?_
        clear hK K
        repeat (with_reducible refine cb_skip ?_)
        with_reducible refine cb_step rfl fun K hK => ?_
        go_simp
        refine hK _ _ (fun h => by cases h) ?_
        clear hK K
        repeat (with_reducible refine cb_skip ?_)
        with_reducible refine cb_nil ?_
        simp only [Then]
        refine (And.intro ?_ ?_ : _ ∧ _)
        · exact HC.out _ hk2'
        refine PB.out ?_
        repeat (first | (with_reducible refine pb_skip ?_) | ((first | (with_reducible refine pb_k rfl ?_) | ((with_reducible refine pb_ky ?hg ?_); (case hg => simp [Region.wanted, yielded]; done))); intro K hK; apply Exists.intro; refine ⟨fun w' hC => ?_, ?_⟩; (obtain ⟨j0, j1, j2, j3, j4⟩ := hC; go_simp; rfl); go_simp; refine hK _ ?_; clear hK K) | ((with_reducible refine pb_kn ?hg ?_); (case hg => simp [Region.wanted, yielded]; done); intro K hK; go_simp; refine hK _ ?_; clear hK K))
        with_reducible refine pb_nil ?_
        refine CB.out ?_
        repeat (with_reducible refine cb_skip ?_)
        with_reducible refine cb_ky (by simp [Region.wanted, yielded]) fun K hK => ?_
        go_simp
        refine (HEp.out _ hk2').mono ?_
        rintro e W3 ⟨rfl, hk3⟩
        have hk3' := hk2'.trans hk3
        refine hK _ _ (fun _ => HC.out _ hk3') ?_
        clear hK K
        repeat (with_reducible refine cb_skip ?_)
        with_reducible refine cb_ky (by simp [Region.wanted, yielded]) fun K hK => ?_
        go_simp
        refine hK _ _ (fun h => by cases h) ?_
        clear hK K
        repeat (with_reducible refine cb_skip ?_)
        with_reducible refine cb_step rfl fun K hK => ?_
        go_simp
        refine hK _ _ (fun h => by cases h) ?_
        clear hK K
        repeat (with_reducible refine cb_skip ?_)
        with_reducible refine cb_nil ?_
        simp only [Then]
        have HKK := Lib.hid hk3'
        have hbN := hB.non HKK.out
        obtain ⟨f0, f1, f2, f3, f4, f5⟩ := hbN.frChg
        obtain ⟨y0, y1, y2, y3, y4, y5⟩ := hbN.chg
        go_wp2_with fail
        obtain ⟨W', hW', hB', hk'⟩ := hbN.setChg zeroC
        have hW' : _ = W' := hW'
        refine ⟨rfl, _, results_cell_chg (b := w.heap.size + 1) (x := zeroC) rfl _ _ rfl rfl (hW' ▸ hB'), zeroC, false, rfl, .inr ⟨HNO.out, rfl, rfl⟩, Kp.comp (hk0.trans HKK.out) (hW' ▸ hk') (fun _ _ f => f) (fun i hi e => by have e : i = w.heap.size + 1 := e; omega)⟩
      · have d2 : decide (R.cap ≤ A.ep) = false := by simpa using he
        have HHo := Lib.hid ho
        clear ho hm hmb
        refine wp_region_pieces [(8, [0,0,0,0,2,2,2,2,9,9,9,9,9,9,9,9,9,9,9,9], CD w.heap.size R), (14, [9,9,9,9,9,9,9,9,0,2,2,2,2,2,9,9,9,9,9,9], CD w.heap.size R), (20, [9,9,9,9,9,9,9,9,9,9,9,9,9,9,0,1,0,0,2,2], CD w.heap.size R)] (by kernel_rfl) (by kernel_rfl) ?_
        refine (And.intro ?_ ?_ : _ ∧ _)
        · exact HC.out _ kd
        refine PB.out ?_
        repeat (first | (with_reducible refine pb_skip ?_) | ((first | (with_reducible refine pb_k rfl ?_) | ((with_reducible refine pb_ky ?hg ?_); (case hg => simp [Region.wanted, yielded]; done))); intro K hK; apply Exists.intro; refine ⟨fun w' hC => ?_, ?_⟩; (obtain ⟨j0, j1, j2, j3, j4⟩ := hC; go_simp; rfl); go_simp; refine hK _ ?_; clear hK K) | ((with_reducible refine pb_kn ?hg ?_); (case hg => simp [Region.wanted, yielded]; done); intro K hK; go_simp; refine hK _ ?_; clear hK K))
        with_reducible refine pb_nil ?_
        simp only [List.take_succ_cons, List.take_zero, List.drop_zero]
        refine CB.out ?_
        repeat (with_reducible refine cb_skip ?_)
        with_reducible refine cb_ky (by simp [Region.wanted, yielded]) fun K hK => ?_
        go_simp
        refine (HMay.out _).mono ?_
        rintro e W1 ⟨rfl, hk1⟩
        have hk1' := kd.trans hk1
        refine hK _ _ (fun h => by cases h) ?_
        clear hK K
        repeat (with_reducible refine cb_skip ?_)
        with_reducible refine cb_ky (by simp [Region.wanted, yielded]) fun K hK => ?_
        go_simp
        refine hK _ _ (fun h => by cases h) ?_
        clear hK K
        repeat (with_reducible refine cb_skip ?_)
        with_reducible refine cb_step rfl fun K hK => ?_
        go_simp
        refine hK _ _ (fun h => by cases h) ?_
        clear hK K
        repeat (with_reducible refine cb_skip ?_)
        with_reducible refine cb_step rfl fun K hK => ?_
        go_simp
        refine hK _ _ (fun h => by cases h) ?_
        clear hK K
        repeat (with_reducible refine cb_skip ?_)
        with_reducible refine cb_nil ?_
        simp only [Then, wpPieces]
        refine (And.intro ?_ ?_ : _ ∧ _)
        · exact HC.out _ hk1'
        refine PB.out ?_
        repeat (first | (with_reducible refine pb_skip ?_) | ((first | (with_reducible refine pb_k rfl ?_) | ((with_reducible refine pb_ky ?hg ?_); (case hg => simp [Region.wanted, yielded]; done))); intro K hK; apply Exists.intro; refine ⟨fun w' hC => ?_, ?_⟩; (obtain ⟨j0, j1, j2, j3, j4⟩ := hC; go_simp; rfl); go_simp; refine hK _ ?_; clear hK K) | ((with_reducible refine pb_kn ?hg ?_); (case hg => simp [Region.wanted, yielded]; done); intro K hK; go_simp; refine hK _ ?_; clear hK K))
        with_reducible refine pb_nil ?_
        simp only [List.take_succ_cons, List.take_zero, List.drop_succ_cons, List.drop_zero]
        refine CB.out ?_
        repeat (with_reducible refine cb_skip ?_)
        with_reducible refine cb_ky (by simp [Region.wanted, yielded]) fun K hK => ?_
        go_simp
        refine (HOp.out _ hk1').mono ?_
        rintro e W2 ⟨x', rfl, hx1, hx2, _, hk2⟩
        have hn' : x'.n = A.op.length := by
          have := Reads.len hx1.there
          rw [this, hx2, h.opl]
        rw [hn']
        have hk2' := hk1'.trans hk2
        refine hK _ _ (fun h => by cases h) ?_
        clear hK K
        repeat (with_reducible refine cb_skip ?_)
        with_reducible refine cb_ky (by simp [Region.wanted, yielded]) fun K hK => ?_
        go_simp
        refine hK _ _ (fun h => by cases h) ?_
        clear hK K
        repeat (with_reducible refine cb_skip ?_)
        with_reducible refine cb_ky (by simp [Region.wanted, yielded]) fun K hK => ?_
        go_simp
        refine hK _ _ (fun h => by cases h) ?_
        clear hK K
        repeat (with_reducible refine cb_skip ?_)
        with_reducible refine cb_step rfl fun K hK => ?_
        go_simp
        refine hK _ _ (fun h => by cases h) ?_
        clear hK K
        repeat (with_reducible refine cb_skip ?_)
        with_reducible refine cb_step rfl fun K hK => ?_
        go_simp
        refine hK _ _ (fun h => by cases h) ?_
        clear hK K
        repeat (with_reducible refine cb_skip ?_)
        with_reducible refine cb_nil ?_
        simp only [Then]
        refine (And.intro ?_ ?_ : _ ∧ _)
        · exact HC.out _ hk2'
        refine PB.out ?_
        repeat (first | (with_reducible refine pb_skip ?_) | ((first | (with_reducible refine pb_k rfl ?_) | ((with_reducible refine pb_ky ?hg ?_); (case hg => simp [Region.wanted, yielded]; done))); intro K hK; apply Exists.intro; refine ⟨fun w' hC => ?_, ?_⟩; (obtain ⟨j0, j1, j2, j3, j4⟩ := hC; go_simp; rfl); go_simp; refine hK _ ?_; clear hK K) | ((with_reducible refine pb_kn ?hg ?_); (case hg => simp [Region.wanted, yielded]; done); intro K hK; go_simp; refine hK _ ?_; clear hK K))
        with_reducible refine pb_nil ?_
        refine CB.out ?_
        repeat (with_reducible refine cb_skip ?_)
        with_reducible refine cb_ky (by simp [Region.wanted, yielded]) fun K hK => ?_
        go_simp
        refine (HEp.out _ hk2').mono ?_
        rintro e W3 ⟨rfl, hk3⟩
        have hk3' := hk2'.trans hk3
        refine hK _ _ (fun _ => HC.out _ hk3') ?_
        clear hK K
        repeat (with_reducible refine cb_skip ?_)
        with_reducible refine cb_ky (by simp [Region.wanted, yielded]) fun K hK => ?_
        go_simp
        refine hK _ _ (fun h => by cases h) ?_
        clear hK K
        repeat (with_reducible refine cb_skip ?_)
        with_reducible refine cb_step rfl fun K hK => ?_
        go_simp
        refine hK _ _ (fun h => by cases h) ?_
        clear hK K
        repeat (with_reducible refine cb_skip ?_)
        with_reducible refine cb_nil ?_
        simp only [Then]
        have hYES : MayP R ∧ A.op = [] ∧ A.ep < R.cap := ⟨HHM.out, HHo.out, by omega⟩
        have HYES := Lib.hid hYES
        clear hYES
        go_wp2_with fail
        have kd3 := hk3'.trans (Kp.drew (Kp.refl Non W3))
        refine wp_region_chain [0,1,0,0,0,2,2,2] (by kernel_rfl) (by kernel_rfl) (CD w.heap.size R) (HC.out _ kd3) ?_
        repeat (first | (with_reducible refine pure_skip ?_) | ((with_reducible refine pure_k rfl ?_); intro K hK; apply Exists.intro; refine ⟨fun w' hC => ?_, ?_⟩; (obtain ⟨j0, j1, j2, j3, j4⟩ := hC; go_simp; rfl); go_simp; refine hK _ ?_; clear hK K))
        with_reducible refine pure_nil ?_
        repeat (with_reducible refine chain_skip0 ?_)
        with_reducible refine chain_step rfl fun K hK => ?_
        go_simp
        refine (HSh.out _ kd3).mono ?_
        rintro e W4 ⟨sa, sc, L, rfl, hRow, hk4⟩
        have hk4' := kd3.trans hk4
        refine hK _ _ (fun _ => HC.out _ hk4') ?_
        clear hK K
        repeat (with_reducible refine chain_skip0 ?_)
        with_reducible refine chain_step rfl fun K hK => ?_
        go_simp
        refine hK _ _ (fun h => by cases h) ?_
        clear hK K
        repeat (with_reducible refine chain_skip0 ?_)
        with_reducible refine chain_step rfl fun K hK => ?_
        go_simp
        refine hK _ _ (fun h => by cases h) ?_
        clear hK K
        repeat (with_reducible refine chain_skip0 ?_)
        with_reducible refine chain_step rfl fun K hK => ?_
        go_simp
        refine hK _ _ (fun h => by cases h) ?_
        clear hK K
        with_reducible refine chain_nil ?_
        obtain ⟨U, hU, hVU, hkU⟩ : ∃ U, W4.alloc (.cells #[.slice sa A.sh.length sc, .int .i64 R.hot, .int .i64 R.cold, .int .i64 R.long, .int .i64 R.mute, .int .i64 R.cap, .slice la ll.length lc, .slice va vl.length vc] 126) = U ∧ ViewAt U W4.heap.size R A.sh sa sc L la lc ll va vc vl ∧ Kp Non V U := by
          have ka : Kp Non W4 (W4.alloc (.cells #[.slice sa A.sh.length sc, .int .i64 R.hot, .int .i64 R.cold, .int .i64 R.long, .int .i64 R.mute, .int .i64 R.cap, .slice la ll.length lc, .slice va vl.length vc] 126)) := (Kp.refl _ _).alloc _
          refine ⟨_, rfl, ⟨Bx.new W4 _ [.slice sa A.sh.length sc, .int .i64 R.hot, .int .i64 R.cold, .int .i64 R.long, .int .i64 R.mute, .int .i64 R.cap, .slice la ll.length lc, .slice va vl.length vc], (hRow.row.non ka).reads encShd_len (by omega), fun s hs => ((hRow.each s hs).non ka).there, hRow.pl, ((hl.non hk0).non hk4').non ka, ((Reads.non hv hk0).non hk4').non ka⟩, hk4'.trans ka⟩
        rw [hU]
        clear hU
        have HMu := Lib.hid (HM U W4.heap.size sa sc L la lc va vc hVU)
        have HL := Lib.hid (fun W (q : Kp Non U W) => vlong_calls (hVU.non q))
        have hgr := h.good.row
        have hb2 := h.good.bl2
        have HH := Lib.hid (fun W (q : Kp Non U W) => vhot_calls (hVU.non q) fun s hs => by have := hgr.in_ s hs; omega)
        have HCo := Lib.hid (fun W (q : Kp Non U W) => vcold_calls (hVU.non q) (by have := h.good.len; omega) HYES.out.1.2.1)
        have HB := Lib.hid (hB.non hkU)
        have HKU := Lib.hid (hk0.trans hkU)
        clear hgr hb2 HM hRow hk4 hk4' kd3 hk3 hk3' hk2 hk2' hk1 hk1' kd HC HMay HOp HEp HSh hVU
        go_wp2_with fail
        refine HMu.out.mono ?_
        rintro e U1 ⟨c1, ok1, rfl, hp1, hq1⟩
        cases ok1 with
        | true =>
          have hbN := Bx.non HB.out hq1
          have hszN := hbN.lt
          obtain ⟨f0, f1, f2, f3, f4, f5⟩ := hbN.frChg
          obtain ⟨y0, y1, y2, y3, y4, y5⟩ := hbN.chg
          go_wp2_with fail
          obtain ⟨W', hW', hB', hk'⟩ := hbN.setChg c1
          rw [hW']
          exact ⟨rfl, _, results_cell_chg (b := w.heap.size + 1) (x := c1) rfl _ _ rfl rfl (Bx.non hB' ((Kp.refl _ _).alloc _)), c1, true, rfl, .inl ⟨HYES.out, .inl ⟨rfl, hp1⟩⟩, (Kp.comp (HKU.out.trans hq1) hk' (fun _ _ f => f) (fun i hi e => by have e : i = w.heap.size + 1 := e; omega)).alloc _⟩
        | false =>
          have HP1 := Lib.hid hp1
          have hq1' : Kp Non U (U1.alloc (.cells #[.int .i64 c1.ki, .int .i64 c1.sh, .int .i64 c1.ot, .int .i64 c1.at_, .int .i64 c1.out, .int .i64 c1.inn] 32)) := hq1.alloc _
          clear hp1
          go_wp2_with fail
          refine (HL.out _ hq1').mono ?_
          rintro e U2 ⟨c2, ok2, rfl, hp2, hq2⟩
          have hq2 := hq1'.trans hq2
          cases ok2 with
          | true =>
            have hbN := Bx.non HB.out hq2
            have hszN := hbN.lt
            obtain ⟨f0, f1, f2, f3, f4, f5⟩ := hbN.frChg
            obtain ⟨y0, y1, y2, y3, y4, y5⟩ := hbN.chg
            go_wp2_with fail
            obtain ⟨W', hW', hB', hk'⟩ := hbN.setChg c2
            rw [hW']
            exact ⟨rfl, _, results_cell_chg (b := w.heap.size + 1) (x := c2) rfl _ _ rfl rfl (Bx.non hB' ((Kp.refl _ _).alloc _)), c2, true, rfl, .inl ⟨HYES.out, .inr ⟨⟨c1, HP1.out⟩, .inl ⟨rfl, hp2⟩⟩⟩, (Kp.comp (HKU.out.trans hq2) hk' (fun _ _ f => f) (fun i hi e => by have e : i = w.heap.size + 1 := e; omega)).alloc _⟩
          | false =>
            have HP2 := Lib.hid hp2
            have hq2' : Kp Non U (U2.alloc (.cells #[.int .i64 c2.ki, .int .i64 c2.sh, .int .i64 c2.ot, .int .i64 c2.at_, .int .i64 c2.out, .int .i64 c2.inn] 32)) := hq2.alloc _
            clear hp2
            go_wp2_with fail
            refine (HH.out _ hq2').mono ?_
            rintro e U3 ⟨c3, ok3, rfl, hp3, hq3⟩
            have hq3 := hq2'.trans hq3
            cases ok3 with
            | true =>
              have hbN := Bx.non HB.out hq3
              have hszN := hbN.lt
              obtain ⟨f0, f1, f2, f3, f4, f5⟩ := hbN.frChg
              obtain ⟨y0, y1, y2, y3, y4, y5⟩ := hbN.chg
              go_wp2_with fail
              obtain ⟨W', hW', hB', hk'⟩ := hbN.setChg c3
              rw [hW']
              exact ⟨rfl, _, results_cell_chg (b := w.heap.size + 1) (x := c3) rfl _ _ rfl rfl (Bx.non hB' ((Kp.refl _ _).alloc _)), c3, true, rfl, .inl ⟨HYES.out, .inr ⟨⟨c1, HP1.out⟩, .inr ⟨⟨c2, HP2.out⟩, .inl ⟨rfl, hp3⟩⟩⟩⟩, (Kp.comp (HKU.out.trans hq3) hk' (fun _ _ f => f) (fun i hi e => by have e : i = w.heap.size + 1 := e; omega)).alloc _⟩
            | false =>
              have HP3 := Lib.hid hp3
              have hq3' : Kp Non U (U3.alloc (.cells #[.int .i64 c3.ki, .int .i64 c3.sh, .int .i64 c3.ot, .int .i64 c3.at_, .int .i64 c3.out, .int .i64 c3.inn] 32)) := hq3.alloc _
              clear hp3
              go_wp2_with fail
              refine (HCo.out _ hq3').mono ?_
              rintro e U4 ⟨c4, ok4, rfl, hp4, hq4⟩
              have hq4 := hq3'.trans hq4
              have hbN := Bx.non HB.out hq4
              have hszN := hbN.lt
              obtain ⟨f0, f1, f2, f3, f4, f5⟩ := hbN.frChg
              obtain ⟨y0, y1, y2, y3, y4, y5⟩ := hbN.chg
              have HPP := Lib.hid hp4
              clear hp4
              go_wp2_with fail
              obtain ⟨W', hW', hB', hk'⟩ := hbN.setChg c4
              rw [hW']
              exact ⟨rfl, _, results_cell_chg (b := w.heap.size + 1) (x := c4) rfl _ _ rfl rfl hB', c4, ok4, rfl, .inl ⟨HYES.out, .inr ⟨⟨c1, HP1.out⟩, .inr ⟨⟨c2, HP2.out⟩, .inr ⟨⟨c3, HP3.out⟩, HPP.out⟩⟩⟩⟩, Kp.comp (HKU.out.trans hq4) hk' (fun _ _ f => f) (fun i hi e => by have e : i = w.heap.size + 1 := e; omega)⟩
    · have d1 : decide (0 < A.op.length) = true := by
        have := List.length_pos_iff.2 ho
        simpa using this
      have d1' : 0 < A.op.length := List.length_pos_iff.2 ho
      have HNO : Hid (¬ (MayP R ∧ A.op = [] ∧ A.ep < R.cap)) := Lib.hid (fun q => ho q.2.1)
      clear ho hm hmb
      refine wp_region_pieces [(8, [0,0,0,0,2,2,2,2,9,9,9,9,9,9,9,9,9,9,9,9], CD w.heap.size R), (14, [9,9,9,9,9,9,9,9,0,2,2,2,2,2,9,9,9,9,9,9], CD w.heap.size R), (20, [9,9,9,9,9,9,9,9,9,9,9,9,9,9,0,1,0,0,2,2], CD w.heap.size R)] (by kernel_rfl) (by kernel_rfl) ?_
      refine (And.intro ?_ ?_ : _ ∧ _)
      · exact HC.out _ kd
      refine PB.out ?_
      repeat (first | (with_reducible refine pb_skip ?_) | ((first | (with_reducible refine pb_k rfl ?_) | ((with_reducible refine pb_ky ?hg ?_); (case hg => simp [Region.wanted, yielded]; done))); intro K hK; apply Exists.intro; refine ⟨fun w' hC => ?_, ?_⟩; (obtain ⟨j0, j1, j2, j3, j4⟩ := hC; go_simp; rfl); go_simp; refine hK _ ?_; clear hK K) | ((with_reducible refine pb_kn ?hg ?_); (case hg => simp [Region.wanted, yielded]; done); intro K hK; go_simp; refine hK _ ?_; clear hK K))
      with_reducible refine pb_nil ?_
      simp only [List.take_succ_cons, List.take_zero, List.drop_zero]
      refine CB.out ?_
      repeat (with_reducible refine cb_skip ?_)
      with_reducible refine cb_ky (by simp [Region.wanted, yielded]) fun K hK => ?_
      go_simp
      refine (HMay.out _).mono ?_
      rintro e W1 ⟨rfl, hk1⟩
      have hk1' := kd.trans hk1
      refine hK _ _ (fun h => by cases h) ?_
      clear hK K
      repeat (with_reducible refine cb_skip ?_)
      with_reducible refine cb_ky (by simp [Region.wanted, yielded]) fun K hK => ?_
      go_simp
      refine hK _ _ (fun h => by cases h) ?_
      clear hK K
      repeat (with_reducible refine cb_skip ?_)
      with_reducible refine cb_step rfl fun K hK => ?_
      go_simp
      refine hK _ _ (fun h => by cases h) ?_
      clear hK K
      repeat (with_reducible refine cb_skip ?_)
      with_reducible refine cb_step rfl fun K hK => ?_
      go_simp
      refine hK _ _ (fun h => by cases h) ?_
      clear hK K
      repeat (with_reducible refine cb_skip ?_)
      with_reducible refine cb_nil ?_
      simp only [Then, wpPieces]
      refine (And.intro ?_ ?_ : _ ∧ _)
      · exact HC.out _ hk1'
      refine PB.out ?_
      repeat (first | (with_reducible refine pb_skip ?_) | ((first | (with_reducible refine pb_k rfl ?_) | ((with_reducible refine pb_ky ?hg ?_); (case hg => simp [Region.wanted, yielded]; done))); intro K hK; apply Exists.intro; refine ⟨fun w' hC => ?_, ?_⟩; (obtain ⟨j0, j1, j2, j3, j4⟩ := hC; go_simp; rfl); go_simp; refine hK _ ?_; clear hK K) | ((with_reducible refine pb_kn ?hg ?_); (case hg => simp [Region.wanted, yielded]; done); intro K hK; go_simp; refine hK _ ?_; clear hK K))
      with_reducible refine pb_nil ?_
      simp only [List.take_succ_cons, List.take_zero, List.drop_succ_cons, List.drop_zero]
      refine CB.out ?_
      repeat (with_reducible refine cb_skip ?_)
      with_reducible refine cb_ky (by simp [Region.wanted, yielded]) fun K hK => ?_
      go_simp
      refine (HOp.out _ hk1').mono ?_
      rintro e W2 ⟨x', rfl, hx1, hx2, _, hk2⟩
      have hn' : x'.n = A.op.length := by
        have := Reads.len hx1.there
        rw [this, hx2, h.opl]
      rw [hn']
      have hk2' := hk1'.trans hk2
      refine hK _ _ (fun h => by cases h) ?_
      clear hK K
      repeat (with_reducible refine cb_skip ?_)
      with_reducible refine cb_ky (by simp [Region.wanted, yielded]) fun K hK => ?_
      go_simp
      refine hK _ _ (fun h => by cases h) ?_
      clear hK K
      repeat (with_reducible refine cb_skip ?_)
      with_reducible refine cb_ky (by simp [Region.wanted, yielded]) fun K hK => ?_
      go_simp
      refine hK _ _ (fun h => by cases h) ?_
      clear hK K
      repeat (with_reducible refine cb_skip ?_)
      with_reducible refine cb_step rfl fun K hK => ?_
      go_simp
      refine hK _ _ (fun h => by cases h) ?_
      clear hK K
      repeat (with_reducible refine cb_skip ?_)
      with_reducible refine cb_step rfl fun K hK => ?_
      go_simp
      refine hK _ _ (fun h => by cases h) ?_
      clear hK K
      repeat (with_reducible refine cb_skip ?_)
      with_reducible refine cb_nil ?_
      simp only [Then]
      refine (And.intro ?_ ?_ : _ ∧ _)
      · exact HC.out _ hk2'
      refine PB.out ?_
      repeat (first | (with_reducible refine pb_skip ?_) | ((first | (with_reducible refine pb_k rfl ?_) | ((with_reducible refine pb_ky ?hg ?_); (case hg => simp [Region.wanted, yielded]; done))); intro K hK; apply Exists.intro; refine ⟨fun w' hC => ?_, ?_⟩; (obtain ⟨j0, j1, j2, j3, j4⟩ := hC; go_simp; rfl); go_simp; refine hK _ ?_; clear hK K) | ((with_reducible refine pb_kn ?hg ?_); (case hg => simp [Region.wanted, yielded]; done); intro K hK; go_simp; refine hK _ ?_; clear hK K))
      with_reducible refine pb_nil ?_
      refine CB.out ?_
      repeat (with_reducible refine cb_skip ?_)
      with_reducible refine cb_kn (by simp [Region.wanted, yielded]) fun K hK => ?_
      go_simp
      refine hK _ _ ?_
      clear hK K
      repeat (with_reducible refine cb_skip ?_)
      with_reducible refine cb_kn (by simp [Region.wanted, yielded]) fun K hK => ?_
      go_simp
      refine hK _ _ ?_
      clear hK K
      repeat (with_reducible refine cb_skip ?_)
      with_reducible refine cb_step rfl fun K hK => ?_
      go_simp
      refine hK _ _ (fun h => by cases h) ?_
      clear hK K
      repeat (with_reducible refine cb_skip ?_)
      with_reducible refine cb_nil ?_
      simp only [Then]
      have HKK := Lib.hid hk2'
      have hbN := hB.non HKK.out
      obtain ⟨f0, f1, f2, f3, f4, f5⟩ := hbN.frChg
      obtain ⟨y0, y1, y2, y3, y4, y5⟩ := hbN.chg
      go_wp2_with fail
      obtain ⟨W', hW', hB', hk'⟩ := hbN.setChg zeroC
      have hW' : _ = W' := hW'
      refine ⟨rfl, _, results_cell_chg (b := w.heap.size + 1) (x := zeroC) rfl _ _ rfl rfl (hW' ▸ hB'), zeroC, false, rfl, .inr ⟨HNO.out, rfl, rfl⟩, Kp.comp (hk0.trans HKK.out) (hW' ▸ hk') (fun _ _ f => f) (fun i hi e => by have e : i = w.heap.size + 1 := e; omega)⟩
  · have hmb : mayB R = false := decide_eq_false hm
    rw [hmb] at HMay
    have HNO : Hid (¬ (MayP R ∧ A.op = [] ∧ A.ep < R.cap)) := Lib.hid (fun q => hm q.1)
    clear hm hmb
    refine wp_region_pieces [(8, [0,0,0,0,2,2,2,2,9,9,9,9,9,9,9,9,9,9,9,9], CD w.heap.size R), (14, [9,9,9,9,9,9,9,9,0,2,2,2,2,2,9,9,9,9,9,9], CD w.heap.size R), (20, [9,9,9,9,9,9,9,9,9,9,9,9,9,9,0,1,0,0,2,2], CD w.heap.size R)] (by kernel_rfl) (by kernel_rfl) ?_
    refine (And.intro ?_ ?_ : _ ∧ _)
    · exact HC.out _ kd
    refine PB.out ?_
    repeat (first | (with_reducible refine pb_skip ?_) | ((first | (with_reducible refine pb_k rfl ?_) | ((with_reducible refine pb_ky ?hg ?_); (case hg => simp [Region.wanted, yielded]; done))); intro K hK; apply Exists.intro; refine ⟨fun w' hC => ?_, ?_⟩; (obtain ⟨j0, j1, j2, j3, j4⟩ := hC; go_simp; rfl); go_simp; refine hK _ ?_; clear hK K) | ((with_reducible refine pb_kn ?hg ?_); (case hg => simp [Region.wanted, yielded]; done); intro K hK; go_simp; refine hK _ ?_; clear hK K))
    with_reducible refine pb_nil ?_
    simp only [List.take_succ_cons, List.take_zero, List.drop_zero]
    refine CB.out ?_
    repeat (with_reducible refine cb_skip ?_)
    with_reducible refine cb_ky (by simp [Region.wanted, yielded]) fun K hK => ?_
    go_simp
    refine (HMay.out _).mono ?_
    rintro e W1 ⟨rfl, hk1⟩
    have hk1' := kd.trans hk1
    refine hK _ _ (fun h => by cases h) ?_
    clear hK K
    repeat (with_reducible refine cb_skip ?_)
    with_reducible refine cb_ky (by simp [Region.wanted, yielded]) fun K hK => ?_
    go_simp
    refine hK _ _ (fun h => by cases h) ?_
    clear hK K
    repeat (with_reducible refine cb_skip ?_)
    with_reducible refine cb_step rfl fun K hK => ?_
    go_simp
    refine hK _ _ (fun h => by cases h) ?_
    clear hK K
    repeat (with_reducible refine cb_skip ?_)
    with_reducible refine cb_step rfl fun K hK => ?_
    go_simp
    refine hK _ _ (fun h => by cases h) ?_
    clear hK K
    repeat (with_reducible refine cb_skip ?_)
    with_reducible refine cb_nil ?_
    simp only [Then, wpPieces]
    refine (And.intro ?_ ?_ : _ ∧ _)
    · exact HC.out _ hk1'
    refine PB.out ?_
    repeat (first | (with_reducible refine pb_skip ?_) | ((first | (with_reducible refine pb_k rfl ?_) | ((with_reducible refine pb_ky ?hg ?_); (case hg => simp [Region.wanted, yielded]; done))); intro K hK; apply Exists.intro; refine ⟨fun w' hC => ?_, ?_⟩; (obtain ⟨j0, j1, j2, j3, j4⟩ := hC; go_simp; rfl); go_simp; refine hK _ ?_; clear hK K) | ((with_reducible refine pb_kn ?hg ?_); (case hg => simp [Region.wanted, yielded]; done); intro K hK; go_simp; refine hK _ ?_; clear hK K))
    with_reducible refine pb_nil ?_
    simp only [List.take_succ_cons, List.take_zero, List.drop_succ_cons, List.drop_zero]
    refine CB.out ?_
    repeat (with_reducible refine cb_skip ?_)
    with_reducible refine cb_kn (by simp [Region.wanted, yielded]) fun K hK => ?_
    go_simp
    refine hK _ _ ?_
    clear hK K
    repeat (with_reducible refine cb_skip ?_)
    with_reducible refine cb_kn (by simp [Region.wanted, yielded]) fun K hK => ?_
    go_simp
    refine hK _ _ ?_
    clear hK K
    repeat (with_reducible refine cb_skip ?_)
    with_reducible refine cb_kn (by simp [Region.wanted, yielded]) fun K hK => ?_
    go_simp
    refine hK _ _ ?_
    clear hK K
    repeat (with_reducible refine cb_skip ?_)
    with_reducible refine cb_step rfl fun K hK => ?_
    go_simp
    refine hK _ _ (fun h => by cases h) ?_
    clear hK K
    repeat (with_reducible refine cb_skip ?_)
    with_reducible refine cb_step rfl fun K hK => ?_
    go_simp
    refine hK _ _ (fun h => by cases h) ?_
    clear hK K
    repeat (with_reducible refine cb_skip ?_)
    with_reducible refine cb_nil ?_
    simp only [Then]
    refine (And.intro ?_ ?_ : _ ∧ _)
    · exact HC.out _ hk1'
    refine PB.out ?_
    repeat (first | (with_reducible refine pb_skip ?_) | ((first | (with_reducible refine pb_k rfl ?_) | ((with_reducible refine pb_ky ?hg ?_); (case hg => simp [Region.wanted, yielded]; done))); intro K hK; apply Exists.intro; refine ⟨fun w' hC => ?_, ?_⟩; (obtain ⟨j0, j1, j2, j3, j4⟩ := hC; go_simp; rfl); go_simp; refine hK _ ?_; clear hK K) | ((with_reducible refine pb_kn ?hg ?_); (case hg => simp [Region.wanted, yielded]; done); intro K hK; go_simp; refine hK _ ?_; clear hK K))
    with_reducible refine pb_nil ?_
    refine CB.out ?_
    repeat (with_reducible refine cb_skip ?_)
    with_reducible refine cb_kn (by simp [Region.wanted, yielded]) fun K hK => ?_
    go_simp
    refine hK _ _ ?_
    clear hK K
    repeat (with_reducible refine cb_skip ?_)
    with_reducible refine cb_kn (by simp [Region.wanted, yielded]) fun K hK => ?_
    go_simp
    refine hK _ _ ?_
    clear hK K
    repeat (with_reducible refine cb_skip ?_)
    with_reducible refine cb_step rfl fun K hK => ?_
    go_simp
    refine hK _ _ (fun h => by cases h) ?_
    clear hK K
    repeat (with_reducible refine cb_skip ?_)
    with_reducible refine cb_nil ?_
    simp only [Then]
    have HKK := Lib.hid hk1'
    have hbN := hB.non HKK.out
    obtain ⟨f0, f1, f2, f3, f4, f5⟩ := hbN.frChg
    obtain ⟨y0, y1, y2, y3, y4, y5⟩ := hbN.chg
    go_wp2_with fail
    obtain ⟨W', hW', hB', hk'⟩ := hbN.setChg zeroC
    have hW' : _ = W' := hW'
    refine ⟨rfl, _, results_cell_chg (b := w.heap.size + 1) (x := zeroC) rfl _ _ rfl rfl (hW' ▸ hB'), zeroC, false, rfl, .inr ⟨HNO.out, rfl, rfl⟩, Kp.comp (hk0.trans HKK.out) (hW' ▸ hk') (fun _ _ f => f) (fun i hi e => by have e : i = w.heap.size + 1 := e; omega)⟩
end
end Go.Proofs.Ytdijaillcajpaaa
