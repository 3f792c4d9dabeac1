/-
  A journal's calls: Add.
-/
import Derived.Test.YtclbapmjhchokaaJ10
namespace Go.Proofs.Ytclbapmjhchokaa
open Go.RowKit
variable {F : Nat → Prop}
section
variable {b0 : Nat} {w : World} {j d : Nat} {s : St} {J : JSt} {ra : Option Addr}

theorem Box.noB {bx : Nat} {v : Value} {t : TypeId} (h : Box w bx v t) (hv : NB v) : NoB (One bx) w := by
  rintro ⟨k, o, sp⟩ b hc rfl
  obtain rfl : sp = none := World.cell?_spot hc
  by_cases ho : o = 0
  · subst ho
    have hc : w.cell? ⟨k, 0, none⟩ = some (byteV b) := hc
    rw [h.c] at hc
    exact hv b (by simpa using hc)
  · have hc : w.cell? ⟨k, o, none⟩ = some (byteV b) := hc
    rw [h.o o ho] at hc
    cases hc

/-- What the asking leaves: the device went on, the frame lies in its box. -/
def Asked (F : Nat → Prop) (d bf : Nat) (s' : St) (r : List UInt8) (W w1 : World) : Prop :=
  Dev F w1 d s' ∧ Kp (fun k => k = d ∨ k = bf) W w1 ∧ (r.length ≤ 1048576 → ∃ fa fc, Box w1 bf (.slice fa (r.length + 8) fc) 22)

set_option maxRecDepth 100000 in
set_option maxHeartbeats 1000000 in
theorem add_asks (bj br bf : Nat) (a : Option Addr) (n c : Nat) (r : List UInt8) (xa : Option Addr) (xn xc : Nat) (hx : Box w bj (.pointer (some ⟨j, 0, none⟩)) 56) (hr : Box w br (.slice a n c) 22) (hf : Box w bf (.slice xa xn xc) 22)
    (h : Jou F b0 w j d s J ra) (hok : s.ok) (hb : Bytes w a n c r) (hjf : bj ≠ bf) :
    Calls Try.prog 87 #[.pointer (some ⟨br, 0, none⟩), .pointer (some ⟨bf, 0, none⟩), .pointer (some ⟨bj, 0, none⟩)] w (AskPost (japp s r).1 (Asked F d bf (japp s r).2 r w)) := by
  have H := h
  obtain ⟨rc, ia, ic, vs, h⟩ := h
  have c0 := h.c0
  have hxc := hx.c
  have hrc := hr.c
  have hfc := hf.c
  have hff := hf.f
  have HN := Lib.hid hb.len
  have hfnb := hf.noB (NB.slice _ _ _)
  have hbj : bj ≠ d := by
    rintro rfl
    obtain ⟨cs, fr, h1⟩ := h.dev.tag
    rw [show w.heap[bj]? = _ from hx] at h1
    cases h1
  have hbf : bf ≠ d := by
    rintro rfl
    obtain ⟨cs, fr, h1⟩ := h.dev.tag
    rw [show w.heap[bf]? = _ from hf] at h1
    cases h1
  have hbfj : bf ≠ j := by
    rintro rfl
    have h1 := h.row
    rw [show w.heap[bf]? = _ from hf] at h1
    cases h1
  have HO := Lib.hid hok
  clear hok
  by_cases hbig : 1048576 < n
  · have e1 : japp s r = (2, s) := by unfold japp; rw [if_pos (by rw [← HN.out]; exact hbig)]
    rw [e1]
    go_enter Try.func87, Try.ntmps87
    go_wp2_with fail
    refine (frame_big a n c w hbig).mono ?_
    rintro e w1 ⟨rfl, rfl⟩
    go_wp2_with fail
    go_ret
    have k1 : Kp (One bf) w1 (w1.setCell ⟨bf, 0, none⟩ (.slice none 0 0)) := (Kp.refl (One bf) w1).set1 0 _
    exact ⟨rfl, h.dev.kp k1 (fun e => hbf e.symm) hfnb, k1.mono (fun _ _ h => .inr h), fun hle => by have := HN.out; omega⟩
  · have e1 : japp s r = s.append (frame r) := by unfold japp; rw [if_neg (by rw [← HN.out]; exact hbig)]
    rw [e1]
    have hfl := frame_len r
    have HL := Lib.hid hfl
    generalize hq : s.append (frame r) = Q at *
    have HQ := Lib.hid hq
    clear hq hfl e1
    have hle : n ≤ 1048576 := by omega
    go_enter Try.func87, Try.ntmps87
    go_wp2_with fail
    refine (frame_calls a n c r w hb hle).mono ?_
    rintro e w1 ⟨fa, fc, rfl, hO, hk1⟩
    have hB := hO.bytes
    have hx1 := hx.kp hk1 (fun f => f)
    have hf1 := hf.kp hk1 (fun f => f)
    have hfc1 := hf1.c
    have hff1 := hf1.f
    have h1 := h.non hk1
    have hfnb1 := hf1.noB (NB.slice _ _ _)
    have k2 : Kp (One bf) w1 (w1.setCell ⟨bf, 0, none⟩ (.slice fa (r.length + 8) fc)) := (Kp.refl (One bf) w1).set1 0 _
    have hf2 := hf1.set (.slice fa (r.length + 8) fc)
    have hx2 : Box (w1.setCell ⟨bf, 0, none⟩ (.slice fa (r.length + 8) fc)) bj _ 56 := hx1.kp k2 hjf
    have hd2 := h1.dev.kp k2 (fun e => hbf e.symm) hfnb1
    have hB2 := hB.nob k2 hfnb1
    have c02 : (w1.setCell ⟨bf, 0, none⟩ (.slice fa (r.length + 8) fc)).cell? ⟨j, 0, none⟩ = _ := k2.cell (a := ⟨j, 0, none⟩) h1.c0 (fun e => hbfj e.symm)
    have hd2lt := hd2.noB
    have k02 : Kp (One bf) w (w1.setCell ⟨bf, 0, none⟩ (.slice fa (r.length + 8) fc)) := hk1.comp k2 (fun _ _ f => f.elim) (fun _ _ h => h)
    have hjd := h.jd
    go_wp2_with fail
    generalize w1.setCell ⟨bf, 0, none⟩ (.slice fa (r.length + 8) fc) = w2 at *
    have hxc2 := hx2.c
    have hfc2 := hf2.c
    refine wp_region_chain [0,0,0,0,0,1,2] (by kernel_rfl) (by kernel_rfl) (fun w' => w'.cell? ⟨bj, 0, none⟩ = some (.pointer (some ⟨j, 0, none⟩)) ∧ w'.cell? ⟨bf, 0, none⟩ = some (.slice fa (r.length + 8) fc) ∧ w'.cell? ⟨j, 0, none⟩ = some (.pointer (some ⟨d, 0, none⟩))) ⟨hxc2, hfc2, c02⟩ ?_
    repeat (first | (with_reducible refine pure_skip ?_) | ((with_reducible refine pure_k rfl ?_); intro K hK; apply Exists.intro; refine ⟨fun w' hC => ?_, ?_⟩; (obtain ⟨g1, g2, g3⟩ := hC; go_simp; rfl); go_simp; refine hK _ ?_; clear hK K))
    with_reducible refine pure_nil ?_
    repeat (with_reducible refine chain_skip0 ?_)
    with_reducible refine chain_step rfl fun K hK => ?_
    go_simp
    have hkD : Kp Non w2 w2.drew := (Kp.refl _ w2).drew
    have hlen8 : r.length + 8 ≤ 1000000000000 := by have := HN.out; omega
    have hB3 : Bytes w2.drew fa (r.length + 8) fc (frame r) := hB2.non hkD
    refine (append_calls d s fa (r.length + 8) fc (frame r) w2.drew (hd2.non hkD) HO.out hB3 hlen8).mono ?_
    rintro e w3 ⟨rfl, hd3, hk3⟩
    have hkk : Kp (One d) w2 w3 := hkD.comp hk3 (fun _ _ f => f.elim) (fun _ _ h => h)
    have z1 : w3.cell? ⟨bj, 0, none⟩ = _ := hkk.cell (a := ⟨bj, 0, none⟩) hxc2 hbj
    have z2 : w3.cell? ⟨bf, 0, none⟩ = _ := hkk.cell (a := ⟨bf, 0, none⟩) hfc2 hbf
    have z3 : w3.cell? ⟨j, 0, none⟩ = _ := hkk.cell (a := ⟨j, 0, none⟩) c02 hjd
    have hf3 := hf2.kp hkk hbf
    go_simp
    refine hK _ _ (fun _ => ⟨z1, z2, z3⟩) ?_
    clear hK K
    repeat (with_reducible refine chain_skip0 ?_)
    with_reducible refine chain_step rfl fun K hK => ?_
    go_simp
    refine hK _ _ (fun h => by cases h) ?_
    clear hK K
    with_reducible refine chain_nil ?_
    go_wp2_with fail
    go_ret
    rw [← HQ.out]
    exact ⟨rfl, hd3, k02.comp hkk (fun _ _ h => .inr h) (fun _ _ h => .inl h), fun _ => ⟨fa, fc, hf3⟩⟩

theorem sizes_one (l : List (List UInt8)) (r : List UInt8) : sizes (l ++ [r]) = sizes l + (r.length + 8) := by rw [sizes_append]; rfl
theorem sizes_count (l : List (List UInt8)) : 8 * l.length ≤ sizes l := by
  induction l with
  | nil => simp [sizes]
  | cons r l ih => simp only [List.length_cons, sizes]; omega

set_option maxRecDepth 100000 in
set_option maxHeartbeats 1000000 in
theorem add_does (bj br bf : Nat) (a : Option Addr) (n c : Nat) (r : List UInt8) (fa : Option Addr) (fc : Nat) (hx : Box w bj (.pointer (some ⟨j, 0, none⟩)) 56) (hr : Box w br (.slice a n c) 22) (hf : Box w bf (.slice fa (r.length + 8) fc) 22)
    (h : Jou F b0 w j d s J ra) (hb : Bytes w a n c r) (hn : n ≤ 1048576) (hsz : sizes J.recs ≤ 1000000000000) (hbr : ¬ Blk ra br) (hbf : ¬ Blk ra bf) :
    Calls Try.prog 88 #[.pointer (some ⟨bj, 0, none⟩), .pointer (some ⟨br, 0, none⟩), .pointer (some ⟨bf, 0, none⟩)] w
      (ThenPost fun w' => ∃ ra', (∀ k, Blk ra' k → Blk ra k ∨ w.heap.size ≤ k) ∧ Jou F b0 w' j d s { J with recs := J.recs ++ [r] } ra' ∧ Kp (JS j j ra) w w') := by
  have H := h
  obtain ⟨rc, ia, ic, vs, h⟩ := h
  have hxc := hx.c
  have hrc := hr.c
  have hfc := hf.c
  have c2 := h.c2
  have hold := H.old
  have hfence := h.dev.fence
  have hcount := sizes_count J.recs
  have hrows := h.rows
  have hlen := hb.len
  obtain ⟨i1, hi1, hy0, hy1, hy2⟩ := info_parts' info22
  have hzc : (Value.slice none 0 0).cells = #[Value.slice none 0 0] := rfl
  have hbj : ¬ bj = j := by
    rintro rfl
    have h2 := h.row
    rw [show w.heap[bj]? = _ from hx] at h2
    cases h2
  have hbj3 : ¬ Blk ra bj := by
    intro hb
    obtain ⟨cs, fr, h1⟩ := h.rows.tag bj hb
    rw [show w.heap[bj]? = _ from hx] at h1
    cases h1
  have hbfj : ¬ bf = j := by
    rintro rfl
    have h2 := h.row
    rw [show w.heap[bf]? = _ from hf] at h2
    cases h2
  have hbrj : ¬ br = j := by
    rintro rfl
    have h2 := h.row
    rw [show w.heap[br]? = _ from hr] at h2
    cases h2
  have hbj' : ¬ j = bj := fun e => hbj e.symm
  have hbfj' : ¬ j = bf := fun e => hbfj e.symm
  have HL := Lib.hid hlen
  clear hlen
  go_enter Try.func88, Try.ntmps88
  go_wp2_with fail
  refine wp_region_chain [0,0,0,0,0,0,1,1,1,0,0,2] (by kernel_rfl) (by kernel_rfl) (fun w' => w'.cell? ⟨bj, 0, none⟩ = some (.pointer (some ⟨j, 0, none⟩)) ∧ w'.cell? ⟨br, 0, none⟩ = some (.slice a n c) ∧ w'.cell? ⟨j, 2, none⟩ = some (.slice ra J.recs.length rc)) ⟨hxc, hrc, c2⟩ ?_
  repeat (first | (with_reducible refine pure_skip ?_) | ((with_reducible refine pure_k rfl ?_); intro K hK; apply Exists.intro; refine ⟨fun w' hC => ?_, ?_⟩; (obtain ⟨g1, g2, g3⟩ := hC; go_simp; rfl); go_simp; refine hK _ ?_; clear hK K))
  with_reducible refine pure_nil ?_
  repeat (with_reducible refine chain_skip0 ?_)
  with_reducible refine chain_step rfl fun K hK => ?_
  go_simp
  have hkD : Kp Non w w.drew := (Kp.refl _ w).drew
  refine (copied_calls a n c r w.drew (hb.non hkD) (by omega)).mono ?_
  rintro e w1 ⟨ca, cc, rfl, hO, hk1⟩
  have hlo := hO.lt
  have hkk : Kp Non w w1 := hkD.trans hk1
  have z1 : w1.cell? ⟨bj, 0, none⟩ = _ := hkk.cell (a := ⟨bj, 0, none⟩) hxc (fun f => f)
  have z2 : w1.cell? ⟨br, 0, none⟩ = _ := hkk.cell (a := ⟨br, 0, none⟩) hrc (fun f => f)
  have z3 : w1.cell? ⟨j, 2, none⟩ = _ := hkk.cell (a := ⟨j, 2, none⟩) c2 (fun f => f)
  go_simp
  refine hK _ _ (fun _ => ⟨z1, z2, z3⟩) ?_
  clear hK K
  repeat (with_reducible refine chain_skip0 ?_)
  with_reducible refine chain_step rfl fun K hK => ?_
  have hkA := (Kp.refl Non w1).alloc (Obj.cells #[Value.slice ca r.length cc] 22)
  have hB1 := heap_alloc_new w1 (Obj.cells #[Value.slice ca r.length cc] 22)
  have hkB := hkk.trans hkA
  have hcA := cell_of_row _ _ 0 _ _ _ hB1
  have t1 := hkA.cell z1 (fun f => f)
  have t2 := hkA.cell z2 (fun f => f)
  have t3 := hkA.cell z3 (fun f => f)
  go_simp
  refine hK _ _ (fun _ => ⟨t1, t2, t3⟩) ?_
  clear hK K
  repeat (with_reducible refine chain_skip0 ?_)
  with_reducible refine chain_step rfl fun K hK => ?_
  have h1 := h.non hkB
  have hx1 := hx.kp hkB (fun f => f)
  have hr1 := hr.kp hkB (fun f => f)
  have hf1 := hf.kp hkB (fun f => f)
  have hbA := hO.bytes.non hkA
  have hsize := hkB.size
  generalize w1.alloc (Obj.cells #[Value.slice ca r.length cc] 22) = w2 at *
  have hS1 := h1.rows
  refine wp_append_srow _ _ 59 rfl 22 i1 (.slice none 0 0) 24 Try.underlying59 hi1 hy0 hy1 hy2 hzc (NB.slice _ _ _) ra J.recs.length rc vs rfl hS1 ⟨w1.heap.size, 0, none⟩ 1 (.slice ca r.length cc) rfl hcA rfl (NB.slice _ _ _) (by omega) (by omega) ?_
  intro ra' rc' w3 hS3 hk3 har
  have hx3 := hx1.kp hk3 hbj3
  have hr3 := hr1.kp hk3 hbr
  have hf3 := hf1.kp hk3 hbf
  have hrow3 := hk3.heap h1.row h1.rj
  have u3 : w3.cell? ⟨j, 2, none⟩ = _ := hk3.cell (a := ⟨j, 2, none⟩) h1.c2 h1.rj
  have e3 := hx3.c
  have e4 := hr3.c
  have e5 := hf3.c
  have hfz : w3.frozen? ⟨j, 2, none⟩ = false := by
    simp only [World.frozen?, hrow3]
    simp
  go_simp
  refine hK _ _ (fun _ => ⟨e3, e4, u3⟩) ?_
  clear hK K
  repeat (with_reducible refine chain_skip0 ?_)
  with_reducible refine chain_step rfl fun K hK => ?_
  go_simp
  refine hK _ _ (fun h => by cases h) ?_
  clear hK K
  with_reducible refine chain_nil ?_
  have k4 : Kp (One j) w3 (w3.setCell ⟨j, 2, none⟩ (.slice ra' (J.recs.length + 1) rc')) := (Kp.refl (One j) w3).set1 2 _
  have hr4 := heap_setCell_row hrow3 2 (.slice ra' (J.recs.length + 1) rc')
  have hx4 := hx3.kp k4 hbj
  have hf4 := hf3.kp k4 hbfj
  go_wp2_with fail
  generalize hw4 : w3.setCell ⟨j, 2, none⟩ (.slice ra' (J.recs.length + 1) rc') = w4 at *
  have v1 := hx4.c
  have v2 := hf4.c
  have v3 : w4.cell? ⟨j, 3, none⟩ = some (.int .i64 (sizes J.recs : Nat)) := cell_of_row w4 j 3 _ _ _ hr4
  have hfz4 : w4.frozen? ⟨j, 3, none⟩ = false := by
    simp only [World.frozen?, hr4]
    simp
  have hwrap : IntKind.i64.wrap ((sizes J.recs : Int) + ((r.length : Int) + 8)) = (sizes J.recs : Int) + ((r.length : Int) + 8) := IntWalk.i64_in _ (by have := HL.out; omega)
  refine wp_region_chain [0,0,0,0,0,0,0,0,0,2] (by kernel_rfl) (by kernel_rfl) (fun w' => w'.cell? ⟨bj, 0, none⟩ = some (.pointer (some ⟨j, 0, none⟩)) ∧ w'.cell? ⟨bf, 0, none⟩ = some (.slice fa (r.length + 8) fc) ∧ w'.cell? ⟨j, 3, none⟩ = some (.int .i64 (sizes J.recs : Nat))) ⟨v1, v2, v3⟩ ?_
  repeat (first | (with_reducible refine pure_skip ?_) | ((with_reducible refine pure_k rfl ?_); intro K hK; apply Exists.intro; refine ⟨fun w' hC => ?_, ?_⟩; (obtain ⟨g1, g2, g3⟩ := hC; go_simp; rfl); go_simp; refine hK _ ?_; clear hK K))
  with_reducible refine pure_nil ?_
  repeat (with_reducible refine chain_skip0 ?_)
  with_reducible refine chain_step rfl fun K hK => ?_
  go_simp
  refine hK _ _ (fun h => by cases h) ?_
  clear hK K
  with_reducible refine chain_nil ?_
  go_wp2_with fail
  go_end0
  have k5 : Kp (One j) w4 (w4.setCell ⟨j, 3, none⟩ (.int .i64 ((sizes J.recs : Int) + ((r.length : Int) + 8)))).drew := ((Kp.refl (One j) w4).set1 3 _).drew
  have hr5 := heap_setCell_row hr4 3 (.int .i64 ((sizes J.recs : Int) + ((r.length : Int) + 8)))
  replace hr5 : (w4.setCell ⟨j, 3, none⟩ (.int .i64 ((sizes J.recs : Int) + ((r.length : Int) + 8)))).drew.heap[j]? = _ := hr5
  generalize (w4.setCell ⟨j, 3, none⟩ (.int .i64 ((sizes J.recs : Int) + ((r.length : Int) + 8)))).drew = w5 at *
  have k35 : Kp (One j) w3 w5 := k4.trans k5
  have k25 : Kp (JS j j ra) w2 w5 := hk3.comp k35 (fun _ _ h => .inr (.inr h)) (fun _ _ h => .inl h)
  have kAll : Kp (JS j j ra) w w5 := hkB.comp k25 (fun _ _ f => f.elim) (fun _ _ h => h)
  have hnb : ∀ {W : World}, JouAt F b0 W j d s J ra rc ia ic vs → NoB (JS j j ra) W := by
    rintro W hW ad b hc (q | q | q)
    · exact hW.jnoB ad b hc q
    · exact hW.jnoB ad b hc q
    · exact hW.rows.noB ad b hc q
  have hlen1 : (J.recs ++ [r]).length = J.recs.length + 1 := by simp
  have hS5 : SRow w5 22 ra' (J.recs.length + 1) rc' (vs ++ [Value.slice ca r.length cc]) := hS3.kp k35 (fun i hi e => by
    obtain ⟨cs, fr, q⟩ := hS3.tag i hi
    rw [show i = j from e, hrow3] at q
    cases q)
  have hnew : ∀ k, Blk ra' k → Blk ra k ∨ w.heap.size ≤ k := by
    intro k hk
    rcases har with rfl | rfl
    · exact .inl hk
    · obtain ⟨_, q1, q2⟩ := hk
      cases q1
      rw [← q2]
      exact .inr hsize
  have hdl := h.dev.lt
  have hbd := h.bd
  refine ⟨rfl, ra', hnew, ⟨rc', ia, ic, vs ++ [Value.slice ca r.length cc], h.set kAll ?_ (h.image.nob kAll (hnb h)) h.ai ?_ ?_ ?_ ?_⟩, kAll⟩
  · rw [hr5]
    unfold JRow
    simp [sizes_one, hlen1]
  · simp only [hlen1]
    exact hS5
  · refine (h.recs.kp kAll (hnb h)).add (hbA.nob k25 (hnb h1)) ?_
    intro _ ad had hfk
    have q1 := (hlo ad.block ⟨ad, had, rfl⟩).1
    have q2 := hfence _ hfk
    have : w.drew.heap.size = w.heap.size := rfl
    omega
  · intro k hk hfk
    rcases hnew k hk with q | q
    · exact h.fr k q hfk
    · have := hfence _ hfk
      omega
  · intro k hk
    rcases hnew k hk with q | q
    · exact h.br k q
    · omega
end
end Go.Proofs.Ytclbapmjhchokaa
