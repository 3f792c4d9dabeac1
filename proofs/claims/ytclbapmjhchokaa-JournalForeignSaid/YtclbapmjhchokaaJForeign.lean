/-
  JournalForeign: whatever lies on a disk is refused, or found. For every input.
-/
import Derived.Test.YtclbapmjhchokaaJ20
namespace Go.Proofs.Ytclbapmjhchokaa
open Go.RowKit

/-- A device with an image and a log. -/
def gst (img log : List UInt8) : St := { room := 40, image := img, stage := [], staged := false, log := log, sure := log.length, stop := -1, off := false }
def g1s (img : List UInt8) : St := { St.new 40 with stage := img, staged := true }
def g2s (img : List UInt8) : St := { St.new 40 with image := img, stage := [], staged := false, log := [], sure := 0 }
def g3s (img log : List UInt8) : St := { g2s img with log := log }
theorem gl1 {img : List UInt8} (h : img.length ≤ 3000) : (St.new 40).putStage img = (0, g1s img) := stage_fits rfl rfl (by
  show secs img.length ≤ 40 - secs 0 - secs 0
  have := secs_le img.length 6 (by omega)
  have h0 : secs 0 = 0 := rfl
  omega)
theorem gl2 (img : List UInt8) : (g1s img).commit = (0, g2s img) := commit_on (s := g1s img) rfl rfl rfl
theorem gl3 {img log : List UInt8} (h : img.length ≤ 3000) (hl : log.length ≤ 3000) : (g2s img).append log = (0, g3s img log) := by
  have := append_fits (s := g2s img) (b := log) rfl rfl (by
    show secs (0 + log.length) ≤ 40 - secs img.length - secs 0
    have := secs_le img.length 6 (by omega)
    have := secs_le (0 + log.length) 6 (by omega)
    have h0 : secs 0 = 0 := rfl
    omega)
  rw [this]
  rfl
theorem gl4 (img log : List UInt8) : (g3s img log).sync = (0, gst img log) := sync_on (s := g3s img log) rfl rfl
theorem gst_ok {img log : List UInt8} (h : img.length ≤ 3000) (hl : log.length ≤ 3000) : (gst img log).ok :=
  ⟨by simp [gst], by simp [gst], by show img.length ≤ _; omega, by simp [gst], by show log.length ≤ _; omega, by show (0 : Int) ≤ log.length; omega, Int.le_refl _, by simp [StopOk, gst]⟩
theorem g1_ok {img : List UInt8} (h : img.length ≤ 3000) : (g1s img).ok :=
  ⟨by simp [g1s, St.new], by simp [g1s, St.new], by simp [g1s, St.new], by show img.length ≤ _; omega, by simp [g1s, St.new], by simp [g1s, St.new], by simp [g1s, St.new], by simp [StopOk, g1s, St.new]⟩
theorem g2_ok {img : List UInt8} (h : img.length ≤ 3000) : (g2s img).ok :=
  ⟨by simp [g2s, St.new], by simp [g2s, St.new], by show img.length ≤ _; omega, by simp [g2s, St.new], by simp [g2s, St.new], by simp [g2s, St.new], by simp [g2s, St.new], by simp [StopOk, g2s, St.new]⟩
theorem g3_ok {img log : List UInt8} (h : img.length ≤ 3000) (hl : log.length ≤ 3000) : (g3s img log).ok :=
  ⟨by simp [g3s, g2s, St.new], by simp [g3s, g2s, St.new], by show img.length ≤ _; omega, by simp [g3s, g2s, St.new], by show log.length ≤ _; omega, by simp [g3s, g2s, St.new], by show (0 : Int) ≤ log.length; omega, by simp [StopOk, g3s, g2s, St.new]⟩

def W5 : Array Value := #[.int .i64 0, .int .i64 0, .int .i64 4, .int .i64 5, .int .i64 8]
theorem info26 : (Try.prog.info? 26).map (fun i => (i.zero, i.size, i.bytes)) = some (some (.int .i64 0), 1, 8) := by kernel_rfl
theorem idx62 (k : Int) (v : Int) (h0 : 0 ≤ k) (h : W5[k.toNat]? = some (.int .i64 v)) : ∀ w, (Instr.index 62 (.agg #[.int .i64 0, .int .i64 0, .int .i64 4, .int .i64 5, .int .i64 8]) (.int .i64 k)).run Try.prog w = .ok (.int .i64 v) w := by
  intro w
  obtain ⟨i0, hi, hz0, hz1, _⟩ := info_parts' info26
  have hk : k.toNat < 5 := (Array.getElem?_eq_some_iff.1 h).1
  have : k = 0 ∨ k = 1 ∨ k = 2 ∨ k = 3 ∨ k = 4 := by omega
  rcases this with rfl | rfl | rfl | rfl | rfl <;> (simp [W5] at h; subst h; simp [Instr.index, run_underlying Try.underlying62, asIntOf, part, isAgg, run_underlying Try.underlying26, sizeOf, typeInfo, hi, hz1, go_sem])
/-- An opening's answer beside the document's. -/
theorem fwhy_err {img : List UInt8} : imgErr img = if fwhy img = 4 then 8 else if fwhy img = 3 then 5 else if fwhy img = 2 then 4 else 0 := by
  have h3 := unfWhy_le img
  unfold imgErr fwhy
  by_cases h0 : img.length = 0
  · have : unfWhy img = 1 := by unfold unfWhy; rw [if_pos h0]
    rw [this, if_pos h0]
    rfl
  · have h1 : unfWhy img ≠ 1 := by
      unfold unfWhy
      rw [if_neg h0]
      repeat (first | omega | split)
    rw [if_neg h0]
    by_cases h4 : unfWhy img = 3
    · rw [h4]; rfl
    · rw [if_neg h4]
      by_cases h5 : unfWhy img = 0
      · by_cases h6 : num4 img + 8 = img.length
        · have h8 : ¬ (unfWhy img ≠ 0 ∨ num4 img + 8 ≠ img.length) := by omega
          rw [if_neg (by omega), if_neg (by omega), if_neg h8]; rfl
        · have h8 : unfWhy img ≠ 0 ∨ num4 img + 8 ≠ img.length := .inr h6
          rw [if_neg (by omega), if_pos h6, if_pos h8]; rfl
      · have h7 : unfWhy img = 2 := by omega
        rw [h7]; rfl
theorem fwhy_cases (img : List UInt8) : fwhy img = 0 ∨ fwhy img = 2 ∨ fwhy img = 3 ∨ fwhy img = 4 := by
  unfold fwhy
  repeat (first | omega | split)
theorem scan_why (b : List UInt8) : (scanL b).2.2 = 1 ∨ (scanL b).2.2 = 2 ∨ (scanL b).2.2 = 3 := by
  unfold scanL
  generalize b.length + 1 = k
  induction k generalizing b with
  | zero => left; rfl
  | succ k ih =>
    simp only [scan]
    by_cases h : unfWhy b = 0
    · rw [if_pos h]; exact ih _
    · rw [if_neg h]
      have := unfWhy_le b
      show unfWhy b = 1 ∨ unfWhy b = 2 ∨ unfWhy b = 3
      omega

set_option maxRecDepth 100000 in
set_option maxHeartbeats 16000000 in
theorem jforeign_walk (a : Option Addr) (n c : Nat) (li : List UInt8) (a2 : Option Addr) (n2 c2 : Nat) (lo : List UInt8) (w : World) (hb0 : Bytes w a n c li) (hb20 : Bytes w a2 n2 c2 lo) :
    Calls Try.prog 12 #[.slice a n c, .slice a2 n2 c2] w (TruePost w) := by
  have HL := Lib.hid (fun W => jlives_true W)
  go_enter Try.func12, Try.ntmps12
  go_wp2_with fail
  refine (small_calls a n c li w hb0).mono ?_
  rintro e w1 ⟨rfl, rfl⟩
  go_wp2_with fail
  refine (small_calls a2 n2 c2 lo w1 hb20).mono ?_
  rintro e w2 ⟨rfl, rfl⟩
  have hb := hb0.small
  have hb2 := hb20.small
  have him := sm_len li
  have hlm := sm_len lo
  generalize sm li = img at *
  generalize sm lo = log at *
  generalize min n 3000 = n' at *
  generalize min n2 3000 = n2' at *
  obtain rfl := hb.len
  obtain rfl := hb2.len
  clear hb0 hb20
  have H1 := Lib.hid (gl1 him)
  have H2 := Lib.hid (gl2 img)
  have H3 := Lib.hid (gl3 him hlm)
  have H4 := Lib.hid (gl4 img log)
  have HO := Lib.hid (gst_ok him hlm)
  go_wp2_with fail
  refine (new_calls 40 w2 (by omega) (by omega)).mono ?_
  rintro e w3 ⟨rfl, hd3, hk3⟩
  generalize hgd : w2.heap.size = d at *
  have hdw : w2.heap.size ≤ d := by omega
  have hb3 := hb.non hk3
  have hb23 := hb2.non hk3
  go_wp2_with fail
  refine (stage_calls d (St.new 40) a img.length c img w3 hd3 (St.new_ok 40 (by omega) (by omega)) hb3 (by omega)).mono ?_
  rw [H1.out]
  rintro e w4 ⟨rfl, hd4, hk4⟩
  have hb4 := hb3.one hd3 hk4
  have hb24 := hb23.one hd3 hk4
  have q4 := Kp.dev hk3 hdw hk4
  replace hd4 : Dev Non w4 d (g1s img) := hd4
  go_wp2_with fail
  refine (commit_calls d (g1s img) w4 hd4 (g1_ok him)).mono ?_
  rw [H2.out]
  rintro e w5 ⟨rfl, hd5, hk5⟩
  have hb5 := hb4.one hd4 hk5
  have hb25 := hb24.one hd4 hk5
  have q5 := Kp.dev q4 hdw hk5
  replace hd5 : Dev Non w5 d (g2s img) := hd5
  go_wp2_with fail
  refine (append_calls d (g2s img) a2 log.length c2 log w5 hd5 (g2_ok him) hb25 (by omega)).mono ?_
  rw [H3.out]
  rintro e w6 ⟨rfl, hd6, hk6⟩
  have hb6 := hb5.one hd5 hk6
  have hb26 := hb25.one hd5 hk6
  have q6 := Kp.dev q5 hdw hk6
  replace hd6 : Dev Non w6 d (g3s img log) := hd6
  go_wp2_with fail
  refine (sync_calls d (g3s img log) w6 hd6 (g3_ok him hlm)).mono ?_
  rw [H4.out]
  rintro e w7 ⟨rfl, hd7, hk7⟩
  have hb7 := hb6.one hd6 hk7
  have hb27 := hb26.one hd6 hk7
  have q7 := Kp.dev q6 hdw hk7
  replace hd7 : Dev Non w7 d (gst img log) := hd7
  clear hb3 hb23 hb4 hb24 hb5 hb25 hb6 hb26 q4 q5 q6 hd3 hd4 hd5 hd6 hk3 hk4 hk5 hk6 hk7
  have hop := open_calls d d (gst img log) w7 hd7 HO.out (fun f => f) (Nat.le_refl _) (Nat.le_of_lt hd7.lt)
  have hie := fwhy_err (img := img)
  have hjo : jopen (gst img log) = if imgErr img ≠ 0 then (imgErr img, gst img log, ⟨unfData img, (scanL log).1, false⟩) else
      if (scanL log).2.2 = 1 then (0, gst img log, ⟨unfData img, (scanL log).1, false⟩) else if (scanL log).2.2 = 2 then ((( gst img log).cut (scanL log).2.1).1, ((gst img log).cut (scanL log).2.1).2, ⟨unfData img, (scanL log).1, false⟩) else (5, gst img log, ⟨unfData img, (scanL log).1, false⟩) := by
    unfold jopen
    simp only
    rw [if_neg (by simp [gst])]
    rfl
  have el : (log == log) = true := by simp
  have x0 := idx62 0 0 (by omega) rfl
  have x2 := idx62 2 4 (by omega) rfl
  have x3 := idx62 3 5 (by omega) rfl
  have x4 := idx62 4 8 (by omega) rfl
  rcases fwhy_cases img with hf0 | hf0 | hf0 | hf0
  · have hie0 : imgErr img = 0 := by rw [hie, hf0]; rfl
    rw [if_neg (by omega)] at hjo
    have hul : (unfData img).length ≤ 1000000000000 := by
      unfold unfData
      rw [List.length_take, List.length_drop]
      omega
    have hss := scanL_sizes log
    have hsb := scanL_bound log
    have hcnt := sizes_count (scanL log).1
    have hrc : (scanL log).1.length ≤ 1000000000 := by omega
    have hrl : ∀ r ∈ (scanL log).1, r.length ≤ 1000000000000 := by
      intro r hr
      obtain ⟨x, y, hxy⟩ := List.append_of_mem hr
      rw [hss, hxy, sizes_append] at hsb
      simp only [sizes] at hsb
      omega
    rcases scan_why log with hs0 | hs0 | hs0
    · rw [if_pos hs0] at hjo
      rw [hjo] at hop
      have hfc : fcut log = -1 := by unfold fcut; rw [hs0]; rfl
      have hsok := HO.out
      have hsoff : (gst img log).off = false := rfl
      have hslog : (gst img log).log = log := rfl
      generalize gst img log = sE at *
      go_wp2_with fail
      refine hop.mono ?_
      rintro e w8 ⟨hd8, hk8, hf⟩
      rw [if_pos rfl] at hf
      obtain ⟨j, ra, rfl, hJ8, _, _⟩ := hf
      have hb8 := hb7.one hd7 hk8
      have hb28 := hb27.one hd7 hk8
      have q8 := Kp.dev q7 hdw hk8
      go_wp2_with fail
      refine (find_calls a img.length c img a2 log.length c2 log w8 hb8 hb28 (by omega) (by omega)).mono ?_
      rintro e w9 ⟨hk9, hf⟩
      rw [if_neg (by omega), if_neg (by omega), hfc] at hf
      obtain ⟨fa, fac, fr, frc, vs, rfl, hOf, hSf, hRf, _⟩ := hf
      have hd9 := hd8.non hk9
      have hb29 := hb28.non hk9
      have hJ9 := hJ8.non hk9
      have q9 := q8.trans hk9
      clear hjo hie hop hb8 hb28 hk8 hd8 q8 hJ8
      go_wp2_with fail
      refine (log_calls d sE w9 hd9 hsok).mono ?_
      rintro e wA ⟨hkA, he⟩
      rw [if_neg (by rw [hsoff]; simp)] at he
      obtain ⟨aA, cA, rfl, hOA⟩ := he
      have hb2A := hb29.non hkA
      have hJA := hJ9.non hkA
      have hOfA := hOf.bytes.non hkA
      have hRA := Recs.rows (hSf.non hkA) (hRf.non hkA)
      have qA := q9.trans hkA
      have cv1 := conv_string wA _ _ _ _ hOA.bytes
      have cv2 := conv_string wA _ _ _ _ hb2A
      rw [hslog] at cv1
      have ejr : ∀ l : List UInt8, (l == l) = true := by simp
      rw [hslog]

      go_wp2_with fail
      have hkD : Kp Non wA wA.drew := (Kp.refl _ _).drew
      refine wp_region_chain2 10 [0,0,0,0,1,1,0,0,2,2,9,9,9,9,9,9,9,9,9,9] [9,9,9,9,9,9,9,9,9,9,0,1,0,1,1,1,1,1,2,2] (by kernel_rfl) (by kernel_rfl) (by kernel_rfl) (by kernel_rfl) (fun w' => Bytes w' fa (unfData img).length fac (unfData img)) (fun _ => True) (hOfA.non hkD) ?_
      refine PB.out ?_
      repeat (first | (with_reducible refine pb_skip ?_) | ((first | (with_reducible refine pb_k rfl ?_) | (refine pb_ky (by rfl) ?_)); intro K hK; apply Exists.intro; refine ⟨fun w' hC => ?_, ?_⟩; (have cv := conv_string w' _ _ _ _ hC; go_simp; rfl); go_simp; refine hK _ ?_; clear hK K))
      with_reducible refine pb_nil ?_
      simp only [List.take_succ_cons, List.take_zero]
      refine CB.out ?_
      repeat (with_reducible refine cb_skip ?_)
      refine cb_ky (by rfl) fun K hK => ?_
      go_simp
      refine (jimage_calls (hJA.non hkD) (by show (unfData img).length ≤ _; exact hul)).mono ?_
      rintro e wB ⟨aB, cB, rfl, hOB, hkB⟩
      have cv3 := conv_string wB _ _ _ _ hOB.bytes
      replace cv3 : (convert 22 9 (.slice aB (unfData img).length cB)).run Try.prog wB = .ok (.string ⟨(unfData img).toArray⟩) wB := cv3
      have hOfB := (hOfA.non hkD).non hkB
      go_simp
      refine hK _ _ (fun _ => hOfB) ?_
      clear hK K
      repeat (with_reducible refine cb_skip ?_)
      refine cb_ky (by rfl) fun K hK => ?_
      go_simp
      refine hK _ _ (fun _ => hOfB) ?_
      clear hK K
      repeat (with_reducible refine cb_skip ?_)
      refine cb_ky (by rfl) fun K hK => ?_
      go_simp
      refine hK _ _ (fun h => by cases h) ?_
      clear hK K
      refine cb_ky (by rfl) fun K hK => ?_
      go_simp
      refine hK _ _ (fun h => by cases h) ?_
      clear hK K
      with_reducible refine cb_nil ?_
      refine (And.intro trivial ?_ : _ ∧ _)
      refine PB.out ?_
      repeat (first | (with_reducible refine pb_skip ?_) | ((refine pb_ky (by rfl) ?_); intro K hK; apply Exists.intro; refine ⟨fun w' hC => ?_, ?_⟩; (go_simp; rfl); go_simp; refine hK _ ?_; clear hK K))
      with_reducible refine pb_nil ?_
      simp only [List.drop_succ_cons, List.drop_zero]
      refine CB.out ?_
      repeat (with_reducible refine cb_skip ?_)
      refine cb_ky (by rfl) fun K hK => ?_
      go_simp
      have hJB := (hJA.non hkD).non hkB
      refine (jrecords_calls hJB hrl hrc).mono ?_
      rintro e wC ⟨aC, cC, vC, rfl, hSC, hRC, _, hkC⟩
      have hRows := Recs.rows hSC hRC
      go_simp
      refine hK _ _ (fun _ => trivial) ?_
      clear hK K
      repeat (with_reducible refine cb_skip ?_)
      refine cb_ky (by rfl) fun K hK => ?_
      go_simp
      refine (same_true aC _ cC fr frc _ wC hRows (((hRA.non hkD).non hkB).non hkC)).mono ?_
      rintro e wD ⟨rfl, hkDD⟩
      go_simp
      refine hK _ _ (fun _ => trivial) ?_
      clear hK K
      refine cb_ky (by rfl) fun K hK => ?_
      go_simp
      refine hK _ _ (fun _ => trivial) ?_
      clear hK K
      with_reducible refine cb_step rfl fun K hK => ?_
      go_simp
      refine hK _ _ (fun _ => trivial) ?_
      clear hK K
      with_reducible refine cb_step rfl fun K hK => ?_
      go_simp
      refine hK _ _ (fun _ => trivial) ?_
      clear hK K
      refine cb_ky (by rfl) fun K hK => ?_
      go_simp
      refine (HL.out _).mono ?_
      rintro e wE ⟨rfl, hkE⟩
      go_simp
      refine hK _ _ (fun _ => trivial) ?_
      clear hK K
      with_reducible refine cb_step rfl fun K hK => ?_
      go_simp
      refine hK _ _ (fun h => by cases h) ?_
      clear hK K
      with_reducible refine cb_step rfl fun K hK => ?_
      go_simp
      refine hK _ _ (fun h => by cases h) ?_
      clear hK K
      with_reducible refine cb_nil ?_
      go_wp2_with fail
      go_ret
      exact ⟨rfl, ((((qA.trans hkD).trans hkB).trans hkC).trans hkDD).trans hkE⟩
    · have hcut := cut_on (s := gst img log) (n := ((scanL log).2.1 : Nat)) rfl rfl (by omega) (by show _ ≤ ((log.length : Nat) : Int); omega)
      rw [if_neg (by omega), if_pos hs0, hcut] at hjo
      rw [hjo] at hop
      have hfc : fcut log = ((scanL log).2.1 : Nat) := by unfold fcut; rw [hs0]; rfl
      have hsok := HO.out.cut ((scanL log).2.1 : Nat)
      rw [hcut] at hsok
      simp only at hop hsok
      generalize hat : (scanL log).2.1 = at_ at *
      have hatl : at_ ≤ log.length := hsb
      obtain ⟨sE, hsE⟩ : ∃ sE : St, sE = { gst img log with log := (gst img log).log.take ((at_ : Nat) : Int).toNat, sure := min (gst img log).sure (at_ : Nat) } := ⟨_, rfl⟩
      rw [← hsE] at hop hsok
      have hsoff : sE.off = false := by rw [hsE]; rfl
      have hslog : sE.log = log.take at_ := by rw [hsE]; rfl
      have u1 : (0 : Int) ≤ (at_ : Int) := by omega
      have u2 : (at_ : Int) ≤ (c2 : Int) := by have := hb27.cap; omega
      have u3 : at_ ≤ c2 := by have := hb27.cap; omega
      clear hcut hsE hat hss hsb hcnt
      go_wp2_with fail
      refine hop.mono ?_
      rintro e w8 ⟨hd8, hk8, hf⟩
      rw [if_pos rfl] at hf
      obtain ⟨j, ra, rfl, hJ8, _, _⟩ := hf
      have hb8 := hb7.one hd7 hk8
      have hb28 := hb27.one hd7 hk8
      have q8 := Kp.dev q7 hdw hk8
      go_wp2_with fail
      refine (find_calls a img.length c img a2 log.length c2 log w8 hb8 hb28 (by omega) (by omega)).mono ?_
      rintro e w9 ⟨hk9, hf⟩
      rw [if_neg (by omega), if_neg (by omega), hfc] at hf
      obtain ⟨fa, fac, fr, frc, vs, rfl, hOf, hSf, hRf, _⟩ := hf
      have hd9 := hd8.non hk9
      have hb29 := hb28.non hk9
      have hJ9 := hJ8.non hk9
      have q9 := q8.trans hk9
      clear hjo hie hop hb8 hb28 hk8 hd8 q8 hJ8
      go_wp2_with fail
      refine (log_calls d sE w9 hd9 hsok).mono ?_
      rintro e wA ⟨hkA, he⟩
      rw [if_neg (by rw [hsoff]; simp)] at he
      obtain ⟨aA, cA, rfl, hOA⟩ := he
      have hb2A := hb29.non hkA
      have hJA := hJ9.non hkA
      have hOfA := hOf.bytes.non hkA
      have hRA := Recs.rows (hSf.non hkA) (hRf.non hkA)
      have qA := q9.trans hkA
      have cv1 := conv_string wA _ _ _ _ hOA.bytes
      have hbT := hb2A.take at_ hatl
      have cv2 := conv_string wA _ _ _ _ hbT
      have hTL : (log.take at_).length = at_ := by rw [List.length_take]; omega
      rw [hslog, hTL] at cv1
      have ejr : ∀ l : List UInt8, (l == l) = true := by simp
      rw [hslog]
      rw [hTL]
      go_wp2_with fail
      have hkD : Kp Non wA wA.drew := (Kp.refl _ _).drew
      refine wp_region_chain2 10 [0,0,0,0,1,1,0,0,2,2,9,9,9,9,9,9,9,9,9,9] [9,9,9,9,9,9,9,9,9,9,0,1,0,1,1,1,1,1,2,2] (by kernel_rfl) (by kernel_rfl) (by kernel_rfl) (by kernel_rfl) (fun w' => Bytes w' fa (unfData img).length fac (unfData img)) (fun _ => True) (hOfA.non hkD) ?_
      refine PB.out ?_
      repeat (first | (with_reducible refine pb_skip ?_) | ((first | (with_reducible refine pb_k rfl ?_) | (refine pb_ky (by rfl) ?_)); intro K hK; apply Exists.intro; refine ⟨fun w' hC => ?_, ?_⟩; (have cv := conv_string w' _ _ _ _ hC; go_simp; rfl); go_simp; refine hK _ ?_; clear hK K))
      with_reducible refine pb_nil ?_
      simp only [List.take_succ_cons, List.take_zero]
      refine CB.out ?_
      repeat (with_reducible refine cb_skip ?_)
      refine cb_ky (by rfl) fun K hK => ?_
      go_simp
      refine (jimage_calls (hJA.non hkD) (by show (unfData img).length ≤ _; exact hul)).mono ?_
      rintro e wB ⟨aB, cB, rfl, hOB, hkB⟩
      have cv3 := conv_string wB _ _ _ _ hOB.bytes
      replace cv3 : (convert 22 9 (.slice aB (unfData img).length cB)).run Try.prog wB = .ok (.string ⟨(unfData img).toArray⟩) wB := cv3
      have hOfB := (hOfA.non hkD).non hkB
      go_simp
      refine hK _ _ (fun _ => hOfB) ?_
      clear hK K
      repeat (with_reducible refine cb_skip ?_)
      refine cb_ky (by rfl) fun K hK => ?_
      go_simp
      refine hK _ _ (fun _ => hOfB) ?_
      clear hK K
      repeat (with_reducible refine cb_skip ?_)
      refine cb_ky (by rfl) fun K hK => ?_
      go_simp
      refine hK _ _ (fun h => by cases h) ?_
      clear hK K
      refine cb_ky (by rfl) fun K hK => ?_
      go_simp
      refine hK _ _ (fun h => by cases h) ?_
      clear hK K
      with_reducible refine cb_nil ?_
      refine (And.intro trivial ?_ : _ ∧ _)
      refine PB.out ?_
      repeat (first | (with_reducible refine pb_skip ?_) | ((refine pb_ky (by rfl) ?_); intro K hK; apply Exists.intro; refine ⟨fun w' hC => ?_, ?_⟩; (go_simp; rfl); go_simp; refine hK _ ?_; clear hK K))
      with_reducible refine pb_nil ?_
      simp only [List.drop_succ_cons, List.drop_zero]
      refine CB.out ?_
      repeat (with_reducible refine cb_skip ?_)
      refine cb_ky (by rfl) fun K hK => ?_
      go_simp
      have hJB := (hJA.non hkD).non hkB
      refine (jrecords_calls hJB hrl hrc).mono ?_
      rintro e wC ⟨aC, cC, vC, rfl, hSC, hRC, _, hkC⟩
      have hRows := Recs.rows hSC hRC
      go_simp
      refine hK _ _ (fun _ => trivial) ?_
      clear hK K
      repeat (with_reducible refine cb_skip ?_)
      refine cb_ky (by rfl) fun K hK => ?_
      go_simp
      refine (same_true aC _ cC fr frc _ wC hRows (((hRA.non hkD).non hkB).non hkC)).mono ?_
      rintro e wD ⟨rfl, hkDD⟩
      go_simp
      refine hK _ _ (fun _ => trivial) ?_
      clear hK K
      refine cb_ky (by rfl) fun K hK => ?_
      go_simp
      refine hK _ _ (fun _ => trivial) ?_
      clear hK K
      with_reducible refine cb_step rfl fun K hK => ?_
      go_simp
      refine hK _ _ (fun _ => trivial) ?_
      clear hK K
      with_reducible refine cb_step rfl fun K hK => ?_
      go_simp
      refine hK _ _ (fun _ => trivial) ?_
      clear hK K
      refine cb_ky (by rfl) fun K hK => ?_
      go_simp
      refine (HL.out _).mono ?_
      rintro e wE ⟨rfl, hkE⟩
      go_simp
      refine hK _ _ (fun _ => trivial) ?_
      clear hK K
      with_reducible refine cb_step rfl fun K hK => ?_
      go_simp
      refine hK _ _ (fun h => by cases h) ?_
      clear hK K
      with_reducible refine cb_step rfl fun K hK => ?_
      go_simp
      refine hK _ _ (fun h => by cases h) ?_
      clear hK K
      with_reducible refine cb_nil ?_
      go_wp2_with fail
      go_ret
      exact ⟨rfl, ((((qA.trans hkD).trans hkB).trans hkC).trans hkDD).trans hkE⟩
    · rw [if_neg (by omega), if_neg (by omega)] at hjo
      rw [hjo] at hop
      go_wp2_with fail
      refine hop.mono ?_
      rintro e w8 ⟨hd8, hk8, hf⟩
      rw [if_neg (by omega)] at hf
      subst hf
      have hb8 := hb7.one hd7 hk8
      have hb28 := hb27.one hd7 hk8
      have q8 := Kp.dev q7 hdw hk8
      go_wp2_with fail
      refine (find_calls a img.length c img a2 log.length c2 log w8 hb8 hb28 (by omega) (by omega)).mono ?_
      rintro e w9 ⟨hk9, hf⟩
      rw [if_neg (by omega), if_pos hs0] at hf
      subst hf
      have hd9 := hd8.non hk9
      have hb29 := hb28.non hk9
      have q9 := q8.trans hk9
      clear hjo hie hop hb8 hb28 hk8 hk9 hd8 q8
      go_wp2_with fail
      refine (log_calls d (gst img log) w9 hd9 HO.out).mono ?_
      rintro e wA ⟨hkA, he⟩
      rw [if_neg (by simp [gst])] at he
      obtain ⟨aA, cA, rfl, hOA⟩ := he
      have hb2A := hb29.non hkA
      have qA := q9.trans hkA
      have cv1 := conv_string wA _ _ _ _ hOA.bytes
      have cv2 := conv_string wA _ _ _ _ hb2A
      replace cv1 : (convert 22 9 (.slice aA (gst img log).log.length cA)).run Try.prog wA = .ok (.string ⟨log.toArray⟩) wA := cv1
      go_wp2_with fail
      refine wp_region_chain2 10 [0,0,0,0,1,1,0,0,2,2,9,9,9,9,9,9,9,9,9,9] [9,9,9,9,9,9,9,9,9,9,0,1,0,1,1,1,1,1,2,2] (by kernel_rfl) (by kernel_rfl) (by kernel_rfl) (by kernel_rfl) (fun _ => True) (fun _ => True) trivial ?_
      refine PB.out ?_
      iterate 3 ((with_reducible refine pb_k rfl ?_); intro K hK; apply Exists.intro; refine ⟨fun w' hC => ?_, ?_⟩; (go_simp; rfl); go_simp; refine hK _ ?_; clear hK K)
      repeat (first | (with_reducible refine pb_skip ?_) | ((refine pb_kn (by rfl) ?_); intro K hK; go_simp; refine hK _ ?_; clear hK K))
      with_reducible refine pb_nil ?_
      simp only [List.take_succ_cons, List.take_zero]
      refine CB.out ?_
      repeat (first | (with_reducible refine cb_skip ?_) | ((refine cb_kn (by rfl) fun K hK => ?_); go_simp; refine hK _ _ ?_; clear hK K))
      with_reducible refine cb_nil ?_
      refine (And.intro trivial ?_ : _ ∧ _)
      refine PB.out ?_
      repeat (first | (with_reducible refine pb_skip ?_) | ((refine pb_kn (by rfl) ?_); intro K hK; go_simp; refine hK _ ?_; clear hK K))
      with_reducible refine pb_nil ?_
      simp only [List.drop_succ_cons, List.drop_zero]
      refine CB.out ?_
      repeat (first | (with_reducible refine cb_skip ?_) | ((refine cb_kn (by rfl) fun K hK => ?_); go_simp; refine hK _ _ ?_; clear hK K))
      with_reducible refine cb_step rfl fun K hK => ?_
      go_simp
      refine hK _ _ (fun _ => trivial) ?_
      clear hK K
      with_reducible refine cb_step rfl fun K hK => ?_
      go_simp
      refine hK _ _ (fun _ => trivial) ?_
      clear hK K
      refine cb_ky (by rfl) fun K hK => ?_
      go_simp
      refine (HL.out _).mono ?_
      rintro e wB ⟨rfl, hkB⟩
      go_simp
      refine hK _ _ (fun _ => trivial) ?_
      clear hK K
      with_reducible refine cb_step rfl fun K hK => ?_
      go_simp
      refine hK _ _ (fun h => by cases h) ?_
      clear hK K
      with_reducible refine cb_step rfl fun K hK => ?_
      go_simp
      refine hK _ _ (fun h => by cases h) ?_
      clear hK K
      with_reducible refine cb_nil ?_
      go_wp2_with fail
      go_ret
      exact ⟨rfl, (qA.drew).trans hkB⟩
  · have hie0 : imgErr img = 4 := by rw [hie, hf0]; rfl
    rw [if_pos (by omega), hie0] at hjo
    rw [hjo] at hop
    go_wp2_with fail
    refine hop.mono ?_
    rintro e w8 ⟨hd8, hk8, hf⟩
    rw [if_neg (by omega)] at hf
    subst hf
    have hb8 := hb7.one hd7 hk8
    have hb28 := hb27.one hd7 hk8
    have q8 := Kp.dev q7 hdw hk8
    go_wp2_with fail
    refine (find_calls a img.length c img a2 log.length c2 log w8 hb8 hb28 (by omega) (by omega)).mono ?_
    rintro e w9 ⟨hk9, hf⟩
    rw [if_pos (by omega), hf0] at hf
    subst hf
    have hd9 := hd8.non hk9
    have hb29 := hb28.non hk9
    have q9 := q8.trans hk9
    clear hjo hie hop hb8 hb28 hk8 hk9 hd8 q8
    go_wp2_with fail
    refine (log_calls d (gst img log) w9 hd9 HO.out).mono ?_
    rintro e wA ⟨hkA, he⟩
    rw [if_neg (by simp [gst])] at he
    obtain ⟨aA, cA, rfl, hOA⟩ := he
    have hb2A := hb29.non hkA
    have qA := q9.trans hkA
    have cv1 := conv_string wA _ _ _ _ hOA.bytes
    have cv2 := conv_string wA _ _ _ _ hb2A
    replace cv1 : (convert 22 9 (.slice aA (gst img log).log.length cA)).run Try.prog wA = .ok (.string ⟨log.toArray⟩) wA := cv1
    go_wp2_with fail
    refine wp_region_chain2 10 [0,0,0,0,1,1,0,0,2,2,9,9,9,9,9,9,9,9,9,9] [9,9,9,9,9,9,9,9,9,9,0,1,0,1,1,1,1,1,2,2] (by kernel_rfl) (by kernel_rfl) (by kernel_rfl) (by kernel_rfl) (fun _ => True) (fun _ => True) trivial ?_
    refine PB.out ?_
    iterate 3 ((with_reducible refine pb_k rfl ?_); intro K hK; apply Exists.intro; refine ⟨fun w' hC => ?_, ?_⟩; (go_simp; rfl); go_simp; refine hK _ ?_; clear hK K)
    repeat (first | (with_reducible refine pb_skip ?_) | ((refine pb_kn (by rfl) ?_); intro K hK; go_simp; refine hK _ ?_; clear hK K))
    with_reducible refine pb_nil ?_
    simp only [List.take_succ_cons, List.take_zero]
    refine CB.out ?_
    repeat (first | (with_reducible refine cb_skip ?_) | ((refine cb_kn (by rfl) fun K hK => ?_); go_simp; refine hK _ _ ?_; clear hK K))
    with_reducible refine cb_nil ?_
    refine (And.intro trivial ?_ : _ ∧ _)
    refine PB.out ?_
    repeat (first | (with_reducible refine pb_skip ?_) | ((refine pb_kn (by rfl) ?_); intro K hK; go_simp; refine hK _ ?_; clear hK K))
    with_reducible refine pb_nil ?_
    simp only [List.drop_succ_cons, List.drop_zero]
    refine CB.out ?_
    repeat (first | (with_reducible refine cb_skip ?_) | ((refine cb_kn (by rfl) fun K hK => ?_); go_simp; refine hK _ _ ?_; clear hK K))
    with_reducible refine cb_step rfl fun K hK => ?_
    go_simp
    refine hK _ _ (fun _ => trivial) ?_
    clear hK K
    with_reducible refine cb_step rfl fun K hK => ?_
    go_simp
    refine hK _ _ (fun _ => trivial) ?_
    clear hK K
    refine cb_ky (by rfl) fun K hK => ?_
    go_simp
    refine (HL.out _).mono ?_
    rintro e wB ⟨rfl, hkB⟩
    go_simp
    refine hK _ _ (fun _ => trivial) ?_
    clear hK K
    with_reducible refine cb_step rfl fun K hK => ?_
    go_simp
    refine hK _ _ (fun h => by cases h) ?_
    clear hK K
    with_reducible refine cb_step rfl fun K hK => ?_
    go_simp
    refine hK _ _ (fun h => by cases h) ?_
    clear hK K
    with_reducible refine cb_nil ?_
    go_wp2_with fail
    go_ret
    exact ⟨rfl, (qA.drew).trans hkB⟩
  · have hie0 : imgErr img = 5 := by rw [hie, hf0]; rfl
    rw [if_pos (by omega), hie0] at hjo
    rw [hjo] at hop
    go_wp2_with fail
    refine hop.mono ?_
    rintro e w8 ⟨hd8, hk8, hf⟩
    rw [if_neg (by omega)] at hf
    subst hf
    have hb8 := hb7.one hd7 hk8
    have hb28 := hb27.one hd7 hk8
    have q8 := Kp.dev q7 hdw hk8
    go_wp2_with fail
    refine (find_calls a img.length c img a2 log.length c2 log w8 hb8 hb28 (by omega) (by omega)).mono ?_
    rintro e w9 ⟨hk9, hf⟩
    rw [if_pos (by omega), hf0] at hf
    subst hf
    have hd9 := hd8.non hk9
    have hb29 := hb28.non hk9
    have q9 := q8.trans hk9
    clear hjo hie hop hb8 hb28 hk8 hk9 hd8 q8
    go_wp2_with fail
    refine (log_calls d (gst img log) w9 hd9 HO.out).mono ?_
    rintro e wA ⟨hkA, he⟩
    rw [if_neg (by simp [gst])] at he
    obtain ⟨aA, cA, rfl, hOA⟩ := he
    have hb2A := hb29.non hkA
    have qA := q9.trans hkA
    have cv1 := conv_string wA _ _ _ _ hOA.bytes
    have cv2 := conv_string wA _ _ _ _ hb2A
    replace cv1 : (convert 22 9 (.slice aA (gst img log).log.length cA)).run Try.prog wA = .ok (.string ⟨log.toArray⟩) wA := cv1
    go_wp2_with fail
    refine wp_region_chain2 10 [0,0,0,0,1,1,0,0,2,2,9,9,9,9,9,9,9,9,9,9] [9,9,9,9,9,9,9,9,9,9,0,1,0,1,1,1,1,1,2,2] (by kernel_rfl) (by kernel_rfl) (by kernel_rfl) (by kernel_rfl) (fun _ => True) (fun _ => True) trivial ?_
    refine PB.out ?_
    iterate 3 ((with_reducible refine pb_k rfl ?_); intro K hK; apply Exists.intro; refine ⟨fun w' hC => ?_, ?_⟩; (go_simp; rfl); go_simp; refine hK _ ?_; clear hK K)
    repeat (first | (with_reducible refine pb_skip ?_) | ((refine pb_kn (by rfl) ?_); intro K hK; go_simp; refine hK _ ?_; clear hK K))
    with_reducible refine pb_nil ?_
    simp only [List.take_succ_cons, List.take_zero]
    refine CB.out ?_
    repeat (first | (with_reducible refine cb_skip ?_) | ((refine cb_kn (by rfl) fun K hK => ?_); go_simp; refine hK _ _ ?_; clear hK K))
    with_reducible refine cb_nil ?_
    refine (And.intro trivial ?_ : _ ∧ _)
    refine PB.out ?_
    repeat (first | (with_reducible refine pb_skip ?_) | ((refine pb_kn (by rfl) ?_); intro K hK; go_simp; refine hK _ ?_; clear hK K))
    with_reducible refine pb_nil ?_
    simp only [List.drop_succ_cons, List.drop_zero]
    refine CB.out ?_
    repeat (first | (with_reducible refine cb_skip ?_) | ((refine cb_kn (by rfl) fun K hK => ?_); go_simp; refine hK _ _ ?_; clear hK K))
    with_reducible refine cb_step rfl fun K hK => ?_
    go_simp
    refine hK _ _ (fun _ => trivial) ?_
    clear hK K
    with_reducible refine cb_step rfl fun K hK => ?_
    go_simp
    refine hK _ _ (fun _ => trivial) ?_
    clear hK K
    refine cb_ky (by rfl) fun K hK => ?_
    go_simp
    refine (HL.out _).mono ?_
    rintro e wB ⟨rfl, hkB⟩
    go_simp
    refine hK _ _ (fun _ => trivial) ?_
    clear hK K
    with_reducible refine cb_step rfl fun K hK => ?_
    go_simp
    refine hK _ _ (fun h => by cases h) ?_
    clear hK K
    with_reducible refine cb_step rfl fun K hK => ?_
    go_simp
    refine hK _ _ (fun h => by cases h) ?_
    clear hK K
    with_reducible refine cb_nil ?_
    go_wp2_with fail
    go_ret
    exact ⟨rfl, (qA.drew).trans hkB⟩
  · have hie0 : imgErr img = 8 := by rw [hie, hf0]; rfl
    rw [if_pos (by omega), hie0] at hjo
    rw [hjo] at hop
    go_wp2_with fail
    refine hop.mono ?_
    rintro e w8 ⟨hd8, hk8, hf⟩
    rw [if_neg (by omega)] at hf
    subst hf
    have hb8 := hb7.one hd7 hk8
    have hb28 := hb27.one hd7 hk8
    have q8 := Kp.dev q7 hdw hk8
    go_wp2_with fail
    refine (find_calls a img.length c img a2 log.length c2 log w8 hb8 hb28 (by omega) (by omega)).mono ?_
    rintro e w9 ⟨hk9, hf⟩
    rw [if_pos (by omega), hf0] at hf
    subst hf
    have hd9 := hd8.non hk9
    have hb29 := hb28.non hk9
    have q9 := q8.trans hk9
    clear hjo hie hop hb8 hb28 hk8 hk9 hd8 q8
    go_wp2_with fail
    refine (log_calls d (gst img log) w9 hd9 HO.out).mono ?_
    rintro e wA ⟨hkA, he⟩
    rw [if_neg (by simp [gst])] at he
    obtain ⟨aA, cA, rfl, hOA⟩ := he
    have hb2A := hb29.non hkA
    have qA := q9.trans hkA
    have cv1 := conv_string wA _ _ _ _ hOA.bytes
    have cv2 := conv_string wA _ _ _ _ hb2A
    replace cv1 : (convert 22 9 (.slice aA (gst img log).log.length cA)).run Try.prog wA = .ok (.string ⟨log.toArray⟩) wA := cv1
    go_wp2_with fail
    refine wp_region_chain2 10 [0,0,0,0,1,1,0,0,2,2,9,9,9,9,9,9,9,9,9,9] [9,9,9,9,9,9,9,9,9,9,0,1,0,1,1,1,1,1,2,2] (by kernel_rfl) (by kernel_rfl) (by kernel_rfl) (by kernel_rfl) (fun _ => True) (fun _ => True) trivial ?_
    refine PB.out ?_
    iterate 3 ((with_reducible refine pb_k rfl ?_); intro K hK; apply Exists.intro; refine ⟨fun w' hC => ?_, ?_⟩; (go_simp; rfl); go_simp; refine hK _ ?_; clear hK K)
    repeat (first | (with_reducible refine pb_skip ?_) | ((refine pb_kn (by rfl) ?_); intro K hK; go_simp; refine hK _ ?_; clear hK K))
    with_reducible refine pb_nil ?_
    simp only [List.take_succ_cons, List.take_zero]
    refine CB.out ?_
    repeat (first | (with_reducible refine cb_skip ?_) | ((refine cb_kn (by rfl) fun K hK => ?_); go_simp; refine hK _ _ ?_; clear hK K))
    with_reducible refine cb_nil ?_
    refine (And.intro trivial ?_ : _ ∧ _)
    refine PB.out ?_
    repeat (first | (with_reducible refine pb_skip ?_) | ((refine pb_kn (by rfl) ?_); intro K hK; go_simp; refine hK _ ?_; clear hK K))
    with_reducible refine pb_nil ?_
    simp only [List.drop_succ_cons, List.drop_zero]
    refine CB.out ?_
    repeat (first | (with_reducible refine cb_skip ?_) | ((refine cb_kn (by rfl) fun K hK => ?_); go_simp; refine hK _ _ ?_; clear hK K))
    with_reducible refine cb_step rfl fun K hK => ?_
    go_simp
    refine hK _ _ (fun _ => trivial) ?_
    clear hK K
    with_reducible refine cb_step rfl fun K hK => ?_
    go_simp
    refine hK _ _ (fun _ => trivial) ?_
    clear hK K
    refine cb_ky (by rfl) fun K hK => ?_
    go_simp
    refine (HL.out _).mono ?_
    rintro e wB ⟨rfl, hkB⟩
    go_simp
    refine hK _ _ (fun _ => trivial) ?_
    clear hK K
    with_reducible refine cb_step rfl fun K hK => ?_
    go_simp
    refine hK _ _ (fun h => by cases h) ?_
    clear hK K
    with_reducible refine cb_step rfl fun K hK => ?_
    go_simp
    refine hK _ _ (fun h => by cases h) ?_
    clear hK K
    with_reducible refine cb_nil ?_
    go_wp2_with fail
    go_ret
    exact ⟨rfl, (qA.drew).trans hkB⟩


open Go.ChangeShapes Go.WideShapes Go.ChangeAt
set_option maxRecDepth 100000 in
theorem journal_foreign_lifted (os : Os) (started : os.Started) (H : Type) (enc : TypeId × Value → H) :
    ReturnsInHanded {} Try.checked os 12 .any (Rows.journalForeignSpec.pre6 enc Try.prog Try.f12 Rows.journalForeignRow.domain false) (Rows.journalForeignSpec.post enc Try.prog Try.f12 false true false false) := by
  refine returnsInHanded_of_change_sized (C := Try.checked) own started (by kernel_rfl) Try.func12
    (ChangeSpec.witness6 (enc := enc) (C := Try.checked) false ⟨#[], #[.slice none 0 0, .slice none 0 0], []⟩ 8 (by kernel_rfl) (by kernel_rfl) (by kernel_rfl) (by kernel_rfl)) ?_
  intro W base args ds gs before hval0 hW hcnd hsz0 _
  have hval : ∀ (j : Nat) t v, Try.f12.params[j]? = some t → args[j]? = some v → Value.okWide Try.prog W .any base t v := hval0
  have hsz : (DataW.weightsEach Try.prog (Try.f12.params.toList ++ Rows.journalForeignSpec.plain.varTypes Try.prog) (ds ++ gs)).all (· ≤ reachBytes) = true := hsz0
  have hW' := hW
  obtain ⟨p, q, hA0, hV, rfl, hfz, hnd⟩ := hW
  have hA : DataW.TrodAll enc Try.prog W 0 (fun _ => true) true Try.f12.params.toList args.toList ds p := hA0
  rw [Try.params12] at hA hval hsz
  obtain ⟨v0, vs0, d0, ds0, p0, q0, hargs, rfl, rfl, h0, r0⟩ := trodAll_cons hA
  obtain ⟨v1, vs1, d1, ds1, p1, q1, rfl, rfl, rfl, h1, r1⟩ := trodAll_cons r0
  obtain ⟨rfl, rfl, rfl⟩ := trodAll_nil r1
  obtain rfl : args = #[v0, v1] := by cases args; simp_all
  obtain ⟨rfl, rfl⟩ := trodVars_none hV
  have lt0 : ∀ x ∈ p0, x.block < W.heap.size := by obtain ⟨m, hm⟩ := h0; exact DataW.trod_lt m _ _ _ hm
  have k0 := h0
  obtain ⟨a0, n0, c0, rfl⟩ := okWide_slice Try.underlying22 (hval 0 22 v0 rfl rfl)
  obtain ⟨l0, b0⟩ := bytes_in h0
  have lt1 : ∀ x ∈ p1, x.block < W.heap.size := by obtain ⟨m, hm⟩ := h1; exact DataW.trod_lt m _ _ _ hm
  have k1 := h1
  obtain ⟨a1, n1, c1, rfl⟩ := okWide_slice Try.underlying22 (hval 1 22 v1 rfl rfl)
  obtain ⟨l1, b1⟩ := bytes_in h1
  clear hA0 hval0 hsz0
  refine (jforeign_walk a0 n0 c0 l0 a1 n1 c1 l1 W b0 b1).mono fun e W' ⟨he, hk⟩ => ?_
  have bel := hk.below
  subst he
  exact ⟨_, rfl, _, _, _, [], _, [], hW', trodAll_mk1 (shut_bool Try.underlying4 _), (trodAll_cons_mk (Below.trod laidOut (by kernel_rfl) (of_decide_eq_true (by kernel_rfl)) k0 bel lt0)
    (trodAll_cons_mk (Below.trod laidOut (by kernel_rfl) (of_decide_eq_true (by kernel_rfl)) k1 bel lt1)
    trodAll_mk0)), rfl, bel.frame _, fun h => by cases h⟩

theorem journal_foreign : Rows.JournalForeignSaid :=
  OpenClaim.holds_of_wide 12 Try.f12 rfl rfl rfl rfl rfl rfl rfl ⟨rfl, rfl, rfl, rfl, rfl⟩ rfl rfl rfl rfl rfl (by kernel_rfl) Try.func12 (by kernel_rfl)
    (of_decide_eq_true (by kernel_rfl)) (by unfold Func.isWrapper; first | (rw [if_pos (by decide +kernel)]; kernel_rfl) | (rw [if_neg (by decide +kernel)]; exact ⟨rfl, rfl⟩))
    (fun os started H enc _ => journal_foreign_lifted os started H enc)
#print axioms journal_foreign
end Go.Proofs.Ytclbapmjhchokaa
