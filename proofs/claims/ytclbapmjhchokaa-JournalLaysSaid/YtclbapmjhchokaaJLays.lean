/-
  JournalLays: what a journal leaves on its disk are the frames that the document says. For every input.
-/
import Derived.Test.YtclbapmjhchokaaJ18
import Derived.Test.YtclbapmjhchokaaR3
namespace Go.Proofs.Ytclbapmjhchokaa
open Go.RowKit
section
variable {F G : Nat → Prop} {w w' : World} {d : Nat} {s : St} {J : JSt} {ra : Option Addr} {b0 j : Nat}
/-- A write into blocks of the fence; and blocks that came with it are of the fence too. -/
theorem Dev.grow (h : Dev F w d s) (k : Kp F w w') (hd : ¬ F d) (hG : ∀ i, G i → F i ∨ (w.heap.size ≤ i ∧ i < w'.heap.size)) : Dev G w' d s := by
  obtain ⟨ia, ic, sa, sc, la, lc, h⟩ := h
  have hG' : ∀ i, G i → F i ∨ w.heap.size ≤ i := fun i hi => (hG i hi).imp_right fun h => h.1
  refine ⟨ia, ic, sa, sc, la, lc, k.heap h.row hd, h.image.fenced k h.ai, h.stage.fenced k h.as_, h.log.fenced k h.al, fun i hi => ?_, h.image.away_more h.ai hG', h.stage.away_more h.as_ hG', h.log.away_more h.al hG'⟩
  rcases hG i hi with h1 | h1
  · exact Nat.lt_of_lt_of_le (h.fence i h1) k.size
  · exact h1.2
theorem Jou.grow (h : Jou F b0 w j d s J ra) (k : Kp F w w') (hG : ∀ i, G i → F i ∨ (w.heap.size ≤ i ∧ i < w'.heap.size)) : Jou G b0 w' j d s J ra := by
  have hold := h.old
  have hnf := h.nf
  obtain ⟨rc, ia, ic, vs, h⟩ := h
  have hG' : ∀ i, G i → F i ∨ w.heap.size ≤ i := fun i hi => (hG i hi).imp_right fun h => h.1
  have hn : ∀ i, JS d j ra i → ¬ G i := fun i hi hg => by
    rcases hG' i hg with h1 | h1
    · exact hnf i hi h1
    · have := (hold i hi).2; omega
  exact ⟨rc, ia, ic, vs, k.heap h.row h.fj, h.dev.grow k h.fd hG, h.image.fenced k h.ai, h.image.away_more h.ai hG', h.rows.kp k h.fr, ⟨h.recs.len, fun i r hr => let ⟨b, c, h1, h2, h3⟩ := h.recs.at_ i r hr; ⟨b, c, h1, h2.fenced k h3, h2.away_more h3 hG'⟩⟩,
    hn _ (.inl rfl), hn _ (.inr (.inl rfl)), fun i hi => hn i (.inr (.inr hi)), h.bd, h.bj, h.br⟩
end

/-- The device with records on it. -/
def lst (img : List UInt8) (rs : List (List UInt8)) : St := { room := 2000, image := frame img, stage := [], staged := false, log := frames rs, sure := 0, stop := -1, off := false }
theorem lst_new {img : List UInt8} (h : img.length ≤ 3000) : jswap (St.new 2000) img = (0, lst img []) := by
  rw [jswap_fits (s := St.new 2000) (b := img) rfl rfl (by omega) (by
    show secs (img.length + 8) ≤ 2000 - secs 0 - secs 0
    have := secs_le (img.length + 8) 2000 (by omega)
    have h0 : secs 0 = 0 := rfl
    omega)]
  rfl
theorem sizes_sm : ∀ {rs : List (List UInt8)} , (∀ r ∈ rs, r.length ≤ 3000) → sizes rs ≤ 3008 * rs.length
  | [], _ => by simp [sizes]
  | r :: rs, h => by
    have h1 := h r List.mem_cons_self
    have h2 := sizes_sm fun x hx => h x (List.mem_cons_of_mem _ hx)
    simp only [sizes, List.length_cons]
    omega
theorem lst_ok {img : List UInt8} {rs : List (List UInt8)} (h : img.length ≤ 3000) (hl : rs.length ≤ 60) (hr : ∀ r ∈ rs, r.length ≤ 3000) : (lst img rs).ok := by
  have hs := sizes_sm hr
  refine ⟨by simp [lst], by simp [lst], ?_, ?_, ?_, ?_, ?_, ?_⟩
  · show (frame img).length ≤ _
    rw [frame_len]; omega
  · simp [lst]
  · show (frames rs).length ≤ _
    rw [frames_len]; omega
  · simp [lst]
  · simp [lst]
  · simp [StopOk, lst]
theorem lst_add {img : List UInt8} {rs : List (List UInt8)} {r : List UInt8} (h : img.length ≤ 3000) (hl : rs.length < 60) (hr : ∀ r ∈ rs, r.length ≤ 3000) (hr1 : r.length ≤ 3000) :
    jadd (lst img rs) ⟨img, rs, false⟩ r = (0, lst img (rs ++ [r]), ⟨img, rs ++ [r], false⟩) := by
  have hs := sizes_sm hr
  have hi : ((lst img rs).image.length : Int) = img.length + 8 := by show ((frame img).length : Int) = _; rw [frame_len]; omega
  have hll : ((lst img rs).log.length : Int) = (sizes rs : Nat) := by show ((frames rs).length : Int) = _; rw [frames_len]
  have hst : ((lst img rs).stage.length : Int) = 0 := rfl
  have hrm : (lst img rs).room = 2000 := rfl
  rw [jadd_fits (s := lst img rs) (J := ⟨img, rs, false⟩) rfl rfl rfl (by omega) (by
    rw [hi, hll, hst, hrm]
    have h1 := secs_le ((sizes rs : Nat) + ((r.length : Int) + 8)) 400 (by omega)
    have h2 := secs_le ((img.length : Int) + 8) 10 (by omega)
    have h0 : secs 0 = 0 := rfl
    omega)]
  simp only [lst, frames_append, Prod.mk.injEq, St.mk.injEq, true_and, and_true]
  simp [frames]

set_option maxRecDepth 100000 in
set_option maxHeartbeats 8000000 in
theorem jlays_walk (a : Option Addr) (n c : Nat) (li : List UInt8) (ra0 : Option Addr) (rn rc : Nat) (l : List (List UInt8)) (w : World) (hb : Bytes w a n c li) (hl : RowsB w ra0 rn rc l) :
    Calls Try.prog 13 #[.slice a n c, .slice ra0 rn rc] w (TruePost w) := by
  have HL := Lib.hid (fun W => jlives_true W)
  obtain ⟨i0, hi0, hz0, hz1, hz2⟩ := info_parts info5
  have HN := Lib.hid hl.len
  have hrcap := hl.cap
  have hrmax := hl.max
  go_enter Try.func13, Try.ntmps13
  go_wp2_with fail
  refine (small_calls a n c li w hb).mono ?_
  rintro e w1 ⟨rfl, rfl⟩
  have hbs := hb.small
  have him := sm_len li
  generalize sm li = img at *
  generalize min n 3000 = n' at *
  obtain rfl := hbs.len
  clear hb
  go_wp2_with fail
  refine (new_calls_f (F := Blk none) 2000 w1 (fun k hk => by obtain ⟨_, q, _⟩ := hk; cases q) (by omega) (by omega)).mono ?_
  rintro e w2 ⟨rfl, hd2, hk2⟩
  generalize hgd : w1.heap.size = d at *
  have hdw : w1.heap.size ≤ d := by omega
  have hb2 := hbs.non hk2
  go_wp2_with fail
  refine (format_calls d d (St.new 2000) a img.length c img w2 hd2 (St.new_ok 2000 (by omega) (by omega)) hb2 (by omega) (fun f => by obtain ⟨_, q, _⟩ := f; cases q) (Nat.le_refl _) (Nat.le_of_lt hd2.lt)).mono ?_
  rw [lst_new him]
  rintro e w3 ⟨hd3, hk3, hf⟩
  rw [if_pos rfl] at hf
  obtain ⟨j, rfl, hJ3, _⟩ := hf
  have q3 := Kp.dev hk2 hdw hk3
  clear hd2 hb2 hd3 hk2 hk3
  replace hJ3 : Jou (Blk none) d w3 j d (lst img []) ⟨img, [], false⟩ none := hJ3
  go_wp2_with fail
  go_loopw [8, 33] (fun v8 v33 wr => ∃ (i : Nat) (rs : List (List UInt8)) (wa : Option Addr) (wc : Nat) (ra : Option Addr), i ≤ rn ∧ i ≤ 60 ∧ v33 = .int .i64 i ∧ rs.length = i ∧ v8 = .slice wa (sizes rs) wc ∧ OwnB wr w1.heap.size 5 wa (sizes rs) wc (frames rs) ∧ Jou (Blk wa) d wr j d (lst img rs) ⟨img, rs, false⟩ ra ∧
    Kp Non w1 wr ∧ (∀ r ∈ rs, r.length ≤ 3000)) (fun _ v33 _ => rn - (intOf v33).toNat)
  case atStart => exact ⟨0, [], none, 0, none, Nat.zero_le _, Nat.zero_le _, rfl, rfl, rfl, OwnB.nil _ _ _, hJ3, q3, by simp⟩
  case round =>
    obtain ⟨i, rs, wa, wc, ra, hi, hi60, rfl, hrl, rfl, hO, hJ, hkw, hrs⟩ := hrel
    have hss := sizes_sm hrs
    have hbw := hbs.non hkw
    clear hJ3 q3
    by_cases hlt : i < rn ∧ i < 60
    · have g1 : (i : Int) < (rn : Int) := by omega
      have g2 : (0 : Int) ≤ (i : Int) := by omega
      have g3 : decide ((60 : Int) ≤ (i : Int)) = false := by simp; omega
      have g4 : ¬ 60 ≤ i := by omega
      have hx0 : i < l.length := by have := HN.out; omega
      obtain ⟨b, og, ea, ec, rfl, hcl, hbe⟩ := (hl.non hkw).at_ i l[i] (List.getElem?_eq_getElem hx0)
      generalize l[i] = r at *
      have hsl := sm_len r
      have hbs2 := hbe.small
      have hmn : min r.length 3000 = (sm r).length := hbs2.len
      rw [hmn] at hbs2
      have HA := Lib.hid (lst_add (img := img) (rs := rs) (r := sm r) him (by omega) hrs hsl)
      have hok := lst_ok (img := img) him (by omega) hrs
      go_wp2_with fail
      refine (small_calls ea r.length ec r wr hbe).mono ?_
      rintro e w4 ⟨rfl, rfl⟩
      rw [hmn]
      go_wp2_with fail
      refine (jadd_calls hJ hok ea _ ec (sm r) hbs2 (by show sizes rs ≤ _; omega)).mono ?_
      rw [HA.out]
      rintro e w5 ⟨rfl, ra5, _, hJ5, hk5⟩
      replace hJ5 : Jou (Blk wa) d w5 j d (lst img (rs ++ [sm r])) ⟨img, rs ++ [sm r], false⟩ ra5 := hJ5
      have hkw5 : Kp Non w1 w5 := hkw.comp hk5 (fun _ _ f => f) (fun x hx q => by have := (hJ.old x q).1; omega)
      have hO5 := hO.kp hk5 (fun x hx q => hJ.nf x q hx)
      have hbe5 := hbe.nob hk5 hJ.noB
      have hbs5 := hbs2.nob hk5 hJ.noB
      go_wp2_with fail
      refine (small_calls ea r.length ec r w5 hbe5).mono ?_
      rintro e w6 ⟨rfl, rfl⟩
      rw [hmn]
      go_wp2_with fail
      refine (refframe_calls ea _ ec (sm r) w6 hbs5 (by omega)).mono ?_
      rintro e w7 ⟨fa, fc, rfl, hOf, hk7⟩
      have hO7 := hO5.kp hk7 (fun _ _ f => f)
      have hJ7 := hJ5.non hk7
      have hkw7 := hkw5.trans hk7
      have hsz7 := hkw7.size
      have hlt7 := hO7.lt
      go_wp2_with ((at_builtin; refine wpList_append_bytes rfl _ _ 22 rfl w1.heap.size 5 i0 Try.underlying22 hi0 hz0 hz1 hz2 wa (sizes rs) wc (frames rs) rfl hO7 fa ((sm r).length + 8) fc (frame (sm r)) rfl hOf.bytes (by omega) hsz7 ?_; intro a8 c8 w8 hO8 hg8 ha8))
      have hk8 : Kp (Blk wa) w7 w8 := (Kp.refl (Blk wa) w7).grown hg8 fun k hk => .inl (by cases wa <;> simp_all [Value.ownBlock, Blk])
      have hkw8 : Kp Non w1 w8 := hkw7.comp hk8 (fun _ _ f => f) (fun x hx q => by have := (hlt7 x q).1; omega)
      have hlt8 := hO8.lt
      have hJ8 : Jou (Blk a8) d w8 j d (lst img (rs ++ [sm r])) ⟨img, rs ++ [sm r], false⟩ ra5 := hJ7.grow hk8 (fun x hx => by
        rcases ha8 with rfl | rfl
        · exact .inl hx
        · have q1 := (hlt8 x hx).2
          obtain ⟨_, q2, q3⟩ := hx
          cases q2
          right
          exact ⟨by rw [← q3]; exact Nat.le_refl _, q1⟩)
      have hsz8 : sizes rs + ((sm r).length + 8) = sizes (rs ++ [sm r]) := by rw [sizes_one]
      have hfr8 : frames rs ++ frame (sm r) = frames (rs ++ [sm r]) := by rw [frames_append]; simp [frames]
      rw [hsz8, hfr8] at hO8
      rw [hsz8]
      have hl8 : (rs ++ [sm r]).length = i + 1 := by simp [hrl]
      have hr8 : ∀ x ∈ rs ++ [sm r], x.length ≤ 3000 := by
        intro x hx
        rcases List.mem_append.1 hx with hx | hx
        · exact hrs x hx
        · simp at hx; subst hx; exact hsl
      exact ⟨⟨i + 1, rs ++ [sm r], a8, c8, ra5, by omega, by omega, by go_num, hl8, rfl, hO8, hJ8, hkw8, hr8⟩, by simp [intOf]; omega⟩
    · have hok := lst_ok (img := img) (rs := rs) him (by omega) hrs
      rcases (show ¬ i < rn ∨ (i < rn ∧ i = 60) by omega) with hge | ⟨hlt2, rfl⟩
      · have g1 : ¬ (i : Int) < (rn : Int) := by omega
        go_wp2_with fail
        refine (image_calls d (lst img rs) wr hJ.dev hok).mono ?_
        rintro e w4 ⟨hk4, he⟩
        rw [if_neg (by simp [lst])] at he
        obtain ⟨a4, c4, rfl, hO4⟩ := he
        have hJ4 := hJ.non hk4
        go_wp2_with fail
        refine (log_calls d (lst img rs) w4 hJ4.dev hok).mono ?_
        rintro e w5 ⟨hk5, he⟩
        rw [if_neg (by simp [lst])] at he
        obtain ⟨a5, c5, rfl, hO5⟩ := he
        have hkD : Kp Non w5 w5.drew := (Kp.refl _ _).drew
        have q5 := ((hkw.trans hk4).trans hk5).trans hkD
        have hB4 : Bytes w5.drew a4 (lst img rs).image.length c4 (frame img) := (hO4.bytes.non hk5).non hkD
        have hB5 : Bytes w5.drew a5 (lst img rs).log.length c5 (frames rs) := hO5.bytes.non hkD
        have hBw := (((hO.bytes.non hk4).non hk5)).non hkD
        have hBi := ((hbw.non hk4).non hk5).non hkD
        clear hk4 hO4 hJ4 hk5 hO5 hO hJ hkw hbw hkD
        go_wp2_with fail
        refine wp_region_chain2 7 [0,0,0,1,1,2,2,9,9,9,9,9,9,9,9,9,9] [9,9,9,9,9,9,9,0,0,0,0,0,0,0,1,2,2] (by kernel_rfl) (by kernel_rfl) (by kernel_rfl) (by kernel_rfl) (fun w' => Bytes w' a4 (lst img rs).image.length c4 (frame img)) (fun w' => Bytes w' a5 (lst img rs).log.length c5 (frames rs) ∧ Bytes w' wa (sizes rs) wc (frames rs)) hB4 ?_
        refine PB.out ?_
        repeat (first | (with_reducible refine pb_skip ?_) | ((with_reducible refine pb_k rfl ?_); intro K hK; apply Exists.intro; refine ⟨fun w' hC => ?_, ?_⟩; (have cv := conv_string w' _ _ _ _ hC; go_simp; rfl); go_simp; refine hK _ ?_; clear hK K))
        with_reducible refine pb_nil ?_
        simp only [List.take_succ_cons, List.take_zero]
        refine CB.out ?_
        repeat (with_reducible refine cb_skip ?_)
        with_reducible refine cb_step rfl fun K hK => ?_
        go_simp
        refine (refframe_calls a _ c img w5.drew hBi (by omega)).mono ?_
        rintro e w6 ⟨a6, c6, rfl, hO6, hk6⟩
        have cv6 := conv_string w6 _ _ _ _ hO6.bytes
        go_simp
        refine hK _ _ (fun _ => hB4.non hk6) ?_
        clear hK K
        with_reducible refine cb_step rfl fun K hK => ?_
        go_simp
        refine hK _ _ (fun _ => hB4.non hk6) ?_
        clear hK K
        with_reducible refine cb_step rfl fun K hK => ?_
        go_simp
        refine hK _ _ (fun h => by cases h) ?_
        clear hK K
        with_reducible refine cb_step rfl fun K hK => ?_
        go_simp
        refine hK _ _ (fun h => by cases h) ?_
        clear hK K
        with_reducible refine cb_nil ?_
        refine (And.intro ?_ ?_ : _ ∧ _)
        · exact ⟨hB5.non hk6, hBw.non hk6⟩
        refine PB.out ?_
        repeat (first | (with_reducible refine pb_skip ?_) | ((first | (with_reducible refine pb_k rfl ?_) | (refine pb_ky (by rfl) ?_)); intro K hK; apply Exists.intro; refine ⟨fun w' hC => ?_, ?_⟩; (have cv1 := conv_string w' _ _ _ _ hC.1; have cv2 := conv_string w' _ _ _ _ hC.2; go_simp; rfl); go_simp; refine hK _ ?_; clear hK K))
        with_reducible refine pb_nil ?_
        simp only [List.drop_succ_cons, List.drop_zero]
        refine CB.out ?_
        repeat (with_reducible refine cb_skip ?_)
        refine cb_ky (by rfl) fun K hK => ?_
        go_simp
        refine (HL.out _).mono ?_
        rintro e w7 ⟨rfl, hk7⟩
        go_simp
        refine hK _ _ (fun _ => ⟨(hB5.non hk6).non hk7, (hBw.non hk6).non hk7⟩) ?_
        clear hK K
        with_reducible refine cb_step rfl fun K hK => ?_
        go_simp
        refine hK _ _ (fun h => by cases h) ?_
        clear hK K
        with_reducible refine cb_step rfl fun K hK => ?_
        go_simp
        refine hK _ _ (fun h => by cases h) ?_
        clear hK K
        with_reducible refine cb_nil ?_
        go_wp2_with fail
        go_ret
        exact ⟨rfl, (q5.trans hk6).trans hk7⟩
      · have g1 : (60 : Int) < (rn : Int) := by omega
        have g1' : ((60 : Nat) : Int) < (rn : Int) := by omega
        have hx0 : 60 < l.length := by have := HN.out; omega
        obtain ⟨b, og, ea, ec, rfl, hcl, hbe⟩ := (hl.non hkw).at_ 60 l[60] (List.getElem?_eq_getElem hx0)
        generalize l[60] = r at *
        have g5 : 60 < rn := hlt2
        go_wp2_with fail
        refine (image_calls d (lst img rs) wr hJ.dev hok).mono ?_
        rintro e w4 ⟨hk4, he⟩
        rw [if_neg (by simp [lst])] at he
        obtain ⟨a4, c4, rfl, hO4⟩ := he
        have hJ4 := hJ.non hk4
        go_wp2_with fail
        refine (log_calls d (lst img rs) w4 hJ4.dev hok).mono ?_
        rintro e w5 ⟨hk5, he⟩
        rw [if_neg (by simp [lst])] at he
        obtain ⟨a5, c5, rfl, hO5⟩ := he
        have hkD : Kp Non w5 w5.drew := (Kp.refl _ _).drew
        have q5 := ((hkw.trans hk4).trans hk5).trans hkD
        have hB4 : Bytes w5.drew a4 (lst img rs).image.length c4 (frame img) := (hO4.bytes.non hk5).non hkD
        have hB5 : Bytes w5.drew a5 (lst img rs).log.length c5 (frames rs) := hO5.bytes.non hkD
        have hBw := (((hO.bytes.non hk4).non hk5)).non hkD
        have hBi := ((hbw.non hk4).non hk5).non hkD
        clear hk4 hO4 hJ4 hk5 hO5 hO hJ hkw hbw hkD
        go_wp2_with fail
        refine wp_region_chain2 7 [0,0,0,1,1,2,2,9,9,9,9,9,9,9,9,9,9] [9,9,9,9,9,9,9,0,0,0,0,0,0,0,1,2,2] (by kernel_rfl) (by kernel_rfl) (by kernel_rfl) (by kernel_rfl) (fun w' => Bytes w' a4 (lst img rs).image.length c4 (frame img)) (fun w' => Bytes w' a5 (lst img rs).log.length c5 (frames rs) ∧ Bytes w' wa (sizes rs) wc (frames rs)) hB4 ?_
        refine PB.out ?_
        repeat (first | (with_reducible refine pb_skip ?_) | ((with_reducible refine pb_k rfl ?_); intro K hK; apply Exists.intro; refine ⟨fun w' hC => ?_, ?_⟩; (have cv := conv_string w' _ _ _ _ hC; go_simp; rfl); go_simp; refine hK _ ?_; clear hK K))
        with_reducible refine pb_nil ?_
        simp only [List.take_succ_cons, List.take_zero]
        refine CB.out ?_
        repeat (with_reducible refine cb_skip ?_)
        with_reducible refine cb_step rfl fun K hK => ?_
        go_simp
        refine (refframe_calls a _ c img w5.drew hBi (by omega)).mono ?_
        rintro e w6 ⟨a6, c6, rfl, hO6, hk6⟩
        have cv6 := conv_string w6 _ _ _ _ hO6.bytes
        go_simp
        refine hK _ _ (fun _ => hB4.non hk6) ?_
        clear hK K
        with_reducible refine cb_step rfl fun K hK => ?_
        go_simp
        refine hK _ _ (fun _ => hB4.non hk6) ?_
        clear hK K
        with_reducible refine cb_step rfl fun K hK => ?_
        go_simp
        refine hK _ _ (fun h => by cases h) ?_
        clear hK K
        with_reducible refine cb_step rfl fun K hK => ?_
        go_simp
        refine hK _ _ (fun h => by cases h) ?_
        clear hK K
        with_reducible refine cb_nil ?_
        refine (And.intro ?_ ?_ : _ ∧ _)
        · exact ⟨hB5.non hk6, hBw.non hk6⟩
        refine PB.out ?_
        repeat (first | (with_reducible refine pb_skip ?_) | ((first | (with_reducible refine pb_k rfl ?_) | (refine pb_ky (by rfl) ?_)); intro K hK; apply Exists.intro; refine ⟨fun w' hC => ?_, ?_⟩; (have cv1 := conv_string w' _ _ _ _ hC.1; have cv2 := conv_string w' _ _ _ _ hC.2; go_simp; rfl); go_simp; refine hK _ ?_; clear hK K))
        with_reducible refine pb_nil ?_
        simp only [List.drop_succ_cons, List.drop_zero]
        refine CB.out ?_
        repeat (with_reducible refine cb_skip ?_)
        refine cb_ky (by rfl) fun K hK => ?_
        go_simp
        refine (HL.out _).mono ?_
        rintro e w7 ⟨rfl, hk7⟩
        go_simp
        refine hK _ _ (fun _ => ⟨(hB5.non hk6).non hk7, (hBw.non hk6).non hk7⟩) ?_
        clear hK K
        with_reducible refine cb_step rfl fun K hK => ?_
        go_simp
        refine hK _ _ (fun h => by cases h) ?_
        clear hK K
        with_reducible refine cb_step rfl fun K hK => ?_
        go_simp
        refine hK _ _ (fun h => by cases h) ?_
        clear hK K
        with_reducible refine cb_nil ?_
        go_wp2_with fail
        go_ret
        exact ⟨rfl, (q5.trans hk6).trans hk7⟩

open Go.ChangeShapes Go.WideShapes Go.ChangeAt
set_option maxRecDepth 100000 in
theorem journal_lays_lifted (os : Os) (started : os.Started) (H : Type) (enc : TypeId × Value → H) :
    ReturnsInHanded {} Try.checked os 13 .any (Rows.journalLaysSpec.pre6 enc Try.prog Try.f13 Rows.journalLaysRow.domain false) (Rows.journalLaysSpec.post enc Try.prog Try.f13 false true false false) := by
  refine returnsInHanded_of_change_sized (C := Try.checked) own started (by kernel_rfl) Try.func13
    (ChangeSpec.witness6 (enc := enc) (C := Try.checked) false ⟨#[], #[.slice none 0 0, .slice none 0 0], []⟩ 8 (by kernel_rfl) (by kernel_rfl) (by kernel_rfl) (by kernel_rfl)) ?_
  intro W base args ds gs before hval0 hW hcnd hsz0 _
  have hval : ∀ (j : Nat) t v, Try.f13.params[j]? = some t → args[j]? = some v → Value.okWide Try.prog W .any base t v := hval0
  have hsz : (DataW.weightsEach Try.prog (Try.f13.params.toList ++ Rows.journalLaysSpec.plain.varTypes Try.prog) (ds ++ gs)).all (· ≤ reachBytes) = true := hsz0
  have hW' := hW
  obtain ⟨p, q, hA0, hV, rfl, hfz, hnd⟩ := hW
  have hA : DataW.TrodAll enc Try.prog W 0 (fun _ => true) true Try.f13.params.toList args.toList ds p := hA0
  rw [Try.params13] at hA hval hsz
  obtain ⟨v0, vs0, d0, ds0, p0, q0, hargs, rfl, rfl, h0, r0⟩ := trodAll_cons hA
  obtain ⟨v1, vs1, d1, ds1, p1, q1, rfl, rfl, rfl, h1, r1⟩ := trodAll_cons r0
  obtain ⟨rfl, rfl, rfl⟩ := trodAll_nil r1
  obtain rfl : args = #[v0, v1] := by cases args; simp_all
  obtain ⟨rfl, rfl⟩ := trodVars_none hV
  have lt0 : ∀ x ∈ p0, x.block < W.heap.size := by obtain ⟨m, hm⟩ := h0; exact DataW.trod_lt m _ _ _ hm
  have k0 := h0
  obtain ⟨a0, n0, c0, rfl⟩ := okWide_slice Try.underlying22 (hval 0 22 v0 rfl rfl)
  obtain ⟨l0, b0⟩ := bytes_in h0
  have lt1 : ∀ x ∈ p1, x.block < W.heap.size := by obtain ⟨m, hm⟩ := h1; exact DataW.trod_lt m _ _ _ hm
  have k1 := h1
  obtain ⟨a1, n1, c1, rfl⟩ := okWide_slice Try.underlying59 (hval 1 59 v1 rfl rfl)
  obtain ⟨l1, b1⟩ := rows_in h1 (fun x hx => by
    have := List.all_eq_true.1 hsz x (DataW.weights_mem_each (j := 1) (t := 59) (d := d1) rfl rfl x hx)
    simpa using this)
  clear hA0 hval0 hsz0
  refine (jlays_walk a0 n0 c0 l0 a1 n1 c1 l1 W b0 b1).mono fun e W' ⟨he, hk⟩ => ?_
  have bel := hk.below
  subst he
  exact ⟨_, rfl, _, _, _, [], _, [], hW', trodAll_mk1 (shut_bool Try.underlying4 _), (trodAll_cons_mk (Below.trod laidOut (by kernel_rfl) (of_decide_eq_true (by kernel_rfl)) k0 bel lt0)
    (trodAll_cons_mk (Below.trod laidOut (by kernel_rfl) (of_decide_eq_true (by kernel_rfl)) k1 bel lt1)
    trodAll_mk0)), rfl, bel.frame _, fun h => by cases h⟩

theorem journal_lays : Rows.JournalLaysSaid :=
  OpenClaim.holds_of_wide 13 Try.f13 rfl rfl rfl rfl rfl rfl rfl ⟨rfl, rfl, rfl, rfl, rfl⟩ rfl rfl rfl rfl rfl (by kernel_rfl) Try.func13 (by kernel_rfl)
    (of_decide_eq_true (by kernel_rfl)) (by unfold Func.isWrapper; first | (rw [if_pos (by decide +kernel)]; kernel_rfl) | (rw [if_neg (by decide +kernel)]; exact ⟨rfl, rfl⟩))
    (fun os started H enc _ => journal_lays_lifted os started H enc)
#print axioms journal_lays
end Go.Proofs.Ytclbapmjhchokaa
