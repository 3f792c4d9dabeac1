/-
  JournalCrash: behind a crash at any time the last saved image is found, and a beginning of the records that has all that were sure. For every input.
-/
import Derived.Test.YtclbapmjhchokaaJC2
namespace Go.Proofs.Ytclbapmjhchokaa
open Go.RowKit

set_option maxRecDepth 100000 in
set_option maxHeartbeats 16000000 in
theorem jcrash_walk (l0 : Option Addr) (ln lc0 : Nat) (ll : List JOp) (keep : Int) (w : World) (hl : JOps w l0 ln lc0 ll) :
    Calls Try.prog 14 #[.slice l0 ln lc0, .int .i64 keep] w (TruePost w) := by
  have HL := Lib.hid (fun W => jlives_true W)
  have hsame := fun (w : World) (C : Array Value) (n c : Nat) => Lib.run_convert_bytes_const (P := Try.prog) w 22 5 C n c Try.underlying22 Try.underlying5
  have HN := Lib.hid hl.len
  have hlcap := hl.cap
  have hlmax := hl.max
  obtain ⟨i1, hi1, hy0, hy1, hy2⟩ := info_parts' info22
  obtain ⟨i9, hi9, hx0, hx1, hx2⟩ := info_parts' info9
  have hzc : (Value.slice none 0 0).cells = #[Value.slice none 0 0] := rfl
  have hzs : (Value.string ByteArray.empty).cells = #[Value.string ByteArray.empty] := rfl
  go_enter Try.func14, Try.ntmps14
  go_wp2_with fail
  refine (new_calls 300 w (by omega) (by omega)).mono ?_
  rintro e w1 ⟨rfl, hd1, hk1⟩
  generalize hgd : w.heap.size = d at *
  have hdw : w.heap.size ≤ d := by omega
  go_wp2_with fail
  have hkA : Kp Non w1 (w1.alloc (.cells #[.int .u8 102, .int .u8 105, .int .u8 114, .int .u8 115, .int .u8 116] 5 (5, 6))) := (Kp.refl _ _).alloc _
  refine (format_calls d d (St.new 300) _ 5 5 lfirst _ (hd1.non hkA) (St.new_ok 300 (by omega) (by omega)) (Bytes.ofCells (heap_alloc_new w1 _) rfl rfl (Nat.le_refl _) (by omega)) (by omega) (fun f => f) (Nat.le_refl _) (by have := hd1.lt; have := hkA.size; omega)).mono ?_
  rw [cr_new]
  rintro e w2 ⟨hd2, hk2, hf⟩
  rw [if_pos rfl] at hf
  obtain ⟨j, rfl, hJ2, _⟩ := hf
  replace hk2 := Kp.dev (hk1.trans hkA) hdw hk2
  replace hJ2 : Jou Non d w2 j d { St.new 300 with image := frame lfirst } ⟨lfirst, [], false⟩ none := hJ2
  generalize hs0 : ({ St.new 300 with image := frame lfirst } : St) = s0 at *
  have hup0 : Up s0 lfirst [] 0 := hs0 ▸ cr_up
  have hkB : Kp Non w2 (w2.alloc (.cells #[.string ⟨#[102, 105, 114, 115, 116]⟩] 9)) := (Kp.refl _ _).alloc _
  have hR0 : CRel (Stands s0 ⟨lfirst, [], false⟩ lfirst [] 0) w (w2.alloc (.cells #[.string ⟨#[102, 105, 114, 115, 116]⟩] 9)) d j 0 s0 ⟨lfirst, [], false⟩ lfirst [] 0 none (some ⟨w2.heap.size, 0, none⟩) 0 1 [.string ⟨#[102, 105, 114, 115, 116]⟩] none 0 [] := by
    refine ⟨hJ2.non hkB, .inl ⟨hup0, rfl⟩, Nat.le_refl _, ⟨rfl, ?_, .inr ⟨w2.heap.size, _, rfl, heap_alloc_new w2 _, Nat.le_refl _, by unfold maxLen; omega, rfl, rfl, ?_⟩⟩, rfl, Nat.le_refl _, SRow.nil _ _, Recs.nil _, ?_, ?_, hk2.trans hkB, hdw, Nat.le_refl _⟩
    · intro v hv; simp at hv; subst hv; exact NB.str _
    · intro v hv; simp at hv; subst hv; exact NB.str _
    · rintro k ⟨_, q, _⟩; cases q
    · rintro k ⟨_, q1, q2⟩
      cases q1
      have q2 : w2.heap.size = k := q2
      rw [← q2]; exact hk2.size
  clear hk1 hkA hd1 hd2 hgd hJ2
  go_wp2_with fail
  generalize w2.alloc (.cells #[.string ⟨#[102, 105, 114, 115, 116]⟩] 9) = w3 at *
  generalize hia0 : (some ⟨w2.heap.size, 0, none⟩ : Option Addr) = ia0 at *
  go_loopw [8, 9, 10, 35] (fun v8 v9 v10 v35 wr => ∃ (i : Nat) (s : St) (J : JSt) (img : List UInt8) (all : List (List UInt8)) (n : Nat) (ra ia : Option Addr) (m ic : Nat) (svs : List Value) (la : Option Addr) (lc : Nat) (avs : List Value),
    i ≤ ln ∧ i ≤ 60 ∧ v35 = .int .i64 i ∧ v8 = .slice ia (m + 1) ic ∧ v9 = .slice la all.length lc ∧ v10 = .int .i64 n ∧ CRel (Stands s J img all n) w wr d j i s J img all n ra ia m ic svs la lc avs) (fun _ _ _ v35 _ => ln - (intOf v35).toNat)
  case atStart => exact ⟨0, s0, _, lfirst, [], 0, none, ia0, 0, 1, _, none, 0, [], Nat.zero_le _, Nat.zero_le _, rfl, rfl, rfl, rfl, hR0⟩
  case round =>
    obtain ⟨i, s, J, img, all, n, ra, ia, m, ic, svs, la, lc, avs, hi, hi60, rfl, rfl, rfl, rfl, hR⟩ := hrel
    clear hR0 hup0 hs0 hk2 hkB
    by_cases hlt : i < ln
    · have g1 : (i : Int) < (ln : Int) := by omega
      have g2 : (0 : Int) ≤ (i : Int) := by omega
      have v6 : IntKind.i64.wrap ((i : Int) + 1) = (i : Int) + 1 := IntWalk.i64_in _ (by omega)
      have hx0' : i < ll.length := by have := HN.out; omega
      obtain ⟨b, o, pa, pc, rfl, hA⟩ := (hl.non hR.kp).at_ i ll[i] (List.getElem?_eq_getElem hx0')
      generalize ll[i] = q at hA
      have c0 := hA.c0
      have c1 := hA.c1
      have c2 := hA.c2
      have hkW : Kp Non wr (wr.alloc (.cells #[.int .i64 q.kind, .int .i64 q.n, .slice pa q.b.length pc] 71)) := (Kp.refl _ _).alloc _
      have hRA := hR.non hkW
      have hbA := hA.bytes.non hkW
      have hqok := hA.ok
      have hB := heap_alloc_new wr (Obj.cells #[.int .i64 q.kind, .int .i64 q.n, .slice pa q.b.length pc] 71)
      have y0 : (wr.alloc (.cells #[.int .i64 q.kind, .int .i64 q.n, .slice pa q.b.length pc] 71)).cell? ⟨wr.heap.size, 0, none⟩ = some (.int .i64 q.kind) := cell_of_row _ _ 0 _ _ _ hB
      have y1 : (wr.alloc (.cells #[.int .i64 q.kind, .int .i64 q.n, .slice pa q.b.length pc] 71)).cell? ⟨wr.heap.size, 1, none⟩ = some (.int .i64 q.n) := cell_of_row _ _ 1 _ _ _ hB
      have y2 : (wr.alloc (.cells #[.int .i64 q.kind, .int .i64 q.n, .slice pa q.b.length pc] 71)).cell? ⟨wr.heap.size, 2, none⟩ = some (.slice pa q.b.length pc) := cell_of_row _ _ 2 _ _ _ hB
      clear hB hA
      by_cases hi6 : i = 60
      · subst hi6
        have g3 : (60 : Int) ≤ ((60 : Nat) : Int) := by omega
        clear hR
        go_wp2_with fail
        have hE := hRA.st.end_
        obtain ⟨k, s', hnk, hka, hop⟩ := hE.opens keep
        have hok := hE.ok
        have hnl := hRA.nl
        have hml := hRA.ml
        have hil := hE.il
        have hrl := hE.rl
        have hal := hRA.al
        have HhRA := Lib.hid hRA
        refine (crash_calls d s keep _ hRA.jou.dev hok).mono ?_
        rintro e w6 ⟨rfl, hd6, hk6⟩
        obtain ⟨_, ra6, hR6, _⟩ := HhRA.out.call (Y := True) (e := .returned (.int .i64 0)) (r := (0, s.crash keep, J)) ⟨rfl, ra, fun _ h => .inl h, HhRA.out.jou.step hk6 hd6, hk6.js⟩ trivial
        go_wp2_with fail
        refine (open_calls d d (s.crash keep) w6 hd6 (hok.crash keep) (fun f => f) (Nat.le_refl _) (Nat.le_of_lt hd6.lt)).mono ?_
        rw [hop]
        rintro e w7 ⟨hd7, hk7, hf⟩
        rw [if_pos rfl] at hf
        obtain ⟨j2, ra7, rfl, hJ7, _, _⟩ := hf
        obtain ⟨_, ra8, hR7, _⟩ := hR6.call (Y := True) (e := .returned (.int .i64 0)) (r := (0, s', J)) ⟨rfl, ra6, fun _ h => .inl h, hR6.jou.step hk7 hd7, hk7.js⟩ trivial
        replace hJ7 : Jou Non d w7 j2 d s' ⟨img, all.take k, false⟩ ra7 := hJ7
        have hkD : Kp Non w7 w7.drew := (Kp.refl _ _).drew
        have hJD := hJ7.non hkD
        have hRD := hR7.non hkD
        have hrows := Recs.rows hRD.ar hRD.rcs
        have hq7 := hRD.kp
        obtain ⟨gI, hgI, hcI⟩ := hRD.im.cl hRD.last
        have hcap := hRD.im.cap
        subst hgI
        have w1f : IntKind.i64.wrap (((m + 1 : Nat) : Int) - 1) = (m : Int) := by rw [IntWalk.i64_in _ (by omega)]; omega
        have w2f : IntKind.i64.wrap ((m : Int) + 1 - 1) = (m : Int) := by rw [IntWalk.i64_in _ (by omega)]; omega
        have w5f : IntKind.i64.wrap (m : Int) = (m : Int) := IntWalk.i64_in _ (by omega)
        have w3f : (m : Int) < (m : Int) + 1 := by omega
        have w4f : (0 : Int) ≤ (m : Int) := by omega
        have e1 : (img == img) = true := by simp
        clear hE hop hRA hR6 hR7 hd6 hd7 hk6 hk7 hJ7
        go_wp2_with fail
        refine wp_region_chain [0,0,0,0,1,1,0,0,0,0,0,0,2,2] (by kernel_rfl) (by kernel_rfl) (fun w' => w'.cell? ⟨gI, m, none⟩ = some (.string ⟨img.toArray⟩)) hcI ?_
        refine PB.out ?_
        repeat (first | (with_reducible refine pb_skip ?_) | ((first | (with_reducible refine pb_k rfl ?_) | (refine pb_ky (by rfl) ?_)); intro K hK; apply Exists.intro; refine ⟨fun w' hC => ?_, ?_⟩; (go_simp; rfl); go_simp; refine hK _ ?_; clear hK K))
        with_reducible refine pb_nil ?_
        refine CB.out ?_
        repeat (with_reducible refine cb_skip ?_)
        refine cb_ky (by rfl) fun K hK => ?_
        go_simp
        refine (jimage_calls hJD (by show img.length ≤ _; omega)).mono ?_
        rintro e w8 ⟨a8, c8, rfl, hO8, hk8⟩
        have cv8 := conv_string w8 _ _ _ _ hO8.bytes
        replace cv8 : (convert 22 9 (.slice a8 img.length c8)).run Try.prog w8 = .ok (.string ⟨img.toArray⟩) w8 := cv8
        have hc8 := hk8.cell hcI (fun f => f)
        go_simp
        refine hK _ _ (fun _ => hc8) ?_
        clear hK K
        repeat (with_reducible refine cb_skip ?_)
        refine cb_ky (by rfl) fun K hK => ?_
        go_simp
        refine hK _ _ (fun _ => hc8) ?_
        clear hK K
        repeat (with_reducible refine cb_skip ?_)
        refine cb_ky (by rfl) fun K hK => ?_
        go_simp
        refine hK _ _ (fun h => by cases h) ?_
        clear hK K
        with_reducible refine cb_step rfl fun K hK => ?_
        go_simp
        refine hK _ _ (fun h => by cases h) ?_
        clear hK K
        with_reducible refine cb_nil ?_
        go_wp2_with fail
        refine (jrecords_calls (hJD.non hk8) (fun r hr => by have := hrl r (List.mem_of_mem_take hr); omega) (by show (all.take k).length ≤ _; simp; omega)).mono ?_
        rintro e w9 ⟨a9, c9, v9, rfl, hS9, hR9, _, hk9⟩
        have hrw9 := Recs.rows hS9 hR9
        have hrt9 := ((hrows.non hk8).non hk9).take (k := k) hka
        have hlk : (all.take k).length = k := by rw [List.length_take]; omega
        replace hrw9 : RowsB w9 a9 (all.take k).length c9 (all.take k) := hrw9
        rw [hlk] at hrw9
        have hsm := same_true a9 k c9 la lc (all.take k) w9 hrw9 hrt9
        have x1 : (n : Int) ≤ (k : Int) := by omega
        have x2 : (k : Int) ≤ (all.length : Int) := by omega
        have x3 : n ≤ k := hnk
        have x4 : k ≤ all.length := hka
        have x5 : (0 : Int) ≤ (k : Int) := by omega
        have x6 : k ≤ lc := by have := hrows.cap; omega
        have x7 : (k : Int) ≤ (lc : Int) := by omega
        rw [show ((⟨img, all.take k, false⟩ : JSt).recs.length) = k from hlk]
        go_wp2_with fail
        refine hsm.mono ?_
        rintro e wA ⟨rfl, hkA⟩
        go_wp2_with fail
        refine (HL.out _).mono ?_
        rintro e wB ⟨rfl, hkB⟩
        go_wp2_with fail
        go_ret
        exact ⟨rfl, (((hq7.trans hk8).trans hk9).trans hkA).trans hkB⟩
      · have g3 : decide ((60 : Int) ≤ (i : Int)) = false := by simp; omega
        have g4 : ¬ 60 ≤ i := by omega
        have hJd := jdown_calls hRA.jou
        clear hR
        go_wp2_with fail
        refine hJd.mono ?_
        rintro e w4 ⟨rfl, rfl⟩
        by_cases hdn : J.down = true
        · rw [hdn]
          go_wp2_with fail
          have hE := hRA.st.end_
          obtain ⟨k, s', hnk, hka, hop⟩ := hE.opens keep
          have hok := hE.ok
          have hnl := hRA.nl
          have hml := hRA.ml
          have hil := hE.il
          have hrl := hE.rl
          have hal := hRA.al
          have HhRA := Lib.hid hRA
          refine (crash_calls d s keep _ hRA.jou.dev hok).mono ?_
          rintro e w6 ⟨rfl, hd6, hk6⟩
          obtain ⟨_, ra6, hR6, _⟩ := HhRA.out.call (Y := True) (e := .returned (.int .i64 0)) (r := (0, s.crash keep, J)) ⟨rfl, ra, fun _ h => .inl h, HhRA.out.jou.step hk6 hd6, hk6.js⟩ trivial
          go_wp2_with fail
          refine (open_calls d d (s.crash keep) w6 hd6 (hok.crash keep) (fun f => f) (Nat.le_refl _) (Nat.le_of_lt hd6.lt)).mono ?_
          rw [hop]
          rintro e w7 ⟨hd7, hk7, hf⟩
          rw [if_pos rfl] at hf
          obtain ⟨j2, ra7, rfl, hJ7, _, _⟩ := hf
          obtain ⟨_, ra8, hR7, _⟩ := hR6.call (Y := True) (e := .returned (.int .i64 0)) (r := (0, s', J)) ⟨rfl, ra6, fun _ h => .inl h, hR6.jou.step hk7 hd7, hk7.js⟩ trivial
          replace hJ7 : Jou Non d w7 j2 d s' ⟨img, all.take k, false⟩ ra7 := hJ7
          have hkD : Kp Non w7 w7.drew := (Kp.refl _ _).drew
          have hJD := hJ7.non hkD
          have hRD := hR7.non hkD
          have hrows := Recs.rows hRD.ar hRD.rcs
          have hq7 := hRD.kp
          obtain ⟨gI, hgI, hcI⟩ := hRD.im.cl hRD.last
          have hcap := hRD.im.cap
          subst hgI
          have w1f : IntKind.i64.wrap (((m + 1 : Nat) : Int) - 1) = (m : Int) := by rw [IntWalk.i64_in _ (by omega)]; omega
          have w2f : IntKind.i64.wrap ((m : Int) + 1 - 1) = (m : Int) := by rw [IntWalk.i64_in _ (by omega)]; omega
          have w5f : IntKind.i64.wrap (m : Int) = (m : Int) := IntWalk.i64_in _ (by omega)
          have w3f : (m : Int) < (m : Int) + 1 := by omega
          have w4f : (0 : Int) ≤ (m : Int) := by omega
          have e1 : (img == img) = true := by simp
          clear hE hop hRA hR6 hR7 hd6 hd7 hk6 hk7 hJ7
          go_wp2_with fail
          refine wp_region_chain [0,0,0,0,1,1,0,0,0,0,0,0,2,2] (by kernel_rfl) (by kernel_rfl) (fun w' => w'.cell? ⟨gI, m, none⟩ = some (.string ⟨img.toArray⟩)) hcI ?_
          refine PB.out ?_
          repeat (first | (with_reducible refine pb_skip ?_) | ((first | (with_reducible refine pb_k rfl ?_) | (refine pb_ky (by rfl) ?_)); intro K hK; apply Exists.intro; refine ⟨fun w' hC => ?_, ?_⟩; (go_simp; rfl); go_simp; refine hK _ ?_; clear hK K))
          with_reducible refine pb_nil ?_
          refine CB.out ?_
          repeat (with_reducible refine cb_skip ?_)
          refine cb_ky (by rfl) fun K hK => ?_
          go_simp
          refine (jimage_calls hJD (by show img.length ≤ _; omega)).mono ?_
          rintro e w8 ⟨a8, c8, rfl, hO8, hk8⟩
          have cv8 := conv_string w8 _ _ _ _ hO8.bytes
          replace cv8 : (convert 22 9 (.slice a8 img.length c8)).run Try.prog w8 = .ok (.string ⟨img.toArray⟩) w8 := cv8
          have hc8 := hk8.cell hcI (fun f => f)
          go_simp
          refine hK _ _ (fun _ => hc8) ?_
          clear hK K
          repeat (with_reducible refine cb_skip ?_)
          refine cb_ky (by rfl) fun K hK => ?_
          go_simp
          refine hK _ _ (fun _ => hc8) ?_
          clear hK K
          repeat (with_reducible refine cb_skip ?_)
          refine cb_ky (by rfl) fun K hK => ?_
          go_simp
          refine hK _ _ (fun h => by cases h) ?_
          clear hK K
          with_reducible refine cb_step rfl fun K hK => ?_
          go_simp
          refine hK _ _ (fun h => by cases h) ?_
          clear hK K
          with_reducible refine cb_nil ?_
          go_wp2_with fail
          refine (jrecords_calls (hJD.non hk8) (fun r hr => by have := hrl r (List.mem_of_mem_take hr); omega) (by show (all.take k).length ≤ _; simp; omega)).mono ?_
          rintro e w9 ⟨a9, c9, v9, rfl, hS9, hR9, _, hk9⟩
          have hrw9 := Recs.rows hS9 hR9
          have hrt9 := ((hrows.non hk8).non hk9).take (k := k) hka
          have hlk : (all.take k).length = k := by rw [List.length_take]; omega
          replace hrw9 : RowsB w9 a9 (all.take k).length c9 (all.take k) := hrw9
          rw [hlk] at hrw9
          have hsm := same_true a9 k c9 la lc (all.take k) w9 hrw9 hrt9
          have x1 : (n : Int) ≤ (k : Int) := by omega
          have x2 : (k : Int) ≤ (all.length : Int) := by omega
          have x3 : n ≤ k := hnk
          have x4 : k ≤ all.length := hka
          have x5 : (0 : Int) ≤ (k : Int) := by omega
          have x6 : k ≤ lc := by have := hrows.cap; omega
          have x7 : (k : Int) ≤ (lc : Int) := by omega
          rw [show ((⟨img, all.take k, false⟩ : JSt).recs.length) = k from hlk]
          go_wp2_with fail
          refine hsm.mono ?_
          rintro e wA ⟨rfl, hkA⟩
          go_wp2_with fail
          refine (HL.out _).mono ?_
          rintro e wB ⟨rfl, hkB⟩
          go_wp2_with fail
          go_ret
          exact ⟨rfl, (((hq7.trans hk8).trans hk9).trans hkA).trans hkB⟩
        · have hdn' : J.down = false := by simpa using hdn
          obtain ⟨hup, hJe⟩ := hRA.st.up hdn'
          rw [hdn']
          subst hJe
          have hbs := hbA.small
          have hsl := sm_len q.b
          have hmn : min q.b.length 3000 = (sm q.b).length := hbs.len
          rw [hmn] at hbs
          have hss := bytes_sizes hup
          have hok := hup.ok
          have hal := hRA.al
          go_wp2_with fail
          refine (small_calls pa q.b.length pc q.b _ hbA).mono ?_
          rintro e w4 ⟨rfl, he4⟩
          subst he4
          rw [hmn]
          generalize wr.alloc (.cells #[.int .i64 q.kind, .int .i64 q.n, .slice pa q.b.length pc] 71) = wq at *
          generalize sm q.b = bb at *
          rcases (show q.kind = 1 ∨ q.kind = 2 ∨ q.kind = 3 ∨ q.kind = 4 ∨ (q.kind ≠ 1 ∧ q.kind ≠ 2 ∧ q.kind ≠ 3 ∧ q.kind ≠ 4) by omega) with hk | hk | hk | hk | ⟨hk, hk2, hk3, hk4⟩
          · rw [hk] at y0
            have HU := Lib.hid (up_add hup hsl)
            go_wp2_with fail
            refine (jadd_calls hRA.jou hok pa bb.length pc bb hbs hss).mono ?_
            rintro e w5 hp
            rcases HU.out with ⟨hc, hst⟩ | ⟨hc, hst⟩
            · obtain ⟨he, ra5, hR5, hB5⟩ := hRA.call hp hst
              have hb5 := hB5 _ _ _ _ hbs
              have hkC : Kp Non w5 (w5.alloc (.cells #[.slice pa bb.length pc] 22)) := (Kp.refl _ _).alloc _
              have hR6 := hR5.non hkC
              have hcA := cell_of_row _ _ 0 _ _ _ (heap_alloc_new w5 (Obj.cells #[.slice pa bb.length pc] 22))
              have hb6 := hb5.non hkC
              have hS6 := hR6.ar
              have hnl := hRA.nl
              have fin : ∀ a7 c7 w7, SRow w7 22 a7 (all.length + 1) c7 (avs ++ [Value.slice pa bb.length pc]) → Kp (Blk la) (w5.alloc (.cells #[.slice pa bb.length pc] 22)) w7 → (a7 = la ∨ a7 = some ⟨(w5.alloc (.cells #[.slice pa bb.length pc] 22)).heap.size, 0, none⟩) → _ := fun a7 c7 w7 h1 h2 h3 => hR6.more hb6 rfl h1 h2 h3 hst (Nat.le_succ_of_le hnl)
              have FIN := Lib.hid fin
              clear fin hR5 hR6
              have hll : (all ++ [bb]).length = all.length + 1 := by simp
              rcases hc with hc | hc
              · rw [hc] at he
                subst he
                go_wp2_with ((at_builtin; refine wpList_append_srow rfl _ _ 59 rfl 22 i1 (.slice none 0 0) 24 Try.underlying59 hi1 hy0 hy1 hy2 hzc (NB.slice _ _ _) la all.length lc avs rfl hS6 ⟨w5.heap.size, 0, none⟩ 1 (.slice pa bb.length pc) rfl hcA rfl (NB.slice _ _ _) (by omega) (by omega) ?_; intro a7 c7 w7 hS7 hk7 ha7))
                exact ⟨⟨i + 1, _, _, img, all ++ [bb], n, ra5, ia, m, ic, svs, a7, c7, _, by omega, by omega, by go_num, rfl, by rw [hll], rfl, FIN.out a7 c7 w7 hS7 hk7 ha7⟩, by simp [intOf]; omega⟩
              · rw [hc] at he
                subst he
                go_wp2_with ((at_builtin; refine wpList_append_srow rfl _ _ 59 rfl 22 i1 (.slice none 0 0) 24 Try.underlying59 hi1 hy0 hy1 hy2 hzc (NB.slice _ _ _) la all.length lc avs rfl hS6 ⟨w5.heap.size, 0, none⟩ 1 (.slice pa bb.length pc) rfl hcA rfl (NB.slice _ _ _) (by omega) (by omega) ?_; intro a7 c7 w7 hS7 hk7 ha7))
                exact ⟨⟨i + 1, _, _, img, all ++ [bb], n, ra5, ia, m, ic, svs, a7, c7, _, by omega, by omega, by go_num, rfl, by rw [hll], rfl, FIN.out a7 c7 w7 hS7 hk7 ha7⟩, by simp [intOf]; omega⟩
            · obtain ⟨he, ra5, hR5, _⟩ := hRA.call hp hst
              rw [hc] at he
              subst he
              go_wp2_with fail
              exact ⟨⟨i + 1, _, _, img, all, n, ra5, ia, m, ic, svs, la, lc, avs, by omega, by omega, by go_num, rfl, rfl, rfl, hR5.next⟩, by simp [intOf]; omega⟩
          · rw [hk] at y0
            have HU := Lib.hid (up_sync hup)
            go_wp2_with fail
            refine (jsync_calls hRA.jou hok).mono ?_
            rintro e w5 hp
            rcases HU.out with ⟨hc, hst⟩ | ⟨hc, hst⟩
            · obtain ⟨he, ra5, hR5, _⟩ := hRA.call hp hst
              have hR6 := hR5.sure (Nat.le_refl all.length)
              rw [hc] at he
              subst he
              go_wp2_with fail
              exact ⟨⟨i + 1, _, _, img, all, all.length, ra5, ia, m, ic, svs, la, lc, avs, by omega, by omega, by go_num, rfl, rfl, rfl, hR6.next⟩, by simp [intOf]; omega⟩
            · obtain ⟨he, ra5, hR5, _⟩ := hRA.call hp hst
              rw [hc] at he
              subst he
              go_wp2_with fail
              exact ⟨⟨i + 1, _, _, img, all, n, ra5, ia, m, ic, svs, la, lc, avs, by omega, by omega, by go_num, rfl, rfl, rfl, hR5.next⟩, by simp [intOf]; omega⟩
          · rw [hk] at y0
            have HU := Lib.hid (up_save hup hsl)
            go_wp2_with fail
            refine (jsave_calls hRA.jou hok pa bb.length pc bb hbs (by omega)).mono ?_
            rintro e w5 hp
            rcases HU.out with ⟨hc, hst⟩ | ⟨hc, hst⟩
            · obtain ⟨he, ra5, hR5, hB5⟩ := hRA.call hp hst
              have hb5 := hB5 _ _ _ _ hbs
              have cv5 := conv_string w5 _ _ _ _ hb5
              have hkC : Kp Non w5 (w5.alloc (.cells #[.string ⟨bb.toArray⟩] 9)) := (Kp.refl _ _).alloc _
              have hR6 := hR5.non hkC
              have hcA := cell_of_row _ _ 0 _ _ _ (heap_alloc_new w5 (Obj.cells #[.string ⟨bb.toArray⟩] 9))
              have hS6 := hR6.im
              have hml := hRA.ml
              have fin : ∀ a7 c7 w7, SRow w7 9 a7 (m + 1 + 1) c7 (svs ++ [Value.string ⟨bb.toArray⟩]) → Kp (Blk ia) (w5.alloc (.cells #[.string ⟨bb.toArray⟩] 9)) w7 → (a7 = ia ∨ a7 = some ⟨(w5.alloc (.cells #[.string ⟨bb.toArray⟩] 9)).heap.size, 0, none⟩) → _ := fun a7 c7 w7 h1 h2 h3 => hR6.saved h1 h2 h3 hst
              have FIN := Lib.hid fin
              clear fin hR5 hR6
              rw [hc] at he
              subst he
              go_wp2_with ((at_builtin; refine wpList_append_srow rfl _ _ 69 rfl 9 i9 (.string ByteArray.empty) 16 Try.underlying69 hi9 hx0 hx1 hx2 hzs (NB.str _) ia (m + 1) ic svs rfl hS6 ⟨w5.heap.size, 0, none⟩ 1 (.string ⟨bb.toArray⟩) rfl hcA rfl (NB.str _) (by omega) (by omega) ?_; intro a7 c7 w7 hS7 hk7 ha7))
              exact ⟨⟨i + 1, _, _, bb, [], 0, ra5, a7, m + 1, c7, _, none, 0, [], by omega, by omega, by go_num, rfl, rfl, rfl, FIN.out a7 c7 w7 hS7 hk7 ha7⟩, by simp [intOf]; omega⟩
            · obtain ⟨he, ra5, hR5, _⟩ := hRA.call hp hst
              rcases hc with hc | hc
              · rw [hc] at he
                subst he
                go_wp2_with fail
                exact ⟨⟨i + 1, _, _, img, all, n, ra5, ia, m, ic, svs, la, lc, avs, by omega, by omega, by go_num, rfl, rfl, rfl, hR5.next⟩, by simp [intOf]; omega⟩
              · rw [hc] at he
                subst he
                go_wp2_with fail
                exact ⟨⟨i + 1, _, _, img, all, n, ra5, ia, m, ic, svs, la, lc, avs, by omega, by omega, by go_num, rfl, rfl, rfl, hR5.next⟩, by simp [intOf]; omega⟩
          · rw [hk] at y0
            have hus := up_stop hup q.n hqok.n1
            go_wp2_with fail
            refine (stop_calls d s q.n wq hRA.jou.dev).mono ?_
            rintro e w5 ⟨rfl, hd5, hk5⟩
            obtain ⟨_, ra5, hR5, _⟩ := hRA.call (Y := Stands { s with stop := max q.n (-1) } ⟨img, all, false⟩ img all n) (e := .returned (.int .i64 0)) (r := (0, { s with stop := max q.n (-1) }, ⟨img, all, false⟩)) ⟨rfl, ra, fun _ h => .inl h, hRA.jou.step hk5 hd5, hk5.js⟩ (.inl ⟨hus, rfl⟩)
            go_wp2_with fail
            exact ⟨⟨i + 1, _, _, img, all, n, ra5, ia, m, ic, svs, la, lc, avs, by omega, by omega, by go_num, rfl, rfl, rfl, hR5.next⟩, by simp [intOf]; omega⟩
          · have t1 : (q.kind == 1) = false := by simp [hk]
            have t2 : (q.kind == 2) = false := by simp [hk2]
            have t3 : (q.kind == 3) = false := by simp [hk3]
            have t4 : (q.kind == 4) = false := by simp [hk4]
            go_wp2_with fail
            exact ⟨⟨i + 1, _, _, img, all, n, ra, ia, m, ic, svs, la, lc, avs, by omega, by omega, by go_num, rfl, rfl, rfl, hRA.next⟩, by simp [intOf]; omega⟩
    · have g1 : ¬ (i : Int) < (ln : Int) := by omega
      go_wp2_with fail
      have hE := hR.st.end_
      obtain ⟨k, s', hnk, hka, hop⟩ := hE.opens keep
      have hok := hE.ok
      have hnl := hR.nl
      have hml := hR.ml
      have hil := hE.il
      have hrl := hE.rl
      have hal := hR.al
      have HhR := Lib.hid hR
      refine (crash_calls d s keep _ hR.jou.dev hok).mono ?_
      rintro e w6 ⟨rfl, hd6, hk6⟩
      obtain ⟨_, ra6, hR6, _⟩ := HhR.out.call (Y := True) (e := .returned (.int .i64 0)) (r := (0, s.crash keep, J)) ⟨rfl, ra, fun _ h => .inl h, HhR.out.jou.step hk6 hd6, hk6.js⟩ trivial
      go_wp2_with fail
      refine (open_calls d d (s.crash keep) w6 hd6 (hok.crash keep) (fun f => f) (Nat.le_refl _) (Nat.le_of_lt hd6.lt)).mono ?_
      rw [hop]
      rintro e w7 ⟨hd7, hk7, hf⟩
      rw [if_pos rfl] at hf
      obtain ⟨j2, ra7, rfl, hJ7, _, _⟩ := hf
      obtain ⟨_, ra8, hR7, _⟩ := hR6.call (Y := True) (e := .returned (.int .i64 0)) (r := (0, s', J)) ⟨rfl, ra6, fun _ h => .inl h, hR6.jou.step hk7 hd7, hk7.js⟩ trivial
      replace hJ7 : Jou Non d w7 j2 d s' ⟨img, all.take k, false⟩ ra7 := hJ7
      have hkD : Kp Non w7 w7.drew := (Kp.refl _ _).drew
      have hJD := hJ7.non hkD
      have hRD := hR7.non hkD
      have hrows := Recs.rows hRD.ar hRD.rcs
      have hq7 := hRD.kp
      obtain ⟨gI, hgI, hcI⟩ := hRD.im.cl hRD.last
      have hcap := hRD.im.cap
      subst hgI
      have w1f : IntKind.i64.wrap (((m + 1 : Nat) : Int) - 1) = (m : Int) := by rw [IntWalk.i64_in _ (by omega)]; omega
      have w2f : IntKind.i64.wrap ((m : Int) + 1 - 1) = (m : Int) := by rw [IntWalk.i64_in _ (by omega)]; omega
      have w5f : IntKind.i64.wrap (m : Int) = (m : Int) := IntWalk.i64_in _ (by omega)
      have w3f : (m : Int) < (m : Int) + 1 := by omega
      have w4f : (0 : Int) ≤ (m : Int) := by omega
      have e1 : (img == img) = true := by simp
      clear hE hop hR hR6 hR7 hd6 hd7 hk6 hk7 hJ7
      go_wp2_with fail
      refine wp_region_chain [0,0,0,0,1,1,0,0,0,0,0,0,2,2] (by kernel_rfl) (by kernel_rfl) (fun w' => w'.cell? ⟨gI, m, none⟩ = some (.string ⟨img.toArray⟩)) hcI ?_
      refine PB.out ?_
      repeat (first | (with_reducible refine pb_skip ?_) | ((first | (with_reducible refine pb_k rfl ?_) | (refine pb_ky (by rfl) ?_)); intro K hK; apply Exists.intro; refine ⟨fun w' hC => ?_, ?_⟩; (go_simp; rfl); go_simp; refine hK _ ?_; clear hK K))
      with_reducible refine pb_nil ?_
      refine CB.out ?_
      repeat (with_reducible refine cb_skip ?_)
      refine cb_ky (by rfl) fun K hK => ?_
      go_simp
      refine (jimage_calls hJD (by show img.length ≤ _; omega)).mono ?_
      rintro e w8 ⟨a8, c8, rfl, hO8, hk8⟩
      have cv8 := conv_string w8 _ _ _ _ hO8.bytes
      replace cv8 : (convert 22 9 (.slice a8 img.length c8)).run Try.prog w8 = .ok (.string ⟨img.toArray⟩) w8 := cv8
      have hc8 := hk8.cell hcI (fun f => f)
      go_simp
      refine hK _ _ (fun _ => hc8) ?_
      clear hK K
      repeat (with_reducible refine cb_skip ?_)
      refine cb_ky (by rfl) fun K hK => ?_
      go_simp
      refine hK _ _ (fun _ => hc8) ?_
      clear hK K
      repeat (with_reducible refine cb_skip ?_)
      refine cb_ky (by rfl) fun K hK => ?_
      go_simp
      refine hK _ _ (fun h => by cases h) ?_
      clear hK K
      with_reducible refine cb_step rfl fun K hK => ?_
      go_simp
      refine hK _ _ (fun h => by cases h) ?_
      clear hK K
      with_reducible refine cb_nil ?_
      go_wp2_with fail
      refine (jrecords_calls (hJD.non hk8) (fun r hr => by have := hrl r (List.mem_of_mem_take hr); omega) (by show (all.take k).length ≤ _; simp; omega)).mono ?_
      rintro e w9 ⟨a9, c9, v9, rfl, hS9, hR9, _, hk9⟩
      have hrw9 := Recs.rows hS9 hR9
      have hrt9 := ((hrows.non hk8).non hk9).take (k := k) hka
      have hlk : (all.take k).length = k := by rw [List.length_take]; omega
      replace hrw9 : RowsB w9 a9 (all.take k).length c9 (all.take k) := hrw9
      rw [hlk] at hrw9
      have hsm := same_true a9 k c9 la lc (all.take k) w9 hrw9 hrt9
      have x1 : (n : Int) ≤ (k : Int) := by omega
      have x2 : (k : Int) ≤ (all.length : Int) := by omega
      have x3 : n ≤ k := hnk
      have x4 : k ≤ all.length := hka
      have x5 : (0 : Int) ≤ (k : Int) := by omega
      have x6 : k ≤ lc := by have := hrows.cap; omega
      have x7 : (k : Int) ≤ (lc : Int) := by omega
      rw [show ((⟨img, all.take k, false⟩ : JSt).recs.length) = k from hlk]
      go_wp2_with fail
      refine hsm.mono ?_
      rintro e wA ⟨rfl, hkA⟩
      go_wp2_with fail
      refine (HL.out _).mono ?_
      rintro e wB ⟨rfl, hkB⟩
      go_wp2_with fail
      go_ret
      exact ⟨rfl, (((hq7.trans hk8).trans hk9).trans hkA).trans hkB⟩

open Go.ChangeShapes Go.WideShapes Go.ChangeAt
set_option maxRecDepth 100000 in
theorem journal_crash_lifted (os : Os) (started : os.Started) (H : Type) (enc : TypeId × Value → H) :
    ReturnsInHanded {} Try.checked os 14 .any (Rows.journalCrashSpec.pre6 enc Try.prog Try.f14 Rows.journalCrashRow.domain false) (Rows.journalCrashSpec.post enc Try.prog Try.f14 false true false false) := by
  refine returnsInHanded_of_change_sized (C := Try.checked) own started (by kernel_rfl) Try.func14
    (ChangeSpec.witness6 (enc := enc) (C := Try.checked) false ⟨#[], #[.slice none 0 0, .int .i64 0], []⟩ 8 (by kernel_rfl) (by kernel_rfl) (by kernel_rfl) (by kernel_rfl)) ?_
  intro W base args ds gs before hval0 hW hcnd hsz0 _
  have hval : ∀ (j : Nat) t v, Try.f14.params[j]? = some t → args[j]? = some v → Value.okWide Try.prog W .any base t v := hval0
  have hsz : (DataW.weightsEach Try.prog (Try.f14.params.toList ++ Rows.journalCrashSpec.plain.varTypes Try.prog) (ds ++ gs)).all (· ≤ reachBytes) = true := hsz0
  have hW' := hW
  obtain ⟨p, q, hA0, hV, rfl, hfz, hnd⟩ := hW
  have hA : DataW.TrodAll enc Try.prog W 0 (fun _ => true) true Try.f14.params.toList args.toList ds p := hA0
  rw [Try.params14] at hA hval hsz
  obtain ⟨v0, vs0, d0, ds0, p0, q0, hargs, rfl, rfl, h0, r0⟩ := trodAll_cons hA
  obtain ⟨v1, vs1, d1, ds1, p1, q1, rfl, rfl, rfl, h1, r1⟩ := trodAll_cons r0
  obtain ⟨rfl, rfl, rfl⟩ := trodAll_nil r1
  obtain rfl : args = #[v0, v1] := by cases args; simp_all
  obtain ⟨rfl, rfl⟩ := trodVars_none hV
  have lt0 : ∀ x ∈ p0, x.block < W.heap.size := by obtain ⟨m, hm⟩ := h0; exact DataW.trod_lt m _ _ _ hm
  have k0 := h0
  obtain ⟨a0, n0, c0, rfl⟩ := okWide_slice Try.underlying68 (hval 0 68 v0 rfl rfl)
  obtain ⟨l0, b0⟩ := jops_in h0 (fun x hx => by
    have := List.all_eq_true.1 hsz x (DataW.weights_mem_each (j := 0) (t := 68) (d := d0) rfl rfl x hx)
    simpa using this)
  have lt1 : ∀ x ∈ p1, x.block < W.heap.size := by obtain ⟨m, hm⟩ := h1; exact DataW.trod_lt m _ _ _ hm
  have k1 := h1
  obtain ⟨a1, rfl, _, _, w1⟩ := open_int Try.underlying3 (hval 1 3 v1 rfl rfl) h1
  simp only [Lit.wf, Bool.and_eq_true, decide_eq_true_eq] at w1
  clear hA0 hval0 hsz0
  refine (jcrash_walk a0 n0 c0 l0 a1 W b0).mono fun e W' ⟨he, hk⟩ => ?_
  have bel := hk.below
  subst he
  exact ⟨_, rfl, _, _, _, [], _, [], hW', trodAll_mk1 (shut_bool Try.underlying4 _), (trodAll_cons_mk (Below.trod laidOut (by kernel_rfl) (of_decide_eq_true (by kernel_rfl)) k0 bel lt0)
    (trodAll_cons_mk (Below.trod laidOut (by kernel_rfl) (of_decide_eq_true (by kernel_rfl)) k1 bel lt1)
    trodAll_mk0)), rfl, bel.frame _, fun h => by cases h⟩

theorem journal_crash : Rows.JournalCrashSaid :=
  OpenClaim.holds_of_wide 14 Try.f14 rfl rfl rfl rfl rfl rfl rfl ⟨rfl, rfl, rfl, rfl, rfl⟩ rfl rfl rfl rfl rfl (by kernel_rfl) Try.func14 (by kernel_rfl)
    (of_decide_eq_true (by kernel_rfl)) (by unfold Func.isWrapper; first | (rw [if_pos (by decide +kernel)]; kernel_rfl) | (rw [if_neg (by decide +kernel)]; exact ⟨rfl, rfl⟩))
    (fun os started H enc _ => journal_crash_lifted os started H enc)
#print axioms journal_crash
end Go.Proofs.Ytclbapmjhchokaa
