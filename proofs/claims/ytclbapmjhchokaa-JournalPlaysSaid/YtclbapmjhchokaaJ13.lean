/-
  A journal's calls: Open.
-/
import Derived.Test.YtclbapmjhchokaaJ12
namespace Go.Proofs.Ytclbapmjhchokaa
open Go.RowKit
variable {F : Nat → Prop}

/-- Why an image opens: 0 it does; else the error. -/
def imgErr (b : List UInt8) : Int := if unfWhy b ≠ 0 then unfErr (unfWhy b) else if num4 b + 8 ≠ b.length then 4 else 0
/-- What an opening answers, leaves on the device, and finds. -/
def jopen (s : St) : Int × St × JSt :=
  let J : JSt := ⟨unfData s.image, (scanL s.log).1, false⟩
  if s.off then (6, s, J) else if imgErr s.image ≠ 0 then (imgErr s.image, s, J) else
  if (scanL s.log).2.2 = 1 then (0, s, J) else if (scanL s.log).2.2 = 2 then ((s.cut (scanL s.log).2.1).1, (s.cut (scanL s.log).2.1).2, J) else (5, s, J)

def OpenPost (F : Nat → Prop) (b0 d : Nat) (r : Int × St × JSt) (w : World) (e : Ending) (w' : World) : Prop :=
  Dev F w' d r.2.1 ∧ Kp (One d) w w' ∧ if r.1 = 0 then ∃ j ra, e = .returned (.tuple #[.pointer (some ⟨j, 0, none⟩), .int .i64 0]) ∧ Jou F b0 w' j d r.2.1 r.2.2 ra ∧ w.heap.size ≤ j ∧ ∀ k, Blk ra k → w.heap.size ≤ k
    else e = .returned (.tuple #[.pointer none, .int .i64 r.1])

theorem OpenPost.bad {b0 d : Nat} {s : St} {J : JSt} {ec : Int} {w w' : World} (h : ec ≠ 0) (hd : Dev F w' d s) (k : Kp (One d) w w') : OpenPost F b0 d (ec, s, J) w (.returned (.tuple #[.pointer none, .int .i64 ec])) w' := by
  refine ⟨hd, k, ?_⟩
  rw [if_neg h]

theorem unfErr_ne (k : Nat) : unfErr k ≠ 0 := by unfold unfErr; split <;> (try split) <;> omega

set_option maxRecDepth 100000 in
set_option maxHeartbeats 4000000 in
theorem open_calls (b0 d : Nat) (s : St) (w : World) (hd : Dev F w d s) (hok : s.ok) (hfd : ¬ F d) (hb0 : b0 ≤ d) (hbw : b0 ≤ w.heap.size) :
    Calls Try.prog 40 #[.pointer (some ⟨d, 0, none⟩)] w (OpenPost F b0 d (jopen s) w) := by
  have hfence := hd.fence
  have hil := hok.image
  have hll := hok.log
  have hq : jopen s = jopen s := rfl
  generalize hQ : jopen s = Q at *
  unfold jopen at hQ
  simp only at hQ
  have HQ := Lib.hid hQ
  clear hQ hq
  have HO := Lib.hid hok
  clear hok
  go_enter Try.func40, Try.ntmps40
  go_wp2_with fail
  refine (image_calls d s w hd HO.out).mono ?_
  rintro e w1 ⟨hk1, hp1⟩
  have hd1 := hd.non hk1
  by_cases hoff : s.off = true
  · rw [if_pos hoff] at hp1
    subst hp1
    have HE := HQ.out
    rw [if_pos hoff] at HE
    go_wp2_with fail
    go_ret2
    rw [← HE]
    exact OpenPost.bad (by omega) hd1 hk1.non
  · rw [if_neg hoff] at hp1
    obtain ⟨ia, ic, rfl, hOi⟩ := hp1
    have hoff' : s.off = false := by simpa using hoff
    have HE := Lib.hid HQ.out
    rw [hoff'] at HE
    go_wp2_with fail
    refine (log_calls d s w1 hd1 HO.out).mono ?_
    rintro e w2 ⟨hk2, hp2⟩
    rw [hoff', if_neg (by simp)] at hp2
    obtain ⟨la, lc, rfl, hOl⟩ := hp2
    have hd2 := hd1.non hk2
    have hBi := hOi.bytes.non hk2
    have hBl := hOl.bytes
    have hkk2 := hk1.trans hk2
    go_wp2_with fail
    refine (unframe_calls ia s.image.length ic s.image 0 w2 hBi (by omega) (Nat.zero_le _)).mono ?_
    rw [List.drop_zero]
    rintro e w3 ⟨hk3, hp3⟩
    have hd3 := hd2.non hk3
    have hBl3 := hBl.non hk3
    have hkk3 := hkk2.trans hk3
    by_cases hy : unfWhy s.image = 0
    · rw [if_pos hy] at hp3
      obtain ⟨da, dc, rfl, hOd⟩ := hp3
      by_cases hne : num4 s.image + 8 = s.image.length
      · have t1 : (((0 + num4 s.image + 8 : Nat) : Int) != (s.image.length : Int)) = false := by simp; omega
        have HF := HE.out
        rw [if_neg (by simp), if_neg (by unfold imgErr; rw [if_neg (by omega), if_neg (by omega)]; simp)] at HF
        have HG := Lib.hid HF
        have HY := Lib.hid hy
        have HM := Lib.hid hne
        have hdl := (unf0 hy).1
        clear HF hy hne
        generalize hnx : 0 + num4 s.image + 8 = nx at *
        clear hnx
        have hbd := hOd.lt
        have hkA := (Kp.refl Non w3).alloc (Obj.cells #[Value.pointer (some ⟨d, 0, none⟩), Value.slice da (num4 s.image) dc, Value.slice none 0 0, Value.int .i64 0, Value.bool false] 96)
        have hrow0 := heap_alloc_new w3 (Obj.cells #[Value.pointer (some ⟨d, 0, none⟩), Value.slice da (num4 s.image) dc, Value.slice none 0 0, Value.int .i64 0, Value.bool false] 96)
        have hul := unfData_len (b := s.image) (by have := HM.out; omega)
        have hs3 : w.heap.size ≤ w3.heap.size := hkk3.size
        have hj0 : Jou F b0 (w3.alloc (Obj.cells #[Value.pointer (some ⟨d, 0, none⟩), Value.slice da (num4 s.image) dc, Value.slice none 0 0, Value.int .i64 0, Value.bool false] 96)) w3.heap.size d s ⟨unfData s.image, [], false⟩ none := by
          have hb3 := hOd.bytes.non hkA
          have hkA' := hkA
          rw [← hul] at hb3 hrow0 hkA' ⊢
          refine ⟨0, da, dc, [], hrow0, hd3.non hkA', hb3, ?_, SRow.nil _ _, Recs.nil _, hfd, ?_, ?_, hb0, ?_, ?_⟩
          · intro _ ad had hf
            have q1 := (hbd ad.block ⟨ad, had, rfl⟩).1
            have q2 := hfence _ hf
            have q3 := hkk2.size
            omega
          · intro hf
            have q2 := hfence _ hf
            omega
          · rintro k ⟨_, q, _⟩; cases q
          · omega
          · rintro k ⟨_, q, _⟩; cases q
        have hkkA := hkk3.trans hkA
        have hBlA := hBl3.non hkA
        go_wp2_with fail
        generalize w3.alloc (Obj.cells #[Value.pointer (some ⟨d, 0, none⟩), Value.slice da (num4 s.image) dc, Value.slice none 0 0, Value.int .i64 0, Value.bool false] 96) = w4 at *
        generalize w3.heap.size = jb at *
        go_loopw [11] (fun v11 wr => ∃ (rs : List (List UInt8)) (ra : Option Addr), (intOf v11).toNat = sizes rs ∧ sizes rs ≤ s.log.length ∧ Jou F b0 wr jb d s ⟨unfData s.image, rs, false⟩ ra ∧ (∀ k, Blk ra k → w.heap.size ≤ k) ∧ Kp Non w wr ∧ Bytes wr la s.log.length lc s.log ∧
          scanL s.log = (rs ++ (scanL (s.log.drop (sizes rs))).1, sizes rs + (scanL (s.log.drop (sizes rs))).2.1, (scanL (s.log.drop (sizes rs))).2.2)) (fun v11 _ => s.log.length + 1 - (intOf v11).toNat)
        case atStart => exact ⟨[], none, rfl, by simp [sizes], hj0, (fun k hk => by obtain ⟨_, q, _⟩ := hk; cases q), hkkA, hBlA, by simp [sizes]⟩
        case round =>
          obtain ⟨rs, ra, hm, hle, hJ, hnew, hkw, hBw, hscan⟩ := hrel
          have HS := Lib.hid hscan
          have HM2 := Lib.hid hm
          clear hscan hm hj0 hkkA hBlA
          have hJJ := hJ
          obtain ⟨rc, ja, jc, vs, hA⟩ := hJ
          have c3 := hA.c3
          have c2 := hA.c2
          have hcnt := sizes_count rs
          go_wp2_with fail
          refine (unframe_calls la s.log.length lc s.log (sizes rs) wr hBw hll hle).mono ?_
          rintro e w5 ⟨hk5, hp5⟩
          have hk5w := hkw.trans hk5
          have hJ5 := hJJ.non hk5
          have hrl : (s.log.drop (sizes rs)).length = s.log.length - sizes rs := by simp
          generalize hrest : s.log.drop (sizes rs) = rest at *
          have hw3 := unfWhy_le rest
          rcases (show unfWhy rest = 0 ∨ unfWhy rest = 1 ∨ unfWhy rest = 2 ∨ unfWhy rest = 3 by omega) with hy | hy | hy | hy
          · rw [if_pos hy] at hp5
            obtain ⟨fa, fc, rfl, hOf⟩ := hp5
            have hu0 := unf0 hy
            have hul2 := unfData_len hu0.2
            have hs := HS.out
            rw [scanL_step (b := rest) hy, show rest.drop (num4 rest + 8) = s.log.drop (sizes rs + num4 rest + 8) by rw [← hrest, List.drop_drop]; congr 1] at hs
            have hfl := hOf.lt
            have hkA5 := (Kp.refl Non w5).alloc (Obj.cells #[Value.slice fa (num4 rest) fc] 22)
            have hB5 := heap_alloc_new w5 (Obj.cells #[Value.slice fa (num4 rest) fc] 22)
            have hcA := cell_of_row _ _ 0 _ _ _ hB5
            have hA5 := (hA.non hk5).non hkA5
            have hkw5 := hk5w.trans hkA5
            have hbA := hOf.bytes.non hkA5
            have hBl5 := (hBw.non hk5).non hkA5
            have hsz5 := hkw5.size
            have hS5 := hA5.rows
            have hrj := hA5.rj
            have hcr := sizes_count rs
            have q2 := hA5.c2
            have c35 := hk5.cell c3 (fun f => f)
            have c25 := hk5.cell c2 (fun f => f)
            obtain ⟨i1, hi1, hy0, hy1, hy2⟩ := info_parts' info22
            have hzc : (Value.slice none 0 0).cells = #[Value.slice none 0 0] := rfl
            have hrowA := hA5.row
            have HS5 := Lib.hid hs
            clear hs
            go_wp2_with ((at_builtin; refine wpList_append_srow rfl _ _ 59 rfl 22 i1 (.slice none 0 0) 24 Try.underlying59 hi1 hy0 hy1 hy2 hzc (NB.slice _ _ _) ra rs.length rc vs rfl hS5 ⟨w5.heap.size, 0, none⟩ 1 (.slice fa (num4 rest) fc) rfl hcA rfl (NB.slice _ _ _) (by omega) (by omega) ?_; intro a2 c2' w6 hS6 hk6 ha6; have row6 := hk6.heap hrowA hrj; have p2 := cell_of_row w6 jb 2 _ _ _ row6; have p3 := cell_of_row w6 jb 3 _ _ _ row6; replace p2 : w6.cell? ⟨jb, 2, none⟩ = some (.slice ra rs.length rc) := p2; replace p3 : w6.cell? ⟨jb, 3, none⟩ = some (.int .i64 (sizes rs : Nat)) := p3; have z2 : w6.frozen? ⟨jb, 2, none⟩ = false := (by simp only [World.frozen?, row6]; simp); have z3 : w6.frozen? ⟨jb, 3, none⟩ = false := (by simp only [World.frozen?, row6]; simp)))
            generalize hv2 : Value.slice a2 (rs.length + 1) c2' = v2 at *
            have k67 : Kp (One jb) w6 ((w6.setCell ⟨jb, 2, none⟩ v2).setCell ⟨jb, 3, none⟩ (.int .i64 ((sizes rs : Int) + (num4 rest : Int) + 8))) := ((Kp.refl (One jb) w6).set1 2 _).set1 3 _
            have row7 := heap_setCell_row (heap_setCell_row row6 2 v2) 3 (.int .i64 ((sizes rs : Int) + (num4 rest : Int) + 8))
            generalize (w6.setCell ⟨jb, 2, none⟩ v2).setCell ⟨jb, 3, none⟩ (.int .i64 ((sizes rs : Int) + (num4 rest : Int) + 8)) = w7 at *
            generalize w5.alloc (Obj.cells #[Value.slice fa (num4 rest) fc] 22) = w5A at *
            have k57 : Kp (JS jb jb ra) w5A w7 := hk6.comp k67 (fun _ _ h => .inr (.inr h)) (fun _ _ h => .inl h)
            have hnb : NoB (JS jb jb ra) w5A := by
              rintro ad b hc (q | q | q)
              · exact hA5.jnoB ad b hc q
              · exact hA5.jnoB ad b hc q
              · exact hA5.rows.noB ad b hc q
            have hnew7 : ∀ k, Blk a2 k → w.heap.size ≤ k := by
              intro k hk
              rcases ha6 with rfl | rfl
              · exact hnew k hk
              · obtain ⟨_, q1, q3⟩ := hk
                cases q1
                rw [← q3]
                exact hsz5
            have hlen1 : (rs ++ [unfData rest]).length = rs.length + 1 := by simp
            have hsz1 : sizes (rs ++ [unfData rest]) = sizes rs + num4 rest + 8 := by rw [sizes_one, hul2]; omega
            have hS7 : SRow w7 22 a2 (rs.length + 1) c2' (vs ++ [Value.slice fa (num4 rest) fc]) := hS6.kp k67 (fun i hi e => by
              obtain ⟨cs, fr, q⟩ := hS6.tag i hi
              rw [show i = jb from e, row6] at q
              cases q)
            have hkw7 : Kp Non w w7 := hkw5.comp k57 (fun _ _ f => f) (fun i hi q => by
              rcases q with q | q | q
              · omega
              · omega
              · have := hnew i q; omega)
            have hJ7 : Jou F b0 w7 jb d s ⟨unfData s.image, rs ++ [unfData rest], false⟩ a2 := by
              refine ⟨c2', ja, jc, vs ++ [Value.slice fa (num4 rest) fc], hA5.set k57 ?_ (hA5.image.nob k57 hnb) hA5.ai ?_ ?_ ?_ ?_⟩
              · rw [row7, ← hv2]
                unfold JRow
                simp only [hlen1, hsz1]
                simp
              · simp only [hlen1]
                exact hS7
              · have hb7 := hbA.nob k57 hnb
                rw [← hul2] at hb7 ⊢
                refine (hA5.recs.kp k57 hnb).add hb7 ?_
                intro _ ad had hfk
                have q1 := (hfl ad.block ⟨ad, had, rfl⟩).1
                have q2 := hfence _ hfk
                have q3 := hkw.size
                omega
              · intro k hk hfk
                have q1 := hnew7 k hk
                have q2 := hfence _ hfk
                omega
              · intro k hk
                have q1 := hnew7 k hk
                omega
            refine ⟨⟨rs ++ [unfData rest], a2, ?_, ?_, hJ7, hnew7, hkw7, hBl5.nob k57 hnb, ?_⟩, ?_⟩
            · rw [hsz1]; simp only [intOf]; omega
            · rw [hsz1]; omega
            · rw [HS5.out, hsz1]
              simp only [List.append_assoc, List.singleton_append, Prod.mk.injEq, true_and]
              exact ⟨by omega, trivial⟩
            · rw [HM2.out]
              simp only [intOf]
              omega
          · rw [if_neg (by omega), show unfErr (unfWhy rest) = 8 by rw [hy]; rfl] at hp5
            subst hp5
            have hs := HS.out
            rw [scanL_end (b := rest) (by omega), List.append_nil, Nat.add_zero, hy] at hs
            have hg := HG.out
            rw [hs, if_pos rfl] at hg
            go_wp2_with fail
            go_ret2
            rw [← hg]
            refine ⟨hJ5.dev, hk5w.non, ?_⟩
            rw [if_pos rfl]
            exact ⟨jb, ra, rfl, hJ5, hs3, hnew⟩
          · rw [if_neg (by omega), show unfErr (unfWhy rest) = 4 by rw [hy]; rfl] at hp5
            subst hp5
            have hs := HS.out
            rw [scanL_end (b := rest) (by omega), List.append_nil, Nat.add_zero, hy] at hs
            have hg := HG.out
            rw [hs, if_neg (by simp), if_pos rfl] at hg
            have HG2 := Lib.hid hg
            have c35 := hk5.cell c3 (fun f => f)
            clear hg hs
            go_wp2_with fail
            refine (cut_calls d s (sizes rs : Nat) w5 hJ5.dev HO.out).mono ?_
            rintro e w6 ⟨rfl, hd6, hk6⟩
            have hJ6 := hJ5.step hk6 hd6
            have hk7 : Kp (One d) w w6 := hk5w.comp hk6 (fun _ _ f => f.elim) (fun _ _ h => h)
            generalize s.cut (sizes rs : Nat) = q at *
            obtain ⟨qe, qs⟩ := q
            by_cases h0 : qe = 0
            · subst h0
              go_wp2_with fail
              go_ret2
              rw [← HG2.out]
              refine ⟨hd6, hk7, ?_⟩
              rw [if_pos rfl]
              exact ⟨jb, ra, rfl, hJ6, hs3, hnew⟩
            · have e0 : (qe != 0) = true := by simp [h0]
              go_wp2_with fail
              go_ret2
              rw [← HG2.out]
              exact OpenPost.bad h0 hd6 hk7
          · rw [if_neg (by omega), show unfErr (unfWhy rest) = 5 by rw [hy]; rfl] at hp5
            subst hp5
            have hs := HS.out
            rw [scanL_end (b := rest) (by omega), List.append_nil, Nat.add_zero, hy] at hs
            have hg := HG.out
            rw [hs, if_neg (by simp), if_neg (by simp)] at hg
            go_wp2_with fail
            go_ret2
            rw [← hg]
            exact OpenPost.bad (by omega) hJ5.dev hk5w.non
      · have t1 : (((0 + num4 s.image + 8 : Nat) : Int) != (s.image.length : Int)) = true := by simp; omega
        have HF := HE.out
        rw [if_neg (by simp), if_pos (by unfold imgErr; rw [if_neg (by omega), if_pos hne]; omega)] at HF
        have HG := Lib.hid (show ((4 : Int), s, (⟨unfData s.image, (scanL s.log).1, false⟩ : JSt)) = Q by rw [← HF]; unfold imgErr; rw [if_neg (by omega), if_pos hne])
        clear HF hy hne
        generalize hnx : 0 + num4 s.image + 8 = nx at *
        go_wp2_with fail
        go_ret2
        rw [← HG.out]
        exact OpenPost.bad (by omega) hd3 hkk3.non
    · rw [if_neg hy] at hp3
      subst hp3
      have HF := HE.out
      rw [if_neg (by simp), if_pos (by unfold imgErr; rw [if_pos hy]; exact unfErr_ne _)] at HF
      have HG := Lib.hid (show ((unfErr (unfWhy s.image)), s, (⟨unfData s.image, (scanL s.log).1, false⟩ : JSt)) = Q by rw [← HF]; unfold imgErr; rw [if_pos hy])
      have hne := unfErr_ne (unfWhy s.image)
      clear HF hy
      generalize unfErr (unfWhy s.image) = ec at *
      have t1 : (ec == 0) = false := by simp [hne]
      have t2 : (ec != 0) = true := by simp [hne]
      have t3 : ¬ ec = 0 := hne
      go_wp2_with fail
      go_ret2
      rw [← HG.out]
      exact OpenPost.bad hne hd3 hkk3.non
end Go.Proofs.Ytclbapmjhchokaa
