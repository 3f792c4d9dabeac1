/-
  Do two rows of what was executed go together? The program's.
-/
import Derived.Test.YtpehfnobgdjgcaaG7
namespace Go.Proofs.Ytpehfnobgdjgcaa
open Go.RowKit

theorem plc_lt (r : Rf) : ∀ l, plc r l < (l.length : Int)
  | [] => by simp [plc]
  | x :: l => by
    have := plc_lt r l
    unfold plc
    simp only [List.length_cons]
    repeat' split
    all_goals omega
/-- Nothing behind p's place meddles with it. -/
def pairB (rb : List Rf) (p q : RanV) : Bool := !(decide (plc p.ref rb < plc q.ref rb) && meddle p.cmd q.cmd)
theorem Rans.there_of {w : World} {a : Option Addr} {n c : Nat} {l : List RanV} (h : Rans w a n c l) {j : Nat} (hj : j < l.length) : l[j].there w := h.each _ (List.getElem_mem hj)
/-- The one at i goes together with b. -/
def goodB (a b : List RanV) (i : Nat) : Bool :=
  match a[i]? with
  | none => true
  | some p => decide (plc p.ref (b.map RanV.ref) < 0) || ((match b[(plc p.ref (b.map RanV.ref)).toNat]? with | some y => sameB p y | none => true) && (a.take i).all (pairB (b.map RanV.ref) p))
def agreeB (a b : List RanV) : Bool := decide (a.map RanV.ref).Nodup && (List.range a.length).all (goodB a b)

/-- What the region reads. -/
structure AgCl (bx b' o' i : Nat) (x y : RanV) (W : World) : Prop where
  g0 : W.cell? ⟨bx, 0, none⟩ = some (.int .i64 x.ref.1)
  g1 : W.cell? ⟨bx, 1, none⟩ = some (.int .i64 x.ref.2)
  g2 : W.cell? ⟨bx, 2, none⟩ = some (.int .i64 x.cmd.op)
  g3 : W.cell? ⟨bx, 3, none⟩ = some (.int .i64 x.cmd.cl)
  g4 : W.cell? ⟨bx, 4, none⟩ = some (.int .i64 x.cmd.sq)
  g5 : W.cell? ⟨bx, 5, none⟩ = some (.int .i64 x.cmd.fr)
  g6 : W.cell? ⟨bx, 6, none⟩ = some (.int .i64 x.cmd.to)
  g7 : W.cell? ⟨bx, 7, none⟩ = some (.slice x.cmd.da.a x.cmd.da.n x.cmd.da.c)
  g8 : W.cell? ⟨bx, 8, none⟩ = some (.bool x.rep.ok)
  g9 : W.cell? ⟨bx, 9, none⟩ = some (.slice x.rep.da.a x.rep.da.n x.rep.da.c)
  e0 : W.cell? ⟨b', o' + i * 10, none⟩ = some (.int .i64 y.ref.1)
  e1 : W.cell? ⟨b', o' + i * 10 + 1, none⟩ = some (.int .i64 y.ref.2)
  e2 : W.cell? ⟨b', o' + i * 10 + 2, none⟩ = some (.int .i64 y.cmd.op)
  e3 : W.cell? ⟨b', o' + i * 10 + 3, none⟩ = some (.int .i64 y.cmd.cl)
  e4 : W.cell? ⟨b', o' + i * 10 + 4, none⟩ = some (.int .i64 y.cmd.sq)
  e5 : W.cell? ⟨b', o' + i * 10 + 5, none⟩ = some (.int .i64 y.cmd.fr)
  e6 : W.cell? ⟨b', o' + i * 10 + 6, none⟩ = some (.int .i64 y.cmd.to)
  e7 : W.cell? ⟨b', o' + i * 10 + 7, none⟩ = some (.slice y.cmd.da.a y.cmd.da.n y.cmd.da.c)
  e8 : W.cell? ⟨b', o' + i * 10 + 8, none⟩ = some (.bool y.rep.ok)
  e9 : W.cell? ⟨b', o' + i * 10 + 9, none⟩ = some (.slice y.rep.da.a y.rep.da.n y.rep.da.c)

set_option maxRecDepth 100000 in
set_option maxHeartbeats 1000000 in
theorem agree_calls (a a' : Option Addr) (c c' : Nat) (l l' : List RanV) (w : World) (hl : Rans w a l.length c l) (hl' : Rans w a' l'.length c' l') : Calls Try.prog 18 #[.slice a l.length c, .slice a' l'.length c'] w (BoolOut (agreeB l l') w) := by
  have hcc := hl.reads.cap
  have hmm := hl.reads.max
  have hcc' := hl'.reads.cap
  have hmm' := hl'.reads.max
  go_enter Try.func18, Try.ntmps18
  go_wp2_with fail
  refine (places_calls a c l w hl).mono ?_
  rintro e w1 ⟨b1, L1, rfl, _, _, _, hk1⟩
  by_cases hn : (l.map RanV.ref).Nodup
  · have hd : decide (l.map RanV.ref).Nodup = true := decide_eq_true hn
    go_wp2_with fail
    refine (places_calls a' c' l' w1 (hl'.non hk1)).mono ?_
    rintro e w2 ⟨bs, L, rfl, _, hM, hP, hk2⟩
    have hk2 := hk1.trans hk2
    go_wp2_with fail
    have hl2 := hl.non hk2
    have hl2' := hl'.non hk2
    have HG : Hid (agreeB l l' = (List.range l.length).all (goodB l l')) := Lib.hid (by simp [agreeB, hd])
    clear hn hd hl hl'
    go_loopw [31] (fun v31 wr => ∃ k : Nat, k ≤ l.length ∧ v31 = .int .i64 k ∧ Hid (∀ j, j < k → goodB l l' j = true) ∧ Kp Non w2 wr) (fun v31 _ => l.length - (intOf v31).toNat)
    case atStart => exact ⟨0, by omega, rfl, Lib.hid fun j h => absurd h (by omega), Kp.refl _ _⟩
    case round =>
      obtain ⟨k, hk', rfl, hall, hkr⟩ := hrel
      by_cases hlt : k < l.length
      · have g : (k : Int) < (l.length : Nat) := by omega
        obtain ⟨b, o, rfl⟩ := hl2.reads.there (by omega)
        obtain ⟨c0, c1, c2, c3, c4, c5, c6, c7, c8, c9⟩ := (hl2.non hkr).cells hlt
        have HX := Lib.hid (List.getElem?_eq_getElem hlt)
        have HTh := Lib.hid ((hl2.non hkr).there_of hlt)
        have HN := Lib.hid (BoxN.new2 wr l[k])
        generalize l[k] = x at *
        go_upto_region 8 with (fail)
        obtain ⟨V, eV, hN, kV⟩ := HN.out
        rw [eV]
        have n0 := hN.c0
        have n1 := hN.c1
        have n2 := hN.c2
        have n3 := hN.c3
        have n4 := hN.c4
        have n5 := hN.c5
        have n6 := hN.c6
        have n7 := hN.c7
        have n8 := hN.c8
        have n9 := hN.c9
        have hkV := hkr.trans kV
        have hML := hM.non hkV
        have hTh := HTh.out.non kV
        clear eV HN c0 c1 c2 c3 c4 c5 c6 c7 c8 c9 HTh
        generalize wr.heap.size = bx at *
        have hz : (zeroValue 3).run Try.prog V = .ok (.int .i64 0) V := by kernel_rfl
        have hLK := run_lookup_is keys_ref hML Try.underlying85 hz x.ref true
        rw [hP x.ref] at hLK
        by_cases hx : plc x.ref (l'.map RanV.ref) < 0
        · rw [if_pos hx] at hLK
          simp only [encRef, Option.map_none, Option.getD_none, Option.isSome_none, if_true] at hLK
          have HE : Hid (∀ j, j < k + 1 → goodB l l' j = true) := Lib.hid fun j hj => if h : j < k then hall.out j h else by
            obtain rfl : j = k := by omega
            simp [goodB, HX.out, hx]
          clear hx
          go_wp2_with fail
          go_roundw
          case rel => exact ⟨k + 1, by omega, by go_num, HE, hkV⟩
          case measure => simp [intOf]; omega
        · rw [if_neg hx] at hLK
          simp only [encRef, Option.map_some, Option.getD_some, Option.isSome_some, if_true, encZ] at hLK
          have hpl := plc_lt x.ref (l'.map RanV.ref)
          rw [List.length_map] at hpl
          have HGD := Lib.hid (show goodB l l' k = (decide (plc x.ref (l'.map RanV.ref) < 0) || ((match l'[(plc x.ref (l'.map RanV.ref)).toNat]? with | some y => sameB x y | none => true) && (l.take k).all (pairB (l'.map RanV.ref) x))) from by simp [goodB, HX.out])
          obtain ⟨i, hi⟩ : ∃ i : Nat, plc x.ref (l'.map RanV.ref) = i := ⟨_, (Int.toNat_of_nonneg (by omega)).symm⟩
          rw [hi] at hpl hLK HGD
          have hlt' : i < l'.length := by omega
          have g' : (i : Int) < (l'.length : Nat) := by omega
          have HGD : Hid (goodB l l' k = (sameB x l'[i] && (l.take k).all (pairB (l'.map RanV.ref) x))) := Lib.hid (by rw [HGD.out, decide_eq_false (by omega)]; simp [List.getElem?_eq_getElem hlt'])
          have HI := Lib.hid hi
          clear hi hx hpl
          obtain ⟨b', o', rfl⟩ := hl2'.reads.there (by omega)
          obtain ⟨c0, c1, c2, c3, c4, c5, c6, c7, c8, c9⟩ := (hl2'.non hkV).cells hlt'
          have hTy := (hl2'.non hkV).there_of hlt'
          have HSC := Lib.hid (fun (y : RanV) (hy : y.there V) W' (q : Kp Non V W') => same_calls x y W' (hTh.non q) (hy.non q))
          generalize l'[i] = y at *
          have cl : ∀ W', Kp Non V W' → AgCl bx b' o' i x y W' := fun W' q => ⟨q.cell n0 (fun f => f), q.cell n1 (fun f => f), q.cell n2 (fun f => f), q.cell n3 (fun f => f), q.cell n4 (fun f => f), q.cell n5 (fun f => f), q.cell n6 (fun f => f), q.cell n7 (fun f => f), q.cell n8 (fun f => f), q.cell n9 (fun f => f), q.cell c0 (fun f => f), q.cell c1 (fun f => f), q.cell c2 (fun f => f), q.cell c3 (fun f => f), q.cell c4 (fun f => f), q.cell c5 (fun f => f), q.cell c6 (fun f => f), q.cell c7 (fun f => f), q.cell c8 (fun f => f), q.cell c9 (fun f => f)⟩
          have CL := Lib.hid cl
          go_upto_region 10 with (fail)
          clear cl c0 c1 c2 c3 c4 c5 c6 c7 c8 c9 n0 n1 n2 n3 n4 n5 n6 n7 n8 n9
          have hSC := Lib.hid (HSC.out y hTy)
          clear HSC hTy
          generalize sameB x y = sb at *
          go_cut [51] (fun v51 wc => v51 = .bool (!sb) ∧ Kp Non V wc)
          case first =>
            refine wp_region_free [0,0,0,0,0,2,2] (by kernel_rfl) (by kernel_rfl) (AgCl bx b' o' i x y) (CL.out _ ((Kp.refl _ _).drew)) [5,6] rfl ?_
            repeat (first | (with_reducible refine pure_skip ?_) | ((with_reducible refine pure_k rfl ?_); intro K hK; apply Exists.intro; refine ⟨fun w' hC => ?_, ?_⟩; (obtain ⟨g0, g1, g2, g3, g4, g5, g6, g7, g8, g9, e0, e1, e2, e3, e4, e5, e6, e7, e8, e9⟩ := hC; go_simp; rfl); go_simp; refine hK _ ?_; clear hK K))
            with_reducible refine pure_nil ?_
            show wpFree _ _ _ _ _ 2 _ _ _
            refine free_one 5 (by kernel_rfl) ?_
            refine free_at _ rfl rfl 2 rfl rfl fun K hK => ?_
            go_simp
            refine (hSC.out _ ((Kp.refl _ _).drew)).mono ?_
            rintro e w3 ⟨rfl, hk3⟩
            have hk3 : Kp Non V w3 := (Kp.refl Non V).drew.trans hk3
            refine hK _ _ (fun h => absurd h (by decide)) ?_
            clear hK K
            refine free_one 6 (by kernel_rfl) ?_
            refine free_at _ rfl rfl 2 rfl rfl fun K hK => ?_
            go_simp
            refine hK _ _ (fun h => absurd h (by decide)) (free_nil ?_)
            go_step
            go_step
            go_meet
            case rel => exact ⟨rfl, hk3⟩
          case rest =>
            obtain ⟨rfl, hk3⟩ := hcut
            have hkc := hkV.trans hk3
            rcases sb with _ | _
            · have HF : Hid (agreeB l l' = false) := Lib.hid (by rw [HG.out, List.all_eq_false]; exact ⟨k, List.mem_range.2 hlt, by rw [HGD.out]; simp⟩)
              go_wp2_with fail
              go_ret
              exact ⟨ret_bool HF.out.symm, hk2.trans hkc⟩
            · have HGE : Hid ((∀ j', j' < k → ∀ q, l[j']? = some q → pairB (l'.map RanV.ref) x q = true) → goodB l l' k = true) := Lib.hid fun hq => by
                rw [HGD.out, Bool.true_and, List.all_eq_true]
                intro q hm
                obtain ⟨j, hj, he⟩ := List.getElem_of_mem hm
                rw [List.length_take] at hj
                rw [List.getElem_take] at he
                exact hq j (by omega) q (by rw [List.getElem?_eq_getElem (by omega), he])
              have HGN : Hid (∀ j' : Nat, j' < k → ∀ q, l[j']? = some q → pairB (l'.map RanV.ref) x q = false → agreeB l l' = false) := Lib.hid fun j' hj q hq hp => by
                rw [HG.out, List.all_eq_false]
                refine ⟨k, List.mem_range.2 hlt, ?_⟩
                rw [HGD.out, Bool.true_and, Bool.not_eq_true, List.all_eq_false]
                refine ⟨q, List.mem_of_getElem? (i := j') ?_, by rw [hp]; simp⟩
                rw [List.getElem?_take, if_pos hj, hq]
              clear HGD
              go_wp2_with fail
              go_loopw [56] (fun v56 wi => ∃ j : Nat, j ≤ k ∧ v56 = .int .i64 j ∧ Hid (∀ j', j' < j → ∀ q, l[j']? = some q → pairB (l'.map RanV.ref) x q = true) ∧ Kp Non wc wi) (fun v56 _ => k - (intOf v56).toNat)
              case atStart => exact ⟨0, by omega, rfl, Lib.hid fun j h => absurd h (by omega), Kp.refl _ _⟩
              case round =>
                obtain ⟨j, hj', rfl, halq, hki⟩ := hrel
                by_cases hjt : j < k
                · have gj : (j : Int) < (k : Nat) := by omega
                  have hjl : j < l.length := by omega
                  obtain ⟨c0, c1, c2, c3, c4, c5, c6, c7, c8, c9⟩ := (hl2.non (hkc.trans hki)).cells hjl
                  have HQ := Lib.hid (List.getElem?_eq_getElem hjl)
                  have HN := Lib.hid (BoxN.new2 wr l[j])
                  generalize l[j] = q at *
                  go_upto_region 15 with (fail)
                  obtain ⟨U, eU, hN, kU⟩ := HN.out
                  rw [eU]
                  have n0 := hN.c0
                  have n1 := hN.c1
                  have n2 := hN.c2
                  have n3 := hN.c3
                  have n4 := hN.c4
                  have n5 := hN.c5
                  have n6 := hN.c6
                  have n7 := hN.c7
                  have hkU := hki.trans kU
                  have hkUV := hk3.trans hkU
                  have hMU := hML.non hkUV
                  have gU := CL.out _ hkUV
                  have m2 := gU.g2
                  have m3 := gU.g3
                  have m4 := gU.g4
                  have m5 := gU.g5
                  have m6 := gU.g6
                  have m7 := gU.g7
                  clear eU HN c0 c1 c2 c3 c4 c5 c6 c7 c8 c9 gU hN
                  generalize wr.heap.size = bq at *
                  have hz : (zeroValue 3).run Try.prog U = .ok (.int .i64 0) U := by kernel_rfl
                  have hLQ := run_lookup_is keys_ref hMU Try.underlying85 hz q.ref true
                  rw [hP q.ref] at hLQ
                  have HPB : Hid (pairB (l'.map RanV.ref) x q = !(decide ((i : Int) < plc q.ref (l'.map RanV.ref)) && meddle x.cmd q.cmd)) := Lib.hid (by unfold pairB; rw [HI.out])
                  have HStep : Hid (pairB (l'.map RanV.ref) x q = true → ∀ j', j' < j + 1 → ∀ q, l[j']? = some q → pairB (l'.map RanV.ref) x q = true) := Lib.hid fun hp j' h q' hq' => if hh : j' < j then halq.out j' hh q' hq' else by
                    obtain rfl : j' = j := by omega
                    rw [HQ.out] at hq'
                    cases hq'
                    exact hp
                  generalize plc q.ref (l'.map RanV.ref) = t at *
                  by_cases ht : t < 0
                  · rw [if_pos ht] at hLQ
                    simp only [encRef, Option.map_none, Option.getD_none, Option.isSome_none, if_true] at hLQ
                    have HR := Lib.hid (HStep.out (by rw [HPB.out, decide_eq_false (by omega)]; rfl))
                    clear ht
                    go_wp2_with fail
                    go_roundw
                    case rel => exact ⟨j + 1, by omega, by go_num, HR, hkU⟩
                    case measure => simp [intOf]; omega
                  · rw [if_neg ht] at hLQ
                    simp only [encRef, Option.map_some, Option.getD_some, Option.isSome_some, if_true, encZ] at hLQ
                    by_cases hti : (i : Int) < t
                    · have HMC := Lib.hid (meddle_calls x.cmd q.cmd)
                      have hd : decide ((i : Int) < t) = true := decide_eq_true hti
                      rw [hd] at HPB
                      clear ht
                      generalize meddle x.cmd q.cmd = mb at *
                      go_wp2_with fail
                      refine (HMC.out U).mono ?_
                      rintro e w4 ⟨rfl, hk4⟩
                      have hk4 := hkU.trans hk4
                      rcases mb with _ | _
                      · have HR := Lib.hid (HStep.out (by rw [HPB.out]; rfl))
                        go_wp2_with fail
                        clear HMC
                        go_simp
                        refine ⟨⟨_, _, _, _, _, ⟨j + 1, by omega, rfl, HR⟩, rfl, rfl, rfl, rfl, ?_⟩, ?_⟩
                        · go_num
                        · simp [intOf]; omega
                      · have HF := Lib.hid (HGN.out j hjt q HQ.out (by rw [HPB.out]; rfl))
                        go_wp2_with fail
                        go_ret
                        exact ⟨ret_bool HF.out.symm, hk2.trans (hkc.trans hk4)⟩
                    · have hd : decide ((i : Int) < t) = false := decide_eq_false hti
                      have HR := Lib.hid (HStep.out (by rw [HPB.out, hd]; rfl))
                      clear ht hti
                      go_wp2_with fail
                      go_roundw
                      case rel => exact ⟨j + 1, by omega, by go_num, HR, hkU⟩
                      case measure => simp [intOf]; omega
                · obtain rfl : j = k := by omega
                  have HE : Hid (∀ j', j' < j + 1 → goodB l l' j' = true) := Lib.hid fun j' hj => if h : j' < j then hall.out j' h else by
                    obtain rfl : j' = j := by omega
                    exact HGE.out halq.out
                  go_wp2_with fail
                  go_roundw
                  case rel => exact ⟨j + 1, by omega, by go_num, HE, hkc.trans hki⟩
                  case measure => simp [intOf]; omega
      · obtain rfl : k = l.length := by omega
        have HD : Hid (agreeB l l' = true) := Lib.hid (by rw [HG.out, List.all_eq_true]; exact fun j hj => hall.out j (List.mem_range.1 hj))
        go_wp2_with fail
        go_ret
        exact ⟨ret_bool HD.out.symm, hk2.trans hkr⟩
  · have hd : decide (l.map RanV.ref).Nodup = false := decide_eq_false hn
    have HD : Hid (agreeB l l' = false) := Lib.hid (by simp [agreeB, hd])
    go_wp2_with fail
    go_ret
    exact ⟨ret_bool HD.out.symm, hk1⟩
end Go.Proofs.Ytpehfnobgdjgcaa
