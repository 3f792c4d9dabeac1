/-
  Do two rows of what was executed go together? The document's.
-/
import Derived.Test.YtpehfnobgdjgcaaG8
import Derived.Test.YtpehfnobgdjgcaaG5
import Derived.Test.YtpehfnobgdjgcaaG2
import Derived.Test.YtpehfnobgdjgcaaR4
namespace Go.Proofs.Ytpehfnobgdjgcaa
open Go.RowKit

theorem infoI : (Try.prog.info? 3).map (fun i => (i.zero, i.size, i.bytes)) = some (some (.int .i64 0), 1, 8) := by kernel_rfl
theorem take_map_snoc {α β : Type} (f : α → β) {l : List α} {k : Nat} (h : k < l.length) : (l.take (k + 1)).map f = (l.take k).map f ++ [f l[k]] := by
  rw [List.take_succ_eq_append_getElem h, List.map_append]
  rfl
theorem plc_self : ∀ (l : List Rf), l.Nodup → ∀ (k : Nat) (h : k < l.length), plc l[k] l = k
  | [], _, k, h => absurd h (by simp)
  | x :: l, hn, 0, _ => by simp [plc]
  | x :: l, hn, k + 1, h => by
    have h' : k < l.length := by simpa using h
    have ih := plc_self l (List.nodup_cons.1 hn).2 k h'
    have hx : x ≠ l[k] := fun e => (List.nodup_cons.1 hn).1 (e ▸ List.getElem_mem h')
    show plc l[k] (x :: l) = _
    unfold plc
    rw [if_neg hx, ih, if_neg (by omega)]
    omega
theorem self_plc : ∀ (l : List Rf), (∀ (k : Nat) (h : k < l.length), plc l[k] l = k) → l.Nodup
  | [], _ => List.nodup_nil
  | x :: l, hp => by
    have hx : ∀ (k : Nat) (h : k < l.length), x ≠ l[k] ∧ plc l[k] l = k := fun k h => by
      have := hp (k + 1) (by simpa using h)
      rw [show (x :: l)[k + 1]'(by simpa using h) = l[k] from rfl] at this
      unfold plc at this
      by_cases e : x = l[k]
      · rw [if_pos e] at this; omega
      · rw [if_neg e] at this
        refine ⟨e, ?_⟩
        split at this <;> omega
    refine List.nodup_cons.2 ⟨fun hm => ?_, self_plc l fun k h => (hx k h).2⟩
    obtain ⟨k, h, e⟩ := List.getElem_of_mem hm
    exact (hx k h).1 e.symm
/-- An append of one number to a row of our own. -/
theorem Kp.later {S : Nat → Prop} {a b c : World} (h : Kp Non a b) (k : Kp S b c) (hS : ∀ i, S i → a.heap.size ≤ i) : Kp Non a c := h.comp k (fun _ _ f => f) (fun i hi hs => absurd (hS i hs) (by omega))

theorem goodB_neg {l l' : List RanV} {k : Nat} {x : RanV} (hx : l[k]? = some x) (h : plc x.ref (l'.map RanV.ref) < 0) : goodB l l' k = true := by simp [goodB, hx, h]
theorem goodB_pos {l l' : List RanV} {k i : Nat} {x y : RanV} (hx : l[k]? = some x) (h : plc x.ref (l'.map RanV.ref) = i) (hy : l'[i]? = some y) : goodB l l' k = (sameB x y && (l.take k).all (pairB (l'.map RanV.ref) x)) := by
  have : ¬ (i : Int) < 0 := by omega
  simp [goodB, hx, h, hy]
  omega
/-- What the region reads. -/
structure RgCl (bx b' o' i ba oa k : Nat) (x y : RanV) (W : World) : Prop where
  g2 : W.cell? ⟨bx, 2, none⟩ = some (.int .i64 x.cmd.op)
  g3 : W.cell? ⟨bx, 3, none⟩ = some (.int .i64 x.cmd.cl)
  g4 : W.cell? ⟨bx, 4, none⟩ = some (.int .i64 x.cmd.sq)
  g5 : W.cell? ⟨bx, 5, none⟩ = some (.int .i64 x.cmd.fr)
  g6 : W.cell? ⟨bx, 6, none⟩ = some (.int .i64 x.cmd.to)
  g7 : W.cell? ⟨bx, 7, none⟩ = some (.slice x.cmd.da.a x.cmd.da.n x.cmd.da.c)
  g8 : W.cell? ⟨bx, 8, none⟩ = some (.bool x.rep.ok)
  g9 : W.cell? ⟨bx, 9, none⟩ = some (.slice x.rep.da.a x.rep.da.n x.rep.da.c)
  e2 : W.cell? ⟨b', o' + i * 10 + 2, none⟩ = some (.int .i64 y.cmd.op)
  e3 : W.cell? ⟨b', o' + i * 10 + 3, none⟩ = some (.int .i64 y.cmd.cl)
  e4 : W.cell? ⟨b', o' + i * 10 + 4, none⟩ = some (.int .i64 y.cmd.sq)
  e5 : W.cell? ⟨b', o' + i * 10 + 5, none⟩ = some (.int .i64 y.cmd.fr)
  e6 : W.cell? ⟨b', o' + i * 10 + 6, none⟩ = some (.int .i64 y.cmd.to)
  e7 : W.cell? ⟨b', o' + i * 10 + 7, none⟩ = some (.slice y.cmd.da.a y.cmd.da.n y.cmd.da.c)
  e8 : W.cell? ⟨b', o' + i * 10 + 8, none⟩ = some (.bool y.rep.ok)
  e9 : W.cell? ⟨b', o' + i * 10 + 9, none⟩ = some (.slice y.rep.da.a y.rep.da.n y.rep.da.c)
  a0 : W.cell? ⟨ba, oa + k, none⟩ = some (.int .i64 i)

/-- What the inner region reads. -/
structure RmCl (bx ba oa bq i j k : Nat) (t : Int) (x q : RanV) (W : World) : Prop where
  g2 : W.cell? ⟨bx, 2, none⟩ = some (.int .i64 x.cmd.op)
  g3 : W.cell? ⟨bx, 3, none⟩ = some (.int .i64 x.cmd.cl)
  g4 : W.cell? ⟨bx, 4, none⟩ = some (.int .i64 x.cmd.sq)
  g5 : W.cell? ⟨bx, 5, none⟩ = some (.int .i64 x.cmd.fr)
  g6 : W.cell? ⟨bx, 6, none⟩ = some (.int .i64 x.cmd.to)
  g7 : W.cell? ⟨bx, 7, none⟩ = some (.slice x.cmd.da.a x.cmd.da.n x.cmd.da.c)
  e2 : W.cell? ⟨bq, 2, none⟩ = some (.int .i64 q.cmd.op)
  e3 : W.cell? ⟨bq, 3, none⟩ = some (.int .i64 q.cmd.cl)
  e4 : W.cell? ⟨bq, 4, none⟩ = some (.int .i64 q.cmd.sq)
  e5 : W.cell? ⟨bq, 5, none⟩ = some (.int .i64 q.cmd.fr)
  e6 : W.cell? ⟨bq, 6, none⟩ = some (.int .i64 q.cmd.to)
  e7 : W.cell? ⟨bq, 7, none⟩ = some (.slice q.cmd.da.a q.cmd.da.n q.cmd.da.c)
  a0 : W.cell? ⟨ba, oa + k, none⟩ = some (.int .i64 i)
  a1 : W.cell? ⟨ba, oa + j, none⟩ = some (.int .i64 t)

set_option maxRecDepth 100000 in
set_option maxHeartbeats 20000000 in
theorem rAgree_calls (a a' : Option Addr) (c c' : Nat) (l l' : List RanV) (w : World) (hl : Rans w a l.length c l) (hl' : Rans w a' l'.length c' l') (hsm : l.length ≤ 1000) : Calls Try.prog 19 #[.slice a l.length c, .slice a' l'.length c'] w (BoolOut (agreeB l l') w) := by
  have hcc := hl.reads.cap
  have hmm := hl.reads.max
  have hcc' := hl'.reads.cap
  have hmm' := hl'.reads.max
  go_enter Try.func19, Try.ntmps19
  go_wp2_with fail
  obtain ⟨i0, hi0, hz0, hz1, hz2⟩ := info_parts infoI
  go_loopw [5, 14] (fun v5 v14 wr => ∃ k : Nat, k ≤ l.length ∧ v14 = .int .i64 k ∧ (∃ ax cx, v5 = .slice ax k cx ∧ OwnI wr w.heap.size ax k cx ((l.take k).map fun p => plc p.ref (l'.map RanV.ref))) ∧ Hid (∀ j, (h : j < l.length) → j < k → plc l[j].ref (l.map RanV.ref) = j) ∧ Kp Non w wr) (fun _ v14 _ => l.length - (intOf v14).toNat)
  case atStart => exact ⟨0, by omega, rfl, ⟨none, 0, rfl, OwnR.nil w _ _⟩, Lib.hid fun j _ h => absurd h (by omega), Kp.refl _ _⟩
  case round =>
    obtain ⟨k, hk', rfl, ⟨ax, cx, rfl, hO⟩, hall, hkr⟩ := hrel
    by_cases hlt : k < l.length
    · have g : (k : Int) < (l.length : Nat) := by omega
      obtain ⟨b, o, rfl⟩ := hl.reads.there (by omega)
      obtain ⟨c0, c1, c2, c3, c4, c5, c6, c7, c8, c9⟩ := (hl.non hkr).cells hlt
      have HT : Hid ((l.take (k + 1)).map (fun p => plc p.ref (l'.map RanV.ref)) = (l.take k).map (fun p => plc p.ref (l'.map RanV.ref)) ++ [plc l[k].ref (l'.map RanV.ref)]) := Lib.hid (take_map_snoc (fun p => plc p.ref (l'.map RanV.ref)) hlt)
      have HA : Hid (plc l[k].ref (l.map RanV.ref) = k → ∀ j, (h : j < l.length) → j < k + 1 → plc l[j].ref (l.map RanV.ref) = j) := Lib.hid fun e j h hj => if hh : j < k then hall.out j h hh else by
        obtain rfl : j = k := by omega
        exact e
      have HF : Hid (plc l[k].ref (l.map RanV.ref) ≠ k → agreeB l l' = false) := Lib.hid fun e => by
        have hn : ¬ (l.map RanV.ref).Nodup := fun hn => e (by
          have := plc_self _ hn k (by simpa using hlt)
          simpa using this)
        simp [agreeB, decide_eq_false hn]
      have HN := Lib.hid (BoxN.new2 wr l[k])
      generalize l[k] = x at *
      go_upto_region 5 with (fail)
      obtain ⟨V, eV, hN, kV⟩ := HN.out
      rw [eV]
      have n0 := hN.c0
      have n1 := hN.c1
      have hkV := hkr.trans kV
      have hO := hO.non kV
      clear eV HN hN c0 c1 c2 c3 c4 c5 c6 c7 c8 c9
      generalize wr.heap.size = bx at *
      have HC1 := Lib.hid (rplace_calls _ c l x.ref V (hl.non hkV))
      have HC2 := Lib.hid (fun W (q : Kp Non w W) => rplace_calls _ c' l' x.ref W (hl'.non q))
      generalize plc x.ref (l.map RanV.ref) = t at *
      generalize plc x.ref (l'.map RanV.ref) = t' at *
      go_wp2_with fail
      refine HC1.out.mono ?_
      rintro e w1 ⟨rfl, hk1⟩
      have hkw := hkV.trans hk1
      have n0 := hk1.cell n0 (fun f => f)
      have n1 := hk1.cell n1 (fun f => f)
      have hO := hO.non hk1
      by_cases hte : t = k
      · have ht : (t == (k : Int)) = true := by simp [hte]
        have HAn := Lib.hid (HA.out hte)
        clear HA HF hte
        go_wp2_with fail
        refine (HC2.out w1 hkw).mono ?_
        rintro e w2 ⟨rfl, hk2⟩
        have hkw2 := hkw.trans hk2
        have hO := hO.non hk2
        go_wp2_with (at_builtin; refine wpList_append_row rfl _ _ 66 rfl w.heap.size 3 i0 _ 8 Try.underlying66 hi0 hz0 hz1 hz2 rfl (by decide) encI_len encI_one ax k cx _ rfl (hO.non ((Kp.refl _ _).alloc _)) _ 1 1 [t'] rfl (Reads.new rfl rfl) (by omega) (by omega) ?_ ?_; exact ((hkw2.alloc _).size); intro a3 c3 w3 hO3 hk3 _)
        have hk3 : Kp Non w w3 := (hkw2.alloc _).later hk3 (fun i hi => (hO.blk i hi).1)
        rw [← HT.out] at hO3
        go_roundw
        case rel => exact ⟨k + 1, by omega, by go_num, ⟨a3, c3, rfl, hO3⟩, HAn, hk3⟩
        case measure => simp [intOf]; omega
      · have ht : (t == (k : Int)) = false := by simp [hte]
        have HG := Lib.hid (HF.out hte)
        clear HA HF hte
        go_wp2_with fail
        go_ret
        exact ⟨ret_bool HG.out.symm, hkw⟩
    · obtain rfl : k = l.length := by omega
      have hN : (l.map RanV.ref).Nodup := self_plc _ fun j h => by
        have h' : j < l.length := by simpa using h
        have := hall.out j h' h'
        simpa using this
      have HG : Hid (agreeB l l' = (List.range l.length).all (goodB l l')) := Lib.hid (by simp [agreeB, hN])
      rw [List.take_of_length_le (Nat.le_refl _)] at hO
      have hI := hO.reads encI_len (by omega)
      have hlr := hl.non hkr
      have hlr' := hl'.non hkr
      have hic := hI.cap
      have him := hI.max
      clear hN hall hO hl hl'
      obtain ⟨wb, rfl⟩ : ∃ wb, wb = wr := ⟨_, rfl⟩
      go_wp2_with fail
      go_loopw [35] (fun v35 ws => ∃ k : Nat, k ≤ l.length ∧ v35 = .int .i64 k ∧ Hid (∀ j, j < k → goodB l l' j = true) ∧ Kp Non wb ws) (fun v35 _ => l.length - (intOf v35).toNat)
      case atStart => exact ⟨0, by omega, rfl, Lib.hid fun j h => absurd h (by omega), Kp.refl _ _⟩
      case round =>
        obtain ⟨k, hk', rfl, hall, hkr2⟩ := hrel
        by_cases hlt : k < l.length
        · have g : (k : Int) < (l.length : Nat) := by omega
          obtain ⟨b, o, rfl⟩ := hlr.reads.there (by omega)
          obtain ⟨ba, oa, rfl⟩ := hI.there (by omega)
          obtain ⟨c0, c1, c2, c3, c4, c5, c6, c7, c8, c9⟩ := (hlr.non hkr2).cells hlt
          have d0 := Ints.c (hI.non hkr2) (j := k) (by simpa using hlt)
          rw [List.getElem_map] at d0
          have HX := Lib.hid (List.getElem?_eq_getElem hlt)
          have HTh := Lib.hid ((hlr.non hkr2).there_of hlt)
          have HN := Lib.hid (BoxN.new2 wr l[k])
          generalize l[k] = x at *
          go_upto_region 12 with (fail)
          obtain ⟨V, eV, hN, kV⟩ := HN.out
          rw [eV]
          have n0 := hN.c0
          have n1 := hN.c1
          have n2 := hN.c2
          have n3 := hN.c3
          have n4 := hN.c4
          have n5 := hN.c5
          have n6 := hN.c6
          have n7 := hN.c7
          have n8 := hN.c8
          have n9 := hN.c9
          have hkV := hkr2.trans kV
          have d0 := kV.cell d0 (fun f => f)
          have hTh := HTh.out.non kV
          clear eV HN c0 c1 c2 c3 c4 c5 c6 c7 c8 c9 HTh
          generalize wr.heap.size = bx at *
          have hpl := plc_lt x.ref (l'.map RanV.ref)
          rw [List.length_map] at hpl
          generalize ht : plc x.ref (l'.map RanV.ref) = t at *
          by_cases hx : t < 0
          · have HE : Hid (∀ j, j < k + 1 → goodB l l' j = true) := Lib.hid fun j hj => if h : j < k then hall.out j h else by
              obtain rfl : j = k := by omega
              exact goodB_neg HX.out (by rw [ht]; exact hx)
            clear hpl
            go_wp2_with fail
            go_roundw
            case rel => exact ⟨k + 1, by omega, by go_num, HE, hkV⟩
            case measure => simp [intOf]; omega
          · obtain ⟨i, rfl⟩ : ∃ i : Nat, t = i := ⟨_, (Int.toNat_of_nonneg (by omega)).symm⟩
            have hlt' : i < l'.length := by omega
            have g' : (i : Int) < (l'.length : Nat) := by omega
            have HGD := Lib.hid (goodB_pos HX.out ht (List.getElem?_eq_getElem hlt'))
            have HI := Lib.hid ht
            clear ht hx hpl
            obtain ⟨b', o', rfl⟩ := hlr'.reads.there (by omega)
            obtain ⟨c0, c1, c2, c3, c4, c5, c6, c7, c8, c9⟩ := (hlr'.non hkV).cells hlt'
            have hTy := (hlr'.non hkV).there_of hlt'
            generalize l'[i] = y at *
            have HSC := Lib.hid (fun W' (q : Kp Non V W') => sameCmd_calls x.cmd y.cmd W' (hTh.1.non q) (hTy.1.non q))
            have HSR := Lib.hid (fun W' (q : Kp Non V W') => sameReply_calls x.rep y.rep W' (hTh.2.non q) (hTy.2.non q))
            have cl : ∀ W', Kp Non V W' → RgCl bx b' o' i ba oa k x y W' := fun W' q => ⟨q.cell n2 (fun f => f), q.cell n3 (fun f => f), q.cell n4 (fun f => f), q.cell n5 (fun f => f), q.cell n6 (fun f => f), q.cell n7 (fun f => f), q.cell n8 (fun f => f), q.cell n9 (fun f => f), q.cell c2 (fun f => f), q.cell c3 (fun f => f), q.cell c4 (fun f => f), q.cell c5 (fun f => f), q.cell c6 (fun f => f), q.cell c7 (fun f => f), q.cell c8 (fun f => f), q.cell c9 (fun f => f), q.cell d0 (fun f => f)⟩
            have CL := Lib.hid cl
            go_upto_region 13 with (fail)
            clear cl c0 c1 c2 c3 c4 c5 c6 c7 c8 c9 n2 n3 n4 n5 n6 n7 n8 n9 hTh hTy
            have HSB : Hid (sameB x y = (sameC x.cmd y.cmd && sameR x.rep y.rep)) := Lib.hid rfl
            generalize sameC x.cmd y.cmd = sc at *
            generalize sameR x.rep y.rep = sr at *
            go_cut [70] (fun v70 wc => v70 = .bool (!(sc && sr)) ∧ Kp Non V wc)
            case first =>
              refine wp_region_pieces [(13, [0,0,0,0,0,0,0,0,0,0,2,2,2,9,9,9,9,9,9,9,9,9,9,9,9,9], RgCl bx b' o' i ba oa k x y), (26, [9,9,9,9,9,9,9,9,9,9,9,9,9,0,0,0,0,0,0,0,0,0,0,2,2,2], RgCl bx b' o' i ba oa k x y)] (by kernel_rfl) (by kernel_rfl) ?_
              refine (And.intro ?_ ?_ : _ ∧ _)
              · exact CL.out _ (Kp.refl _ _).drew
              refine PB.out ?_
              repeat (first | (with_reducible refine pb_skip ?_) | ((with_reducible refine pb_k rfl ?_); intro K hK; apply Exists.intro; refine ⟨fun w' hC => ?_, ?_⟩; (obtain ⟨g2, g3, g4, g5, g6, g7, g8, g9, e2, e3, e4, e5, e6, e7, e8, e9, a0⟩ := hC; go_simp; rfl); go_simp; refine hK _ ?_; clear hK K))
              with_reducible refine pb_nil ?_
              simp only [List.take_succ_cons, List.take_zero, List.drop_zero]
              refine CB.out ?_
              repeat (with_reducible refine cb_skip ?_)
              with_reducible refine cb_step rfl fun K hK => ?_
              go_simp
              refine (HSC.out _ (Kp.refl _ _).drew).mono ?_
              rintro e w3 ⟨rfl, hk3⟩
              have hk3 : Kp Non V w3 := (Kp.refl Non V).drew.trans hk3
              refine hK _ _ (fun h => by cases h) ?_
              clear hK K
              with_reducible refine cb_step rfl fun K hK => ?_
              go_simp
              refine hK _ _ (fun h => by cases h) ?_
              clear hK K
              with_reducible refine cb_step rfl fun K hK => ?_
              go_simp
              refine hK _ _ (fun h => by cases h) ?_
              clear hK K
              with_reducible refine cb_nil ?_
              refine (And.intro ?_ ?_ : _ ∧ _)
              · exact CL.out _ hk3
              refine PB.out ?_
              iterate 13 (with_reducible refine pb_skip ?_)
              rcases sc with _ | _
              · iterate 10 (refine pb_kn (by simp [Region.wanted, yielded]) ?_; intro K hK; go_simp; refine hK _ ?_; clear hK K)
                iterate 3 (with_reducible refine pb_skip ?_)
                with_reducible refine pb_nil ?_
                simp only [List.take_succ_cons, List.take_zero, List.drop_succ_cons, List.drop_zero]
                refine CB.out ?_
                repeat (with_reducible refine cb_skip ?_)
                refine cb_kn (by simp [Region.wanted, yielded]) fun K hK => ?_
                go_simp
                refine hK _ _ ?_
                clear hK K
                refine cb_kn (by simp [Region.wanted, yielded]) fun K hK => ?_
                go_simp
                refine hK _ _ ?_
                clear hK K
                with_reducible refine cb_step rfl fun K hK => ?_
                go_simp
                refine hK _ _ (fun h => by cases h) ?_
                clear hK K
                with_reducible refine cb_nil ?_
                simp only [Then, wpPieces]
                go_step
                go_step
                go_meet
                case rel => exact ⟨rfl, hk3⟩
              · repeat (first | (with_reducible refine pb_skip ?_) | ((refine pb_ky (by simp [Region.wanted, yielded]) ?_); intro K hK; apply Exists.intro; refine ⟨fun w' hC => ?_, ?_⟩; (obtain ⟨g2, g3, g4, g5, g6, g7, g8, g9, e2, e3, e4, e5, e6, e7, e8, e9, a0⟩ := hC; go_simp; rfl); go_simp; refine hK _ ?_; clear hK K))
                with_reducible refine pb_nil ?_
                simp only [List.take_succ_cons, List.take_zero, List.drop_succ_cons, List.drop_zero]
                refine CB.out ?_
                repeat (with_reducible refine cb_skip ?_)
                refine cb_ky (by simp [Region.wanted, yielded]) fun K hK => ?_
                go_simp
                refine (HSR.out _ hk3).mono ?_
                rintro e w4 ⟨rfl, hk4⟩
                have hk4 : Kp Non V w4 := hk3.trans hk4
                refine hK _ _ (fun h => by cases h) ?_
                clear hK K
                refine cb_ky (by simp [Region.wanted, yielded]) fun K hK => ?_
                go_simp
                refine hK _ _ (fun h => by cases h) ?_
                clear hK K
                with_reducible refine cb_step rfl fun K hK => ?_
                go_simp
                refine hK _ _ (fun h => by cases h) ?_
                clear hK K
                with_reducible refine cb_nil ?_
                simp only [Then, wpPieces]
                go_step
                go_step
                go_meet
                case rel => exact ⟨rfl, hk4⟩
            case rest =>
              obtain ⟨rfl, hk3⟩ := hcut
              have hkc := hkV.trans hk3
              have HGD : Hid (goodB l l' k = ((sc && sr) && (l.take k).all (pairB (l'.map RanV.ref) x))) := Lib.hid (by rw [HGD.out, HSB.out])
              clear HSB HSC HSR
              generalize (sc && sr) = sb at *
              rcases sb with _ | _
              · have HF : Hid (agreeB l l' = false) := Lib.hid (by rw [HG.out, List.all_eq_false]; exact ⟨k, List.mem_range.2 hlt, by rw [HGD.out]; simp⟩)
                clear HGD CL HX hall
                go_wp2_with fail
                go_ret
                exact ⟨ret_bool HF.out.symm, hkr.trans hkc⟩
              · have HGE : Hid ((∀ j', j' < k → ∀ q, l[j']? = some q → pairB (l'.map RanV.ref) x q = true) → goodB l l' k = true) := Lib.hid fun hq => by
                  rw [HGD.out, Bool.true_and, List.all_eq_true]
                  intro q hm
                  obtain ⟨j, hj, he⟩ := List.getElem_of_mem hm
                  rw [List.length_take] at hj
                  rw [List.getElem_take] at he
                  exact hq j (by omega) q (by rw [List.getElem?_eq_getElem (by omega), he])
                have HGN : Hid (∀ j' : Nat, j' < k → ∀ q, l[j']? = some q → pairB (l'.map RanV.ref) x q = false → agreeB l l' = false) := Lib.hid fun j' hj q hq hp => by
                  rw [HG.out, List.all_eq_false]
                  refine ⟨k, List.mem_range.2 hlt, ?_⟩
                  rw [HGD.out, Bool.true_and, Bool.not_eq_true, List.all_eq_false]
                  refine ⟨q, List.mem_of_getElem? (i := j') ?_, by rw [hp]; simp⟩
                  rw [List.getElem?_take, if_pos hj, hq]
                clear HGD
                go_wp2_with fail
                go_loopw [75] (fun v75 wi => ∃ j : Nat, j ≤ k ∧ v75 = .int .i64 j ∧ Hid (∀ j', j' < j → ∀ q, l[j']? = some q → pairB (l'.map RanV.ref) x q = true) ∧ Kp Non wc wi) (fun v75 _ => k - (intOf v75).toNat)
                case atStart => exact ⟨0, by omega, rfl, Lib.hid fun j h => absurd h (by omega), Kp.refl _ _⟩
                case round =>
                  obtain ⟨j, hj', rfl, halq, hki⟩ := hrel
                  by_cases hjt : j < k
                  · have gj : (j : Int) < (k : Nat) := by omega
                    have hjl : j < l.length := by omega
                    have gjl : (j : Int) < (l.length : Nat) := by omega
                    obtain ⟨c0, c1, c2, c3, c4, c5, c6, c7, c8, c9⟩ := (hlr.non (hkc.trans hki)).cells hjl
                    have d1 := Ints.c (hI.non (hkc.trans hki)) (j := j) (by simpa using hjl)
                    rw [List.getElem_map] at d1
                    have HQ := Lib.hid (List.getElem?_eq_getElem hjl)
                    have HN := Lib.hid (BoxN.new2 wr l[j])
                    generalize l[j] = q at *
                    go_upto_region 18 with (fail)
                    obtain ⟨U, eU, hN, kU⟩ := HN.out
                    rw [eU]
                    have n2 := hN.c2
                    have n3 := hN.c3
                    have n4 := hN.c4
                    have n5 := hN.c5
                    have n6 := hN.c6
                    have n7 := hN.c7
                    have d1 := kU.cell d1 (fun f => f)
                    have hkU := hki.trans kU
                    have hkUV := hk3.trans hkU
                    clear eU HN c0 c1 c2 c3 c4 c5 c6 c7 c8 c9 hN
                    generalize wr.heap.size = bq at *
                    have HPB : Hid (pairB (l'.map RanV.ref) x q = !(decide ((i : Int) < plc q.ref (l'.map RanV.ref)) && meddle x.cmd q.cmd)) := Lib.hid (by unfold pairB; rw [HI.out])
                    have HStep : Hid (pairB (l'.map RanV.ref) x q = true → ∀ j', j' < j + 1 → ∀ q, l[j']? = some q → pairB (l'.map RanV.ref) x q = true) := Lib.hid fun hp j' h q' hq' => if hh : j' < j then halq.out j' hh q' hq' else by
                      obtain rfl : j' = j := by omega
                      rw [HQ.out] at hq'
                      cases hq'
                      exact hp
                    generalize plc q.ref (l'.map RanV.ref) = t at *
                    have HMC := Lib.hid (fun W => rMeddle_calls x.cmd q.cmd W)
                    have HCL : Hid (∀ W, Kp Non U W → RmCl bx ba oa bq i j k t x q W) := Lib.hid fun W r => by
                      have gU := CL.out _ (hkUV.trans r)
                      exact ⟨gU.g2, gU.g3, gU.g4, gU.g5, gU.g6, gU.g7, r.cell n2 (fun f => f), r.cell n3 (fun f => f), r.cell n4 (fun f => f), r.cell n5 (fun f => f), r.cell n6 (fun f => f), r.cell n7 (fun f => f), gU.a0, r.cell d1 (fun f => f)⟩
                    clear n2 n3 n4 n5 n6 n7 d1 d0
                    generalize meddle x.cmd q.cmd = mb at *
                    go_cut [95] (fun v95 wc2 => v95 = .bool (decide ((i : Int) < t) && mb) ∧ Kp Non wc wc2)
                    case first =>
                      refine wp_region_pieces [(16, [0,0,0,0,0,0,0,0,0,0,0,0,0,0,2,2], RmCl bx ba oa bq i j k t x q)] (by kernel_rfl) (by kernel_rfl) ?_
                      refine (And.intro ?_ ?_ : _ ∧ _)
                      · exact HCL.out _ (Kp.refl _ _).drew
                      refine PB.out ?_
                      iterate 10 ((with_reducible refine pb_k rfl ?_); intro K hK; apply Exists.intro; refine ⟨fun w' hC => ?_, ?_⟩; (obtain ⟨g2, g3, g4, g5, g6, g7, e2, e3, e4, e5, e6, e7, a0, a1⟩ := hC; go_simp; rfl); go_simp; refine hK _ ?_; clear hK K)
                      by_cases hti : (i : Int) < t
                      · have hd : decide ((i : Int) < t) = true := decide_eq_true hti
                        rw [hd]
                        repeat (first | (with_reducible refine pb_skip ?_) | ((refine pb_ky (by simp [Region.wanted, yielded]) ?_); intro K hK; apply Exists.intro; refine ⟨fun w' hC => ?_, ?_⟩; (obtain ⟨g2, g3, g4, g5, g6, g7, e2, e3, e4, e5, e6, e7, a0, a1⟩ := hC; go_simp; rfl); go_simp; refine hK _ ?_; clear hK K))
                        with_reducible refine pb_nil ?_
                        simp only [List.take_succ_cons, List.take_zero, List.drop_zero]
                        refine CB.out ?_
                        repeat (with_reducible refine cb_skip ?_)
                        refine cb_ky (by simp [Region.wanted, yielded]) fun K hK => ?_
                        go_simp
                        refine (HMC.out _).mono ?_
                        rintro e w4 ⟨rfl, hk4⟩
                        have hk4 := ((Kp.refl Non U).drew).trans hk4
                        refine hK _ _ (fun h => by cases h) ?_
                        clear hK K
                        with_reducible refine cb_step rfl fun K hK => ?_
                        go_simp
                        refine hK _ _ (fun h => by cases h) ?_
                        clear hK K
                        with_reducible refine cb_nil ?_
                        simp only [Then, wpPieces]
                        go_step
                        go_step
                        go_meet
                        case rel => exact ⟨by rw [hd, Bool.true_and], hkU.trans hk4⟩
                      · have hd : decide ((i : Int) < t) = false := decide_eq_false hti
                        rw [hd]
                        iterate 4 (refine pb_kn (by simp [Region.wanted, yielded]) ?_; intro K hK; go_simp; refine hK _ ?_; clear hK K)
                        iterate 2 (with_reducible refine pb_skip ?_)
                        with_reducible refine pb_nil ?_
                        simp only [List.take_succ_cons, List.take_zero, List.drop_zero]
                        refine CB.out ?_
                        repeat (with_reducible refine cb_skip ?_)
                        refine cb_kn (by simp [Region.wanted, yielded]) fun K hK => ?_
                        go_simp
                        refine hK _ _ ?_
                        clear hK K
                        with_reducible refine cb_step rfl fun K hK => ?_
                        go_simp
                        refine hK _ _ (fun h => by cases h) ?_
                        clear hK K
                        with_reducible refine cb_nil ?_
                        simp only [Then, wpPieces]
                        go_step
                        go_step
                        go_meet
                        case rel => exact ⟨by rw [hd]; rfl, hkU.drew⟩
                    case rest =>
                      obtain ⟨rfl, hkV2⟩ := hcut
                      clear HCL HMC CL
                      generalize (decide ((i : Int) < t) && mb) = pm at *
                      rcases pm with _ | _
                      · have HR := Lib.hid (HStep.out (by rw [HPB.out]; rfl))
                        go_wp2_with fail
                        go_roundw
                        case rel => exact ⟨j + 1, by omega, by go_num, HR, hkV2⟩
                        case measure => simp [intOf]; omega
                      · have HF := Lib.hid (HGN.out j hjt q HQ.out (by rw [HPB.out]; rfl))
                        go_wp2_with fail
                        go_ret
                        exact ⟨ret_bool HF.out.symm, hkr.trans (hkc.trans hkV2)⟩
                  · obtain rfl : j = k := by omega
                    have HE : Hid (∀ j', j' < j + 1 → goodB l l' j' = true) := Lib.hid fun j' hj => if h : j' < j then hall.out j' h else by
                      obtain rfl : j' = j := by omega
                      exact HGE.out halq.out
                    clear CL
                    go_wp2_with fail
                    go_roundw
                    case rel => exact ⟨j + 1, by omega, by go_num, HE, hkc.trans hki⟩
                    case measure => simp [intOf]; omega
        · obtain rfl : k = l.length := by omega
          have HD : Hid (agreeB l l' = true) := Lib.hid (by rw [HG.out, List.all_eq_true]; exact fun j hj => hall.out j (List.mem_range.1 hj))
          go_wp2_with fail
          go_ret
          exact ⟨ret_bool HD.out.symm, hkr.trans hkr2⟩
end Go.Proofs.Ytpehfnobgdjgcaa
