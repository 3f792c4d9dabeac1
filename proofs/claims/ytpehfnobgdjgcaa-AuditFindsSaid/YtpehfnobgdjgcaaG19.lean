/-
  The puts of a block, shard by shard: the document's.
-/
import Derived.Test.YtpehfnobgdjgcaaG18
namespace Go.Proofs.Ytpehfnobgdjgcaa
open Go.RowKit

theorem Puts_.cells' {w : World} {b o n c : Nat} {l : List PutV} (h : Puts_ w (some ⟨b, o, none⟩) n c l) {j : Nat} (hj : j < l.length) : w.cell? ⟨b, o + j * 6 + 3, none⟩ = some (.int .i64 l[j].ref.1) ∧ w.cell? ⟨b, o + j * 6 + 4, none⟩ = some (.int .i64 l[j].ref.2) := ⟨(Puts_.cells h hj).2.2.2.1, (Puts_.cells h hj).2.2.2.2.1⟩
def RHistOut (r : Option (List PutV)) (w : World) (e : Ending) (w' : World) : Prop := ∃ a n c, e = .returned (.tuple #[.slice a n c, .bool r.isSome]) ∧ OwnQ w' w.heap.size a n c (r.getD []) ∧ Kp Non w w'
theorem rowsOf_take {l : List LifeV} {k : Nat} (h : k < l.length) (id block : Int) : rowsOf (l.take (k + 1)) id block = if l[k].sh = id then rowsOf (l.take k) id block ++ [putsL l[k] block] else rowsOf (l.take k) id block := by
  rw [List.take_succ_eq_append_getElem h, rowsOf_snoc]
theorem rowsOf_mem {l : List LifeV} {y : LifeV} (h : y ∈ l) (block : Int) : putsL y block ∈ rowsOf l y.sh block := by
  unfold rowsOf
  exact List.mem_map.2 ⟨y, List.mem_filter.2 ⟨h, by simp⟩, rfl⟩

set_option maxRecDepth 100000 in
set_option maxHeartbeats 2000000 in
theorem rHistory_calls (a : Option Addr) (c : Nat) (l : List LifeV) (block : Int) (w : World) (hl : Lives w a l.length c l) (hs : l.length ≤ 12) (hlog : ∀ y ∈ l, y.log.l.length ≤ 1000) : Calls Try.prog 15 #[.slice a l.length c, .int .i64 block] w (RHistOut (histL l block) w) := by
  have hcx := hl.reads.cap
  have hmx := hl.reads.max
  have HSh := Lib.hid (shards_calls a c l w hl.reads (by omega))
  go_enter Try.func15, Try.ntmps15
  go_wp2_with fail
  refine HSh.out.mono ?_
  rintro e w2 ⟨ax, n, cx, rfl, hO2, hkw2⟩
  have hlw := Lib.hid fun W' (r : Kp Non w2 W') => hl.non (hkw2.trans r)
  have hln := hO2.len encI_len (by omega)
  have HN12 : Hid (n ≤ 12) := Lib.hid (by have := idsL_len l; omega)
  have HLn := Lib.hid hln
  have hRI := hO2.reads encI_len (by omega)
  have hci := hRI.cap
  have hmi := hRI.max
  clear hln hO2 HSh
  have HR : Hid (∀ r : Option (List PutV), r = (if (idsL l).all fun id => okRows (rowsOf l id block) then some ((idsL l).flatMap fun id => bestOf (rowsOf l id block)) else none) → r = histL l block) := Lib.hid fun r hr => hr
  obtain ⟨p0, hp0, hp1, hp2, hp3⟩ := info_parts infoRPut
  have HB1 : Hid (∀ id, (bestOf (rowsOf l id block)).length ≤ 1000) := Lib.hid fun id => by
    rcases bestOf_mem (rowsOf l id block) with h | h
    · rw [h]; simp
    · exact rowsOf_len hlog id block _ h
  have HIdm : Hid (∀ k : Nat, (h : k < (idsL l).length) → (idsL l)[k] ∈ idsL l) := Lib.hid fun k h => List.getElem_mem h
  generalize idsL l = ids at *
  go_wp2_with fail
  go_loopw [6, 19] (fun v6 v19 wr => ∃ k : Nat, k ≤ n ∧ v19 = .int .i64 k ∧ (∃ m' a' c', v6 = .slice a' m' c' ∧ m' ≤ k * 1000 ∧ OwnQ wr w2.heap.size a' m' c' ((ids.take k).flatMap fun id => bestOf (rowsOf l id block))) ∧ Hid (∀ id ∈ ids.take k, okRows (rowsOf l id block) = true) ∧ Kp Non w2 wr) (fun _ v19 _ => n - (intOf v19).toNat)
  case atStart => exact ⟨0, by omega, rfl, ⟨0, none, 0, rfl, by omega, OwnR.nil _ _ _⟩, Lib.hid (by simp), Kp.refl _ _⟩
  case round =>
    obtain ⟨k, hk', rfl, ⟨m', a', c', rfl, hm'k, hOa⟩, hall, hkr⟩ := hrel
    by_cases hlt : k < n
    · have g : (k : Int) < (n : Nat) := by omega
      have hko : k < ids.length := by have := HLn.out; omega
      obtain ⟨gi, oi, rfl⟩ := hRI.there (by omega)
      have d0 := Ints.c (hRI.non hkr) hko
      have HT := Lib.hid (List.take_succ_eq_append_getElem hko)
      have HMem := Lib.hid (HIdm.out k hko)
      generalize ids[k] = id at *
      obtain ⟨wa, hwa⟩ : ∃ wa, wr = wa := ⟨_, rfl⟩
      rw [hwa] at d0 hkr hOa ⊢
      clear hwa
      go_wp2_with fail
      go_loopw [9, 25] (fun v9 v25 wi => ∃ i : Nat, i ≤ l.length ∧ v25 = .int .i64 i ∧ (∃ ba bn bc, v9 = .slice ba bn bc ∧ Puts_ wi ba bn bc (bestOf (rowsOf (l.take i) id block))) ∧ Kp Non wa wi) (fun _ v25 _ => l.length - (intOf v25).toNat)
      case atStart => exact ⟨0, by omega, rfl, ⟨none, 0, 0, rfl, Reads.empty _⟩, Kp.refl _ _⟩
      case round =>
        obtain ⟨i, hi', rfl, ⟨ba, bn, bc, rfl, hBe⟩, hki⟩ := hrel
        have hbl := hBe.len
        have hcb := hBe.cap
        have hmb := hBe.max
        by_cases hit : i < l.length
        · have gi' : (i : Int) < (l.length : Nat) := by omega
          have hLi := hlw.out _ (hkr.trans hki)
          obtain ⟨b, o, rfl⟩ := hLi.reads.there (by omega)
          obtain ⟨c0, c1, c2⟩ := hLi.cells hit
          have HStp := Lib.hid (rowsOf_take hit id block)
          have HLx := Lib.hid fun W' (r : Kp Non w2 W') => (hlw.out W' r).log_of hit
          have HLl := Lib.hid (hlog _ (List.getElem_mem hit))
          have HN := Lib.hid (BxL.new2 wr l[i])
          generalize l[i] = x at *
          go_upto_region 9 with (fail)
          obtain ⟨V, eV, hN, kV⟩ := HN.out
          rw [eV]
          have HC := Lib.hid fun W' (r : Kp Non V W') => BxL.cells (Bx.non hN r)
          obtain ⟨n0, n1, n2⟩ := hN.cells
          have hkV := hki.trans kV
          have hBe := hBe.non kV
          have HPu := Lib.hid fun W' (r : Kp Non V W') => rPuts_calls x block W' (HLx.out W' (hkr.trans (hkV.trans r))) HLl.out
          clear eV HN hN c0 c1 c2
          generalize wr.heap.size = bx at *
          by_cases hid : x.sh = id
          · have e1 : (x.sh == id) = true := by simp [hid]
            have HBs : Hid (bestOf (rowsOf (l.take (i + 1)) id block) = if bn < (putsL x block).length then putsL x block else bestOf (rowsOf (l.take i) id block)) := Lib.hid (by rw [HStp.out, if_pos hid, bestOf_snoc, hbl])
            clear hid hbl
            go_wp2_with fail
            refine (HPu.out V (Kp.refl _ _)).mono ?_
            rintro e w5 ⟨qa, qn, qc, rfl, hOq, hk5⟩
            have hql := hOq.len encPut_len (by omega)
            have hcq := (hOq.reads encPut_len (by omega)).cap
            have hmq := (hOq.reads encPut_len (by omega)).max
            rw [← hql] at HBs
            clear hql
            obtain ⟨n0, n1, n2⟩ := HC.out w5 hk5
            by_cases hlt3 : bn < qn
            · have HE : Hid (bestOf (rowsOf (l.take (i + 1)) id block) = putsL x block) := Lib.hid (by rw [HBs.out, if_pos hlt3])
              go_wp2_with fail
              refine (HPu.out w5 hk5).mono ?_
              rintro e w6 ⟨ra, rn, rc, rfl, hOr, hk6⟩
              go_wp2_with fail
              go_roundw
              case rel => exact ⟨i + 1, by omega, by go_num, ⟨ra, rn, rc, rfl, by rw [HE.out]; exact hOr.reads encPut_len (by omega)⟩, hkV.trans (hk5.trans hk6)⟩
              case measure => simp [intOf]; omega
            · have HE : Hid (bestOf (rowsOf (l.take (i + 1)) id block) = bestOf (rowsOf (l.take i) id block)) := Lib.hid (by rw [HBs.out, if_neg hlt3])
              go_wp2_with fail
              go_roundw
              case rel => exact ⟨i + 1, by omega, by go_num, ⟨ba, bn, bc, rfl, by rw [HE.out]; exact hBe.non hk5⟩, hkV.trans hk5⟩
              case measure => simp [intOf]; omega
          · have e1 : (x.sh == id) = false := by simp [hid]
            have HE : Hid (rowsOf (l.take (i + 1)) id block = rowsOf (l.take i) id block) := Lib.hid (by rw [HStp.out, if_neg hid])
            clear hid hbl
            go_wp2_with fail
            go_roundw
            case rel => exact ⟨i + 1, by omega, by go_num, ⟨ba, bn, bc, rfl, by rw [HE.out]; exact hBe⟩, hkV⟩
            case measure => simp [intOf]; omega
        · obtain rfl : i = l.length := by omega
          rw [List.take_of_length_le (Nat.le_refl _)] at hBe hbl
          have HBL := Lib.hid hbl
          clear hbl
          obtain ⟨wb, hwb⟩ : ∃ wb, wr = wb := ⟨_, rfl⟩
          rw [hwb] at hBe hki ⊢
          have hkb := hki
          clear hwb hki
          obtain ⟨rs, hrs⟩ : ∃ rs, rowsOf l id block = rs := ⟨_, rfl⟩
          have HBk := Lib.hid (HB1.out id)
          rw [hrs] at HBk hBe HBL
          have HRsE := Lib.hid hrs
          clear hrs
          have HGE : Hid (∀ r ∈ rs, r.length ≤ (bestOf rs).length) := Lib.hid (bestOf_ge rs)
          have HOK : Hid ((∀ y ∈ l, y.sh = id → okRow (bestOf rs) (putsL y block) = true) → okRows rs = true) := Lib.hid fun h => by
            unfold okRows
            rw [List.all_eq_true]
            intro r hr
            have hr' := hr
            rw [← HRsE.out] at hr'
            unfold rowsOf at hr'
            obtain ⟨y, hy, rfl⟩ := List.mem_map.1 hr'
            have := List.mem_filter.1 hy
            exact h y this.1 (of_decide_eq_true this.2)
          have HNO : Hid (∀ r, r ∈ rs → okRow (bestOf rs) r = false → okRows rs = false) := Lib.hid fun r h hf => by
            unfold okRows
            rw [List.all_eq_false]
            exact ⟨r, h, by rw [hf]; simp⟩
          have hOa := hOa.non hkb
          go_wp2_with fail
          go_loopw [48] (fun v48 wi => ∃ i : Nat, i ≤ l.length ∧ v48 = .int .i64 i ∧ Hid (∀ i', (h : i' < l.length) → i' < i → l[i'].sh = id → okRow (bestOf rs) (putsL l[i'] block) = true) ∧ Kp Non wb wi) (fun v48 _ => l.length - (intOf v48).toNat)
          case atStart => exact ⟨0, by omega, rfl, Lib.hid fun _ _ h => absurd h (by omega), Kp.refl _ _⟩
          case round =>
            obtain ⟨i, hi', rfl, halo, hki⟩ := hrel
            by_cases hit : i < l.length
            · have gi' : (i : Int) < (l.length : Nat) := by omega
              have hLi := hlw.out _ (hkr.trans (hkb.trans hki))
              obtain ⟨b, o, rfl⟩ := hLi.reads.there (by omega)
              obtain ⟨c0, c1, c2⟩ := hLi.cells hit
              have HLx := Lib.hid fun W' (r : Kp Non w2 W') => (hlw.out W' r).log_of hit
              have HLl := Lib.hid (hlog _ (List.getElem_mem hit))
              have HSt : Hid ((l[i].sh = id → okRow (bestOf rs) (putsL l[i] block) = true) → ∀ i', (h : i' < l.length) → i' < i + 1 → l[i'].sh = id → okRow (bestOf rs) (putsL l[i'] block) = true) := Lib.hid fun h0 i' h hh => if h2 : i' < i then halo.out i' h h2 else by
                obtain rfl : i' = i := by omega
                exact h0
              have HMr : Hid (l[i].sh = id → putsL l[i] block ∈ rs) := Lib.hid fun e => by
                have := rowsOf_mem (List.getElem_mem hit) block
                rw [e, HRsE.out] at this
                exact this
              have HN := Lib.hid (BxL.new2 wr l[i])
              generalize l[i] = x at *
              go_upto_region 15 with (fail)
              obtain ⟨V, eV, hN, kV⟩ := HN.out
              rw [eV]
              obtain ⟨n0, n1, n2⟩ := hN.cells
              have hkV := hki.trans kV
              have HPu := Lib.hid (rPuts_calls x block V (HLx.out V (hkr.trans (hkb.trans hkV))) HLl.out)
              clear eV HN hN c0 c1 c2
              generalize wr.heap.size = bx at *
              by_cases hid : x.sh = id
              · have e1 : (x.sh != id) = false := by simp [hid]
                have HMr := Lib.hid (HMr.out hid)
                have HSt := Lib.hid fun (h : okRow (bestOf rs) (putsL x block) = true) => HSt.out fun _ => h
                clear hid
                go_wp2_with fail
                refine HPu.out.mono ?_
                rintro e w5 ⟨qa, qn, qc, rfl, hOq, hk5⟩
                have HQL := Lib.hid (hOq.len encPut_len (by omega))
                have hRq := hOq.reads encPut_len (by omega)
                have hcq := hRq.cap
                have hmq := hRq.max
                have HLE : Hid (qn ≤ bn) := Lib.hid (by rw [HQL.out, HBL.out]; exact HGE.out _ HMr.out)
                have hk5 := hkV.trans hk5
                have HNQ := Lib.hid (HNO.out _ HMr.out)
                clear HPu HLx hOq
                generalize putsL x block = ql at *
                go_wp2_with fail
                go_loopw [60] (fun v60 wj => ∃ j : Nat, j ≤ qn ∧ v60 = .int .i64 j ∧ Hid (∀ j', j' < j → (ql[j']?).map PutV.ref = ((bestOf rs)[j']?).map PutV.ref) ∧ Kp Non w5 wj) (fun v60 _ => qn - (intOf v60).toNat)
                case atStart => exact ⟨0, by omega, rfl, Lib.hid fun _ h => absurd h (by omega), Kp.refl _ _⟩
                case round =>
                  obtain ⟨j, hj', rfl, halj, hkj⟩ := hrel
                  by_cases hjt : j < qn
                  · have gj : (j : Int) < (qn : Nat) := by omega
                    have gjb : (j : Int) < (bn : Nat) := by have := HLE.out; omega
                    have hjq : j < ql.length := by have := HQL.out; omega
                    have hjb : j < (bestOf rs).length := by have := HBL.out; omega
                    obtain ⟨gq, oq, rfl⟩ := hRq.there (by omega)
                    obtain ⟨gb, ob, rfl⟩ := hBe.there (by omega)
                    obtain ⟨c0, c1, c2, c3, c4, c5⟩ := Puts_.cells (hRq.non hkj) hjq
                    have HBj := Lib.hid fun W' (r : Kp Non wb W') => Puts_.cells (hBe.non r) hjb
                    have HJ : Hid (∀ r, ql[j].ref = r → (bestOf rs)[j].ref = r → ∀ j', j' < j + 1 → (ql[j']?).map PutV.ref = ((bestOf rs)[j']?).map PutV.ref) := Lib.hid fun r h1 h2 j' hj' => if h : j' < j then halj.out j' h else by
                      obtain rfl : j' = j := by omega
                      rw [List.getElem?_eq_getElem hjq, List.getElem?_eq_getElem hjb, Option.map_some, Option.map_some, h1, h2]
                    have HJN : Hid (ql[j].ref ≠ (bestOf rs)[j].ref → okRow (bestOf rs) ql = false) := Lib.hid fun h => by
                      unfold okRow
                      rw [List.all_eq_false]
                      refine ⟨j, List.mem_range.2 hjq, ?_⟩
                      rw [List.getElem?_eq_getElem hjq, List.getElem?_eq_getElem hjb]
                      simpa using h
                    have HN := Lib.hid (BxQ.new2 wr ql[j])
                    generalize ql[j] = p at *
                    generalize (bestOf rs)[j] = y at *
                    go_upto_region 19 with (fail)
                    obtain ⟨U, eU, hN, kU⟩ := HN.out
                    rw [eU]
                    obtain ⟨n0, n1, n2, n3, n4, n5⟩ := hN.cells
                    have hkU := hkj.trans kU
                    obtain ⟨b0, b1, b2, b3, b4, b5⟩ := HBj.out U (hk5.trans hkU)
                    clear eU HN hN HBj c0 c1 c2 c3 c4 c5
                    generalize wr.heap.size = bq at *
                    have HEq : Hid (∀ d : Bool, neqB p.ref.1 p.ref.2 y.ref.1 y.ref.2 = d → if d = true then p.ref ≠ y.ref else p.ref = y.ref) := Lib.hid fun d hd => by
                      unfold neqB at hd
                      cases d with
                      | true => exact fun e => by rw [e] at hd; simp at hd
                      | false => exact of_decide_eq_true (by simpa using hd : decide (((p.ref.1, p.ref.2) : Rf) = (y.ref.1, y.ref.2)) = true)
                    generalize hd : neqB p.ref.1 p.ref.2 y.ref.1 y.ref.2 = d at *
                    have HD := Lib.hid (HEq.out d rfl)
                    clear HEq
                    rcases d with _ | _
                    · have HE := Lib.hid (HJ.out y.ref (by simpa using HD.out) rfl)
                      clear HJ HJN HD
                      go_wp2_with fail
                      go_quiet (fail)
                      go_wp2_with fail
                      go_roundw
                      case rel => exact ⟨j + 1, by omega, by go_num, HE, hkU.drewN _⟩
                      case measure => simp [intOf]; omega
                    · have HF : Hid (okRows rs = false) := Lib.hid (HNQ.out (HJN.out (by simpa using HD.out)))
                      have HH : Hid (none = histL l block) := Lib.hid (HR.out _ (by
                        rw [if_neg]
                        intro h
                        have := List.all_eq_true.1 h id HMem.out
                        rw [HRsE.out, HF.out] at this
                        cases this))
                      clear HJ HJN HD
                      go_wp2_with fail
                      go_quiet (fail)
                      go_wp2_with fail
                      go_ret2
                      exact ⟨none, 0, 0, by rw [← HH.out]; rfl, by rw [← HH.out]; exact OwnR.nil _ _ _, hkw2.trans (hkr.trans (hkb.trans (hk5.trans (hkU.drewN _))))⟩
                  · obtain rfl : j = qn := by omega
                    have HE := Lib.hid (HSt.out (by
                      unfold okRow
                      rw [List.all_eq_true]
                      intro j hj
                      exact decide_eq_true (halj.out j (by have := List.mem_range.1 hj; have := HQL.out; omega))))
                    go_wp2_with fail
                    go_roundw
                    case rel => exact ⟨i + 1, by omega, by go_num, HE, hk5.trans hkj⟩
                    case measure => simp [intOf]; omega
              · have e1 : (x.sh != id) = true := by simp [hid]
                have HE := Lib.hid (HSt.out fun e => absurd e hid)
                clear hid
                go_wp2_with fail
                go_roundw
                case rel => exact ⟨i + 1, by omega, by go_num, HE, hkV⟩
                case measure => simp [intOf]; omega
            · obtain rfl : i = l.length := by omega
              have HO2 : Hid (okRows rs = true) := Lib.hid (HOK.out fun y hy e => by
                obtain ⟨i, hi, rfl⟩ := List.getElem_of_mem hy
                exact halo.out i hi hi e)
              have hOa := hOa.non hki
              have HAl : Hid (∀ id' ∈ ids.take (k + 1), okRows (rowsOf l id' block) = true) := Lib.hid fun id' hid' => by
                rw [HT.out] at hid'
                rcases List.mem_append.1 hid' with h | h
                · exact hall.out id' h
                · simp at h
                  subst h
                  rw [HRsE.out]
                  exact HO2.out
              have HFl : Hid ((ids.take (k + 1)).flatMap (fun id => bestOf (rowsOf l id block)) = (ids.take k).flatMap (fun id => bestOf (rowsOf l id block)) ++ bestOf rs) := Lib.hid (by rw [HT.out, List.flatMap_append, List.flatMap_cons, List.flatMap_nil, List.append_nil, HRsE.out])
              have HBn : Hid (bn ≤ 1000) := Lib.hid (by rw [HBL.out]; exact HBk.out)
              have hk9 := hkr.trans (hkb.trans hki)
              clear HGE HOK HNO
              go_wp2_with (at_builtin; refine wpList_append_row rfl _ _ 35 rfl w2.heap.size 42 p0 _ 56 Try.underlying35 hp0 hp1 hp2 hp3 rfl (by decide) encPut_len encPut_one a' m' c' _ rfl hOa _ bn bc _ rfl (hBe.non hki) (by have := HBn.out; have := HN12.out; omega) (by have := HBn.out; have := HN12.out; omega) ?_ ?_; exact (hk9.size); intro a3 c3 w3 hO3 hk3 _)
              rw [← HFl.out] at hO3
              have hk3 : Kp Non w2 w3 := hk9.newer hk3 fun i hi => (hOa.blk i hi).1
              go_roundw
              case rel => exact ⟨k + 1, by omega, by go_num, ⟨m' + bn, a3, c3, rfl, by have := HBn.out; omega, hO3⟩, HAl, hk3⟩
              case measure => simp [intOf]; omega
    · obtain rfl : k = n := by omega
      have hOa : OwnQ wr w2.heap.size a' m' c' (ids.flatMap fun id => bestOf (rowsOf l id block)) := by
        have := HLn.out
        rwa [List.take_of_length_le (by omega)] at hOa
      have hh : some (ids.flatMap fun id => bestOf (rowsOf l id block)) = histL l block := HR.out _ (by
        rw [if_pos]
        rw [List.all_eq_true]
        intro id hid
        exact hall.out id (by rw [List.take_of_length_le (by have := HLn.out; omega)]; exact hid))
      have HH := Lib.hid hh
      clear hh hall
      go_wp2_with fail
      go_ret2
      exact ⟨a', m', c', by rw [← HH.out]; rfl, by rw [← HH.out]; exact hOa.lower hkw2.size, hkw2.trans hkr⟩
end Go.Proofs.Ytpehfnobgdjgcaa
