/-
  Check: the program's.
-/
import Derived.Test.YtpehfnobgdjgcaaH0
namespace Go.Proofs.Ytpehfnobgdjgcaa
open Go.RowKit

theorem livesB_no {p : List LifeV} {i k : Nat} {x y : LifeV} (hx : p[i]? = some x) (hy : p[k]? = some y) (hk : k < i) (hs : x.sh = y.sh) (ha : agreeB x.log.l y.log.l = false) : livesB p = false := by
  unfold livesB
  rw [List.all_eq_false]
  refine ⟨i, List.mem_range.2 (List.getElem?_eq_some_iff.1 hx).1, ?_⟩
  rw [hx]
  simp only [Bool.not_eq_true]
  rw [List.all_eq_false]
  refine ⟨y, List.mem_of_getElem? (i := k) (by rw [List.getElem?_take, if_pos hk, hy]), ?_⟩
  simp [hs, ha]
theorem livesB_yes {p : List LifeV} (h : ∀ (i k : Nat) x y, k < i → p[i]? = some x → p[k]? = some y → x.sh = y.sh → agreeB x.log.l y.log.l = true) : livesB p = true := by
  unfold livesB
  rw [List.all_eq_true]
  intro i _
  cases hx : p[i]? with
  | none => rfl
  | some x =>
    simp only
    rw [List.all_eq_true]
    intro y hy
    obtain ⟨k, hk, rfl⟩ := List.getElem_of_mem hy
    rw [List.length_take] at hk
    rw [List.getElem_take]
    by_cases hs : x.sh = p[k].sh
    · rw [h i k x p[k] (by omega) hx (List.getElem?_eq_getElem (by omega)) hs]; simp
    · simp [hs]
theorem firstT_step {ds : List DeedV} {p : List LifeV} {k : Nat} (h : firstT ds p k = none) : firstT ds p (k + 1) = if linB ds p k then none else some k := by rw [firstT, h]
theorem firstT_stay {ds : List DeedV} {p : List LifeV} {k b : Nat} (h : firstT ds p k = some b) : ∀ m, k ≤ m → firstT ds p m = some b := fun m hm => by
  have : ∀ j, firstT ds p (k + j) = some b := fun j => by
    induction j with
    | zero => exact h
    | succ j ih => show firstT ds p (k + j + 1) = some b; rw [firstT, ih]
  have := this (m - k)
  rwa [show k + (m - k) = m by omega] at this

theorem agree_logs (x y : LifeV) (w : World) (hx : Rans w x.log.a x.log.n x.log.c x.log.l) (hy : Rans w y.log.a y.log.n y.log.c y.log.l) : Calls Try.prog 18 #[.slice x.log.a x.log.n x.log.c, .slice y.log.a y.log.n y.log.c] w (BoolOut (agreeB x.log.l y.log.l) w) := by
  have h1 := hx.reads.len
  have h2 := hy.reads.len
  have hx' : Rans w x.log.a x.log.l.length x.log.c x.log.l := by rw [← h1]; exact hx
  have hy' : Rans w y.log.a y.log.l.length y.log.c y.log.l := by rw [← h2]; exact hy
  have := agree_calls x.log.a y.log.a x.log.c y.log.c x.log.l y.log.l w hx' hy'
  rwa [← h1, ← h2] at this
set_option maxRecDepth 100000 in
set_option maxHeartbeats 4000000 in
theorem check_calls (n : Int) (da : Option Addr) (dc : Nat) (ds : List DeedV) (a : Option Addr) (c : Nat) (l : List LifeV) (w : World) (hd : Deeds w da ds.length dc ds) (hl : Lives w a l.length c l) (hdn : ds.length ≤ 20) (hs : l.length ≤ 12) (hlog : ∀ y ∈ l, y.log.l.length ≤ 1000) : Calls Try.prog 12 #[.int .i64 n, .slice da ds.length dc, .slice a l.length c] w (ValOut (.tuple #[.int .i64 (checkB n ds l).1, .bool (checkB n ds l).2]) w) := by
  have hcx := hl.reads.cap
  have hmx := hl.reads.max
  have hcd := hd.reads.cap
  have hmd := hd.reads.max
  have HCk : Hid (checkB n ds l = if ds.any badB then (-2, false) else if livesB l then (match firstT ds l (checkN n) with | some b => ((b : Int), false) | none => (0, true)) else (-1, false)) := Lib.hid rfl
  go_enter Try.func12, Try.ntmps12
  go_wp2_with fail
  go_loopw [19] (fun v19 wr => ∃ k : Nat, k ≤ ds.length ∧ v19 = .int .i64 k ∧ Hid (∀ (i : Nat) d, i < k → ds[i]? = some d → badB d = false) ∧ Kp Non w wr) (fun v19 _ => ds.length - (intOf v19).toNat)
  case atStart => exact ⟨0, by omega, rfl, Lib.hid fun _ _ h => absurd h (by omega), Kp.refl _ _⟩
  case round =>
    obtain ⟨k, hk', rfl, hall, hkr⟩ := hrel
    by_cases hlt : k < ds.length
    · have g : (k : Int) < (ds.length : Nat) := by omega
      obtain ⟨b, o, rfl⟩ := hd.reads.there (by omega)
      obtain ⟨c0, c1, c2, c3, c4, c5, c6, c7, c8⟩ := (hd.non hkr).cells hlt
      have HX := Lib.hid (List.getElem?_eq_getElem hlt)
      have HTh := Lib.hid ((hd.non hkr).there_of hlt)
      have HN := Lib.hid (BxD.new2 wr ds[k])
      generalize ds[k] = x at *
      go_upto_region 4 with (fail)
      obtain ⟨V, eV, hN, kV⟩ := HN.out
      rw [eV]
      obtain ⟨n0, n1, n2, n3, n4, n5, n6, n7, n8⟩ := hN.cells
      have hkV := hkr.trans kV
      have HBY : Hid (badB x = true → checkB n ds l = (-2, false)) := Lib.hid fun e => by rw [HCk.out, if_pos (List.any_eq_true.2 ⟨x, List.mem_of_getElem? HX.out, e⟩)]
      have HBN : Hid (badB x = false → ∀ (i : Nat) d, i < k + 1 → ds[i]? = some d → badB d = false) := Lib.hid fun e i z hi hz => if h : i < k then hall.out i z h hz else by
        obtain rfl : i = k := by omega
        rw [HX.out] at hz
        cases hz
        exact e
      have hrn : x.re.n = x.re.l.length := HTh.out.2.len
      have hrm : x.re.n ≤ 9223372036854775807 := Nat.le_trans HTh.out.2.cap HTh.out.2.max
      have hw : IntKind.u64.wrap (x.re.n : Int) = x.re.n := IntWalk.u64_in _ (by omega)
      have hwo := wrap_off x.to x.fr
      have HBd : Hid (badB x = (decide (0 < x.en) && (decide (x.op = 1) && (decide (x.to < x.fr) || !decide (x.re.n = offN x.to x.fr))))) := Lib.hid (by unfold badB; rw [hrn])
      clear hrn hrm eV HN hN c0 c1 c2 c3 c4 c5 c6 c7 c8 HTh
      generalize wr.heap.size = bx at *
      generalize offN x.to x.fr = m at *
      rcases Bool.eq_false_or_eq_true (decide (0 < x.en)) with f0 | f0
      · by_cases h1 : x.op = 1
        · have e1 : (x.op == 1) = true := by simp [h1]
          have HBd : Hid (badB x = (decide (x.to < x.fr) || !decide (x.re.n = m))) := Lib.hid (by rw [HBd.out, f0, h1]; rfl)
          clear h1
          rcases Bool.eq_false_or_eq_true (decide (x.to < x.fr)) with f2 | f2
          · have HE := Lib.hid (HBY.out (by rw [HBd.out, f2]; rfl))
            clear HBY HBN
            go_wp2_with fail
            go_ret2
            exact ⟨by rw [HE.out]; rfl, hkV⟩
          · by_cases h3 : x.re.n = m
            · have e3 : ((x.re.n : Int) != (m : Int)) = false := by simp [h3]
              have HE := Lib.hid (HBN.out (by rw [HBd.out, f2, h3]; simp))
              clear HBY HBN h3
              go_wp2_with fail
              go_roundw
              case rel => exact ⟨k + 1, by omega, by go_num, HE, hkV⟩
              case measure => simp [intOf]; omega
            · have e3 : ((x.re.n : Int) != (m : Int)) = true := by simp; omega
              have HE := Lib.hid (HBY.out (by rw [HBd.out, f2, decide_eq_false h3]; rfl))
              clear HBY HBN
              go_wp2_with fail
              go_ret2
              exact ⟨by rw [HE.out]; rfl, hkV⟩
        · have e1 : (x.op == 1) = false := by simp [h1]
          have HE := Lib.hid (HBN.out (by rw [HBd.out, decide_eq_false h1]; simp))
          clear HBY HBN h1
          go_wp2_with fail
          go_roundw
          case rel => exact ⟨k + 1, by omega, by go_num, HE, hkV⟩
          case measure => simp [intOf]; omega
      · have HE := Lib.hid (HBN.out (by rw [HBd.out, f0]; rfl))
        clear HBY HBN
        go_wp2_with fail
        go_roundw
        case rel => exact ⟨k + 1, by omega, by go_num, HE, hkV⟩
        case measure => simp [intOf]; omega
    · obtain rfl : k = ds.length := by omega
      have HCk : Hid (checkB n ds l = if livesB l then (match firstT ds l (checkN n) with | some b => ((b : Int), false) | none => (0, true)) else (-1, false)) := Lib.hid (by
        rw [HCk.out, if_neg]
        rw [List.any_eq_true]
        rintro ⟨x, hx, he⟩
        obtain ⟨i, hi, rfl⟩ := List.getElem_of_mem hx
        rw [hall.out i _ hi (List.getElem?_eq_getElem hi)] at he
        cases he)
      clear hall
      obtain ⟨w1, hw1⟩ : ∃ w1, wr = w1 := ⟨_, rfl⟩
      rw [hw1] at hkr ⊢
      have hk1 := hkr
      clear hkr hw1
      go_wp2_with fail
      go_loopw [55] (fun v55 wr => ∃ i : Nat, i ≤ l.length ∧ v55 = .int .i64 i ∧ Hid (∀ (p k : Nat) x y, p < i → k < p → l[p]? = some x → l[k]? = some y → x.sh = y.sh → agreeB x.log.l y.log.l = true) ∧ Kp Non w wr) (fun v55 _ => l.length - (intOf v55).toNat)
      case atStart => exact ⟨0, by omega, rfl, Lib.hid fun _ _ _ _ h => absurd h (by omega), hk1⟩
      case round =>
        clear hk1
        obtain ⟨i, hi', rfl, hall, hkr⟩ := hrel
        by_cases hit : i < l.length
        · have gi : (i : Int) < (l.length : Nat) := by omega
          have gic : (i : Int) ≤ (c : Nat) := by omega
          obtain ⟨b, o, rfl⟩ := hl.reads.there (by omega)
          obtain ⟨c0, c1, c2⟩ := (hl.non hkr).cells hit
          have HX := Lib.hid (List.getElem?_eq_getElem hit)
          have HLx := Lib.hid fun W' (r : Kp Non w W') => (hl.non r).log_of hit
          have HN := Lib.hid (BxL.new2 wr l[i])
          generalize l[i] = x at *
          go_upto_region 10 with (fail)
          obtain ⟨V, eV, hN, kV⟩ := HN.out
          rw [eV]
          have HC := Lib.hid fun W' (r : Kp Non V W') => BxL.cells (Bx.non hN r)
          have hkV := hkr.trans kV
          clear eV HN hN c0 c1 c2
          generalize wr.heap.size = bx at *
          go_wp2_with fail
          go_loopw [64] (fun v64 wj => ∃ j : Nat, j ≤ i ∧ v64 = .int .i64 j ∧ Hid (∀ (k : Nat) y, k < j → l[k]? = some y → x.sh = y.sh → agreeB x.log.l y.log.l = true) ∧ Kp Non V wj) (fun v64 _ => i - (intOf v64).toNat)
          case atStart => exact ⟨0, by omega, rfl, Lib.hid fun _ _ h => absurd h (by omega), Kp.refl _ _⟩
          case round =>
            obtain ⟨j, hj', rfl, halj, hkj⟩ := hrel
            by_cases hjt : j < i
            · have gj : (j : Int) < (i : Nat) := by omega
              have hjl : j < l.length := by omega
              obtain ⟨c0, c1, c2⟩ := (hl.non (hkV.trans hkj)).cells hjl
              have HY := Lib.hid (List.getElem?_eq_getElem hjl)
              have HLy := Lib.hid fun W' (r : Kp Non w W') => (hl.non r).log_of hjl
              have HN := Lib.hid (BxL.new2 wr l[j])
              generalize l[j] = y at *
              go_upto_region 13 with (fail)
              obtain ⟨U, eU, hN, kU⟩ := HN.out
              rw [eU]
              obtain ⟨m0, m1, m2⟩ := hN.cells
              have hkU := hkj.trans kU
              obtain ⟨n0, n1, n2⟩ := HC.out U hkU
              have HAg := Lib.hid fun (h1 : Rans U x.log.a x.log.n x.log.c x.log.l) (h2 : Rans U y.log.a y.log.n y.log.c y.log.l) => agree_logs x y U h1 h2
              have HAg := Lib.hid (HAg.out (HLx.out U (hkV.trans hkU)) (HLy.out U (hkV.trans hkU)))
              have HNo : Hid (x.sh = y.sh → agreeB x.log.l y.log.l = false → checkB n ds l = (-1, false)) := Lib.hid fun e ha => by rw [HCk.out, livesB_no HX.out HY.out hjt e ha]; rfl
              have HSt : Hid ((x.sh = y.sh → agreeB x.log.l y.log.l = true) → ∀ (k : Nat) z, k < j + 1 → l[k]? = some z → x.sh = z.sh → agreeB x.log.l z.log.l = true) := Lib.hid fun h k z hk hz => if h2 : k < j then halj.out k z h2 hz else by
                obtain rfl : k = j := by omega
                rw [HY.out] at hz
                cases hz
                exact h
              clear eU HN hN c0 c1 c2
              generalize wr.heap.size = by13 at *
              generalize agreeB x.log.l y.log.l = ag at *
              by_cases hsh : x.sh = y.sh
              · have es : (x.sh == y.sh) = true := by simp [hsh]
                have HNo := Lib.hid (HNo.out hsh)
                have HSt := Lib.hid fun (h : ag = true) => HSt.out fun _ => h
                clear hsh
                go_wp2_with fail
                refine HAg.out.mono ?_
                rintro e w3 ⟨rfl, hk3⟩
                have hk3 := hkU.trans hk3
                rcases ag with _ | _
                · have HE := Lib.hid (HNo.out rfl)
                  go_wp2_with fail
                  go_ret2
                  exact ⟨by rw [HE.out]; rfl, hkV.trans hk3⟩
                · have HE := Lib.hid (HSt.out rfl)
                  clear HSt HNo
                  go_wp2_with fail
                  go_roundw
                  case rel => exact ⟨j + 1, by omega, by go_num, HE, hk3⟩
                  case measure => simp [intOf]; omega
              · have es : (x.sh == y.sh) = false := by simp [hsh]
                have HE := Lib.hid (HSt.out fun e => absurd e hsh)
                clear hsh HSt HNo
                go_wp2_with fail
                go_roundw
                case rel => exact ⟨j + 1, by omega, by go_num, HE, hkU⟩
                case measure => simp [intOf]; omega
            · obtain rfl : j = i := by omega
              have HE : Hid (∀ (p k : Nat) x y, p < j + 1 → k < p → l[p]? = some x → l[k]? = some y → x.sh = y.sh → agreeB x.log.l y.log.l = true) := Lib.hid fun p k x' y' hp hk hx hy => if h : p < j then hall.out p k x' y' h hk hx hy else by
                obtain rfl : p = j := by omega
                rw [HX.out] at hx
                cases hx
                exact halj.out k y' hk hy
              go_wp2_with fail
              go_roundw
              case rel => exact ⟨j + 1, by omega, by go_num, HE, hkV.trans hkj⟩
              case measure => simp [intOf]; omega
        · obtain rfl : i = l.length := by omega
          have HCk : Hid (checkB n ds l = match firstT ds l (checkN n) with | some b => ((b : Int), false) | none => (0, true)) := Lib.hid (by
            rw [HCk.out, if_pos (livesB_yes fun p k x y hk hx hy => hall.out p k x y (List.getElem?_eq_some_iff.1 hx).1 hk hx hy)])
          clear hall
          obtain ⟨w2, hw2⟩ : ∃ w2, wr = w2 := ⟨_, rfl⟩
          rw [hw2] at hkr ⊢
          have hk2 := hkr
          clear hkr hw2
          obtain ⟨m, hm⟩ : ∃ m, (if (256 : Int) < n then 256 else n) = m := ⟨_, rfl⟩
          have HCk : Hid (checkB n ds l = match firstT ds l m.toNat with | some b => ((b : Int), false) | none => (0, true)) := Lib.hid (by rw [HCk.out, checkN, hm])
          have hm2 : m ≤ 256 := by rw [← hm]; split <;> omega
          go_wp2_with fail
          clear hm
          go_loopw [85] (fun v85 wr => ∃ k : Nat, ((k : Int) ≤ m ∨ k = 0) ∧ v85 = .int .i64 k ∧ Hid (firstT ds l k = none) ∧ Kp Non w wr) (fun v85 _ => m.toNat - (intOf v85).toNat)
          case atStart => exact ⟨0, .inr rfl, rfl, Lib.hid rfl, hk2⟩
          case round =>
            clear hk2
            obtain ⟨k, hk', rfl, hfst, hkr⟩ := hrel
            by_cases hlt : (k : Int) < m
            · have HH := Lib.hid (history_calls a c l k wr (hl.non hkr) hs hlog)
              have HLen := Lib.hid fun all (h : histL l k = some all) => histL_len h hs hlog
              have HF : Hid (linB ds l k = false → checkB n ds l = ((k : Int), false)) := Lib.hid fun e => by
                rw [HCk.out, firstT_stay (k := k + 1) (b := k) (by rw [firstT_step hfst.out, e]; rfl) _ (by omega)]
              have HT : Hid (linB ds l k = true → firstT ds l (k + 1) = none) := Lib.hid fun e => by rw [firstT_step hfst.out, e]; rfl
              have HL : Hid (linB ds l k = match histL l k with | some all => (placesB ds (effL all) k).isSome | none => false) := Lib.hid rfl
              generalize histL l k = r at *
              go_wp2_with fail
              refine HH.out.mono ?_
              rintro e w3 ⟨pa, pn, pc, rfl, hO, hk3⟩
              have hk3w := hkr.trans hk3
              clear hk3
              rcases r with _ | all
              · have HE := Lib.hid (HF.out HL.out)
                clear HF HT HL
                go_wp2_with fail
                go_ret2
                exact ⟨by rw [HE.out]; rfl, hk3w⟩
              · have hR := hO.reads encPut_len (by omega)
                have hpn : pn = all.length := hR.len
                have hal := HLen.out all rfl
                subst hpn
                have HE := Lib.hid (effects_calls pa pc all w3 hR (by omega))
                have hle := effL_len all
                go_wp2_with fail
                refine HE.out.mono ?_
                rintro e w4 ⟨ea, en, ec, rfl, hE, hk4⟩
                have hRE := hE.reads encPut_len (by omega)
                have hen : en = (effL all).length := hRE.len
                subst hen
                have hk4 := hk3w.trans hk4
                have HP := Lib.hid (places17_calls da dc ds ea ec (effL all) k w4 (hd.non hk4) hRE hdn (by omega))
                have HL2 : Hid ((placesB ds (effL all) k).isSome = linB ds l k) := Lib.hid (by rw [HL.out])
                clear hle hal HL
                generalize placesB ds (effL all) k = q at *
                go_wp2_with fail
                refine HP.out.mono ?_
                rintro e w5 ⟨ra, rn, rc, rfl, _, hk5⟩
                have hk5 := hk4.trans hk5
                rcases q with _ | q
                · have HE := Lib.hid (HF.out HL2.out.symm)
                  clear HF HT HL2
                  go_wp2_with fail
                  go_ret2
                  exact ⟨by rw [HE.out]; rfl, hk5⟩
                · have HE := Lib.hid (HT.out HL2.out.symm)
                  clear HF HT HL2
                  go_wp2_with fail
                  go_roundw
                  case rel => exact ⟨k + 1, by omega, by go_num, HE, hk5⟩
                  case measure => simp [intOf]; omega
            · have HE : Hid (checkB n ds l = (0, true)) := Lib.hid (by
                rw [HCk.out]
                rcases hk' with hk' | rfl
                · obtain rfl : m.toNat = k := by omega
                  rw [hfst.out]
                · rw [show m.toNat = 0 by omega, hfst.out])
              go_wp2_with fail
              go_ret2
              exact ⟨by rw [HE.out]; rfl, hkr⟩
end Go.Proofs.Ytpehfnobgdjgcaa
