/-
  Did a deed ask for a put (the document's)? Which deed was it (both)?
-/
import Derived.Test.YtpehfnobgdjgcaaG20
namespace Go.Proofs.Ytpehfnobgdjgcaa
open Go.RowKit

set_option maxRecDepth 100000 in
set_option maxHeartbeats 1000000 in
theorem rasked_calls (d : DeedV) (p : PutV) (block : Int) (w : World) (hd : d.there w) : Calls Try.prog 39 #[valDeed d, valPut p, .int .i64 block] w (BoolOut (askedB d p block) w) := by
  show Calls Try.prog 39 #[.agg #[.int .i64 d.cl, .int .i64 d.sq, .int .i64 d.op, .int .i64 d.fr, .int .i64 d.to, .slice d.da.a d.da.n d.da.c, .int .i64 d.be, .int .i64 d.en, .slice d.re.a d.re.n d.re.c], .agg #[.int .i64 p.sh, .int .i64 p.cl, .int .i64 p.sq, .int .i64 p.ref.1, .int .i64 p.ref.2, .string p.tx], .int .i64 block] w (BoolOut (askedB d p block) w)
  obtain ⟨V, eV, h1, h2, kV⟩ := dp_new w d p 42
  obtain ⟨n0, n1, n2, n3, n4, n5, n6, n7, n8⟩ := h1.cells
  obtain ⟨m0, m1, m2, m3, m4, m5⟩ := BxPt.cells h2
  have HV := Lib.hid eV
  have hT : Texts V d.da.a d.da.n d.da.c d.da.l := hd.1.non kV
  clear eV h1 h2
  go_enter Try.func39, Try.ntmps39
  go_upto_region 1 with (fail)
  rw [HV.out]
  generalize w.heap.size = bs at *
  rcases Bool.eq_false_or_eq_true (decide (block < d.fr)) with d1 | d1
  · have HD : Hid (false = askedB d p block) := Lib.hid (by simp [askedB, d1])
    go_wp2_with fail
    go_ret
    exact ⟨ret_bool HD.out, kV⟩
  rcases Bool.eq_false_or_eq_true (decide (d.to ≤ block)) with d2 | d2
  · have HD : Hid (false = askedB d p block) := Lib.hid (by simp [askedB, d2])
    go_wp2_with fail
    go_ret
    exact ⟨ret_bool HD.out, kV⟩
  by_cases h3 : d.op = 3
  · have e3 : (d.op == 3) = true := by simp [h3]
    have e2 : (d.op != 2) = true := by simp [h3]
    have e3' : (d.op != 3) = false := by simp [h3]
    have HD : Hid (decide (p.tx = ByteArray.empty) = askedB d p block) := Lib.hid (by simp [askedB, d1, d2, h3])
    clear h3
    go_wp2_with fail
    go_ret
    refine ⟨?_, kV⟩
    refine ret_bool ?_
    rw [← HD.out, tx_empty]
  · have e3 : (d.op == 3) = false := by simp [h3]
    have e3' : (d.op != 3) = true := by simp [h3]
    by_cases h4 : d.op = 2
    · have e4 : (d.op != 2) = false := by simp [h4]
      have hdn := hT.len
      have hdm := Nat.le_trans hT.cap hT.max
      have hwo := wrap_off block d.fr
      have hwi := wrap_idx block d.fr
      have HD : Hid ((decide (offN block d.fr < d.da.l.length) && decide (p.tx = textAt d.da.l (offN block d.fr))) = askedB d p block) := Lib.hid (by simp [askedB, d1, d2, h4])
      clear h3 h4
      generalize offN block d.fr = m at *
      have hw : IntKind.u64.wrap (d.da.n : Int) = d.da.n := IntWalk.u64_in _ (by omega)
      by_cases hm : m < d.da.l.length
      · obtain ⟨bt, ot, ha⟩ := hT.there (by omega)
        have hwi := hwi (by omega)
        have gm : (m : Int) < (d.da.n : Nat) := by omega
        have HT := Lib.hid fun W (r : Kp Non V W) => (hT.non r)
        rw [ha] at n5 HT
        have HTm := Lib.hid fun W (r : Kp Non V W) => Texts.c (HT.out W r) hm
        have HD : Hid (decide (p.tx = d.da.l[m]) = askedB d p block) := Lib.hid (by rw [← HD.out, textAt_lt hm]; simp [hm])
        generalize d.da.l[m] = tx at *
        have t0 := HTm.out V (Kp.refl _ _)
        clear HT hT hdn hdm hm ha
        go_wp2_with fail
        go_quiet (fail)
        go_wp2_with fail
        go_ret
        exact ⟨ret_bool (by rw [← HD.out, tx_beq]), kV.drewN _⟩
      · have gm : ¬ (m : Int) < (d.da.n : Nat) := by omega
        have HD : Hid (false = askedB d p block) := Lib.hid (by rw [← HD.out]; simp [hm])
        have gmn : ¬ m < d.da.n := by omega
        have gd : decide (m < d.da.n) = false := decide_eq_false gmn
        clear hT hdn hdm hm hwi
        go_wp2_with fail
        go_quiet (fail)
        go_wp2_with fail
        go_ret
        exact ⟨ret_bool HD.out, kV.drewN _⟩
    · have e4 : (d.op != 2) = true := by simp [h4]
      have HD : Hid (false = askedB d p block) := Lib.hid (by simp [askedB, h3, h4])
      clear h3 h4 hT
      go_wp2_with fail
      go_ret
      exact ⟨ret_bool HD.out, kV⟩

/-- Which deed was it? -/
def deedIs (p : PutV) (d : DeedV) : Bool := decide (d.cl = p.cl) && decide (d.sq = p.sq)
def ixOf (l : List DeedV) (p : PutV) : Option Nat := l.findIdx? (deedIs p)
def ixInt (o : Option Nat) : Int := match o with | some k => k | none => -1
theorem ixOf_hit {l : List DeedV} {p : PutV} {k : Nat} (h : k < l.length) (hd : deedIs p l[k] = true) (hb : ∀ j, (h : j < l.length) → j < k → deedIs p l[j] = false) : ixOf l p = some k := by
  unfold ixOf
  rw [List.findIdx?_eq_some_iff_getElem]
  exact ⟨h, hd, fun j hj => by simpa using hb j (by omega) hj⟩
theorem ixOf_none {l : List DeedV} {p : PutV} (hb : ∀ j, (h : j < l.length) → deedIs p l[j] = false) : ixOf l p = none := by
  unfold ixOf
  rw [List.findIdx?_eq_none_iff]
  intro x hx
  obtain ⟨j, hj, rfl⟩ := List.getElem_of_mem hx
  simpa using hb j hj
theorem ixOf_some {l : List DeedV} {p : PutV} {k : Nat} (h : ixOf l p = some k) : ∃ hk : k < l.length, deedIs p l[k] = true := by
  unfold ixOf at h
  rw [List.findIdx?_eq_some_iff_getElem] at h
  obtain ⟨h1, h2, _⟩ := h
  exact ⟨h1, h2⟩
theorem pt_new (w : World) (p : PutV) (t2 : TypeId) : ∃ V, w.alloc (.cells #[.int .i64 p.sh, .int .i64 p.cl, .int .i64 p.sq, .int .i64 p.ref.1, .int .i64 p.ref.2, .string p.tx] t2) = V ∧ Bx V w.heap.size t2 (encPut p) ∧ Kp Non w V := ⟨_, rfl, Bx.new w _ (encPut p), (Kp.refl Non w).alloc _⟩

set_option maxRecDepth 100000 in
set_option maxHeartbeats 1000000 in
theorem rdeed_calls (a : Option Addr) (c : Nat) (l : List DeedV) (p : PutV) (w : World) (hl : Deeds w a l.length c l) : Calls Try.prog 38 #[.slice a l.length c, valPut p] w (ValOut (.int .i64 (ixInt (ixOf l p))) w) := by
  show Calls Try.prog 38 #[.slice a l.length c, .agg #[.int .i64 p.sh, .int .i64 p.cl, .int .i64 p.sq, .int .i64 p.ref.1, .int .i64 p.ref.2, .string p.tx]] w (ValOut (.int .i64 (ixInt (ixOf l p))) w)
  have hcx := hl.reads.cap
  have hmx := hl.reads.max
  obtain ⟨V, eV, h1, kV⟩ := pt_new w p 42
  have HV := Lib.hid eV
  have HC := Lib.hid fun W (r : Kp Non V W) => BxPt.cells (Bx.non h1 r)
  clear eV h1
  go_enter Try.func38, Try.ntmps38
  go_wp2_with fail
  rw [HV.out]
  generalize w.heap.size = bs at *
  go_loopw [9] (fun v9 wr => ∃ k : Nat, k ≤ l.length ∧ v9 = .int .i64 k ∧ Hid (∀ j, (h : j < l.length) → j < k → deedIs p l[j] = false) ∧ Kp Non V wr) (fun v9 _ => l.length - (intOf v9).toNat)
  case atStart => exact ⟨0, by omega, rfl, Lib.hid fun _ _ h => absurd h (by omega), Kp.refl _ _⟩
  case round =>
    obtain ⟨k, hk', rfl, hall, hkr⟩ := hrel
    by_cases hlt : k < l.length
    · have g : (k : Int) < (l.length : Nat) := by omega
      obtain ⟨b, o, rfl⟩ := hl.reads.there (by omega)
      obtain ⟨c0, c1, c2, c3, c4, c5, c6, c7, c8⟩ := (hl.non (kV.trans hkr)).cells hlt
      have HY : Hid (deedIs p l[k] = true → ixOf l p = some k) := Lib.hid fun e => ixOf_hit hlt e hall.out
      have HX : Hid (deedIs p l[k] = false → ∀ j, (h : j < l.length) → j < k + 1 → deedIs p l[j] = false) := Lib.hid fun e j h hj => if hh : j < k then hall.out j h hh else by
        obtain rfl : j = k := by omega
        exact e
      have HN := Lib.hid (BxD.new2 wr l[k])
      generalize l[k] = x at *
      go_upto_region 4 with (fail)
      obtain ⟨U, eU, hN, kU⟩ := HN.out
      rw [eU]
      obtain ⟨n0, n1, n2, n3, n4, n5, n6, n7, n8⟩ := hN.cells
      have hkU := hkr.trans kU
      obtain ⟨m0, m1, m2, m3, m4, m5⟩ := HC.out U hkU
      clear eU HN hN c0 c1 c2 c3 c4 c5 c6 c7 c8
      generalize wr.heap.size = bx at *
      by_cases h1 : x.cl = p.cl
      · have e1 : (x.cl == p.cl) = true := by simp [h1]
        by_cases h2 : x.sq = p.sq
        · have e2 : (x.sq == p.sq) = true := by simp [h2]
          have HE := Lib.hid (HY.out (by simp [deedIs, h1, h2]))
          clear HX HY h1 h2
          go_wp2_with fail
          go_ret
          exact ⟨by rw [HE.out]; rfl, kV.trans hkU⟩
        · have e2 : (x.sq == p.sq) = false := by simp [h2]
          have HE := Lib.hid (HX.out (by simp [deedIs, h2]))
          clear HX HY h1 h2
          go_wp2_with fail
          go_roundw
          case rel => exact ⟨k + 1, by omega, by go_num, HE, hkU⟩
          case measure => simp [intOf]; omega
      · have e1 : (x.cl == p.cl) = false := by simp [h1]
        have HE := Lib.hid (HX.out (by simp [deedIs, h1]))
        clear HX HY h1
        go_wp2_with fail
        go_roundw
        case rel => exact ⟨k + 1, by omega, by go_num, HE, hkU⟩
        case measure => simp [intOf]; omega
    · obtain rfl : k = l.length := by omega
      have HE : Hid (ixOf l p = none) := Lib.hid (ixOf_none fun j h => hall.out j h h)
      go_wp2_with fail
      go_ret
      exact ⟨by rw [HE.out]; rfl, kV.trans hkr⟩
/-- The program's way: IndexFunc with a closure on the put's box. -/
theorem d_new (w : World) (d : DeedV) : ∃ V, w.alloc (.cells #[.int .i64 d.cl, .int .i64 d.sq, .int .i64 d.op, .int .i64 d.fr, .int .i64 d.to, .slice d.da.a d.da.n d.da.c, .int .i64 d.be, .int .i64 d.en, .slice d.re.a d.re.n d.re.c] 28) = V ∧ BxD V w.heap.size d ∧ Kp Non w V := ⟨_, rfl, Bx.new w _ (encDeed d), (Kp.refl Non w).alloc _⟩
set_option maxRecDepth 100000 in
set_option maxHeartbeats 1000000 in
theorem isDeed_calls (bp : Nat) (p : PutV) (x : DeedV) (w : World) (hp : Bx w bp 41 (encPut p)) : Calls Try.prog 52 #[valDeed x, .pointer (some ⟨bp, 0, none⟩)] w (BoolOut (deedIs p x) w) := by
  show Calls Try.prog 52 #[.agg #[.int .i64 x.cl, .int .i64 x.sq, .int .i64 x.op, .int .i64 x.fr, .int .i64 x.to, .slice x.da.a x.da.n x.da.c, .int .i64 x.be, .int .i64 x.en, .slice x.re.a x.re.n x.re.c], .pointer (some ⟨bp, 0, none⟩)] w (BoolOut (deedIs p x) w)
  obtain ⟨V, eV, h1, kV⟩ := d_new w x
  obtain ⟨n0, n1, n2, n3, n4, n5, n6, n7, n8⟩ := h1.cells
  obtain ⟨m0, m1, m2, m3, m4, m5⟩ := BxPt.cells (Bx.non hp kV)
  have HV := Lib.hid eV
  clear eV h1 hp
  go_enter Try.func52, Try.ntmps52
  go_upto_region 1 with (fail)
  rw [HV.out]
  generalize w.heap.size = bs at *
  by_cases h1 : x.cl = p.cl
  · have e1 : (x.cl == p.cl) = true := by simp [h1]
    have HD : Hid ((x.sq == p.sq) = deedIs p x) := Lib.hid (by simp [deedIs, h1, Bool.beq_eq_decide_eq])
    clear h1
    go_wp2_with fail
    go_ret
    exact ⟨ret_bool HD.out, kV⟩
  · have e1 : (x.cl == p.cl) = false := by simp [h1]
    have HD : Hid (false = deedIs p x) := Lib.hid (by simp [deedIs, h1])
    clear h1
    go_wp2_with fail
    go_ret
    exact ⟨ret_bool HD.out, kV⟩

set_option maxRecDepth 100000 in
set_option maxHeartbeats 1000000 in
theorem indexDeed_calls (a : Option Addr) (c : Nat) (l : List DeedV) (bp : Nat) (p : PutV) (w : World) (hl : Deeds w a l.length c l) (hp : Bx w bp 41 (encPut p)) : Calls Try.prog 51 #[.slice a l.length c, .func (.func 52) #[] #[.pointer (some ⟨bp, 0, none⟩)]] w (ValOut (.int .i64 (ixInt (ixOf l p))) w) := by
  have hcx := hl.reads.cap
  have hmx := hl.reads.max
  go_enter Try.func51, Try.ntmps51
  go_wp2_with fail
  go_loopw [8] (fun v8 wr => ∃ k : Nat, k ≤ l.length ∧ v8 = .int .i64 k ∧ Hid (∀ j, (h : j < l.length) → j < k → deedIs p l[j] = false) ∧ Kp Non w wr) (fun v8 _ => l.length - (intOf v8).toNat)
  case atStart => exact ⟨0, by omega, rfl, Lib.hid fun _ _ h => absurd h (by omega), Kp.refl _ _⟩
  case round =>
    obtain ⟨k, hk', rfl, hall, hkr⟩ := hrel
    by_cases hlt : k < l.length
    · have g : (k : Int) < (l.length : Nat) := by omega
      obtain ⟨b, o, rfl⟩ := hl.reads.there (by omega)
      obtain ⟨c0, c1, c2, c3, c4, c5, c6, c7, c8⟩ := (hl.non hkr).cells hlt
      have HY : Hid (deedIs p l[k] = true → ixOf l p = some k) := Lib.hid fun e => ixOf_hit hlt e hall.out
      have HX : Hid (deedIs p l[k] = false → ∀ j, (h : j < l.length) → j < k + 1 → deedIs p l[j] = false) := Lib.hid fun e j h hj => if hh : j < k then hall.out j h hh else by
        obtain rfl : j = k := by omega
        exact e
      have HCl := Lib.hid fun W (r : Kp Non w W) => isDeed_calls bp p l[k] W (Bx.non hp r)
      generalize l[k] = x at *
      simp only [valDeed] at HCl
      generalize deedIs p x = d at *
      go_wp2_with fail
      refine (HCl.out wr hkr).mono ?_
      rintro e w3 ⟨rfl, hk3⟩
      have hk3 := hkr.trans hk3
      rcases d with _ | _
      · have HE := Lib.hid (HX.out rfl)
        clear HX HY
        go_wp2_with fail
        go_roundw
        case rel => exact ⟨k + 1, by omega, by go_num, HE, hk3⟩
        case measure => simp [intOf]; omega
      · have HE := Lib.hid (HY.out rfl)
        clear HX HY
        go_wp2_with fail
        go_ret
        exact ⟨by rw [HE.out]; rfl, hk3⟩
    · obtain rfl : k = l.length := by omega
      have HE : Hid (ixOf l p = none) := Lib.hid (ixOf_none fun j h => hall.out j h h)
      go_wp2_with fail
      go_ret
      exact ⟨by rw [HE.out]; rfl, hkr⟩
end Go.Proofs.Ytpehfnobgdjgcaa
