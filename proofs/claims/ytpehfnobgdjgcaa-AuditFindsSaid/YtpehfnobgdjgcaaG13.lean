/-
  The puts that took effect: the program's.
-/
import Derived.Test.YtpehfnobgdjgcaaG12
import Derived.Test.YtpehfnobgdjgcaaG7
namespace Go.Proofs.Ytpehfnobgdjgcaa
open Go.RowKit

/-- Did p take effect behind l? -/
def effK (l : List PutV) (p : PutV) : Bool := decide (1 ≤ p.sq) && l.all fun q => !(decide (q.cl = p.cl) && decide (p.sq ≤ q.sq))
def effT (l : List PutV) : Nat → List PutV
  | 0 => []
  | k + 1 => effT l k ++ (match l[k]? with | some p => if effK (l.take k) p then [p] else [] | none => [])
def effL (l : List PutV) : List PutV := effT l l.length
theorem effT_on {l : List PutV} {k : Nat} {p : PutV} (h : l[k]? = some p) (he : effK (l.take k) p = true) : effT l (k + 1) = effT l k ++ [p] := by simp [effT, h, he]
theorem effT_off {l : List PutV} {k : Nat} {p : PutV} (h : l[k]? = some p) (he : effK (l.take k) p = false) : effT l (k + 1) = effT l k := by simp [effT, h, he]
/-- The last number of a client. -/
def lastT (c : Int) : List PutV → Int
  | [] => 0
  | p :: l => if p.cl = c then max p.sq (lastT c l) else lastT c l
theorem lastT_nn (c : Int) : ∀ l, 0 ≤ lastT c l
  | [] => by simp [lastT]
  | p :: l => by
    have := lastT_nn c l
    unfold lastT
    split <;> omega
theorem lastT_eff (p : PutV) : ∀ l, effK l p = decide (lastT p.cl l < p.sq)
  | [] => by
    simp only [effK, lastT, List.all_nil, Bool.and_true]
    congr 1
  | q :: l => by
    have ih := lastT_eff p l
    unfold effK at ih ⊢
    rw [List.all_cons]
    unfold lastT
    by_cases hc : q.cl = p.cl
    · by_cases hs : p.sq ≤ q.sq
      · have : ¬ max q.sq (lastT p.cl l) < p.sq := by omega
        simp [hc, hs, this]
      · have e : decide (max q.sq (lastT p.cl l) < p.sq) = decide (lastT p.cl l < p.sq) := by congr 1; exact propext ⟨fun _ => by omega, fun _ => by omega⟩
        simp only [hc, hs, decide_false, Bool.and_false, Bool.not_false, Bool.true_and, if_true]
        rw [e, ← ih]
    · simp only [hc, decide_false, Bool.false_and, Bool.not_false, Bool.true_and, if_false]
      exact ih
theorem lastT_snoc (c : Int) (p : PutV) : ∀ l, lastT c (l ++ [p]) = if p.cl = c then max (lastT c l) p.sq else lastT c l
  | [] => by
    by_cases h : p.cl = c <;> simp [lastT, h]
    omega
  | q :: l => by
    have ih := lastT_snoc c p l
    simp only [List.cons_append, lastT]
    rw [ih]
    by_cases h : p.cl = c <;> by_cases h2 : q.cl = c <;> simp [h, h2] <;> omega
/-- The map says the last number of each. -/
def LastOf (l : List PutV) (L : List (Int × Int)) : Prop := ∀ c, (mget L c).getD 0 = lastT c l
theorem LastOf.put {l : List PutV} {L : List (Int × Int)} (h : LastOf l L) (p : PutV) {v : Int} (hv : v = max (lastT p.cl l) p.sq) : LastOf (l ++ [p]) (mput L p.cl v) := by
  intro c
  rw [mget_put, lastT_snoc]
  by_cases hc : p.cl = c
  · simp [hc, hv]
  · simp [hc, h c]
theorem effT_len (l : List PutV) : ∀ k, (effT l k).length ≤ k
  | 0 => by simp [effT]
  | k + 1 => by
    have := effT_len l k
    unfold effT
    rw [List.length_append]
    split
    · split <;> simp <;> omega
    · simp; omega
theorem Puts_.cells {w : World} {b o n c : Nat} {l : List PutV} (h : Puts_ w (some ⟨b, o, none⟩) n c l) {j : Nat} (hj : j < l.length) :
    w.cell? ⟨b, o + j * 6, none⟩ = some (.int .i64 l[j].sh) ∧ w.cell? ⟨b, o + j * 6 + 1, none⟩ = some (.int .i64 l[j].cl) ∧ w.cell? ⟨b, o + j * 6 + 2, none⟩ = some (.int .i64 l[j].sq) ∧ w.cell? ⟨b, o + j * 6 + 3, none⟩ = some (.int .i64 l[j].ref.1) ∧ w.cell? ⟨b, o + j * 6 + 4, none⟩ = some (.int .i64 l[j].ref.2) ∧ w.cell? ⟨b, o + j * 6 + 5, none⟩ = some (.string l[j].tx) :=
  ⟨h.get (i := 0) (List.getElem?_eq_getElem hj) rfl, h.get (i := 1) (List.getElem?_eq_getElem hj) rfl, h.get (i := 2) (List.getElem?_eq_getElem hj) rfl, h.get (i := 3) (List.getElem?_eq_getElem hj) rfl, h.get (i := 4) (List.getElem?_eq_getElem hj) rfl, h.get (i := 5) (List.getElem?_eq_getElem hj) rfl⟩

theorem get_enc (o : Option Int) : (o.map encZ).getD (.int .i64 0) = .int .i64 (o.getD 0) := by cases o <;> rfl

set_option maxRecDepth 100000 in
set_option maxHeartbeats 1000000 in
theorem effects_calls (a : Option Addr) (c : Nat) (l : List PutV) (w : World) (hl : Puts_ w a l.length c l) (hs : l.length ≤ 1000000) : Calls Try.prog 16 #[.slice a l.length c] w (PutsOut (effL l) w) := by
  have hcx := hl.cap
  have hmx := hl.max
  obtain ⟨i0, hi0, hz0, hz1, hz2⟩ := info_parts infoPut
  have hMk : ∀ w, (Instr.makeMap 84 none).run Try.prog w = .ok (.map (some w.heap.size)) (w.alloc (.map #[] 0)) := fun _ => rfl
  obtain ⟨W, eW, hM0, hkM⟩ : ∃ W, w.alloc (.map #[] 0) = W ∧ MapIs encZ encZ W w.heap.size ([] : List (Int × Int)) ∧ Kp Non w W := ⟨_, rfl, MapIs.new w encZ encZ, (Kp.refl _ w).alloc _⟩
  have HW := Lib.hid eW
  have HB : Hid (w.heap.size < W.heap.size) := Lib.hid (by rw [← eW, World.size_alloc]; omega)
  clear eW
  go_enter Try.func16, Try.ntmps16
  go_wp2_with fail
  rw [HW.out]
  obtain ⟨bs, hbs⟩ : ∃ b, w.heap.size = b := ⟨_, rfl⟩
  rw [hbs] at hM0 HB ⊢
  clear hMk
  go_loopw [2, 9] (fun v2 v9 wr => ∃ k : Nat, k ≤ l.length ∧ v9 = .int .i64 k ∧ (∃ n ax cx, v2 = .slice ax n cx ∧ n ≤ k ∧ OwnP wr W.heap.size ax n cx (effT l k)) ∧ Hid (∃ L, MapIs encZ encZ wr bs L ∧ LastOf (l.take k) L) ∧ Kp (One bs) W wr) (fun _ v9 _ => l.length - (intOf v9).toNat)
  case atStart => exact ⟨0, by omega, rfl, ⟨0, none, 0, rfl, by omega, OwnR.nil W W.heap.size 41⟩, Lib.hid ⟨[], hM0, fun c => by simp [mget_nil, lastT]⟩, Kp.refl _ _⟩
  case round =>
    obtain ⟨k, hk', rfl, ⟨n, ax, cx, rfl, hnk, hO⟩, hL, hkr⟩ := hrel
    by_cases hlt : k < l.length
    · have g : (k : Int) < (l.length : Nat) := by omega
      obtain ⟨b, o, rfl⟩ := hl.there (by omega)
      have hlb := hl.lt (by omega) encPut_len (by omega)
      have hlr := (hl.non hkM).kp hkr (fun i hi hb => by have := hlb i hi; have : i = bs := hb; omega)
      obtain ⟨c0, c1, c2, c3, c4, c5⟩ := Puts_.cells hlr hlt
      have HT : Hid (l.take (k + 1) = l.take k ++ [l[k]]) := Lib.hid (List.take_succ_eq_append_getElem hlt)
      have HON := Lib.hid (effT_on (List.getElem?_eq_getElem hlt))
      have HOF := Lib.hid (effT_off (List.getElem?_eq_getElem hlt))
      have HN := Lib.hid (BxP.new2 wr l[k])
      generalize l[k] = x at *
      go_upto_region 5 with (fail)
      obtain ⟨V, eV, hN, kV⟩ := HN.out
      rw [eV]
      obtain ⟨n0, n1, n2, n3, n4, n5⟩ := hN.cells
      have hkV := hkr.trans kV.non
      have HBX : Hid (∀ i, Blk ax i → i ≠ wr.heap.size) := Lib.hid fun i hi => by have := (hO.blk i hi).2; omega
      have hO := hO.non kV
      obtain ⟨L, hML, hLa⟩ := hL.out
      have hML := hML.non kV
      clear eV HN hL hN c0 c1 c2 c3 c4 c5
      generalize wr.heap.size = bx at *
      have hz : ∀ W, (zeroValue 3).run Try.prog W = .ok (.int .i64 0) W := fun _ => by kernel_rfl
      have HK := Lib.hid fun W (q : MapIs encZ encZ W bs L) => (run_lookup_is (keys_int Try.underlying3) q Try.underlying84 (hz W) x.cl false).trans (by rw [if_neg (by simp), get_enc, hLa x.cl])
      have hLK := HK.out V hML
      have HEF := Lib.hid (lastT_eff x (l.take k))
      have HPU : Hid (∀ v, v = max (lastT x.cl (l.take k)) x.sq → LastOf (l.take (k + 1)) (mput L x.cl v)) := Lib.hid fun v hv => by rw [HT.out]; exact hLa.put x hv
      clear hz hLa
      generalize lastT x.cl (l.take k) = t at *
      by_cases ht : t < x.sq
      · have d : decide (t < x.sq) = true := decide_eq_true ht
        have HE := Lib.hid (HON.out (by rw [HEF.out, d]))
        clear HON HOF
        go_upto_region 7 with (at_builtin; refine wpList_append_row rfl _ _ 32 rfl W.heap.size 41 i0 _ 56 Try.underlying32 hi0 hz0 hz1 hz2 rfl (by decide) encPut_len encPut_one ax n cx _ rfl (hO.non ((Kp.refl _ _).alloc _)) _ 1 1 [x] rfl (Reads.new rfl rfl) (by omega) (by omega) ?_ ?_; exact ((hkV.alloc _).size); intro a3 c3 w3 hO3 hk3 _)
        have hbl := hO.blk
        have hML3 := (hML.non ((Kp.refl _ _).alloc _)).kp hk3 (fun hb => by have := (hbl bs hb).1; have := HB.out; omega)
        have n1 := hk3.cell (((Kp.refl Non V).alloc _).cell n1 (fun f => f)) (fun q => HBX.out _ q rfl)
        have n2 := hk3.cell (((Kp.refl Non V).alloc _).cell n2 (fun f => f)) (fun q => HBX.out _ q rfl)
        have hk3 : Kp (One bs) W w3 := (hkV.alloc _).comp hk3 (fun _ _ f => f) (fun i hi hs => absurd ((hbl i hs).1) (by omega))
        have hLK := HK.out w3 hML3
        obtain ⟨w4, hU, hM4, k4⟩ := run_update_is (keys_int Try.underlying3) hML3 Try.underlying84 x.cl x.sq
        have HM4 : Hid (∃ L, MapIs encZ encZ w4 bs L ∧ LastOf (l.take (k + 1)) L) := Lib.hid ⟨_, hM4, HPU.out x.sq (by omega)⟩
        have hbl3 := hO3.blk
        have hO4 := hO3.kp k4 (fun i hi hb => by have := (hbl3 i hi).1; have : i = bs := hb; have := HB.out; omega)
        have hk4 := hk3.trans k4
        clear HK HPU
        simp only [encZ] at hU
        go_wp2_with fail
        go_roundw
        case rel => exact ⟨k + 1, by omega, by go_num, ⟨n + 1, a3, c3, rfl, by omega, by rw [HE.out]; exact hO4⟩, HM4, hk4⟩
        case measure => simp [intOf]; omega
      · have d : decide (t < x.sq) = false := decide_eq_false ht
        have HE := Lib.hid (HOF.out (by rw [HEF.out, d]))
        obtain ⟨w4, hU, hM4, k4⟩ := run_update_is (keys_int Try.underlying3) hML Try.underlying84 x.cl t
        have HM4 : Hid (∃ L, MapIs encZ encZ w4 bs L ∧ LastOf (l.take (k + 1)) L) := Lib.hid ⟨_, hM4, HPU.out t (by omega)⟩
        have hbl := hO.blk
        have hO4 := hO.kp k4 (fun i hi hb => by have := (hbl i hi).1; have : i = bs := hb; have := HB.out; omega)
        have hk4 := hkV.trans k4
        clear HON HOF HK HPU
        simp only [encZ] at hU
        go_wp2_with fail
        go_roundw
        case rel => exact ⟨k + 1, by omega, by go_num, ⟨n, ax, cx, rfl, by omega, by rw [HE.out]; exact hO4⟩, HM4, hk4⟩
        case measure => simp [intOf]; omega
    · obtain rfl : k = l.length := by omega
      go_wp2_with fail
      go_ret
      refine ⟨ax, n, cx, rfl, hO.lower hkM.size, hkM.comp hkr (fun _ _ f => f) (fun i hi hs => ?_)⟩
      have : i = bs := hs
      omega
end Go.Proofs.Ytpehfnobgdjgcaa
