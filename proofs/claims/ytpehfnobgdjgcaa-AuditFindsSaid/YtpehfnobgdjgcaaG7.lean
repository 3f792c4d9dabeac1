/-
  Where instances stand: the program's map.
-/
import Derived.Test.YtpehfnobgdjgcaaG6
namespace Go.Proofs.Ytpehfnobgdjgcaa
open Go.RowKit

def encZ (i : Int) : Value := .int .i64 i
/-- The map says where each stands first. -/
def PlOf (l : List Rf) (L : List (Rf × Int)) : Prop := ∀ r, mget L r = if plc r l < 0 then none else some (plc r l)
theorem plc_snoc (r x : Rf) : ∀ l, plc r (l ++ [x]) = if plc r l < 0 then (if x = r then (l.length : Int) else -1) else plc r l
  | [] => by
    by_cases h : x = r <;> simp [plc, h]
  | y :: l => by
    have ih := plc_snoc r x l
    have h1 := plc_ge r l
    simp only [List.cons_append, plc, List.length_cons]
    by_cases hy : y = r
    · simp [hy]
    · simp only [hy, if_false]
      rw [ih]
      by_cases hx : x = r
      · simp only [hx, if_true]
        repeat' split
        all_goals omega
      · simp only [hx, if_false]
        repeat' split
        all_goals omega
theorem plc_mem (r : Rf) : ∀ l, plc r l < 0 ↔ r ∉ l
  | [] => by simp [plc]
  | y :: l => by
    have ih := plc_mem r l
    have h1 := plc_ge r l
    unfold plc
    by_cases hy : y = r
    · simp [hy]
    · have hy' : ¬ r = y := fun e => hy e.symm
      simp only [hy, if_false, List.mem_cons, hy', false_or]
      rw [← ih]
      split <;> omega
theorem PlOf.hit {l : List Rf} {L : List (Rf × Int)} (h : PlOf l L) {x : Rf} (hx : x ∈ l) : PlOf (l ++ [x]) L ∧ ¬ (l ++ [x]).Nodup := by
  refine ⟨fun r => ?_, fun hn => ?_⟩
  · rw [h r, plc_snoc]
    by_cases hr : plc r l < 0
    · have : x ≠ r := fun e => (plc_mem r l).1 hr (e ▸ hx)
      simp [hr, this]
    · simp [hr]
  · have := (List.nodup_append.1 hn).2.2 x hx x (by simp)
    exact this rfl
theorem PlOf.miss {l : List Rf} {L : List (Rf × Int)} (h : PlOf l L) {x : Rf} (hx : x ∉ l) : PlOf (l ++ [x]) (mput L x (l.length : Int)) ∧ ((l ++ [x]).Nodup ↔ l.Nodup) := by
  refine ⟨fun r => ?_, ?_⟩
  · rw [mget_put, plc_snoc]
    by_cases hr : x = r
    · subst hr
      have := (plc_mem x l).2 hx
      simp [this]
    · rw [if_neg hr, h r]
      by_cases h1 : plc r l < 0 <;> simp [h1, hr]
  · rw [List.nodup_append]
    constructor
    · exact fun q => q.1
    · intro q
      refine ⟨q, by simp, fun a ha b hb => ?_⟩
      simp at hb
      subst hb
      exact fun e => hx (e ▸ ha)

/-- What places leaves. -/
def PlacesOut (l : List Rf) (w : World) (e : Ending) (w' : World) : Prop := ∃ b L, e = .returned (.tuple #[.map (some b), .bool (decide l.Nodup)]) ∧ w.heap.size ≤ b ∧ MapIs encRef encZ w' b L ∧ PlOf l L ∧ Kp Non w w'

set_option maxRecDepth 100000 in
set_option maxHeartbeats 1000000 in
theorem places_calls (a : Option Addr) (c : Nat) (l : List RanV) (w : World) (hl : Rans w a l.length c l) : Calls Try.prog 31 #[.slice a l.length c] w (PlacesOut (l.map RanV.ref) w) := by
  have hcc := hl.reads.cap
  have hmm := hl.reads.max
  have hMk : ∀ w, (Instr.makeMap 85 none).run Try.prog w = .ok (.map (some w.heap.size)) (w.alloc (.map #[] 0)) := fun _ => rfl
  obtain ⟨W, eW, hM0, hkM⟩ : ∃ W, w.alloc (.map #[] 0) = W ∧ MapIs encRef encZ W w.heap.size ([] : List (Rf × Int)) ∧ Kp Non w W := ⟨_, rfl, MapIs.new w encRef encZ, (Kp.refl _ w).alloc _⟩
  have HW := Lib.hid eW
  clear eW
  have hlk := @run_lookup_is Rf _ Try.prog 39 3 85 Int encRef encZ
  go_enter Try.func31, Try.ntmps31
  go_wp2_with fail
  rw [HW.out]
  obtain ⟨bs, HB, hbs⟩ : ∃ b, Hid (w.heap.size ≤ b) ∧ w.heap.size = b := ⟨_, Lib.hid (Nat.le_refl _), rfl⟩
  rw [hbs] at hM0 ⊢
  clear hbs hMk
  go_loopw [5, 13] (fun v5 v13 wr => ∃ k : Nat, k ≤ l.length ∧ v13 = .int .i64 k ∧ (∃ o, v5 = .bool o ∧ Hid (o = decide ((l.map RanV.ref).take k).Nodup)) ∧ Hid (∃ L, MapIs encRef encZ wr bs L ∧ PlOf ((l.map RanV.ref).take k) L) ∧ Kp Non w wr) (fun v5 v13 _ => l.length - (intOf v13).toNat)
  case atStart => exact ⟨0, by omega, rfl, ⟨true, rfl, Lib.hid rfl⟩, Lib.hid ⟨[], hM0, fun r => by simp [plc, mget_nil]⟩, hkM⟩
  case round =>
    obtain ⟨k, hk', rfl, ⟨once, rfl, ho⟩, hL, hkr⟩ := hrel
    by_cases hlt : k < l.length
    · have g : (k : Int) < (l.length : Nat) := by omega
      obtain ⟨b, o, rfl⟩ := hl.reads.there (by omega)
      obtain ⟨c0, c1, c2, c3, c4, c5, c6, c7, c8, c9⟩ := (hl.non hkr).cells hlt
      have HT : Hid ((l.map RanV.ref).take (k + 1) = (l.map RanV.ref).take k ++ [l[k].ref]) := Lib.hid (by rw [List.take_succ_eq_append_getElem (by simpa using hlt)]; simp)
      have HQ : Hid (((l.map RanV.ref).take k).length = k) := Lib.hid (by simp; omega)
      have HN := Lib.hid (BoxN.new2 wr l[k])
      generalize l[k] = x at *
      go_upto_region 6 with (fail)
      obtain ⟨V, eV, hN, kV⟩ := HN.out
      rw [eV]
      have n0 := hN.c0
      have n1 := hN.c1
      have hkV := hkr.trans kV
      obtain ⟨L, hML, hPL⟩ := hL.out
      have hML := hML.non kV
      clear eV hN HN hL
      generalize wr.heap.size = bx at *
      have hz : (zeroValue 3).run Try.prog V = .ok (.int .i64 0) V := by kernel_rfl
      have hLK := run_lookup_is keys_ref hML Try.underlying85 hz x.ref true
      by_cases hx : x.ref ∈ (l.map RanV.ref).take k
      · have hh := hPL.hit hx
        have hg : mget L x.ref = some (plc x.ref ((l.map RanV.ref).take k)) := by
          rw [hPL, if_neg]
          exact fun q => (plc_mem _ _).1 q hx
        rw [hg] at hLK
        simp only [encRef, Option.map_some, Option.getD_some, Option.isSome_some, if_true, encZ] at hLK
        have HE : Hid (∃ L, MapIs encRef encZ V bs L ∧ PlOf ((l.map RanV.ref).take (k + 1)) L) := Lib.hid ⟨L, hML, by rw [HT.out]; exact hh.1⟩
        have HO : Hid (false = decide ((l.map RanV.ref).take (k + 1)).Nodup) := Lib.hid (by rw [HT.out, decide_eq_false hh.2])
        clear hh hx hPL hML hg
        go_wp2_with fail
        go_roundw
        case rel => exact ⟨k + 1, by omega, by go_num, ⟨false, rfl, HO⟩, HE, hkV⟩
        case measure => simp [intOf]; omega
      · have hh := hPL.miss hx
        have hg : mget L x.ref = none := by
          rw [hPL, if_pos]
          exact (plc_mem _ _).2 hx
        rw [hg] at hLK
        simp only [encRef, Option.map_none, Option.getD_none, Option.isSome_none, if_true] at hLK
        obtain ⟨V2, hUP, hM2, hk2⟩ := run_update_is keys_ref hML Try.underlying85 x.ref (k : Int)
        simp only [encRef, encZ] at hUP
        have HE : Hid (∃ L, MapIs encRef encZ V2 bs L ∧ PlOf ((l.map RanV.ref).take (k + 1)) L) := Lib.hid ⟨_, hM2, by rw [HT.out]; have := hh.1; rwa [HQ.out] at this⟩
        have HO : Hid (once = decide ((l.map RanV.ref).take (k + 1)).Nodup) := Lib.hid (by rw [HT.out, ho.out]; exact decide_eq_decide.2 hh.2.symm)
        have hk2 : Kp Non w V2 := hkV.comp hk2 (fun _ _ f => f) (fun i hi h => absurd (show i = bs from h) (by have := HB.out; omega))
        clear hh hx hPL hML hg hM2
        go_wp2_with fail
        go_roundw
        case rel => exact ⟨k + 1, by omega, by go_num, ⟨once, rfl, HO⟩, HE, hk2⟩
        case measure => simp [intOf]; omega
    · obtain rfl : k = l.length := by omega
      have HD : Hid ((l.map RanV.ref).take l.length = l.map RanV.ref) := Lib.hid (List.take_of_length_le (by simp))
      go_wp2_with fail
      go_ret2
      obtain ⟨L, h1, h2⟩ := hL.out
      rw [HD.out] at h2
      have ho := ho.out
      rw [HD.out] at ho
      exact ⟨bs, L, by rw [ho]; rfl, HB.out, h1, h2, hkr⟩
end Go.Proofs.Ytpehfnobgdjgcaa
