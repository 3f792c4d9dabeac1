/-
  Where does an instance stand? The document's.
-/
import Derived.Test.YtpehfnobgdjgcaaG3
namespace Go.Proofs.Ytpehfnobgdjgcaa
open Go.RowKit

/-- The place of the first that is r; -1: none. -/
def plc (r : Rf) : List Rf → Int
  | [] => -1
  | x :: l => if x = r then 0 else if plc r l < 0 then -1 else plc r l + 1

theorem plc_ge (r : Rf) : ∀ l, -1 ≤ plc r l
  | [] => by simp [plc]
  | x :: l => by
    have := plc_ge r l
    unfold plc
    repeat' split
    all_goals omega
/-- The element's cells. -/
theorem Rans.cells {w : World} {b o n c : Nat} {l : List RanV} (h : Rans w (some ⟨b, o, none⟩) n c l) {j : Nat} (hj : j < l.length) :
    w.cell? ⟨b, o + j * 10, none⟩ = some (.int .i64 l[j].ref.1) ∧
    w.cell? ⟨b, o + j * 10 + 1, none⟩ = some (.int .i64 l[j].ref.2) ∧
    w.cell? ⟨b, o + j * 10 + 2, none⟩ = some (.int .i64 l[j].cmd.op) ∧
    w.cell? ⟨b, o + j * 10 + 3, none⟩ = some (.int .i64 l[j].cmd.cl) ∧
    w.cell? ⟨b, o + j * 10 + 4, none⟩ = some (.int .i64 l[j].cmd.sq) ∧
    w.cell? ⟨b, o + j * 10 + 5, none⟩ = some (.int .i64 l[j].cmd.fr) ∧
    w.cell? ⟨b, o + j * 10 + 6, none⟩ = some (.int .i64 l[j].cmd.to) ∧
    w.cell? ⟨b, o + j * 10 + 7, none⟩ = some (.slice l[j].cmd.da.a l[j].cmd.da.n l[j].cmd.da.c) ∧
    w.cell? ⟨b, o + j * 10 + 8, none⟩ = some (.bool l[j].rep.ok) ∧
    w.cell? ⟨b, o + j * 10 + 9, none⟩ = some (.slice l[j].rep.da.a l[j].rep.da.n l[j].rep.da.c) :=
  ⟨h.reads.get (i := 0) (List.getElem?_eq_getElem hj) rfl, h.reads.get (i := 1) (List.getElem?_eq_getElem hj) rfl, h.reads.get (i := 2) (List.getElem?_eq_getElem hj) rfl, h.reads.get (i := 3) (List.getElem?_eq_getElem hj) rfl, h.reads.get (i := 4) (List.getElem?_eq_getElem hj) rfl, h.reads.get (i := 5) (List.getElem?_eq_getElem hj) rfl, h.reads.get (i := 6) (List.getElem?_eq_getElem hj) rfl, h.reads.get (i := 7) (List.getElem?_eq_getElem hj) rfl, h.reads.get (i := 8) (List.getElem?_eq_getElem hj) rfl, h.reads.get (i := 9) (List.getElem?_eq_getElem hj) rfl⟩
theorem BoxN.new2 (w : World) (x : RanV) : ∃ V, w.alloc (.cells #[.int .i64 x.ref.1, .int .i64 x.ref.2, .int .i64 x.cmd.op, .int .i64 x.cmd.cl, .int .i64 x.cmd.sq, .int .i64 x.cmd.fr, .int .i64 x.cmd.to, .slice x.cmd.da.a x.cmd.da.n x.cmd.da.c, .bool x.rep.ok, .slice x.rep.da.a x.rep.da.n x.rep.da.c] 61) = V ∧ BoxN V w.heap.size x ∧ Kp Non w V := ⟨_, rfl, BoxN.new w x, (Kp.refl Non w).alloc _⟩
theorem plc_hit (r : Rf) : ∀ (l : List Rf) (k : Nat), l[k]? = some r → (∀ j, j < k → l[j]? ≠ some r) → plc r l = k
  | [], k, h, _ => by simp at h
  | x :: l, 0, h, _ => by
    have : x = r := by simpa using h
    simp [plc, this]
  | x :: l, k + 1, h, hn => by
    have h0 : x ≠ r := fun e => hn 0 (by omega) (by simp [e])
    have ih := plc_hit r l k (by simpa using h) (fun j hj => by simpa using hn (j + 1) (by omega))
    unfold plc
    rw [if_neg h0, ih, if_neg (by omega)]
    omega
theorem plc_miss (r : Rf) : ∀ (l : List Rf), (∀ j : Nat, l[j]? ≠ some r) → plc r l = -1
  | [], _ => rfl
  | x :: l, hn => by
    have h0 : x ≠ r := fun e => hn 0 (by simp [e])
    have ih := plc_miss r l (fun j => by simpa using hn (j + 1))
    unfold plc
    rw [if_neg h0, ih, if_pos (by omega)]

set_option maxRecDepth 100000 in
set_option maxHeartbeats 1000000 in
theorem rplace_calls (a : Option Addr) (c : Nat) (l : List RanV) (r : Rf) (w : World) (hl : Rans w a l.length c l) : Calls Try.prog 34 #[.slice a l.length c, .agg #[.int .i64 r.1, .int .i64 r.2]] w (ValOut (.int .i64 (plc r (l.map RanV.ref))) w) := by
  have hcc := hl.reads.cap
  have hmm := hl.reads.max
  have hW : ∃ W, w.alloc (.cells #[.int .i64 r.1, .int .i64 r.2] 39) = W ∧ Kp Non w W ∧ W.cell? ⟨w.heap.size, 0, none⟩ = some (.int .i64 r.1) ∧ W.cell? ⟨w.heap.size, 1, none⟩ = some (.int .i64 r.2) := ⟨_, rfl, (Kp.refl _ w).alloc _, cell_new rfl 0, cell_new rfl 1⟩
  obtain ⟨W, eW, hkW, r0, r1⟩ := hW
  have HW := Lib.hid eW
  clear eW
  go_enter Try.func34, Try.ntmps34
  go_wp2_with fail
  rw [HW.out]
  have hl := hl.non hkW
  generalize w.heap.size = bs at *
  go_loopw [9] (fun v9 wr => ∃ k : Nat, k ≤ l.length ∧ v9 = .int .i64 k ∧ Hid (∀ j, j < k → (l.map RanV.ref)[j]? ≠ some r) ∧ Kp Non W wr) (fun v9 _ => l.length - (intOf v9).toNat)
  case atStart => exact ⟨0, by omega, rfl, Lib.hid (fun j h => absurd h (by omega)), Kp.refl _ _⟩
  case round =>
    obtain ⟨k, hk', rfl, hall, hkr⟩ := hrel
    by_cases hlt : k < l.length
    · have g : (k : Int) < (l.length : Nat) := by omega
      obtain ⟨b, o, rfl⟩ := hl.reads.there (by omega)
      obtain ⟨c0, c1, c2, c3, c4, c5, c6, c7, c8, c9⟩ := (hl.non hkr).cells hlt
      have HG : Hid ((l.map RanV.ref)[k]? = some l[k].ref) := Lib.hid (by simp [List.getElem?_eq_getElem hlt])
      have HN := Lib.hid (BoxN.new2 wr l[k])
      generalize l[k] = x at *
      go_upto_region 4 with (fail)
      obtain ⟨V, eV, hN, kV⟩ := HN.out
      rw [eV]
      have n0 := hN.c0
      have n1 := hN.c1
      have hkV := hkr.trans kV
      have q0 := hkV.cell r0 (fun f => f)
      have q1 := hkV.cell r1 (fun f => f)
      clear eV hN HN
      generalize wr.heap.size = bx at *
      by_cases h1 : x.ref.1 = r.1
      · have e1 : (x.ref.1 == r.1) = true := by simp [h1]
        by_cases h2 : x.ref.2 = r.2
        · have e2 : (x.ref.2 == r.2) = true := by simp [h2]
          have HD : Hid (plc r (l.map RanV.ref) = k) := Lib.hid (plc_hit r _ k (by rw [HG.out]; exact congrArg some (Prod.ext h1 h2)) hall.out)
          go_wp2_with fail
          go_ret
          exact ⟨by rw [HD.out]; rfl, hkW.trans hkV⟩
        · have e2 : (x.ref.2 == r.2) = false := by simp [h2]
          have HE : Hid (∀ j, j < k + 1 → (l.map RanV.ref)[j]? ≠ some r) := Lib.hid fun j hj => if h : j < k then hall.out j h else by
            obtain rfl : j = k := by omega
            rw [HG.out]
            exact fun e => h2 (by cases e; rfl)
          go_wp2_with fail
          go_roundw
          case rel => exact ⟨k + 1, by omega, by go_num, HE, hkV⟩
          case measure => simp [intOf]; omega
      · have e1 : (x.ref.1 == r.1) = false := by simp [h1]
        have HE : Hid (∀ j, j < k + 1 → (l.map RanV.ref)[j]? ≠ some r) := Lib.hid fun j hj => if h : j < k then hall.out j h else by
          obtain rfl : j = k := by omega
          rw [HG.out]
          exact fun e => h1 (by cases e; rfl)
        go_wp2_with fail
        go_roundw
        case rel => exact ⟨k + 1, by omega, by go_num, HE, hkV⟩
        case measure => simp [intOf]; omega
    · obtain rfl : k = l.length := by omega
      have HD : Hid (plc r (l.map RanV.ref) = -1) := Lib.hid (plc_miss r _ fun j => if h : j < l.length then hall.out j h else by simp [List.getElem?_eq_none (Nat.le_of_not_lt h)])
      go_wp2_with fail
      go_ret
      exact ⟨by rw [HD.out]; rfl, hkW.trans hkr⟩
end Go.Proofs.Ytpehfnobgdjgcaa
