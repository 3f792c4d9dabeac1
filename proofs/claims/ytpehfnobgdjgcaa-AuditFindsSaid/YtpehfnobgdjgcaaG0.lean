/-
  What the audit looks at: commands, replies, what was executed, deeds, lives, puts; in memory.
-/
import Derived.Test.YtpehfnobgdjgcaaMP1
import Derived.Test.YtpehfnobgdjgcaaRF
import Derived.Test.YtpehfnobgdjgcaaRI
import Derived.Laws.StructEq
import Derived.Deep.QuietTactic
import Derived.BigQuiet
import Derived.Lib.SlicesS
namespace Go.Proofs.Ytpehfnobgdjgcaa
open Go.RowKit

/-- A slice of texts: where it lies, and what it reads as. -/
structure Tx where
  a : Option Addr
  n : Nat
  c : Nat
  l : List ByteArray
def Tx.v (t : Tx) : Value := .slice t.a t.n t.c
def Tx.there (t : Tx) (w : World) : Prop := Texts w t.a t.n t.c t.l
def Tx.nil : Tx := ⟨none, 0, 0, []⟩
theorem Tx.there.non {t : Tx} {w w' : World} (h : t.there w) (k : Kp Non w w') : t.there w' := Reads.non h k
theorem Tx.nil_there (w : World) : Tx.nil.there w := Reads.empty w
instance : Inhabited Tx := ⟨Tx.nil⟩

structure CmdV where
  op : Int
  cl : Int
  sq : Int
  fr : Int
  to : Int
  da : Tx
deriving Inhabited
structure RepV where
  ok : Bool
  da : Tx
deriving Inhabited
structure RanV where
  ref : Rf
  cmd : CmdV
  rep : RepV
deriving Inhabited
structure DeedV where
  cl : Int
  sq : Int
  op : Int
  fr : Int
  to : Int
  da : Tx
  be : Int
  en : Int
  re : Tx
deriving Inhabited
structure PutV where
  sh : Int
  cl : Int
  sq : Int
  ref : Rf
  tx : ByteArray
deriving Inhabited
/-- A slice of what was executed. -/
structure Lg where
  a : Option Addr
  n : Nat
  c : Nat
  l : List RanV
deriving Inhabited
structure LifeV where
  no : Int
  sh : Int
  log : Lg
deriving Inhabited

def encCmd (x : CmdV) : List Value := [.int .i64 x.op, .int .i64 x.cl, .int .i64 x.sq, .int .i64 x.fr, .int .i64 x.to, x.da.v]
def encRep (x : RepV) : List Value := [.bool x.ok, x.da.v]
def encRan (x : RanV) : List Value := [.int .i64 x.ref.1, .int .i64 x.ref.2, .int .i64 x.cmd.op, .int .i64 x.cmd.cl, .int .i64 x.cmd.sq, .int .i64 x.cmd.fr, .int .i64 x.cmd.to, x.cmd.da.v, .bool x.rep.ok, x.rep.da.v]
def encDeed (x : DeedV) : List Value := [.int .i64 x.cl, .int .i64 x.sq, .int .i64 x.op, .int .i64 x.fr, .int .i64 x.to, x.da.v, .int .i64 x.be, .int .i64 x.en, x.re.v]
def encPut (x : PutV) : List Value := [.int .i64 x.sh, .int .i64 x.cl, .int .i64 x.sq, .int .i64 x.ref.1, .int .i64 x.ref.2, .string x.tx]
def encLife (x : LifeV) : List Value := [.int .i64 x.no, .int .i64 x.sh, .slice x.log.a x.log.n x.log.c]
theorem encRan_len (x : RanV) : (encRan x).length = 10 := rfl
theorem encDeed_len (x : DeedV) : (encDeed x).length = 9 := rfl
theorem encPut_len (x : PutV) : (encPut x).length = 6 := rfl
theorem encLife_len (x : LifeV) : (encLife x).length = 3 := rfl
theorem encPut_one (x : PutV) : ∀ v ∈ encPut x, v.oneCell' = true := by intro v hv; simp [encPut] at hv; rcases hv with rfl | rfl | rfl | rfl | rfl | rfl <;> rfl
theorem encDeed_one (x : DeedV) : ∀ v ∈ encDeed x, v.oneCell' = true := by intro v hv; simp [encDeed, Tx.v] at hv; rcases hv with rfl | rfl | rfl | rfl | rfl | rfl | rfl | rfl | rfl <;> rfl
theorem encRan_one (x : RanV) : ∀ v ∈ encRan x, v.oneCell' = true := by intro v hv; simp [encRan, Tx.v] at hv; rcases hv with rfl | rfl | rfl | rfl | rfl | rfl | rfl | rfl | rfl | rfl <;> rfl
def valCmd (x : CmdV) : Value := .agg #[.int .i64 x.op, .int .i64 x.cl, .int .i64 x.sq, .int .i64 x.fr, .int .i64 x.to, x.da.v]
def valRep (x : RepV) : Value := .agg #[.bool x.ok, x.da.v]
def valRan (x : RanV) : Value := .agg #[.int .i64 x.ref.1, .int .i64 x.ref.2, .int .i64 x.cmd.op, .int .i64 x.cmd.cl, .int .i64 x.cmd.sq, .int .i64 x.cmd.fr, .int .i64 x.cmd.to, x.cmd.da.v, .bool x.rep.ok, x.rep.da.v]
def valDeed (x : DeedV) : Value := .agg #[.int .i64 x.cl, .int .i64 x.sq, .int .i64 x.op, .int .i64 x.fr, .int .i64 x.to, x.da.v, .int .i64 x.be, .int .i64 x.en, x.re.v]
def valPut (x : PutV) : Value := .agg #[.int .i64 x.sh, .int .i64 x.cl, .int .i64 x.sq, .int .i64 x.ref.1, .int .i64 x.ref.2, .string x.tx]
def valLife (x : LifeV) : Value := .agg #[.int .i64 x.no, .int .i64 x.sh, .slice x.log.a x.log.n x.log.c]

def RanV.there (x : RanV) (w : World) : Prop := x.cmd.da.there w ∧ x.rep.da.there w
def DeedV.there (x : DeedV) (w : World) : Prop := x.da.there w ∧ x.re.there w
/-- A slice reads as what was executed, with its texts. -/
structure Rans (w : World) (a : Option Addr) (n c : Nat) (l : List RanV) : Prop where
  reads : Reads encRan 10 w a n c l
  each : ∀ x ∈ l, x.there w
structure Deeds (w : World) (a : Option Addr) (n c : Nat) (l : List DeedV) : Prop where
  reads : Reads encDeed 9 w a n c l
  each : ∀ x ∈ l, x.there w
structure Lives (w : World) (a : Option Addr) (n c : Nat) (l : List LifeV) : Prop where
  reads : Reads encLife 3 w a n c l
  each : ∀ x ∈ l, Rans w x.log.a x.log.n x.log.c x.log.l
abbrev Puts_ := Reads encPut 6
abbrev OwnP (w : World) (base : Nat) := OwnR encPut 6 w base 41
abbrev OwnQ (w : World) (base : Nat) := OwnR encPut 6 w base 42
section
variable {w w' : World} {a : Option Addr} {n c : Nat}
theorem RanV.there.non {x : RanV} (h : x.there w) (k : Kp Non w w') : x.there w' := ⟨h.1.non k, h.2.non k⟩
theorem DeedV.there.non {x : DeedV} (h : x.there w) (k : Kp Non w w') : x.there w' := ⟨h.1.non k, h.2.non k⟩
theorem Rans.non {l : List RanV} (h : Rans w a n c l) (k : Kp Non w w') : Rans w' a n c l := ⟨h.reads.non k, fun x hx => (h.each x hx).non k⟩
theorem Deeds.non {l : List DeedV} (h : Deeds w a n c l) (k : Kp Non w w') : Deeds w' a n c l := ⟨h.reads.non k, fun x hx => (h.each x hx).non k⟩
theorem Lives.non {l : List LifeV} (h : Lives w a n c l) (k : Kp Non w w') : Lives w' a n c l := ⟨h.reads.non k, fun x hx => (h.each x hx).non k⟩
end
/-- A bool comes out, and no old block differs. -/
def BoolOut (b : Bool) (w : World) (e : Ending) (w' : World) : Prop := e = .returned (.bool b) ∧ Kp Non w w'
def ValOut (v : Value) (w : World) (e : Ending) (w' : World) : Prop := e = .returned v ∧ Kp Non w w'

set_option maxRecDepth 100000 in
set_option maxHeartbeats 400000 in
/-- slices.Equal of texts. -/
theorem equal_calls (s t : Tx) (w : World) (hs : s.there w) (ht : t.there w) : Calls Try.prog 48 #[s.v, t.v] w (BoolOut (decide (s.l = t.l)) w) := by
  obtain ⟨a, n, c, l⟩ := s
  obtain ⟨a', n', c', l'⟩ := t
  obtain rfl : n = l.length := hs.len
  obtain rfl : n' = l'.length := ht.len
  have hS : Texts w a l.length c l := hs
  have hT : Texts w a' l'.length c' l' := ht
  clear hs ht
  have hc := hS.cap
  have hm := hS.max
  have hc' := hT.cap
  have hm' := hT.max
  show Calls Try.prog 48 #[.slice a l.length c, .slice a' l'.length c'] w (BoolOut (decide (l = l')) w)
  by_cases hl : l.length = l'.length
  · have HL := Lib.hid hl
    have e0 : ((l.length : Int) != (l'.length : Int)) = false := by simp [hl]
    clear hl
    go_enter Try.func48, Try.ntmps48
    go_wp2_with fail
    go_loopw [13] (fun v13 wr => ∃ k : Nat, k ≤ l.length ∧ v13 = .int .i64 k ∧ Hid (l.take k = l'.take k) ∧ Kp Non w wr) (fun v13 _ => l.length - (intOf v13).toNat)
    case atStart => exact ⟨0, by omega, rfl, Lib.hid (by simp), Kp.refl _ _⟩
    case round =>
      obtain ⟨k, hk, rfl, hall, hkr⟩ := hrel
      by_cases hlt : k < l.length
      · have g : (k : Int) < (l.length : Nat) := by omega
        have g' : (k : Int) < (l'.length : Nat) := by have := HL.out; omega
        have hlt' : k < l'.length := by rw [← HL.out]; exact hlt
        obtain ⟨b, o, rfl⟩ := hS.there (by omega)
        obtain ⟨b', o', rfl⟩ := hT.there (by have := HL.out; omega)
        have c0 := Texts.c (hS.non hkr) hlt
        have d0 := Texts.c (hT.non hkr) hlt'
        have HT := Lib.hid (fun (he : l[k] = l'[k]) => (show l.take (k + 1) = l'.take (k + 1) by rw [List.take_succ_eq_append_getElem hlt, List.take_succ_eq_append_getElem hlt', hall.out, he]))
        have HN := Lib.hid (fun (e : l = l') => (by subst e; rfl : l[k] = l'[k]))
        generalize l[k] = s at *
        generalize l'[k] = t at *
        by_cases he : s = t
        · have hb : (s.toList == t.toList) = true := by rw [he]; exact beq_self_eq_true _
          have HE := Lib.hid (HT.out he)
          clear he HT HN
          go_wp2_with fail
          go_quiet (fail)
          go_wp2_with fail
          go_roundw
          case rel => exact ⟨k + 1, by omega, by go_num, HE, hkr.drewN _⟩
          case measure => simp [intOf]; omega
        · have hb : (s.toList == t.toList) = false := (Lib.bytes_beq_false_iff _ _).2 he
          have HD : Hid (decide (l = l') = false) := Lib.hid (decide_eq_false fun e => he (HN.out e))
          clear he HT HN
          go_wp2_with fail
          go_quiet (fail)
          go_wp2_with fail
          go_ret
          exact ⟨by rw [HD.out]; rfl, hkr.drewN _⟩
      · obtain rfl : k = l.length := by omega
        have hd : decide (l = l') = true := decide_eq_true (by
          have := hall.out
          rwa [List.take_of_length_le (Nat.le_refl _), List.take_of_length_le (by rw [HL.out]; exact Nat.le_refl _)] at this)
        have HD := Lib.hid hd
        clear hd
        go_wp2_with fail
        go_ret
        exact ⟨by rw [HD.out]; rfl, hkr⟩
  · have e0 : ((l.length : Int) != (l'.length : Int)) = true := by simp; omega
    have HD : Hid (decide (l = l') = false) := Lib.hid (decide_eq_false fun e => hl (by rw [e]))
    clear hl
    go_enter Try.func48, Try.ntmps48
    go_wp2_with fail
    go_ret
    exact ⟨by rw [HD.out]; rfl, Kp.refl _ _⟩
end Go.Proofs.Ytpehfnobgdjgcaa
