/-
  A journal's calls: try, and those that only tell.
-/
import Derived.Test.YtclbapmjhchokaaJ6
namespace Go.Proofs.Ytclbapmjhchokaa
open Go.RowKit
variable {F : Nat → Prop}

def AskPost (ec : Int) (P : World → Prop) (e : Ending) (w' : World) : Prop := e = .returned (.int .i64 ec) ∧ P w'
def ThenPost (R : World → Prop) (e : Ending) (w' : World) : Prop := e = .returned (.tuple #[]) ∧ R w'
def TryPost (ec : Int) (j : Nat) (P R : World → Prop) (e : Ending) (w' : World) : Prop :=
  e = .returned (.int .i64 ec) ∧ if ec = 0 then R w' else if ec = 6 then ∃ w1, P w1 ∧ w' = w1.setCell ⟨j, 4, none⟩ (.bool true) else P w'

theorem try_nil (v1 v2 : Value) (w : World) : Calls Try.prog 86 #[.pointer none, v1, v2] w fun e w' => e = .returned (.int .i64 8) ∧ w' = w := by
  go_enter Try.func86, Try.ntmps86
  go_wp2
  go_ret
  exact ⟨rfl, rfl⟩
theorem try_down (j : Nat) (v1 v2 : Value) (w : World) (hdown : w.cell? ⟨j, 4, none⟩ = some (.bool true)) : Calls Try.prog 86 #[.pointer (some ⟨j, 0, none⟩), v1, v2] w fun e w' => e = .returned (.int .i64 7) ∧ w' = w := by
  go_enter Try.func86, Try.ntmps86
  go_wp2
  go_ret
  exact ⟨rfl, rfl⟩

set_option maxHeartbeats 1000000 in
theorem try_calls (j : Nat) (f1 f2 : FuncId) (b1 c1 c2 : Array Value) (ec : Int) (P R : World → Prop) (w : World) (hdown : w.cell? ⟨j, 4, none⟩ = some (.bool false)) (hen : Enters f1 (b1 ++ c1)) (hen2 : Enters f2 c2)
    (hask : Calls Try.prog f1 (b1 ++ c1) w (AskPost ec P)) (hdoes : ec = 0 → ∀ w1, P w1 → Calls Try.prog f2 c2 w1 (ThenPost R))
    (hcell : ∀ w1, P w1 → w1.cell? ⟨j, 4, none⟩ = some (.bool false) ∧ w1.frozen? ⟨j, 4, none⟩ = false) :
    Calls Try.prog 86 #[.pointer (some ⟨j, 0, none⟩), .func (.func f1) b1 c1, .func (.func f2) #[] c2] w (TryPost ec j P R) := by
  have HA := Lib.hid hask
  have HD := Lib.hid hdoes
  have HC := Lib.hid hcell
  clear hask hdoes hcell
  have hen' : ∀ w, (callFunc f1 (b1 ++ c1)).run Try.prog w = .ok (.enter f1 (b1 ++ c1)) w := hen
  have hen2' : ∀ w, (callFunc f2 c2).run Try.prog w = .ok (.enter f2 c2) w := hen2
  go_enter Try.func86, Try.ntmps86
  go_wp2_with fail
  refine HA.out.mono ?_
  rintro e w1 ⟨rfl, hP⟩
  by_cases h0 : ec = 0
  · subst h0
    go_wp2_with fail
    refine (HD.out (by trivial) w1 hP).mono ?_
    rintro e w2 ⟨rfl, hR⟩
    go_wp2_with fail
    go_ret
    exact ⟨rfl, by rw [if_pos rfl]; exact hR⟩
  · by_cases h6 : ec = 6
    · subst h6
      obtain ⟨c4, f4⟩ := HC.out w1 hP
      go_wp2_with fail
      go_ret
      exact ⟨rfl, by rw [if_neg h0, if_pos rfl]; exact ⟨w1, hP, rfl⟩⟩
    · have e0 : (ec == 0) = false := by simp [h0]
      have e6 : (ec == 6) = false := by simp [h6]
      go_wp2_with fail
      go_ret
      exact ⟨rfl, by rw [if_neg h0, if_neg h6]; exact hP⟩

section
variable {b0 : Nat} {w : World} {j d : Nat} {s : St} {J : JSt} {ra : Option Addr}
theorem jdown_calls (h : Jou F b0 w j d s J ra) : Calls Try.prog 49 #[.pointer (some ⟨j, 0, none⟩)] w fun e w' => e = .returned (.bool J.down) ∧ w' = w := by
  obtain ⟨_, _, _, _, h⟩ := h
  have c4 := h.c4
  go_enter Try.func49, Try.ntmps49
  go_wp2
  go_ret
  exact ⟨rfl, rfl⟩
theorem jcount_calls (h : Jou F b0 w j d s J ra) : Calls Try.prog 52 #[.pointer (some ⟨j, 0, none⟩)] w fun e w' => e = .returned (.int .i64 J.recs.length) ∧ w' = w := by
  obtain ⟨_, _, _, _, h⟩ := h
  have c2 := h.c2
  go_enter Try.func52, Try.ntmps52
  go_wp2
  go_ret
  exact ⟨rfl, rfl⟩
theorem jsize_calls (h : Jou F b0 w j d s J ra) : Calls Try.prog 53 #[.pointer (some ⟨j, 0, none⟩)] w fun e w' => e = .returned (.int .i64 (sizes J.recs : Nat)) ∧ w' = w := by
  obtain ⟨_, _, _, _, h⟩ := h
  have c3 := h.c3
  go_enter Try.func53, Try.ntmps53
  go_wp2
  go_ret
  exact ⟨rfl, rfl⟩
theorem jimage_calls (h : Jou F b0 w j d s J ra) (hl : J.image.length ≤ 1000000000000) : Calls Try.prog 42 #[.pointer (some ⟨j, 0, none⟩)] w (CopyPost J.image w) := by
  obtain ⟨_, _, _, _, h⟩ := h
  have c1 := h.c1
  have hb := h.image
  go_enter Try.func42, Try.ntmps42
  go_wp2_with fail
  refine (copied_calls _ _ _ _ w hb hl).mono ?_
  rintro e w1 ⟨a, c, rfl, ho, hk⟩
  go_wp2_with fail
  go_ret
  exact ⟨a, c, rfl, ho, hk⟩

/-- The records, each copied, in a row of the call's own. -/
def RecsPost (rs : List (List UInt8)) (w : World) (e : Ending) (w' : World) : Prop :=
  ∃ a c vs, e = .returned (.slice a rs.length c) ∧ SRow w' 22 a rs.length c vs ∧ Recs Non w' vs rs ∧ (∀ k, Blk a k → w.heap.size ≤ k) ∧ Kp Non w w'
end
theorem SRow.there {w : World} {e : TypeId} {a : Option Addr} {n c : Nat} {vs : List Value} (h : SRow w e a n c vs) (hn : 0 < n) : ∃ g, a = some ⟨g, 0, none⟩ := by
  rcases h.lies with ⟨_, h1, _⟩ | ⟨g, cur, rfl, _⟩
  · omega
  · exact ⟨g, rfl⟩
theorem Recs.nonF {w : World} {vs : List Value} {rs : List (List UInt8)} (h : Recs F w vs rs) : Recs Non w vs rs :=
  ⟨h.len, fun i r hr => let ⟨b, c, h1, h2, _⟩ := h.at_ i r hr; ⟨b, c, h1, h2, fun _ _ _ f => f⟩⟩
theorem Recs.non {w w' : World} {vs : List Value} {rs : List (List UInt8)} (h : Recs F w vs rs) (k : Kp Non w w') : Recs F w' vs rs := h.kp k fun _ _ _ f => f

set_option maxRecDepth 100000 in
set_option maxHeartbeats 2000000 in
theorem jrecords_calls {b0 : Nat} {w : World} {j d : Nat} {s : St} {J : JSt} {ra : Option Addr} (h : Jou F b0 w j d s J ra) (hl : ∀ r ∈ J.recs, r.length ≤ 1000000000000) (hc : J.recs.length ≤ 1000000000) :
    Calls Try.prog 44 #[.pointer (some ⟨j, 0, none⟩)] w (RecsPost J.recs w) := by
  obtain ⟨rc, ia, ic, vs, h⟩ := h
  have c2 := h.c2
  have hrow := h.rows
  have hrec := h.recs.nonF
  obtain ⟨i1, hi1, hy0, hy1, hy2⟩ := info_parts' info22
  have hzc : (Value.slice none 0 0).cells = #[Value.slice none 0 0] := rfl
  go_enter Try.func44, Try.ntmps44
  go_wp2_with fail
  go_loopw [2, 12] (fun v2 v12 wr => ∃ (k : Nat) (a : Option Addr) (c : Nat) (us : List Value), k ≤ J.recs.length ∧ v2 = .slice a k c ∧ v12 = .int .i64 k ∧ SRow wr 22 a k c us ∧ Recs Non wr us (J.recs.take k) ∧ (∀ i, Blk a i → w.heap.size ≤ i) ∧ Kp Non w wr) (fun _ v12 _ => J.recs.length - (intOf v12).toNat)
  case atStart => exact ⟨0, none, 0, [], by omega, rfl, rfl, SRow.nil _ _, Recs.nil _, (fun i hi => by obtain ⟨_, h1, _⟩ := hi; cases h1), Kp.refl _ _⟩
  case round =>
    obtain ⟨k, a, c, us, hk, rfl, rfl, hS, hR, hnew, hkw⟩ := hrel
    by_cases hlt : k < J.recs.length
    · have g : (k : Int) < J.recs.length := by omega
      have g0 : (0 : Int) ≤ k := by omega
      obtain ⟨b, kc, hv, hbytes, _⟩ := hrec.at_ k J.recs[k] (List.getElem?_eq_getElem hlt)
      obtain ⟨gb, rfl, hcell⟩ := hrow.cl hv
      have hcell' := hkw.cell hcell (fun f => f)
      have hb' := hbytes.non hkw
      have hlen := hl J.recs[k] (List.getElem_mem hlt)
      have hT := List.take_succ_eq_append_getElem hlt
      have HT := Lib.hid hT
      clear hT hcell hv hbytes
      generalize J.recs[k] = r at *
      go_wp2_with fail
      refine (copied_calls _ _ _ _ wr hb' hlen).mono ?_
      rintro e w1 ⟨a1, c1, rfl, hO, hk1⟩
      have hB1 := heap_alloc_new w1 (Obj.cells #[Value.slice a1 r.length c1] 22)
      have hkA := (Kp.refl Non w1).alloc (Obj.cells #[Value.slice a1 r.length c1] 22)
      have hSA := (hS.non hk1).non hkA
      have hcA := cell_of_row _ _ 0 _ _ _ hB1
      have hwA := (hkw.trans hk1).trans hkA
      have hRA := (hR.non hk1).non hkA
      have hbA := hO.bytes.non hkA
      have hsz := hwA.size
      go_wp2_with ((at_builtin; refine wpList_append_srow rfl _ _ 59 rfl 22 i1 (.slice none 0 0) 24 Try.underlying59 hi1 hy0 hy1 hy2 hzc (NB.slice _ _ _) a k c us rfl hSA ⟨w1.heap.size, 0, none⟩ 1 (.slice a1 r.length c1) rfl hcA rfl (NB.slice _ _ _) (by omega) (by omega) ?_; intro a2 c2 w2 hS2 hk2 ha2))
      have hw2 : Kp Non w w2 := hwA.comp hk2 (fun _ _ f => f) (fun i hi hb => by have := hnew i hb; omega)
      have hR2 : Recs Non w2 (us ++ [Value.slice a1 r.length c1]) (J.recs.take (k + 1)) := by
        rw [HT.out]
        exact (hRA.kp hk2 hSA.noB).add (hbA.nob hk2 hSA.noB) (fun _ _ _ f => f)
      have hnew2 : ∀ i, Blk a2 i → w.heap.size ≤ i := by
        intro i hi
        rcases ha2 with rfl | rfl
        · exact hnew i hi
        · obtain ⟨_, h1, h2⟩ := hi
          cases h1
          rw [← h2]
          exact hsz
      exact ⟨⟨k + 1, a2, c2, us ++ [Value.slice a1 r.length c1], by omega, rfl, by go_num, hS2, hR2, hnew2, hw2⟩, by simp [intOf]; omega⟩
    · obtain rfl : k = J.recs.length := by omega
      rw [List.take_length] at hR
      have g : ¬ (J.recs.length : Int) < J.recs.length := by omega
      go_wp2
      go_ret
      exact ⟨a, c, us, rfl, hS, hR, hnew, hkw⟩
end Go.Proofs.Ytclbapmjhchokaa
