/-
  A journal's calls: swap, Format, Sync.
-/
import Derived.Test.YtclbapmjhchokaaJ7
namespace Go.Proofs.Ytclbapmjhchokaa
open Go.RowKit
variable {F : Nat → Prop}

def jswap (s : St) (b : List UInt8) : Int × St :=
  if 1048576 < b.length then (2, s) else if (s.putStage (frame b)).1 ≠ 0 then s.putStage (frame b) else (s.putStage (frame b)).2.commit
theorem jswap_ok {s : St} (h : s.ok) (b : List UInt8) : (jswap s b).2.ok := by
  unfold jswap
  split
  · exact h
  · split
    · exact h.putStage _
    · exact (h.putStage _).commit

set_option maxRecDepth 100000 in
set_option maxHeartbeats 1000000 in
theorem swap_calls (d : Nat) (s : St) (a : Option Addr) (n c : Nat) (b : List UInt8) (w : World) (hd : Dev F w d s) (hok : s.ok) (hb : Bytes w a n c b) :
    Calls Try.prog 85 #[.pointer (some ⟨d, 0, none⟩), .slice a n c] w (MPost F d (jswap s b) w) := by
  have hn := hb.len
  have HO := Lib.hid hok
  by_cases hbig : 1048576 < n
  · have e1 : jswap s b = (2, s) := by unfold jswap; rw [if_pos (by omega)]
    rw [e1]
    clear hn
    go_enter Try.func85, Try.ntmps85
    go_wp2_with fail
    refine (frame_big a n c w hbig).mono ?_
    rintro e w1 ⟨rfl, rfl⟩
    go_wp2_with fail
    go_ret
    exact ⟨rfl, hd, Kp.refl _ _⟩
  · have e1 : jswap s b = if (s.putStage (frame b)).1 ≠ 0 then s.putStage (frame b) else (s.putStage (frame b)).2.commit := by unfold jswap; rw [if_neg (by omega)]
    have HE := Lib.hid e1
    generalize jswap s b = Q at *
    have hfl := frame_len b
    have hfb : (frame b).length ≤ 1000000000000 := by omega
    have hle : n ≤ 1048576 := by omega
    have HN := Lib.hid hn
    clear hn e1
    go_enter Try.func85, Try.ntmps85
    go_wp2_with fail
    refine (frame_calls a n c b w hb hle).mono ?_
    rintro e w1 ⟨fa, fc, rfl, hO, hk1⟩
    have hd1 := hd.non hk1
    have hB := hO.bytes
    go_wp2_with fail
    refine (stage_calls d s fa (b.length + 8) fc (frame b) w1 hd1 hok hB (by omega)).mono ?_
    rintro e w2 ⟨rfl, hd2, hk2⟩
    have hk3 : Kp (One d) w w2 := hk1.comp hk2 (fun _ _ f => f.elim) (fun _ _ h => h)
    have hok2 := (hok.putStage (frame b))
    generalize hq : s.putStage (frame b) = q at *
    obtain ⟨qe, qs⟩ := q
    by_cases h0 : qe = 0
    · subst h0
      have HK := Lib.hid hok2
      clear hok2 hq
      go_wp2_with fail
      refine (commit_calls d qs w2 hd2 HK.out).mono ?_
      rintro e w3 ⟨rfl, hd3, hk4⟩
      go_wp2_with fail
      go_ret
      rw [HE.out, if_neg (fun h => h rfl)]
      exact ⟨rfl, hd3, hk3.trans hk4⟩
    · have e0 : (qe != 0) = true := by simp [h0]
      clear hok2 hq
      go_wp2_with fail
      go_ret
      rw [HE.out, if_pos h0]
      exact ⟨rfl, hd2, hk3⟩

def FormPost (F : Nat → Prop) (b0 d : Nat) (r : Int × St) (b : List UInt8) (w : World) (e : Ending) (w' : World) : Prop :=
  Dev F w' d r.2 ∧ Kp (One d) w w' ∧ if r.1 = 0 then ∃ j, e = .returned (.tuple #[.pointer (some ⟨j, 0, none⟩), .int .i64 0]) ∧ Jou F b0 w' j d r.2 ⟨b, [], false⟩ none ∧ w.heap.size ≤ j
    else e = .returned (.tuple #[.pointer none, .int .i64 r.1])

set_option maxRecDepth 100000 in
set_option maxHeartbeats 1000000 in
theorem format_calls (b0 d : Nat) (s : St) (a : Option Addr) (n c : Nat) (b : List UInt8) (w : World) (hd : Dev F w d s) (hok : s.ok) (hb : Bytes w a n c b) (hn1 : n ≤ 1000000000000) (hfd : ¬ F d) (hb0 : b0 ≤ d) (hbw : b0 ≤ w.heap.size) :
    Calls Try.prog 46 #[.pointer (some ⟨d, 0, none⟩), .slice a n c] w (FormPost F b0 d (jswap s b) b w) := by
  have hfence := hd.fence
  have HN := Lib.hid hb.len
  go_enter Try.func46, Try.ntmps46
  go_wp2_with fail
  refine (swap_calls d s a n c b w hd hok hb).mono ?_
  rintro e w1 ⟨rfl, hd1, hk1⟩
  generalize jswap s b = q at *
  obtain ⟨qe, qs⟩ := q
  by_cases h0 : qe = 0
  · subst h0
    have hb1 := hb.one hd hk1
    go_wp2_with fail
    refine (copied_calls a n c b w1 hb1 hn1).mono ?_
    rintro e w2 ⟨ca, cc, rfl, hO, hk2⟩
    have hlt := hO.lt
    go_wp2_with fail
    go_ret2
    have hkA := (Kp.refl Non w2).alloc (Obj.cells #[Value.pointer (some ⟨d, 0, none⟩), Value.slice ca b.length cc, Value.slice none 0 0, Value.int .i64 0, Value.bool false] 96)
    have hk3 : Kp Non w1 (w2.alloc (Obj.cells #[Value.pointer (some ⟨d, 0, none⟩), Value.slice ca b.length cc, Value.slice none 0 0, Value.int .i64 0, Value.bool false] 96)) := hk2.trans hkA
    have hk4 : Kp (One d) w (w2.alloc (Obj.cells #[Value.pointer (some ⟨d, 0, none⟩), Value.slice ca b.length cc, Value.slice none 0 0, Value.int .i64 0, Value.bool false] 96)) := hk1.comp hk3 (fun _ _ h => h) (fun _ _ f => f.elim)
    have hs2 : w.heap.size ≤ w2.heap.size := Nat.le_trans hk1.size hk2.size
    refine ⟨(hd1.non hk3), hk4, ?_⟩
    rw [if_pos rfl]
    refine ⟨w2.heap.size, rfl, ⟨0, ca, cc, [], heap_alloc_new w2 _, hd1.non hk3, hO.bytes.non hkA, ?_, SRow.nil _ _, Recs.nil _, hfd, ?_, ?_, hb0, ?_, ?_⟩, hs2⟩
    · intro _ ad had hf
      have h1 := (hlt ad.block ⟨ad, had, rfl⟩).1
      have h2 := hfence _ hf
      have := hk1.size
      omega
    · intro hf
      have h2 := hfence _ hf
      omega
    · rintro k ⟨_, h1, _⟩
      cases h1
    · omega
    · rintro k ⟨_, h1, _⟩
      cases h1
  · have e0 : (qe != 0) = true := by simp [h0]
    go_wp2_with fail
    go_ret2
    refine ⟨hd1, hk1, ?_⟩
    rw [if_neg h0]
    rfl

/-- The journal goes down with the power. -/
def tell (J : JSt) (e : Int) : JSt := if e = 6 then { J with down := true } else J
def jsync (s : St) (J : JSt) : Int × St × JSt := if J.down then (7, s, J) else (s.sync.1, s.sync.2, tell J s.sync.1)
def japp (s : St) (r : List UInt8) : Int × St := if 1048576 < r.length then (2, s) else s.append (frame r)
def jadd (s : St) (J : JSt) (r : List UInt8) : Int × St × JSt :=
  if J.down then (7, s, J) else ((japp s r).1, (japp s r).2, if (japp s r).1 = 0 then { J with recs := J.recs ++ [r] } else tell J (japp s r).1)
def jsave (s : St) (J : JSt) (b : List UInt8) : Int × St × JSt :=
  if J.down then (7, s, J) else ((jswap s b).1, (jswap s b).2, if (jswap s b).1 = 0 then ⟨b, [], false⟩ else tell J (jswap s b).1)

/-- What a journal's call leaves. -/
def JPost (F : Nat → Prop) (b0 j d : Nat) (ra : Option Addr) (r : Int × St × JSt) (w : World) (e : Ending) (w' : World) : Prop :=
  e = .returned (.int .i64 r.1) ∧ ∃ ra', (∀ k, Blk ra' k → Blk ra k ∨ w.heap.size ≤ k) ∧ Jou F b0 w' j d r.2.1 r.2.2 ra' ∧ Kp (JS d j ra) w w'

section
variable {b0 : Nat} {w : World} {j d : Nat} {s : St} {J : JSt} {ra : Option Addr}
/-- The journal is down from now on. -/
theorem Jou.falls (h : Jou F b0 w j d s J ra) : Jou F b0 (w.setCell ⟨j, 4, none⟩ (.bool true)) j d s { J with down := true } ra := by
  obtain ⟨rc, ia, ic, vs, h⟩ := h
  have k : Kp (One j) w (w.setCell ⟨j, 4, none⟩ (.bool true)) := (Kp.refl (One j) w).setCell (p := ⟨j, 4, none⟩) (.inl rfl) _
  have k2 : Kp (JS j j ra) w (w.setCell ⟨j, 4, none⟩ (.bool true)) := k.mono fun _ _ h => .inl h
  refine ⟨rc, ia, ic, vs, h.set k2 ?_ (h.image.nob k h.jnoB) h.ai (h.rows.kp k (fun i hb e => h.rj ((show i = j from e) ▸ hb))) (h.recs.kp k h.jnoB) h.fr h.br⟩
  rw [heap_setCell_row h.row]
  rfl
theorem Kp.js {w' : World} (h : Kp (One d) w w') : Kp (JS d j ra) w w' := h.mono fun _ _ h => .inl h
theorem Kp.jset {w1 : World} (h : Kp (JS d j ra) w w1) (i : Nat) (v : Value) : Kp (JS d j ra) w (w1.setCell ⟨j, i, none⟩ v) := h.setCell (p := ⟨j, i, none⟩) (.inl (.inr (.inl rfl))) v
/-- Behind a try whose asking went on with the device alone. -/
theorem JPost.of_try {ec : Int} {qs : St} {J1 : JSt} {P R : World → Prop} {e : Ending} {w' : World} (h : TryPost ec j P R e w') (hP : ∀ w1, P w1 → Jou F b0 w1 j d qs J ra ∧ Kp (JS d j ra) w w1)
    (hR : ec = 0 → R w' → ∃ ra', (∀ k, Blk ra' k → Blk ra k ∨ w.heap.size ≤ k) ∧ Jou F b0 w' j d qs J1 ra' ∧ Kp (JS d j ra) w w') : JPost F b0 j d ra (ec, qs, if ec = 0 then J1 else tell J ec) w e w' := by
  obtain ⟨he, h⟩ := h
  refine ⟨he, ?_⟩
  by_cases h0 : ec = 0
  · rw [if_pos h0] at h
    simp only [h0, if_true]
    exact hR h0 h
  · rw [if_neg h0] at h
    simp only [h0, if_false]
    unfold tell
    by_cases h6 : ec = 6
    · rw [if_pos h6] at h
      obtain ⟨w1, hp, rfl⟩ := h
      rw [if_pos h6]
      obtain ⟨h1, h2⟩ := hP w1 hp
      exact ⟨ra, fun k hk => .inl hk, h1.falls, h2.jset _ _⟩
    · rw [if_neg h6] at h
      rw [if_neg h6]
      obtain ⟨h1, h2⟩ := hP w' h
      exact ⟨ra, fun k hk => .inl hk, h1, h2⟩
theorem JPost.same (h : Jou F b0 w j d s J ra) {e : Ending} {ec : Int} (he : e = .returned (.int .i64 ec)) {w' : World} (k : Kp Non w w') : JPost F b0 j d ra (ec, s, J) w e w' :=
  ⟨he, ra, fun _ hk => .inl hk, h.non k, k.non⟩
end
end Go.Proofs.Ytclbapmjhchokaa
