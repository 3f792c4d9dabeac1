/-
  What a journal's device holds while power may go: plain laws for JournalCrash.
-/
import Derived.Test.YtclbapmjhchokaaJ17
namespace Go.Proofs.Ytclbapmjhchokaa
open Go.RowKit

/-- While the journal is up. -/
structure Up (s : St) (img : List UInt8) (all : List (List UInt8)) (n : Nat) : Prop where
  off : s.off = false
  image : s.image = frame img
  stage : s.stage = []
  staged : s.staged = false
  log : s.log = frames all
  sure : s.sure = (sizes (all.take n) : Nat)
  le : n ≤ all.length
  il : img.length ≤ 3000
  rl : ∀ r ∈ all, r.length ≤ 3000
  ok : s.ok
/-- Whatever happened. -/
structure End (s : St) (img : List UInt8) (all : List (List UInt8)) (n : Nat) : Prop where
  image : s.image = frame img
  log : ∃ m, n ≤ m ∧ m ≤ all.length ∧ s.log = frames (all.take m)
  sure : s.sure = (sizes (all.take n) : Nat)
  il : img.length ≤ 3000
  rl : ∀ r ∈ all, r.length ≤ 3000
  ok : s.ok
theorem Up.end_ {s : St} {img : List UInt8} {all : List (List UInt8)} {n : Nat} (h : Up s img all n) : End s img all n :=
  ⟨h.image, ⟨all.length, h.le, Nat.le_refl _, by rw [List.take_length]; exact h.log⟩, h.sure, h.il, h.rl, h.ok⟩

theorem frames_cut2 : ∀ {l : List (List UInt8)} {n : Nat}, (∀ r ∈ l, r.length ≤ 1048576) → n ≤ sizes l →
    ∃ k p, k ≤ l.length ∧ (frames l).take n = frames (l.take k) ++ p ∧ unfWhy p = (if p.length = 0 then 1 else 2) ∧ n = sizes (l.take k) + p.length ∧ ∀ r, l[k]? = some r → p.length < r.length + 8
  | [], n, _, hn => ⟨0, [], Nat.le_refl _, by simp [frames], by simp [unfWhy], by simp [sizes] at hn ⊢; omega, fun r h => by simp at h⟩
  | r :: l, n, h, hn => by
    by_cases hr : r.length + 8 ≤ n
    · obtain ⟨k, p, hk, e, hw, hs, hx⟩ := frames_cut2 (l := l) (n := n - (r.length + 8)) (fun x hx => h x (List.mem_cons_of_mem _ hx)) (by simp only [sizes] at hn; omega)
      refine ⟨k + 1, p, by simp; omega, ?_, hw, by simp only [List.take_succ_cons, sizes]; omega, fun x hx' => hx x (by simpa using hx')⟩
      have e1 : frames (r :: l) = frame r ++ frames l := by simp [frames]
      have e2 : frames ((r :: l).take (k + 1)) = frame r ++ frames (l.take k) := by simp [frames]
      rw [e1, e2, List.append_assoc, ← e, List.take_append, frame_len, List.take_of_length_le (by rw [frame_len]; exact hr)]
    · have e1 : frames (r :: l) = frame r ++ frames l := by simp [frames]
      have e2 : (frames (r :: l)).take n = (frame r).take n := by
        rw [e1, List.take_append_of_le_length (by rw [frame_len]; omega)]
      have hlen : ((frame r).take n).length = n := by rw [List.length_take, frame_len]; omega
      exact ⟨0, (frame r).take n, by simp, by rw [e2]; simp [frames], unf_piece (h r List.mem_cons_self) (List.take_prefix _ _) (by omega), by simp [sizes, hlen], fun x hx => by
        simp at hx
        subst hx
        omega⟩
theorem sizes_take_le (l : List (List UInt8)) {a b : Nat} (h : a ≤ b) : sizes (l.take a) ≤ sizes (l.take b) := by
  have : l.take b = l.take a ++ (l.take b).drop a := by
    conv => lhs; rw [← List.take_append_drop a (l.take b)]
    rw [List.take_take, Nat.min_eq_left h]
  rw [this, sizes_append]
  omega

/-- Behind a crash an opening finds a beginning of the records, and all that were sure. -/
theorem End.opens {s : St} {img : List UInt8} {all : List (List UInt8)} {n : Nat} (h : End s img all n) (keep : Int) :
    ∃ k s', n ≤ k ∧ k ≤ all.length ∧ jopen (s.crash keep) = (0, s', ⟨img, all.take k, false⟩) := by
  obtain ⟨m, hnm, hm, hlog⟩ := h.log
  have hok := h.ok
  have hll : s.log.length = sizes (all.take m) := by rw [hlog, frames_len]
  have hst : 0 ≤ s.stays keep ∧ s.sure + s.stays keep ≤ s.log.length := by
    have := hok.sure1
    unfold St.stays
    omega
  have hs := h.sure
  obtain ⟨p, hp⟩ : ∃ p : Nat, p = (s.sure + s.stays keep).toNat := ⟨_, rfl⟩
  have hpl : p ≤ sizes (all.take m) := by omega
  have hpn : sizes (all.take n) ≤ p := by omega
  obtain ⟨k, q, hk, e1, e2, e3, e4⟩ := frames_cut2 (l := all.take m) (n := p) (fun r hr => by have := h.rl r (List.mem_of_mem_take hr); omega) hpl
  have hkm : k ≤ m := by rw [List.length_take] at hk; omega
  have htt : (all.take m).take k = all.take k := by rw [List.take_take, Nat.min_eq_left hkm]
  rw [htt] at e1 e3
  have hkn : n ≤ k := by
    refine Classical.byContradiction fun hlt => ?_
    have hka : k < all.length := by omega
    have h5 := e4 all[k] (by rw [List.getElem?_take, if_pos (by omega), List.getElem?_eq_getElem hka])
    have h6 := sizes_take_le all (show k + 1 ≤ n by omega)
    rw [List.take_succ_eq_append_getElem hka, sizes_one] at h6
    omega
  have hlc : (s.crash keep).log = frames (all.take k) ++ q := by
    show s.log.take (s.sure + s.stays keep).toNat = _
    rw [← hp, hlog, e1]
  have := jopen_frames (s := s.crash keep) (img := img) (p := q) (rs := all.take k) rfl rfl h.image (by have := h.il; omega) hlc (fun r hr => by have := h.rl r (List.mem_of_mem_take hr); omega) e2
  exact ⟨k, _, hkn, by omega, this⟩

theorem count_up {s s1 : St} {ec : Int} {laid : Bool} (ho : s.off = false) : s.count ec s1 laid = if s.stop = 0 then (6, (if ec = 0 ∧ laid = true then s1 else s).fin) else (ec, (if ec = 0 then s1 else s).fin) := by
  unfold St.count
  rw [if_neg (by simp [ho])]
  by_cases h0 : s.stop = 0
  · by_cases he : ec = 0
    · simp [h0, he]
    · simp [h0, he]
  · by_cases he : ec = 0
    · simp [h0, he]
    · simp [h0, he]
theorem fin_same (s : St) : s.fin.image = s.image ∧ s.fin.stage = s.stage ∧ s.fin.staged = s.staged ∧ s.fin.log = s.log ∧ s.fin.sure = s.sure ∧ (s.stop ≠ 0 → s.fin.off = s.off) := by
  unfold St.fin
  split
  · exact ⟨rfl, rfl, rfl, rfl, rfl, fun h => absurd (by assumption) h⟩
  · split
    · exact ⟨rfl, rfl, rfl, rfl, rfl, fun _ => rfl⟩
    · exact ⟨rfl, rfl, rfl, rfl, rfl, fun _ => rfl⟩
theorem Up.fin {s : St} {img : List UInt8} {all : List (List UInt8)} {n : Nat} (h : Up s img all n) (h0 : s.stop ≠ 0) : Up s.fin img all n := by
  obtain ⟨f1, f2, f3, f4, f5, f6⟩ := fin_same s
  exact ⟨by rw [f6 h0]; exact h.off, by rw [f1]; exact h.image, by rw [f2]; exact h.stage, by rw [f3]; exact h.staged, by rw [f4]; exact h.log, by rw [f5]; exact h.sure, h.le, h.il, h.rl, h.ok.fin⟩
theorem End.fin {s : St} {img : List UInt8} {all : List (List UInt8)} {n : Nat} (h : End s img all n) : End s.fin img all n := by
  obtain ⟨f1, f2, f3, f4, f5, f6⟩ := fin_same s
  exact ⟨by rw [f1]; exact h.image, by rw [f4]; exact h.log, by rw [f5]; exact h.sure, h.il, h.rl, h.ok.fin⟩

/-- What a call leaves: the journal is up, or it is down. -/
def Stands (s : St) (J : JSt) (img : List UInt8) (all : List (List UInt8)) (n : Nat) : Prop := (Up s img all n ∧ J = ⟨img, all, false⟩) ∨ (End s img all n ∧ J.down = true)

theorem up_add {s : St} {img : List UInt8} {all : List (List UInt8)} {n : Nat} (h : Up s img all n) {b : List UInt8} (hb : b.length ≤ 3000) :
    ((jadd s ⟨img, all, false⟩ b).1 = 0 ∨ (jadd s ⟨img, all, false⟩ b).1 = 6) ∧ Stands (jadd s ⟨img, all, false⟩ b).2.1 (jadd s ⟨img, all, false⟩ b).2.2 img (all ++ [b]) n ∨
    (jadd s ⟨img, all, false⟩ b).1 = 3 ∧ Stands (jadd s ⟨img, all, false⟩ b).2.1 (jadd s ⟨img, all, false⟩ b).2.2 img all n := by
  have hjok := jadd_ok h.ok (⟨img, all, false⟩ : JSt) b
  have hrl : ∀ r ∈ all ++ [b], r.length ≤ 3000 := by
    intro r hr
    rcases List.mem_append.1 hr with hr | hr
    · exact h.rl r hr
    · simp at hr; subst hr; exact hb
  have htk : (all ++ [b]).take n = all.take n := List.take_append_of_le_length h.le
  obtain ⟨fl, hfl⟩ : ∃ fl : Bool, decide (s.room - secs s.image.length - secs s.stage.length < secs (s.log.length + (frame b).length)) = fl := ⟨_, rfl⟩
  have ha : s.append (frame b) = s.count (full3 fl) { s with log := s.log ++ frame b } true := by unfold St.append; rw [hfl]
  have hja : jadd s ⟨img, all, false⟩ b = ((s.append (frame b)).1, (s.append (frame b)).2, if (s.append (frame b)).1 = 0 then ⟨img, all ++ [b], false⟩ else tell ⟨img, all, false⟩ (s.append (frame b)).1) := by
    unfold jadd japp
    rw [if_neg (by simp), if_neg (by omega)]
  rw [hja] at hjok ⊢
  rw [ha, count_up h.off] at hjok ⊢
  have hlog1 : s.log ++ frame b = frames (all ++ [b]) := by rw [h.log, frames_append]; simp [frames]
  by_cases h0 : s.stop = 0
  · rw [if_pos h0] at hjok ⊢
    left
    refine ⟨.inr rfl, .inr ⟨?_, by simp [tell]⟩⟩
    generalize hX : (if full3 fl = 0 ∧ true = true then ({ s with log := s.log ++ frame b } : St) else s) = X at hjok ⊢
    have hc : X = { s with log := s.log ++ frame b } ∨ X = s := by
      rw [← hX]
      split
      · exact .inl rfl
      · exact .inr rfl
    clear hX
    obtain ⟨f1, f2, f3, f4, f5, f6⟩ := fin_same X
    refine ⟨?_, ?_, ?_, h.il, hrl, hjok⟩
    · show X.fin.image = _
      rw [f1]
      rcases hc with rfl | rfl <;> exact h.image
    · show ∃ m, n ≤ m ∧ m ≤ (all ++ [b]).length ∧ X.fin.log = frames ((all ++ [b]).take m)
      rw [f4]
      rcases hc with rfl | rfl
      · exact ⟨(all ++ [b]).length, by have := h.le; simp; omega, Nat.le_refl _, by rw [List.take_length]; exact hlog1⟩
      · exact ⟨all.length, h.le, by simp, by rw [List.take_append_of_le_length (Nat.le_refl _), List.take_length]; exact h.log⟩
    · show X.fin.sure = _
      rw [f5, htk]
      rcases hc with rfl | rfl <;> exact h.sure
  · rw [if_neg h0] at hjok ⊢
    cases fl with
    | false =>
      left
      have e : (if full3 false = 0 then ({ s with log := s.log ++ frame b } : St) else s) = { s with log := s.log ++ frame b } := if_pos rfl
      rw [e] at hjok ⊢
      refine ⟨.inl rfl, .inl ⟨?_, by simp [full3]⟩⟩
      obtain ⟨f1, f2, f3, f4, f5, f6⟩ := fin_same { s with log := s.log ++ frame b }
      exact ⟨by show ({ s with log := s.log ++ frame b } : St).fin.off = _; rw [f6 h0]; exact h.off, by show ({ s with log := s.log ++ frame b } : St).fin.image = _; rw [f1]; exact h.image, by show ({ s with log := s.log ++ frame b } : St).fin.stage = _; rw [f2]; exact h.stage,
        by show ({ s with log := s.log ++ frame b } : St).fin.staged = _; rw [f3]; exact h.staged, by show ({ s with log := s.log ++ frame b } : St).fin.log = _; rw [f4]; exact hlog1, by show ({ s with log := s.log ++ frame b } : St).fin.sure = _; rw [f5, htk]; exact h.sure,
        by have := h.le; simp; omega, h.il, hrl, hjok⟩
    | true =>
      right
      have e : (if full3 true = 0 then ({ s with log := s.log ++ frame b } : St) else s) = s := if_neg (by simp [full3])
      rw [e] at hjok ⊢
      exact ⟨rfl, .inl ⟨h.fin h0, by simp [full3, tell]⟩⟩
theorem up_sync {s : St} {img : List UInt8} {all : List (List UInt8)} {n : Nat} (h : Up s img all n) :
    (jsync s ⟨img, all, false⟩).1 = 0 ∧ Stands (jsync s ⟨img, all, false⟩).2.1 (jsync s ⟨img, all, false⟩).2.2 img all all.length ∨
    (jsync s ⟨img, all, false⟩).1 = 6 ∧ Stands (jsync s ⟨img, all, false⟩).2.1 (jsync s ⟨img, all, false⟩).2.2 img all n := by
  have hjok := jsync_ok h.ok (⟨img, all, false⟩ : JSt)
  have hj : jsync s ⟨img, all, false⟩ = (s.sync.1, s.sync.2, tell ⟨img, all, false⟩ s.sync.1) := by unfold jsync; rw [if_neg (by simp)]
  rw [hj] at hjok ⊢
  have hs : s.sync = s.count 0 { s with sure := s.log.length } false := rfl
  rw [hs, count_up h.off] at hjok ⊢
  by_cases h0 : s.stop = 0
  · rw [if_pos h0] at hjok ⊢
    right
    refine ⟨rfl, .inr ⟨?_, by simp [tell]⟩⟩
    have e : (if (0 : Int) = 0 ∧ false = true then ({ s with sure := s.log.length } : St) else s) = s := if_neg (by simp)
    rw [e]
    exact h.end_.fin
  · rw [if_neg h0] at hjok ⊢
    left
    refine ⟨rfl, .inl ⟨?_, by simp [tell]⟩⟩
    simp only [if_true] at hjok ⊢
    obtain ⟨f1, f2, f3, f4, f5, f6⟩ := fin_same { s with sure := s.log.length }
    exact ⟨by rw [f6 h0]; exact h.off, by rw [f1]; exact h.image, by rw [f2]; exact h.stage, by rw [f3]; exact h.staged, by rw [f4]; exact h.log,
      by rw [f5, List.take_length]; show ((s.log.length : Nat) : Int) = _; rw [h.log, frames_len], Nat.le_refl _, h.il, h.rl, hjok⟩
theorem up_save {s : St} {img : List UInt8} {all : List (List UInt8)} {n : Nat} (h : Up s img all n) {b : List UInt8} (hb : b.length ≤ 3000) :
    (jsave s ⟨img, all, false⟩ b).1 = 0 ∧ Stands (jsave s ⟨img, all, false⟩ b).2.1 (jsave s ⟨img, all, false⟩ b).2.2 b [] 0 ∨
    ((jsave s ⟨img, all, false⟩ b).1 = 6 ∨ (jsave s ⟨img, all, false⟩ b).1 = 3) ∧ Stands (jsave s ⟨img, all, false⟩ b).2.1 (jsave s ⟨img, all, false⟩ b).2.2 img all n := by
  have hjok := jsave_ok h.ok (⟨img, all, false⟩ : JSt) b
  have hj : jsave s ⟨img, all, false⟩ b = ((jswap s b).1, (jswap s b).2, if (jswap s b).1 = 0 then ⟨b, [], false⟩ else tell ⟨img, all, false⟩ (jswap s b).1) := by unfold jsave; rw [if_neg (by simp)]
  rw [hj] at hjok ⊢
  obtain ⟨fl, hfl⟩ : ∃ fl : Bool, decide (s.room - secs s.image.length - secs s.log.length < secs (frame b).length) = fl := ⟨_, rfl⟩
  have hp : s.putStage (frame b) = s.count (full3 fl) { s with stage := frame b, staged := true } false := by unfold St.putStage; rw [hfl]
  have hsw : jswap s b = if (s.putStage (frame b)).1 ≠ 0 then s.putStage (frame b) else (s.putStage (frame b)).2.commit := by unfold jswap; rw [if_neg (by omega)]
  rw [hsw] at hjok ⊢
  rw [hp, count_up h.off] at hjok ⊢
  by_cases h0 : s.stop = 0
  · rw [if_pos h0] at hjok ⊢
    have e : (if full3 fl = 0 ∧ false = true then ({ s with stage := frame b, staged := true } : St) else s) = s := if_neg (by simp)
    rw [e] at hjok ⊢
    right
    refine ⟨.inl rfl, .inr ⟨?_, by simp [tell]⟩⟩
    exact h.end_.fin
  · rw [if_neg h0] at hjok ⊢
    cases fl with
    | true =>
      right
      have e : (if full3 true = 0 then ({ s with stage := frame b, staged := true } : St) else s) = s := if_neg (by simp [full3])
      rw [e] at hjok ⊢
      exact ⟨.inr rfl, .inl ⟨h.fin h0, by simp [full3, tell]⟩⟩
    | false =>
      have e : (if full3 false = 0 then ({ s with stage := frame b, staged := true } : St) else s) = { s with stage := frame b, staged := true } := if_pos rfl
      rw [e, show full3 false = 0 from rfl, if_neg (by simp)] at hjok ⊢
      obtain ⟨f1, f2, f3, f4, f5, f6⟩ := fin_same { s with stage := frame b, staged := true }
      generalize hs2 : ({ s with stage := frame b, staged := true } : St).fin = s2 at *
      have hoff2 : s2.off = false := by rw [f6 h0]; exact h.off
      have hc : s2.commit = s2.count 0 { s2 with image := s2.stage, stage := [], staged := false, log := [], sure := 0 } false := by unfold St.commit; rw [f3]; rfl
      rw [hc, count_up hoff2] at hjok ⊢
      by_cases h2 : s2.stop = 0
      · rw [if_pos h2] at hjok ⊢
        right
        refine ⟨.inl rfl, .inr ⟨?_, by simp [tell]⟩⟩
        have e2 : (if (0 : Int) = 0 ∧ false = true then ({ s2 with image := s2.stage, stage := [], staged := false, log := [], sure := 0 } : St) else s2) = s2 := if_neg (by simp)
        rw [e2] at hjok ⊢
        obtain ⟨g1, g2, g3, g4, g5, g6⟩ := fin_same s2
        exact ⟨by rw [g1, f1]; exact h.image, ⟨all.length, h.le, Nat.le_refl _, by rw [List.take_length, g4, f4]; exact h.log⟩, by rw [g5, f5]; exact h.sure, h.il, h.rl, hjok⟩
      · rw [if_neg h2] at hjok ⊢
        left
        refine ⟨rfl, .inl ⟨?_, by simp⟩⟩
        simp only [if_true] at hjok ⊢
        obtain ⟨g1, g2, g3, g4, g5, g6⟩ := fin_same { s2 with image := s2.stage, stage := [], staged := false, log := [], sure := 0 }
        exact ⟨by rw [g6 h2]; exact hoff2, by rw [g1]; exact f2, by rw [g2], by rw [g3], by rw [g4]; rfl, by rw [g5]; rfl, Nat.le_refl _, hb, by simp, hjok⟩
theorem up_stop {s : St} {img : List UInt8} {all : List (List UInt8)} {n : Nat} (h : Up s img all n) (k : Int) (hk : k ≤ 9223372036854775807) : Up { s with stop := max k (-1) } img all n :=
  ⟨h.off, h.image, h.stage, h.staged, h.log, h.sure, h.le, h.il, h.rl, h.ok.setStop k hk⟩
end Go.Proofs.Ytclbapmjhchokaa
