/-
  What JournalPlays knows behind each call; plain.
-/
import Derived.Test.YtclbapmjhchokaaPL2
namespace Go.Proofs.Ytclbapmjhchokaa
open Go.RowKit

/-- Behind i calls. -/
def PSt (i : Nat) (s : St) (J : JSt) : Prop := ∃ img all n, ((Up s img all n ∧ J = ⟨img, all, false⟩) ∨ (End s img all n ∧ J.down = true)) ∧ sizes all ≤ 3008 * i ∧ sizes J.recs ≤ 3008 * i ∧ J.image.length ≤ 3000
theorem PSt.ok {i : Nat} {s : St} {J : JSt} (h : PSt i s J) : s.ok := by
  obtain ⟨img, all, n, h1 | h1, _⟩ := h
  · exact h1.1.ok
  · exact h1.1.ok
theorem PSt.rs {i : Nat} {s : St} {J : JSt} (h : PSt i s J) : sizes J.recs ≤ 3008 * i := by
  obtain ⟨img, all, n, _, _, h2, _⟩ := h
  exact h2
theorem PSt.il {i : Nat} {s : St} {J : JSt} (h : PSt i s J) : J.image.length ≤ 3000 := by
  obtain ⟨img, all, n, _, _, _, h2⟩ := h
  exact h2
theorem PSt.next {i : Nat} {s : St} {J : JSt} (h : PSt i s J) : PSt (i + 1) s J := by
  obtain ⟨img, all, n, h1, h2, h3, h4⟩ := h
  exact ⟨img, all, n, h1, by omega, by omega, h4⟩
theorem tell_recs (J : JSt) (e : Int) : (tell J e).recs = J.recs ∧ (tell J e).image = J.image := by unfold tell; split <;> exact ⟨rfl, rfl⟩
theorem PSt.add {i : Nat} {s : St} {J : JSt} (h : PSt i s J) {r : List UInt8} (hr : r.length ≤ 3000) : PSt (i + 1) (jadd s J r).2.1 (jadd s J r).2.2 := by
  have H := h
  obtain ⟨img, all, n, h1 | h1, h2, h3, h4⟩ := h
  · obtain ⟨hu, rfl⟩ := h1
    have hsz : sizes (all ++ [r]) ≤ 3008 * (i + 1) := by rw [sizes_one]; omega
    have hbd : sizes (jadd s ⟨img, all, false⟩ r).2.2.recs ≤ 3008 * (i + 1) ∧ (jadd s ⟨img, all, false⟩ r).2.2.image.length ≤ 3000 := by
      unfold jadd
      rw [if_neg (by simp)]
      simp only
      split
      · exact ⟨hsz, h4⟩
      · rw [(tell_recs _ _).1, (tell_recs _ _).2]
        simp only at h3 h4 ⊢
        exact ⟨by omega, h4⟩
    rcases up_add hu hr with ⟨_, hst⟩ | ⟨_, hst⟩
    · exact ⟨img, all ++ [r], n, hst, hsz, hbd.1, hbd.2⟩
    · exact ⟨img, all, n, hst, by omega, hbd.1, hbd.2⟩
  · have e : jadd s J r = (7, s, J) := by unfold jadd; rw [if_pos h1.2]
    rw [e]
    exact H.next
theorem PSt.sync {i : Nat} {s : St} {J : JSt} (h : PSt i s J) : PSt (i + 1) (jsync s J).2.1 (jsync s J).2.2 := by
  have H := h
  obtain ⟨img, all, n, h1 | h1, h2, h3, h4⟩ := h
  · obtain ⟨hu, rfl⟩ := h1
    have hbd : sizes (jsync s ⟨img, all, false⟩).2.2.recs ≤ 3008 * (i + 1) ∧ (jsync s ⟨img, all, false⟩).2.2.image.length ≤ 3000 := by
      unfold jsync
      rw [if_neg (by simp)]
      simp only
      rw [(tell_recs _ _).1, (tell_recs _ _).2]
      simp only at h3 h4 ⊢
      exact ⟨by omega, h4⟩
    rcases up_sync hu with ⟨_, hst⟩ | ⟨_, hst⟩
    · exact ⟨img, all, all.length, hst, by omega, hbd.1, hbd.2⟩
    · exact ⟨img, all, n, hst, by omega, hbd.1, hbd.2⟩
  · have e : jsync s J = (7, s, J) := by unfold jsync; rw [if_pos h1.2]
    rw [e]
    exact H.next
theorem PSt.save {i : Nat} {s : St} {J : JSt} (h : PSt i s J) {r : List UInt8} (hr : r.length ≤ 3000) : PSt (i + 1) (jsave s J r).2.1 (jsave s J r).2.2 := by
  have H := h
  obtain ⟨img, all, n, h1 | h1, h2, h3, h4⟩ := h
  · obtain ⟨hu, rfl⟩ := h1
    have hbd : sizes (jsave s ⟨img, all, false⟩ r).2.2.recs ≤ 3008 * (i + 1) ∧ (jsave s ⟨img, all, false⟩ r).2.2.image.length ≤ 3000 := by
      unfold jsave
      rw [if_neg (by simp)]
      simp only
      split
      · exact ⟨by simp [sizes], hr⟩
      · rw [(tell_recs _ _).1, (tell_recs _ _).2]
        simp only at h3 h4 ⊢
        exact ⟨by omega, h4⟩
    rcases up_save hu hr with ⟨_, hst⟩ | ⟨_, hst⟩
    · exact ⟨r, [], 0, hst, by simp [sizes], hbd.1, hbd.2⟩
    · exact ⟨img, all, n, hst, by omega, hbd.1, hbd.2⟩
  · have e : jsave s J r = (7, s, J) := by unfold jsave; rw [if_pos h1.2]
    rw [e]
    exact H.next
theorem PSt.stop {i : Nat} {s : St} {J : JSt} (h : PSt i s J) (k : Int) (hk : k ≤ 9223372036854775807) : PSt (i + 1) { s with stop := max k (-1) } J := by
  obtain ⟨img, all, n, h1 | h1, h2, h3, h4⟩ := h
  · exact ⟨img, all, n, .inl ⟨up_stop h1.1 k hk, h1.2⟩, by omega, by omega, h4⟩
  · exact ⟨img, all, n, .inr ⟨h1.1.stop k hk, h1.2⟩, by omega, by omega, h4⟩
theorem PSt.reopens {i : Nat} {s : St} {J : JSt} (h : PSt i s J) (keep : Int) :
    ∃ s' J', jopen (s.crash keep) = (0, s', J') ∧ fwhy (s.crash keep).image = 0 ∧ J' = ⟨unfData (s.crash keep).image, (scanL (s.crash keep).log).1, false⟩ ∧
      ((scanL (s.crash keep).log).2.2 = 1 ∧ s' = s.crash keep ∨ (scanL (s.crash keep).log).2.2 = 2 ∧ (s.crash keep).cut ((scanL (s.crash keep).log).2.1 : Nat) = (0, s')) ∧ (s.crash keep).log.length ≤ 3008 * i ∧ (s.crash keep).ok ∧ PSt (i + 1) s' J' := by
  obtain ⟨img, all, n, h1, h2, h3, h4⟩ := h
  have hE : End s img all n := by
    rcases h1 with h1 | h1
    · exact h1.1.end_
    · exact h1.1
  obtain ⟨k, s', hk, e1, e2, e3, e4, e5, e6⟩ := hE.reopens keep
  have hkl : sizes (all.take k) ≤ sizes all := by
    have := sizes_take_le all hk
    rwa [List.take_length] at this
  refine ⟨s', ⟨img, all.take k, false⟩, e1, e3, by rw [e4, e5], e6, ?_, hE.ok.crash keep, ⟨img, all.take k, k, .inl ⟨e2, rfl⟩, by omega, by show sizes (all.take k) ≤ _; omega, hE.il⟩⟩
  obtain ⟨m, _, hm, hlog⟩ := hE.log
  show (s.log.take _).length ≤ _
  rw [List.length_take, hlog, frames_len]
  have := sizes_take_le all hm
  rw [List.take_length] at this
  omega
/-- At the start. -/
def pst0 (k : Int) : St := { St.new k with image := frame [] }
theorem pst0_new {k : Int} (hk : 1 ≤ k) : jswap (St.new k) [] = (0, pst0 k) := by
  rw [jswap_fits (s := St.new k) (b := []) rfl rfl (by simp) (by
    show secs (0 + 8) ≤ k - secs 0 - secs 0
    have : secs (0 + 8) = 1 := rfl
    have h0 : secs 0 = 0 := rfl
    omega)]
  rfl
theorem pst0_up {k : Int} (hk : 1 ≤ k) (hk1 : k ≤ 65536) : PSt 0 (pst0 k) ⟨[], [], false⟩ :=
  ⟨[], [], 0, .inl ⟨⟨rfl, rfl, rfl, rfl, rfl, rfl, Nat.le_refl _, by simp, by simp, by have := jswap_ok (St.new_ok k (by omega) hk1) []; rw [pst0_new hk] at this; exact this⟩, rfl⟩, by simp [sizes], by simp [sizes], by simp⟩
end Go.Proofs.Ytclbapmjhchokaa
