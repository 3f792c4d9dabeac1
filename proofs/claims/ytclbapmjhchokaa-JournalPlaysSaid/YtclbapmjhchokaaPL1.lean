/-
  Plain laws for JournalPlays: behind a crash both open, and find the same.
-/
import Derived.Test.YtclbapmjhchokaaJC1
import Derived.Test.YtclbapmjhchokaaJ20
namespace Go.Proofs.Ytclbapmjhchokaa
open Go.RowKit

theorem End.reopens {s : St} {img : List UInt8} {all : List (List UInt8)} {n : Nat} (h : End s img all n) (keep : Int) :
    ∃ k s', k ≤ all.length ∧ jopen (s.crash keep) = (0, s', ⟨img, all.take k, false⟩) ∧ Up s' img (all.take k) k ∧ fwhy (s.crash keep).image = 0 ∧ unfData (s.crash keep).image = img ∧ (scanL (s.crash keep).log).1 = all.take k ∧
      ((scanL (s.crash keep).log).2.2 = 1 ∧ s' = s.crash keep ∨ (scanL (s.crash keep).log).2.2 = 2 ∧ (s.crash keep).cut ((scanL (s.crash keep).log).2.1 : Nat) = (0, s')) := by
  obtain ⟨m, hnm, hm, hlog⟩ := h.log
  have hok := h.ok
  have hcok := hok.crash keep
  have hll : s.log.length = sizes (all.take m) := by rw [hlog, frames_len]
  have hst : 0 ≤ s.stays keep ∧ s.sure + s.stays keep ≤ s.log.length := by
    have := hok.sure1
    unfold St.stays
    omega
  have hs := h.sure
  obtain ⟨p, hp⟩ : ∃ p : Nat, p = (s.sure + s.stays keep).toNat := ⟨_, rfl⟩
  have hpl : p ≤ sizes (all.take m) := by omega
  obtain ⟨k, q, hk, e1, e2, e3, e4⟩ := frames_cut2 (l := all.take m) (n := p) (fun r hr => by have := h.rl r (List.mem_of_mem_take hr); omega) hpl
  have hkm : k ≤ m := by rw [List.length_take] at hk; omega
  have htt : (all.take m).take k = all.take k := by rw [List.take_take, Nat.min_eq_left hkm]
  rw [htt] at e1 e3
  have hlc : (s.crash keep).log = frames (all.take k) ++ q := by
    show s.log.take (s.sure + s.stays keep).toNat = _
    rw [← hp, hlog, e1]
  have hrl : ∀ r ∈ all.take k, r.length ≤ 3000 := fun r hr => h.rl r (List.mem_of_mem_take hr)
  have hrl2 : ∀ r ∈ all.take k, r.length ≤ 1048576 := fun r hr => by have := hrl r hr; omega
  have hil := h.il
  have hopen := jopen_frames (s := s.crash keep) (img := img) (p := q) (rs := all.take k) rfl rfl h.image (by omega) hlc hrl2 e2
  have hscan : scanL (s.crash keep).log = (all.take k, sizes (all.take k), unfWhy q) := by
    rw [hlc]
    exact scanL_frames hrl2 (by rw [e2]; split <;> omega)
  have hu := unf_frame (l := img) (by omega) []
  rw [List.append_nil] at hu
  have hci : (s.crash keep).image = frame img := h.image
  have hfw : fwhy (s.crash keep).image = 0 := by
    rw [hci]
    unfold fwhy
    rw [if_neg (by rw [frame_len]; omega), if_neg (by rw [hu.1]; omega), if_neg (by rw [hu.1, hu.2.2, frame_len]; simp)]
  have hsure : (s.crash keep).sure = (p : Nat) := by
    show s.sure + s.stays keep = _
    omega
  have hkl : k ≤ all.length := by omega
  have htk : (all.take k).take k = all.take k := by rw [List.take_take, Nat.min_self]
  have hlk : (all.take k).length = k := by rw [List.length_take]; omega
  by_cases hz : q.length = 0
  · have hq0 : q = [] := List.eq_nil_of_length_eq_zero hz
    rw [if_pos hz] at hopen e2
    refine ⟨k, s.crash keep, hkl, hopen, ⟨rfl, hci, rfl, rfl, by rw [hlc, hq0, List.append_nil], ?_, by omega, hil, hrl, hcok⟩, hfw, by rw [hci]; exact hu.2.1, by rw [hscan], .inl ⟨by rw [hscan]; exact e2, rfl⟩⟩
    rw [hsure, htk, e3, hz]
    rfl
  · rw [if_neg hz] at hopen e2
    have hcl : (s.crash keep).log.length = p := by rw [hlc, List.length_append, frames_len]; omega
    have hcut := cut_on (s := s.crash keep) (n := (sizes (all.take k) : Nat)) rfl rfl (by omega) (by rw [hcl]; omega)
    have htl : (s.crash keep).log.take (((sizes (all.take k) : Nat) : Int)).toNat = frames (all.take k) := by
      rw [hlc, Int.toNat_natCast]
      exact List.take_left' (frames_len _)
    rw [htl] at hcut
    have hok' : ({ s.crash keep with log := frames (all.take k), sure := min (s.crash keep).sure (sizes (all.take k) : Nat) } : St).ok := by
      have := hcok.cut (sizes (all.take k) : Nat)
      rw [hcut] at this
      exact this
    refine ⟨k, _, hkl, hopen, ⟨rfl, hci, rfl, rfl, rfl, ?_, by omega, hil, hrl, hok'⟩, hfw, by rw [hci]; exact hu.2.1, by rw [hscan], .inr ⟨by rw [hscan]; exact e2, by rw [hscan]; exact hcut⟩⟩
    show min (s.crash keep).sure (sizes (all.take k) : Nat) = _
    rw [hsure, htk]
    omega
theorem End.stop {s : St} {img : List UInt8} {all : List (List UInt8)} {n : Nat} (h : End s img all n) (k : Int) (hk : k ≤ 9223372036854775807) : End { s with stop := max k (-1) } img all n :=
  ⟨h.image, h.log, h.sure, h.il, h.rl, h.ok.setStop k hk⟩
end Go.Proofs.Ytclbapmjhchokaa
