/-
  What the rows' frames share: arguments opened to what a walk is told of them.
-/
import Derived.Test.YtclbapmjhchokaaM1
import Derived.Test.YtclbapmjhchokaaRows
import Derived.ProofKit
import Derived.OpenShut
import Derived.ShutString
import Derived.ChangeOld
namespace Go.Proofs.Ytclbapmjhchokaa
open Go.RowKit Go.ChangeShapes Go.WideShapes Go.ChangeAt

theorem notB : ∀ (x : Bool) (w : World), (Op.unary .not (.bool x)).run Try.prog w = .ok (.bool (!x)) w := fun _ _ => rfl
theorem own : ownKnob Try.prog.godebug = none := by kernel_rfl
theorem laidOut : laidOutB Try.prog = true := by kernel_rfl

/-- A slice of bytes that came in, as a walk is told of it. -/
theorem bytes_in {H : Type} {enc : TypeId × Value → H} {w : World} {base : Nat} {held : Bool} {a : Option Addr} {n c : Nat} {d : DataW H} {p : List MemPlace}
    (h : DataW.Trod enc Try.prog w base (fun _ => true) held 22 (.slice a n c) d p) : ∃ l, Bytes w a n c l := by
  obtain ⟨fuel, hf⟩ := h
  rcases open_ints Try.underlying22 Try.underlying5 (by kernel_rfl) hf with ⟨hcs, _⟩ | ⟨x, l, c', zs, hcs, _, hl, hm, hz, _, hcell, hwz⟩
  · simp [Value.cells] at hcs
    obtain ⟨rfl, rfl, rfl⟩ := hcs
    exact ⟨[], Bytes.empty w⟩
  · simp [Value.cells] at hcs
    obtain ⟨rfl, rfl, rfl⟩ := hcs
    have hz' : zs.length = c := by simpa using hz
    have hzl : n ≤ zs.length := by omega
    refine ⟨(zs.take n).map fun z => UInt8.ofNat z.toNat, by simp; omega, hl, by unfold maxLen at hm; omega, (fun h => by cases h), fun ad j b ha hb => ?_⟩
    simp only [Option.some.injEq] at ha
    subst ha
    simp only [List.getElem?_map, Option.map_eq_some_iff] at hb
    obtain ⟨z, hz1, rfl⟩ := hb
    rw [List.getElem?_take] at hz1
    split at hz1
    · have hj := (List.getElem?_eq_some_iff.1 hz1).1
      have hzz : zs[j] = z := by rw [List.getElem?_eq_getElem hj] at hz1; simpa using hz1
      rw [hcell j hj]
      have hg : zs.getD j 0 = z := by simp [List.getD_eq_getElem?_getD, List.getElem?_eq_getElem hj, hzz]
      rw [hg]
      have hw := hwz z (hzz ▸ List.getElem_mem hj)
      simp only [Lit.wf, Bool.and_eq_true, decide_eq_true_eq] at hw
      have h0 : (0 : Int) ≤ z := by have := hw.1; exact this
      have h1 : z ≤ 255 := by have := hw.2; exact this
      have he : ((UInt8.ofNat z.toNat).toNat : Int) = z := by
        rw [UInt8.toNat_ofNat']
        omega
      unfold byteV
      rw [he]
    · cases hz1

/-! With the power on and no Stop. -/
theorem fin_on {s : St} (h : s.stop = -1) : s.fin = s := by unfold St.fin; rw [if_neg (by omega), if_neg (by omega)]
theorem count_on {s s1 : St} (ho : s.off = false) (hs : s.stop = -1) (hs1 : s1.stop = -1) (laid : Bool) : s.count 0 s1 laid = (0, s1) := by
  unfold St.count
  rw [if_neg (by simp [ho]), if_neg (by simp), if_neg (by omega), if_pos (.inl (by omega)), fin_on hs1]
theorem append_fits {s : St} {b : List UInt8} (ho : s.off = false) (hs : s.stop = -1) (hf : secs (s.log.length + b.length) ≤ s.room - secs s.image.length - secs s.stage.length) : s.append b = (0, { s with log := s.log ++ b }) := by
  unfold St.append
  rw [decide_eq_false (by omega)]
  exact count_on (s := s) (s1 := { s with log := s.log ++ b }) ho hs hs true
theorem stage_fits {s : St} {b : List UInt8} (ho : s.off = false) (hs : s.stop = -1) (hf : secs b.length ≤ s.room - secs s.image.length - secs s.log.length) : s.putStage b = (0, { s with stage := b, staged := true }) := by
  unfold St.putStage
  rw [decide_eq_false (by omega)]
  exact count_on (s := s) (s1 := { s with stage := b, staged := true }) ho hs hs false
theorem sync_on {s : St} (ho : s.off = false) (hs : s.stop = -1) : s.sync = (0, { s with sure := s.log.length }) := count_on (s := s) (s1 := { s with sure := s.log.length }) ho hs hs false
theorem commit_on {s : St} (ho : s.off = false) (hs : s.stop = -1) (hg : s.staged = true) : s.commit = (0, { s with image := s.stage, stage := [], staged := false, log := [], sure := 0 }) := by
  unfold St.commit
  rw [hg]
  exact count_on (s := s) (s1 := { s with image := s.stage, stage := [], staged := false, log := [], sure := 0 }) ho hs hs false
theorem secs_le (n k : Int) (h : n ≤ 512 * k) : secs n ≤ k := by unfold secs; omega
theorem secs_zero : secs 0 = 0 := rfl
end Go.Proofs.Ytclbapmjhchokaa
