/-
  DiskPrefix: the plain law.
-/
import Derived.Test.YtclbapmjhchokaaG1
import Derived.Lib.SmallJoins
namespace Go.Proofs.Ytclbapmjhchokaa
open Go.RowKit

def roomOf (n : Int) : Int := 1 + n % 40
theorem roomfn_calls (n : Int) (w : World) (_h : 0 ≤ n) : Calls Try.prog 34 #[.int .u64 n] w fun e w' => e = .returned (.int .i64 (roomOf n)) ∧ w' = w := by
  go_enter Try.func34, Try.ntmps34
  go_wp2
  go_ret
  exact ⟨rfl, rfl⟩
theorem roomOf_bd (n : Int) : 1 ≤ roomOf n ∧ roomOf n ≤ 65536 := by unfold roomOf; omega

namespace Prefix
/-- What the law knows of the device: A is what was laid, I its image, T what was staged, S how much is sure. -/
structure PInv (s : St) (A I T : List UInt8) (S : Int) : Prop where
  ok : s.ok
  pre : s.log = A.take s.log.length
  on : s.off = false → A = s.log
  sure0 : 0 ≤ S
  sure : S ≤ s.sure
  img : s.image = I
  stg : s.staged = true → s.stage = T

theorem fin_eq (s : St) : s.fin.image = s.image ∧ s.fin.stage = s.stage ∧ s.fin.staged = s.staged ∧ s.fin.log = s.log ∧ s.fin.sure = s.sure ∧ (s.fin.off = false → s.off = false) := by
  unfold St.fin
  split
  · exact ⟨rfl, rfl, rfl, rfl, rfl, fun h => by cases h⟩
  · split <;> exact ⟨rfl, rfl, rfl, rfl, rfl, fun h => h⟩

theorem PInv.fin {s : St} {A I T : List UInt8} {S : Int} (h : PInv s A I T S) : PInv s.fin A I T S := by
  obtain ⟨e1, e2, e3, e4, e5, e6⟩ := fin_eq s
  exact ⟨h.ok.fin, by rw [e4]; exact h.pre, fun ho => by rw [e4]; exact h.on (e6 ho), h.sure0, by rw [e5]; exact h.sure, by rw [e1]; exact h.img, fun hs => by rw [e2]; exact h.stg (by rw [← e3]; exact hs)⟩

/-- The power goes: what was laid may be more. -/
theorem PInv.more {s : St} {A I T : List UInt8} {S : Int} (h : PInv s A I T S) (ho : s.fin.off = true) (b : List UInt8) : PInv s.fin (s.log ++ b) I T S := by
  obtain ⟨e1, e2, e3, e4, e5, e6⟩ := fin_eq s
  exact ⟨h.ok.fin, by rw [e4]; simp, fun hf => (by rw [ho] at hf; cases hf), h.sure0, by rw [e5]; exact h.sure, by rw [e1]; exact h.img, fun hg => by rw [e2]; exact h.stg (by rw [← e3]; exact hg)⟩

theorem off_now {s : St} (h : s.stop = 0) : s.fin.off = true := by unfold St.fin; rw [if_pos h]

/-- A counting call where the power is on. -/
theorem count_cases (s s1 : St) (ec : Int) (laid : Bool) (ho : s.off = false) :
    (ec = 0 ∧ s.stop ≠ 0 ∧ s.count ec s1 laid = (0, s1.fin)) ∨ (s.stop = 0 ∧ (s.count ec s1 laid).1 = 6 ∧ ((s.count ec s1 laid).2 = s.fin ∨ (ec = 0 ∧ laid = true ∧ (s.count ec s1 laid).2 = s1.fin))) ∨
    (ec ≠ 0 ∧ s.stop ≠ 0 ∧ s.count ec s1 laid = (ec, s.fin)) := by
  unfold St.count
  rw [if_neg (by simp [ho])]
  by_cases he : ec = 0
  · rw [if_neg (by simp [he])]
    by_cases hz : s.stop = 0
    · right; left
      refine ⟨hz, by rw [if_pos hz], ?_⟩
      by_cases hl : laid = true
      · right
        exact ⟨he, hl, by show St.fin (if s.stop ≠ 0 ∨ laid = true then s1 else s) = s1.fin; rw [if_pos (.inr hl)]⟩
      · left
        show St.fin (if s.stop ≠ 0 ∨ laid = true then s1 else s) = s.fin
        rw [if_neg (by simp [hz, hl])]
    · left
      exact ⟨he, hz, by rw [if_neg hz, if_pos (.inl hz)]⟩
  · rw [if_pos he]
    by_cases hz : s.stop = 0
    · right; left
      exact ⟨hz, by rw [if_pos hz], .inl rfl⟩
    · right; right
      exact ⟨he, hz, by rw [if_neg hz]⟩

section
variable {s : St} {A I T : List UInt8} {S : Int}
theorem full3_val (r : Bool) : full3 r = 0 ∧ r = false ∨ full3 r = 3 := by cases r <;> simp [full3]
theorem arg1_val (r : Bool) : arg1 r = 0 ∧ r = false ∨ arg1 r = 1 := by cases r <;> simp [arg1]

theorem p_append (h : PInv s A I T S) (ho : s.off = false) (b : List UInt8) :
    ((s.append b).1 = 0 ∨ (s.append b).1 = 6 → PInv (s.append b).2 (s.log ++ b) I T S) ∧ (¬ ((s.append b).1 = 0 ∨ (s.append b).1 = 6) → PInv (s.append b).2 A I T S) := by
  have hok := h.ok.append b
  unfold St.append at *
  generalize hec : full3 _ = ec at *
  have hv : ec = 0 ∨ ec = 3 := by rw [← hec]; rcases full3_val (decide (s.room - secs s.image.length - secs s.stage.length < secs (s.log.length + b.length))) with ⟨e, _⟩ | e <;> simp [e]
  have key : ∀ s2 : St, s2 = ({ s with log := s.log ++ b } : St).fin → s2.ok → PInv s2 (s.log ++ b) I T S := by
    rintro s2 rfl hk
    obtain ⟨e1, e2, e3, e4, e5, e6⟩ := fin_eq { s with log := s.log ++ b }
    exact ⟨hk, (by rw [e4]; exact (List.take_of_length_le (Nat.le_refl _)).symm), fun _ => (by rw [e4]), h.sure0, by rw [e5]; exact h.sure, by rw [e1]; exact h.img, fun hg => by rw [e2]; exact h.stg (by rw [← e3]; exact hg)⟩
  rcases count_cases s { s with log := s.log ++ b } ec true ho with ⟨he, hz, e⟩ | ⟨hz, e6, e⟩ | ⟨he, hz, e⟩
  · rw [e] at hok ⊢
    exact ⟨fun _ => key _ rfl hok, fun hn => absurd (.inl rfl) hn⟩
  · refine ⟨fun _ => ?_, fun hn => absurd (.inr e6) hn⟩
    rcases e with e | ⟨_, _, e⟩
    · rw [e]
      exact h.more (off_now hz) b
    · rw [e] at hok ⊢
      exact key _ rfl hok
  · rw [e]
    refine ⟨fun hn => ?_, fun _ => h.fin⟩
    have : ec = 0 ∨ ec = 6 := hn
    omega

/-- A counting call that lays nothing when the power goes. -/
theorem p_count (h : PInv s A I T S) (ho : s.off = false) {s1 : St} {ec : Int} {A' I' T' : List UInt8} {S' : Int} (h1 : ec = 0 → PInv s1 A' I' T' S') :
    ((s.count ec s1 false).1 = 0 → ec = 0 ∧ PInv (s.count ec s1 false).2 A' I' T' S') ∧ (¬ (s.count ec s1 false).1 = 0 → PInv (s.count ec s1 false).2 A I T S) := by
  rcases count_cases s s1 ec false ho with ⟨he, hz, e⟩ | ⟨hz, e6, e⟩ | ⟨he, hz, e⟩
  · rw [e]
    exact ⟨fun _ => ⟨he, (h1 he).fin⟩, fun hn => absurd rfl hn⟩
  · refine ⟨fun hn => by omega, fun _ => ?_⟩
    rcases e with e | ⟨_, hl, _⟩
    · rw [e]; exact h.fin
    · cases hl
  · rw [e]
    exact ⟨fun hn => absurd hn he, fun _ => h.fin⟩

theorem p_sync (h : PInv s A I T S) (ho : s.off = false) : (s.sync.1 = 0 → PInv s.sync.2 A I T A.length) ∧ (¬ s.sync.1 = 0 → PInv s.sync.2 A I T S) := by
  have := p_count h ho (s1 := { s with sure := s.log.length }) (ec := 0) (A' := A) (I' := I) (T' := T) (S' := A.length) fun _ =>
    ⟨⟨h.ok.room0, h.ok.room1, h.ok.image, h.ok.stage, h.ok.log, by show (0 : Int) ≤ s.log.length; omega, Int.le_refl _, h.ok.stop⟩, h.pre, h.on, by omega, by rw [h.on ho]; exact Int.le_refl _, h.img, h.stg⟩
  exact ⟨fun hz => (this.1 hz).2, this.2⟩

theorem p_cut (h : PInv s A I T S) (ho : s.off = false) (n : Int) : ((s.cut n).1 = 0 → (0 ≤ n ∧ n ≤ s.log.length) ∧ PInv (s.cut n).2 (s.log.take n.toNat) I T (min S n)) ∧ (¬ (s.cut n).1 = 0 → PInv (s.cut n).2 A I T S) := by
  have hb : arg1 (cutBad s n) = 0 → 0 ≤ n ∧ n ≤ s.log.length := by
    intro hz
    rcases arg1_val (cutBad s n) with ⟨_, e⟩ | e
    · simp only [cutBad, decide_eq_false_iff_not, not_or, Int.not_lt] at e
      exact e
    · omega
  have := p_count h ho (s1 := { s with log := s.log.take n.toNat, sure := min s.sure n }) (ec := arg1 (cutBad s n)) (A' := s.log.take n.toNat) (I' := I) (T' := T) (S' := min S n) fun hz => by
    obtain ⟨h1, h2⟩ := hb hz
    have g1 := h.ok.log
    have g2 := h.ok.sure0
    have g3 := h.ok.sure1
    have g4 := h.sure0
    have g5 := h.sure
    exact ⟨⟨h.ok.room0, h.ok.room1, h.ok.image, h.ok.stage, by simp; omega, by show 0 ≤ min s.sure n; omega, by simp; omega, h.ok.stop⟩, (List.take_of_length_le (Nat.le_refl _)).symm, fun _ => rfl, by omega, by show min S n ≤ min s.sure n; omega, h.img, h.stg⟩
  exact ⟨fun hz => ⟨hb (this.1 hz).1, (this.1 hz).2⟩, this.2⟩

theorem p_stage (h : PInv s A I T S) (ho : s.off = false) (b : List UInt8) (hb : b.length ≤ 3000) : ((s.putStage b).1 = 0 → PInv (s.putStage b).2 A I b S) ∧ (¬ (s.putStage b).1 = 0 → PInv (s.putStage b).2 A I T S) := by
  have := p_count h ho (s1 := { s with stage := b, staged := true }) (ec := full3 (decide (s.room - secs s.image.length - secs s.log.length < secs b.length))) (A' := A) (I' := I) (T' := b) (S' := S) fun _ =>
    ⟨⟨h.ok.room0, h.ok.room1, h.ok.image, by show b.length ≤ _; omega, h.ok.log, h.ok.sure0, h.ok.sure1, h.ok.stop⟩, h.pre, h.on, h.sure0, h.sure, h.img, fun _ => rfl⟩
  exact ⟨fun hz => (this.1 hz).2, this.2⟩

theorem p_commit (h : PInv s A I T S) (ho : s.off = false) : (s.commit.1 = 0 → PInv s.commit.2 [] T T 0) ∧ (¬ s.commit.1 = 0 → PInv s.commit.2 A I T S) := by
  have := p_count h ho (s1 := { s with image := s.stage, stage := [], staged := false, log := [], sure := 0 }) (ec := none8 s.staged) (A' := []) (I' := T) (T' := T) (S' := 0) fun hz => by
    have hst : s.staged = true := by cases hg : s.staged with
      | true => rfl
      | false => rw [hg] at hz; simp [none8] at hz
    exact ⟨⟨h.ok.room0, h.ok.room1, h.ok.stage, by simp, by simp, by simp, by simp, h.ok.stop⟩, rfl, fun _ => rfl, Int.le_refl _, Int.le_refl _, h.stg hst, fun hg => by cases hg⟩
  exact ⟨fun hz => (this.1 hz).2, this.2⟩

theorem p_other (h : PInv s A I T S) (o : OpD) (hok : o.ok) (h1 : o.kind ≠ 1) (h2 : o.kind ≠ 2) (h3 : o.kind ≠ 3) (h4 : o.kind ≠ 4) (h5 : o.kind ≠ 5) (h7 : o.kind ≠ 7) : PInv (o.run s).2 A I T S := by
  have hk := o.run_ok hok h.ok
  unfold OpD.run at *
  rw [if_neg h1, if_neg h2, if_neg h3, if_neg h4, if_neg h5] at *
  split at hk
  · rename_i h6
    rw [if_pos h6]
    exact ⟨hk, h.pre, h.on, h.sure0, h.sure, h.img, h.stg⟩
  · rename_i h6
    rw [if_neg h6, if_neg h7]
    exact h

/-- What a crash leaves. -/
theorem p_crash (h : PInv s A I T S) (k : Int) : ¬ ((s.crash k).log.length : Int) < S ∧ (s.crash k).log.length ≤ A.length ∧ (s.crash k).log = A.take (s.crash k).log.length ∧ (s.crash k).image = I ∧ (s.crash k).commit.1 = 8 := by
  have g1 := h.ok.sure0
  have g2 := h.ok.sure1
  have g4 := h.sure0
  have g5 := h.sure
  have hs : 0 ≤ s.stays k ∧ s.sure + s.stays k ≤ s.log.length := by unfold St.stays; omega
  have hl : (s.crash k).log = s.log.take (s.sure + s.stays k).toNat := rfl
  have hll : (s.crash k).log.length = (s.sure + s.stays k).toNat := by rw [hl]; simp; omega
  have hA : s.log.length ≤ A.length := by have := congrArg List.length h.pre; simp at this; omega
  refine ⟨by omega, by omega, ?_, h.img, rfl⟩
  rw [hll, hl]
  have h2 : s.log.take (s.sure + s.stays k).toNat = (A.take s.log.length).take (s.sure + s.stays k).toNat := by rw [← h.pre]
  rw [h2, List.take_take]
  congr 1
  omega
end

theorem run1 {o : OpD} {s : St} (k : o.kind = 1) : o.run s = s.append o.bytes := by unfold OpD.run; rw [if_pos k]
theorem run2 {o : OpD} {s : St} (k : o.kind = 2) : o.run s = s.sync := by unfold OpD.run; rw [if_neg (by omega), if_pos k]
theorem run3 {o : OpD} {s : St} (k : o.kind = 3) : o.run s = s.cut o.n := by unfold OpD.run; rw [if_neg (by omega), if_neg (by omega), if_pos k]
theorem run4 {o : OpD} {s : St} (k : o.kind = 4) : o.run s = s.putStage o.bytes := by unfold OpD.run; rw [if_neg (by omega), if_neg (by omega), if_neg (by omega), if_pos k]
theorem run5 {o : OpD} {s : St} (k : o.kind = 5) : o.run s = s.commit := by unfold OpD.run; rw [if_neg (by omega), if_neg (by omega), if_neg (by omega), if_neg (by omega), if_pos k]
end Prefix
end Go.Proofs.Ytclbapmjhchokaa
