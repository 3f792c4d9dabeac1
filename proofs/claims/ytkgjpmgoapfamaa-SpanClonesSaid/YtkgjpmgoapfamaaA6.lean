/-
  Plain laws: a Map whose values are turned goes along.
-/
import Derived.Test.YtkgjpmgoapfamaaA5
namespace Go.Proofs.Ytkgjpmgoapfamaa
section
variable {V W : Type} [DecidableEq V] [DecidableEq W]
/-- One thing more done to a Map. -/
def gstep (M : List (Sp × V)) (s : Sp) (v : V) (on : Bool) : List (Sp × V) := if s.1 < s.2 then (if on then putC M s v else drp M s) else M
theorem gstep_canon {M : List (Sp × V)} (h : Canon M) (s : Sp) (v : V) (on : Bool) : Canon (gstep M s v on) := by
  unfold gstep
  split
  · split
    · exact (putC_law h (by assumption) _).1
    · exact drp_canon h _
  · exact h
theorem gstep_get {M : List (Sp × V)} (h : Canon M) (s : Sp) (v : V) (on : Bool) (x : Int) : get (gstep M s v on) x = if s.1 ≤ x ∧ x < s.2 then (if on then some v else none) else get M x := by
  unfold gstep
  by_cases hs : s.1 < s.2
  · rw [if_pos hs]
    cases on with
    | true => rw [if_pos rfl, (putC_law h hs v).2 x]; rfl
    | false => rw [if_neg (by simp), drp_get h.rise]; rfl
  · rw [if_neg hs, if_neg (by omega)]
theorem gstep_len {M : List (Sp × V)} (h : Rise M) (s : Sp) (v : V) (on : Bool) : (gstep M s v on).length ≤ M.length + 2 := by
  unfold gstep
  split
  · rename_i ho
    split
    · exact putC_len1 h ho _
    · have := drp_len1 h ho; omega
  · omega
theorem gstep_vals {M : List (Sp × V)} (h : Canon M) (s : Sp) (v : V) (on : Bool) (P : V → Prop) (hv : P v) (hM : ∀ p ∈ M, P p.2) : ∀ p ∈ gstep M s v on, P p.2 := fun p hp => by
  have h1 := get_start (gstep_canon h s v on).rise hp
  rw [gstep_get h] at h1
  split at h1
  · split at h1
    · simp at h1; rw [← h1]; exact hv
    · cases h1
  · obtain ⟨q, hq, _, e⟩ := get_mem h1
    rw [← e]; exact hM q hq
/-- The turned Map. -/
def turn (f : V → W) (M : List (Sp × V)) : List (Sp × W) := M.map fun p => (p.1, f p.2)
theorem gstep_turn {M : List (Sp × V)} (h : Canon M) (s : Sp) (v : V) (on : Bool) (P : V → Prop) (hv : P v) (hM : ∀ p ∈ M, P p.2) (f : V → W) (hf : ∀ a b, P a → P b → f a = f b → a = b) : gstep (turn f M) s (f v) on = turn f (gstep M s v on) := by
  have h1 : Canon (turn f M) := canon_turn h f fun p hp q hq => hf _ _ (hM p hp) (hM q hq)
  have h2 : Canon (turn f (gstep M s v on)) := canon_turn (gstep_canon h s v on) f fun p hp q hq => hf _ _ (gstep_vals h s v on P hv hM p hp) (gstep_vals h s v on P hv hM q hq)
  refine canon_ext (gstep_canon h1 s (f v) on) h2 fun x => ?_
  rw [gstep_get h1]
  unfold turn
  rw [get_turn, get_turn, gstep_get h]
  split
  · split <;> rfl
  · rfl
end

/-- A number's text: its two lowest bytes. -/
def txt (v : Int) : ByteArray := ⟨#[UInt8.ofNat (v % 256).toNat, UInt8.ofNat (v / 256 % 256).toNat]⟩
theorem u8_inj {a b : Nat} (ha : a < 256) (hb : b < 256) (h : UInt8.ofNat a = UInt8.ofNat b) : a = b := by
  have h1 : (UInt8.ofNat a).toNat = (UInt8.ofNat b).toNat := by rw [h]
  simp at h1
  omega
theorem txt_inj {a b : Int} (ha : 0 ≤ a ∧ a < 65536) (hb : 0 ≤ b ∧ b < 65536) (h : txt a = txt b) : a = b := by
  unfold txt at h
  simp only [ByteArray.mk.injEq, Array.mk.injEq, List.cons.injEq, and_true] at h
  have h1 := u8_inj (by omega) (by omega) h.1
  have h2 := u8_inj (by omega) (by omega) h.2
  omega
theorem txt_low (v : Int) : txt (v % 65536) = txt v := by
  unfold txt
  rw [show v % 65536 % 256 = v % 256 by omega, show v % 65536 / 256 % 256 = v / 256 % 256 by omega]
end Go.Proofs.Ytkgjpmgoapfamaa
