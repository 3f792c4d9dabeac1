/-
  Shards in memory: rows of members, of origins, of shards.
-/
import Derived.Test.YtdijaillcajpaaaB1
import Derived.Test.YtdijaillcajpaaaB2
import Derived.Test.YtdijaillcajpaaaT1
namespace Go.Proofs.Ytdijaillcajpaaa
open Go.RowKit

/-- A row of numbers, and where it lies. -/
structure Il where
  a : Option Addr
  n : Nat
  c : Nat
  l : List Int
def Il.v (x : Il) : Value := .slice x.a x.n x.c
def Il.there (x : Il) (w : World) : Prop := Ints w x.a x.n x.c x.l
def Il.own (x : Il) (w : World) (B : Nat) : Prop := OwnI w B x.a x.n x.c x.l
def Il.nil : Il := ⟨none, 0, 0, []⟩
/-- An origin. -/
structure OrgV where
  id : Int
  fr : Int
  to : Int
  me : Il
structure Pl where
  a : Option Addr
  n : Nat
  c : Nat
  l : List OrgV
def Pl.v (x : Pl) : Value := .slice x.a x.n x.c
def Pl.nil : Pl := ⟨none, 0, 0, []⟩
/-- A shard. -/
structure ShdV where
  id : Int
  fr : Int
  to : Int
  me : Il
  pa : Pl
def encOrg (x : OrgV) : List Value := [.int .i64 x.id, .int .i64 x.fr, .int .i64 x.to, .slice x.me.a x.me.n x.me.c]
def encShd (x : ShdV) : List Value := [.int .i64 x.id, .int .i64 x.fr, .int .i64 x.to, .slice x.me.a x.me.n x.me.c, .slice x.pa.a x.pa.n x.pa.c]
theorem encOrg_len (x : OrgV) : (encOrg x).length = 4 := rfl
theorem encShd_len (x : ShdV) : (encShd x).length = 5 := rfl
theorem encOrg_one (x : OrgV) : ∀ v ∈ encOrg x, v.oneCell' = true := by intro v hv; simp [encOrg] at hv; rcases hv with rfl | rfl | rfl | rfl <;> rfl
theorem encShd_one (x : ShdV) : ∀ v ∈ encShd x, v.oneCell' = true := by intro v hv; simp [encShd] at hv; rcases hv with rfl | rfl | rfl | rfl | rfl <;> rfl
abbrev valOrg (x : OrgV) : Value := .agg #[.int .i64 x.id, .int .i64 x.fr, .int .i64 x.to, .slice x.me.a x.me.n x.me.c]
abbrev valShd (x : ShdV) : Value := .agg #[.int .i64 x.id, .int .i64 x.fr, .int .i64 x.to, .slice x.me.a x.me.n x.me.c, .slice x.pa.a x.pa.n x.pa.c]
def OrgV.pl (x : OrgV) : Org := ⟨x.id, x.fr, x.to, x.me.l⟩
def ShdV.pl (x : ShdV) : Shd := ⟨x.id, x.fr, x.to, x.me.l, x.pa.l.map OrgV.pl⟩
def Pl.there (x : Pl) (w : World) : Prop := Reads encOrg 4 w x.a x.n x.c x.l ∧ ∀ o ∈ x.l, o.me.there w
def Pl.own (x : Pl) (w : World) (B : Nat) : Prop := OwnR encOrg 4 w B 95 x.a x.n x.c x.l ∧ ∀ o ∈ x.l, o.me.own w B
def ShdV.there (x : ShdV) (w : World) : Prop := x.me.there w ∧ x.pa.there w
def ShdV.own (x : ShdV) (w : World) (B : Nat) : Prop := x.me.own w B ∧ x.pa.own w B
/-- The blocks that it lies in. -/
def Pl.blk (x : Pl) (i : Nat) : Prop := Blk x.a i ∨ ∃ o ∈ x.l, Blk o.me.a i
def ShdV.blk (x : ShdV) (i : Nat) : Prop := Blk x.me.a i ∨ x.pa.blk i
section
variable {w w' : World} {B : Nat} {S : Nat → Prop}
theorem Il.own.there {x : Il} (h : x.own w B) : x.there w := OwnR.reads h encI_len (by omega)
theorem Il.own.kp {x : Il} (h : x.own w B) (k : Kp S w w') (hn : ∀ i, Blk x.a i → ¬ S i) : x.own w' B := OwnR.kp h k hn
theorem Il.own.non {x : Il} (h : x.own w B) (k : Kp Non w w') : x.own w' B := OwnR.non h k
theorem Il.own.lower {x : Il} {B' : Nat} (h : x.own w B) (hb : B' ≤ B) : x.own w B' := OwnR.lower h hb
theorem Il.own.blk {x : Il} (h : x.own w B) : ∀ i, Blk x.a i → B ≤ i ∧ i < w.heap.size := OwnR.blk h
theorem Il.there.non {x : Il} (h : x.there w) (k : Kp Non w w') : x.there w' := Reads.non h k
theorem Il.nil_own (w : World) (B : Nat) : Il.nil.own w B := OwnR.nil _ _ _
theorem Pl.own.there {x : Pl} (h : x.own w B) : x.there w := ⟨h.1.reads encOrg_len (by omega), fun o ho => (h.2 o ho).there⟩
theorem Pl.own.kp {x : Pl} (h : x.own w B) (k : Kp S w w') (hn : ∀ i, x.blk i → ¬ S i) : x.own w' B := ⟨h.1.kp k fun i hi => hn i (.inl hi), fun o ho => (h.2 o ho).kp k fun i hi => hn i (.inr ⟨o, ho, hi⟩)⟩
theorem Pl.own.non {x : Pl} (h : x.own w B) (k : Kp Non w w') : x.own w' B := h.kp k fun _ _ f => f
theorem Pl.own.lower {x : Pl} {B' : Nat} (h : x.own w B) (hb : B' ≤ B) : x.own w B' := ⟨h.1.lower hb, fun o ho => (h.2 o ho).lower hb⟩
theorem Pl.own.blk {x : Pl} (h : x.own w B) : ∀ i, x.blk i → B ≤ i ∧ i < w.heap.size := by
  rintro i (hi | ⟨o, ho, hi⟩)
  · exact h.1.blk i hi
  · exact (h.2 o ho).blk i hi
theorem Pl.there.non {x : Pl} (h : x.there w) (k : Kp Non w w') : x.there w' := ⟨h.1.non k, fun o ho => (h.2 o ho).non k⟩
theorem Pl.nil_own (w : World) (B : Nat) : Pl.nil.own w B := ⟨OwnR.nil _ _ _, fun _ h => by cases h⟩
theorem ShdV.own.there {x : ShdV} (h : x.own w B) : x.there w := ⟨h.1.there, h.2.there⟩
theorem ShdV.own.kp {x : ShdV} (h : x.own w B) (k : Kp S w w') (hn : ∀ i, x.blk i → ¬ S i) : x.own w' B := ⟨h.1.kp k fun i hi => hn i (.inl hi), h.2.kp k fun i hi => hn i (.inr hi)⟩
theorem ShdV.own.non {x : ShdV} (h : x.own w B) (k : Kp Non w w') : x.own w' B := h.kp k fun _ _ f => f
theorem ShdV.own.lower {x : ShdV} {B' : Nat} (h : x.own w B) (hb : B' ≤ B) : x.own w B' := ⟨h.1.lower hb, h.2.lower hb⟩
theorem ShdV.own.blk {x : ShdV} (h : x.own w B) : ∀ i, x.blk i → B ≤ i ∧ i < w.heap.size := by
  rintro i (hi | hi)
  · exact h.1.blk i hi
  · exact h.2.blk i hi
theorem ShdV.there.non {x : ShdV} (h : x.there w) (k : Kp Non w w') : x.there w' := ⟨h.1.non k, h.2.non k⟩
/-- The tags of its blocks. -/
theorem ShdV.own.tag {x : ShdV} (h : x.own w B) : ∀ i, x.blk i → ∃ cs, w.heap[i]? = some (.cells cs 3 (0, 0)) ∨ w.heap[i]? = some (.cells cs 95 (0, 0)) := by
  rintro i (hi | hi | ⟨o, ho, hi⟩)
  · obtain ⟨cs, hc⟩ := OwnR.tag h.1 i hi; exact ⟨cs, .inl hc⟩
  · obtain ⟨cs, hc⟩ := h.2.1.tag i hi; exact ⟨cs, .inr hc⟩
  · obtain ⟨cs, hc⟩ := OwnR.tag (h.2.2 o ho) i hi; exact ⟨cs, .inl hc⟩
end

theorem infoOrg : (Try.prog.info? 95).map (fun i => (i.zero, i.size, i.bytes)) = some (some (.agg #[.int .i64 0, .int .i64 0, .int .i64 0, .slice none 0 0]), 4, 48) := by kernel_rfl
theorem infoShd : (Try.prog.info? 40).map (fun i => (i.zero, i.size, i.bytes)) = some (some (.agg #[.int .i64 0, .int .i64 0, .int .i64 0, .slice none 0 0, .slice none 0 0]), 5, 72) := by kernel_rfl
end Go.Proofs.Ytdijaillcajpaaa
