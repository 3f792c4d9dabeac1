/-
  A row of Ops that came in.
-/
import Derived.Test.YtclbapmjhchokaaM2
namespace Go.Proofs.Ytclbapmjhchokaa
open Go.RowKit

/-- The four cells of an Op at block b, place o. -/
structure OpAt (w : World) (b o : Nat) (x : OpD) (ba : Option Addr) (bc : Nat) : Prop where
  c0 : w.cell? ⟨b, o, none⟩ = some (.int .i64 x.kind)
  c1 : w.cell? ⟨b, o + 1, none⟩ = some (.int .i64 x.n)
  c2 : w.cell? ⟨b, o + 2, none⟩ = some (.slice ba x.b.length bc)
  c3 : w.cell? ⟨b, o + 3, none⟩ = some (.int .u64 x.times)
  bytes : Bytes w ba x.b.length bc x.b
  ok : x.ok

/-- The slice (a, n, c) reads as the Ops l. -/
structure Ops (w : World) (a : Option Addr) (n c : Nat) (l : List OpD) : Prop where
  len : n = l.length
  cap : n ≤ c
  max : c ≤ 9223372036854775807
  nil : a = none → c = 0
  at_ : ∀ i x, l[i]? = some x → ∃ b o ba bc, a = some ⟨b, o, none⟩ ∧ OpAt w b (o + i * 4) x ba bc

theorem OpAt.non {w w' : World} {b o : Nat} {x : OpD} {ba : Option Addr} {bc : Nat} (h : OpAt w b o x ba bc) (k : Kp Non w w') : OpAt w' b o x ba bc :=
  ⟨k.cell h.c0 (fun f => f), k.cell h.c1 (fun f => f), k.cell h.c2 (fun f => f), k.cell h.c3 (fun f => f), h.bytes.non k, h.ok⟩
theorem Ops.non {w w' : World} {a : Option Addr} {n c : Nat} {l : List OpD} (h : Ops w a n c l) (k : Kp Non w w') : Ops w' a n c l :=
  ⟨h.len, h.cap, h.max, h.nil, fun i x hx => by
    obtain ⟨b, o, ba, bc, ha, ho⟩ := h.at_ i x hx
    exact ⟨b, o, ba, bc, ha, ho.non k⟩⟩

end Go.Proofs.Ytclbapmjhchokaa
