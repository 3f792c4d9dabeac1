/-
  The steps of a drawn region in two pieces, boxed: nothing unfolds a goal of them.
-/
import Derived.Test.YtdijaillcajpaaaR2
namespace Go.Proofs.Ytdijaillcajpaaa
section
variable {P : Program} {ops : Array Oper} {C : World → Prop} {Q : Exit → Act → World → Prop}

/-- What wpPure says, in a box. -/
structure PB (P : Program) (ops : Array Oper) (C : World → Prop) (K : Act → Prop) (l : List Oper) (m : List Nat) (a : Act) : Prop where
  out : wpPure P ops C K l m a
/-- What wpChain says, in a box. -/
structure CB (P : Program) (ops : Array Oper) (C : World → Prop) (Q : Exit → Act → World → Prop) (l : List Oper) (m : List Nat) (a : Act) (w : World) : Prop where
  out : wpChain P ops C Q l m a w

theorem pb_nil {K : Act → Prop} {m : List Nat} {a : Act} (h : K a) : PB P ops C K [] m a := ⟨pure_nil h⟩
theorem pb_skip {K : Act → Prop} {k : Nat} {m : List Nat} {a : Act} {o : Oper} {r : List Oper} (h : PB P ops C K r m a) : PB P ops C K (o :: r) ((k + 1) :: m) a := ⟨pure_skip h.out⟩
theorem pb_k {K : Act → Prop} {m : List Nat} {a : Act} {o : Oper} {r : List Oper} (hg : o.guard = none) (h : ∀ K' : Act → Prop, (∀ a, PB P ops C K r m a → K' a) → ∃ v, (∀ w, C w → pureAt P o a w v) ∧ K' (a.put o.dst v)) : PB P ops C K (o :: r) (0 :: m) a :=
  ⟨pure_k hg fun K' hK => h K' fun a hb => hK a hb.out⟩
theorem pb_ky {K : Act → Prop} {m : List Nat} {a : Act} {o : Oper} {r : List Oper} (hg : Region.wanted o (yielded ops a.tmps) = true) (h : ∀ K' : Act → Prop, (∀ a, PB P ops C K r m a → K' a) → ∃ v, (∀ w, C w → pureAt P o a w v) ∧ K' (a.put o.dst v)) : PB P ops C K (o :: r) (0 :: m) a :=
  ⟨pure_ky hg fun K' hK => h K' fun a hb => hK a hb.out⟩
theorem pb_kn {K : Act → Prop} {m : List Nat} {a : Act} {o : Oper} {r : List Oper} (hg : Region.wanted o (yielded ops a.tmps) = false) (h : ∀ K' : Act → Prop, (∀ a, PB P ops C K r m a → K' a) → K' (a.put o.dst undef)) : PB P ops C K (o :: r) (0 :: m) a :=
  ⟨pure_kn hg fun K' hK => h K' fun a hb => hK a hb.out⟩
theorem cb_skip {m : List Nat} {a : Act} {w : World} {o : Oper} {r : List Oper} (h : CB P ops C Q r m a w) : CB P ops C Q (o :: r) (0 :: m) a w := ⟨chain_skip0 h.out⟩
theorem cb_nil {m : List Nat} {a : Act} {w : World} (h : Q .normal a w) : CB P ops C Q [] m a w := ⟨chain_nil h⟩
theorem cb_step {k : Nat} {m : List Nat} {a : Act} {w : World} {o : Oper} {r : List Oper} (hg : o.guard = none)
    (h : ∀ K : Act → World → Prop, (∀ a' w', (k = 0 → C w') → CB P ops C Q r m a' w' → K a' w') → o.wp P a w K (NoPanic Q)) : CB P ops C Q (o :: r) ((k + 1) :: m) a w :=
  ⟨chain_step hg fun K hK => h K fun a w hc hb => hK a w hc hb.out⟩
theorem cb_ky {k : Nat} {m : List Nat} {a : Act} {w : World} {o : Oper} {r : List Oper} (hg : Region.wanted o (yielded ops a.tmps) = true)
    (h : ∀ K : Act → World → Prop, (∀ a' w', (k = 0 → C w') → CB P ops C Q r m a' w' → K a' w') → o.wp P a w K (NoPanic Q)) : CB P ops C Q (o :: r) ((k + 1) :: m) a w :=
  ⟨chain_ky hg fun K hK => h K fun a w hc hb => hK a w hc hb.out⟩
theorem cb_kn {k : Nat} {m : List Nat} {a : Act} {w : World} {o : Oper} {r : List Oper} (hg : Region.wanted o (yielded ops a.tmps) = false)
    (h : ∀ K : Act → World → Prop, (∀ a' w', CB P ops C Q r m a' w' → K a' w') → K (a.put o.dst undef) w) : CB P ops C Q (o :: r) ((k + 1) :: m) a w :=
  ⟨chain_kn hg fun K hK => h K fun a w hb => hK a w hb.out⟩
end
end Go.Proofs.Ytdijaillcajpaaa
