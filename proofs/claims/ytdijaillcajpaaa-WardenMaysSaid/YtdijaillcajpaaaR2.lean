/-
  A region that draws its order, in two pieces: the second stands behind the first in every order.
-/
import Derived.Test.YtdijaillcajpaaaR0
namespace Go.Proofs.Ytdijaillcajpaaa
open Go

/-- A table of ancestors, as bit masks: operation i comes ahead of j. -/
def tb (tab : List Nat) (j i : Nat) : Bool := (tab.getD j 0).testBit i
def ancTab (ops : Array Oper) : List Nat := (List.range ops.size).foldl (fun t j => t ++ [(rdeps ops j).foldl (fun m d => m ||| (1 <<< d) ||| t.getD d 0) 0]) []
def tabOk (ops : Array Oper) (tab : List Nat) : Bool := (List.range ops.size).all fun j => (List.range ops.size).all fun i => !tb tab j i || (rdeps ops j).any fun d => d == i || tb tab d i
def pairChkT (ops : Array Oper) (m tab : List Nat) (i j : Nat) : Bool :=
  let ki := m.getD i 0
  let kj := m.getD j 0
  i == j ||
  ((ki != 0 || !clash ops i j) &&
   (ki != 0 || !looks ops i j || (if kj == 0 then (rdeps ops i).contains j else tb tab j i)) &&
   (ki == 0 || kj != 0 || !looks ops i j || tb tab i j) &&
   (ki == 0 || kj == 0 || !decide (i < j) || tb tab j i) &&
   (decide (kj < 2) || ki != 0 || tb tab j i))

/-- What is asked of a piece of a region: the operations b0 to b1; m is not 0 outside of it; what stands behind it comes behind all of it. -/
def winChk (ops : Array Oper) (tab m : List Nat) (b0 b1 : Nat) : Bool :=
  tabOk ops tab && m.length == ops.size && decide (b1 ≤ ops.size) && decide (b0 ≤ b1) && Region.noSelect ops &&
  (List.range ops.size).all fun j => (m.getD j 0 != 0 || !looks ops j j) && (rdeps ops j).all (fun d => decide (d < j)) && (m.getD j 0 != 0 || (decide (b0 ≤ j) && decide (j < b1))) &&
    (List.range ops.size).all fun i => (decide (i < b0) || decide (b1 ≤ i) || decide (j < b0) || (if j < b1 then pairChkT ops m tab i j else tb tab j i))

section
variable {P : Program} {ops : Array Oper} {C : World → Prop} {Q : Exit → Act → World → Prop}

structure WChk (ops : Array Oper) (tab m : List Nat) (b0 b1 : Nat) : Prop where
  tab_ : tabOk ops tab = true
  len : m.length = ops.size
  top : b1 ≤ ops.size
  low : b0 ≤ b1
  sel : Region.noSelect ops = true
  self : ∀ j, j < ops.size → m.getD j 0 = 0 → looks ops j j = false
  back : ∀ j, j < ops.size → ∀ d ∈ rdeps ops j, d < j
  out : ∀ j, j < ops.size → m.getD j 0 = 0 → b0 ≤ j ∧ j < b1
  pair : ∀ i j, b0 ≤ i → i < b1 → b0 ≤ j → j < b1 → pairChkT ops m tab i j = true
  gate : ∀ i j, b0 ≤ i → i < b1 → b1 ≤ j → j < ops.size → tb tab j i = true

theorem wchk_of {tab m : List Nat} {b0 b1 : Nat} (h : winChk ops tab m b0 b1 = true) : WChk ops tab m b0 b1 := by
  unfold winChk at h
  simp only [Bool.and_eq_true, beq_iff_eq, List.all_eq_true, List.mem_range, Bool.or_eq_true, bne_iff_ne, ne_eq, Bool.not_eq_true', decide_eq_true_eq] at h
  obtain ⟨⟨⟨⟨⟨h0, h1⟩, h2⟩, h2'⟩, h3⟩, h4⟩ := h
  refine ⟨h0, h1, h2, h2', h3, fun j hj hm => (h4 j hj).1.1.1.resolve_left (fun h => h hm), fun j hj d hd => (h4 j hj).1.1.2 d hd, fun j hj hm => (h4 j hj).1.2.resolve_left (fun h => h hm), fun i j a b c d => ?_, fun i j a b c d => ?_⟩
  · rcases (h4 j (by omega)).2 i (by omega) with ((h | h) | h) | h
    · omega
    · omega
    · omega
    · rw [if_pos d] at h; exact h
  · rcases (h4 j (by omega)).2 i (by omega) with ((h | h) | h) | h
    · omega
    · omega
    · omega
    · rw [if_neg (by omega)] at h; exact h

theorem pairChkT_spec {m tab : List Nat} {i j : Nat} (h : pairChkT ops m tab i j = true) (hne : i ≠ j) :
    (m.getD i 0 = 0 → clash ops i j = false) ∧
    (m.getD i 0 = 0 → looks ops i j = true → (m.getD j 0 = 0 → j ∈ rdeps ops i) ∧ (m.getD j 0 ≠ 0 → tb tab j i = true)) ∧
    (m.getD i 0 ≠ 0 → m.getD j 0 = 0 → looks ops i j = true → tb tab i j = true) ∧
    (m.getD i 0 ≠ 0 → m.getD j 0 ≠ 0 → i < j → tb tab j i = true) ∧
    (2 ≤ m.getD j 0 → m.getD i 0 = 0 → tb tab j i = true) := by
  unfold pairChkT at h
  simp only [Bool.or_eq_true, beq_iff_eq, hne, false_or, Bool.and_eq_true, bne_iff_ne, ne_eq, Bool.not_eq_true', decide_eq_false_iff_not, decide_eq_true_eq] at h
  obtain ⟨⟨⟨⟨h1, h2⟩, h3⟩, h4⟩, h5⟩ := h
  refine ⟨fun a => ?_, fun a b => ⟨fun c => ?_, fun c => ?_⟩, fun a b c => ?_, fun a b c => ?_, fun a b => ?_⟩
  · rcases h1 with h1 | h1
    · exact absurd a h1
    · exact h1
  · rcases h2 with (h2 | h2) | h2
    · exact absurd a h2
    · rw [b] at h2; cases h2
    · rw [if_pos c] at h2; simpa using h2
  · rcases h2 with (h2 | h2) | h2
    · exact absurd a h2
    · rw [b] at h2; cases h2
    · rw [if_neg c] at h2; exact h2
  · rcases h3 with ((h3 | h3) | h3) | h3
    · exact absurd h3 a
    · exact absurd b h3
    · rw [c] at h3; cases h3
    · exact h3
  · rcases h4 with ((h4 | h4) | h4) | h4
    · exact absurd h4 a
    · exact absurd h4 b
    · exact absurd c h4
    · exact h4
  · rcases h5 with (h5 | h5) | h5
    · omega
    · exact absurd b h5
    · exact h5

theorem tab_listed {tab : List Nat} {listed : Array Bool} (ht : tabOk ops tab = true) (hb : ∀ j, j < ops.size → ∀ d ∈ rdeps ops j, d < j) (hc : ∀ j, listed.getD j false = true → ∀ d ∈ rdeps ops j, listed.getD d false = true) :
    ∀ (n j i : Nat), j < n → j < ops.size → i < ops.size → (∀ d ∈ rdeps ops j, listed.getD d false = true) → tb tab j i = true → listed.getD i false = true
  | 0, _, _, h, _, _, _, _ => by omega
  | n + 1, j, i, hn, hj, hi, hd, h => by
    have h1 := ht
    unfold tabOk at h1
    simp only [List.all_eq_true, List.mem_range, Bool.or_eq_true, Bool.not_eq_true', List.any_eq_true, beq_iff_eq] at h1
    rcases h1 j hj i hi with h2 | ⟨d, hdj, h2⟩
    · rw [h] at h2; cases h2
    · rcases h2 with rfl | h2
      · exact hd d hdj
      · have := hb j hj d hdj
        exact tab_listed ht hb hc n d i (by omega) (by omega) hi (hc d (hd d hdj)) h2

theorem wp_transfer2 {Q' : Exit → Act → World → Prop} (hQ : LetsOut (NoPanic Q') → LetsOut (NoPanic Q)) {o : Oper} {a F : Act} {w : World} {K K' : Act → World → Prop} (he : execOp a.eval o = execOp F.eval o)
    (h1 : ∀ v w', K (F.put o.dst v) w' → K' (a.put o.dst v) w') (h2 : ∀ d w', K ({ F with defers := d :: F.defers }.put o.dst undef) w' → K' ({ a with defers := d :: a.defers }.put o.dst undef) w')
    (h : o.wp P F w K (NoPanic Q')) : o.wp P a w K' (NoPanic Q) := by
  unfold Oper.wp at *
  rw [he]
  generalize (execOp F.eval o).run P w = r at *
  cases r with
  | ok n w' =>
    cases n with
    | value v => exact h1 _ _ h
    | skip => exact h1 _ _ h
    | defer d => exact h2 _ _ h
    | enter f args =>
      simp only [Oper.upon] at h ⊢
      exact Calls.mono h fun e w'' he => by
        cases e with
        | returned v => exact h1 _ _ he
        | panicked c => exact (he : False).elim
        | outgrown => exact hQ he
    | row r args =>
      simp only [Oper.upon] at h ⊢
      exact Rows.mono h fun v w'' he => h1 _ _ he
    | _ => exact (h : False).elim
  | halt x w' =>
    cases x with
    | panic v => exact (h : False).elim
    | _ => exact (h : False).elim


/-- The state of a piece on the way. -/
structure WInv (P : Program) (ops : Array Oper) (m : List Nat) (b0 b1 : Nat) (C : World → Prop) (Q : Exit → Act → World → Prop) (listed : Array Bool) (a : Act) (w : World) (p : Nat) (F : Act) : Prop where
  size : listed.size = ops.size
  closed : ∀ j, listed.getD j false = true → ∀ d ∈ rdeps ops j, listed.getD d false = true
  lows : ∀ j, j < b0 → listed.getD j false = true
  highs : ∀ j, b1 ≤ j → j < ops.size → listed.getD j false = false
  from_ : b0 ≤ p
  done : ∀ j, b0 ≤ j → j < p → j < b1 → m.getD j 0 ≠ 0 → listed.getD j false = true
  undone : ∀ j, p ≤ j → j < b1 → m.getD j 0 ≠ 0 → listed.getD j false = false
  chain : wpChain P ops C Q ((ops.toList.take b1).drop p) ((m.take b1).drop p) F w
  cls : (∃ j, j < ops.size ∧ m.getD j 0 = 0 ∧ listed.getD j false = false) → C w
  defers : a.defers = F.defers
  tmps : a.tmps.size = F.tmps.size
  agree : ∀ t, (∀ j o, ops[j]? = some o → m.getD j 0 = 0 → listed.getD j false = false → o.dst ≠ some t) → a.tmps[t]? = F.tmps[t]?
  pure : ∀ j o, ops[j]? = some o → m.getD j 0 = 0 → listed.getD j false = false → PureOk P ops C o F

theorem getD_take {m : List Nat} {b j : Nat} (h : j < b) : (m.take b).getD j 0 = m.getD j 0 := by
  simp [List.getD_eq_getElem?_getD, h]

theorem WInv.final {tab m : List Nat} {b0 b1 : Nat} (hk : WChk ops tab m b0 b1) {listed : Array Bool} {a : Act} {w : World} {p : Nat} {F : Act} (h : WInv P ops m b0 b1 C Q listed a w p F) (hall : ∀ j, j < b1 → listed.getD j false = true) : Q .normal a w := by
  have hp : ∀ i, p ≤ i → i < b1 → m.getD i 0 = 0 := fun i hi hi' => by
    by_cases hm : m.getD i 0 = 0
    · exact hm
    · have := h.undone i hi hi' hm
      rw [hall i hi'] at this
      cases this
  have hF : a = F := by
    have : a.tmps = F.tmps := by
      apply Array.ext_getElem?
      intro t
      exact h.agree t fun j o ho hmz hl _ => by
        rw [hall j (hk.out j (Array.getElem?_eq_some_iff.1 ho).1 hmz).2] at hl
        cases hl
    have h2 := h.defers
    cases a; cases F
    simp_all
  subst hF
  have htop := hk.top
  have hlen : (m.take b1).length = (ops.toList.take b1).length := by simp [hk.len]
  have hl1 : (ops.toList.take b1).length = b1 := by simp; omega
  have hch : wpChain P ops C Q [] [] a w := by
    by_cases hpn : p ≤ b1
    · have := chain_skip (C := C) (Q := Q) (P := P) (ops := ops) hlen (b1 - p) p (by omega) (fun i hi hi' => by rw [getD_take (by omega)]; exact hp i hi (by omega)) h.chain
      rw [List.drop_eq_nil_of_le (by omega), List.drop_eq_nil_of_le (by omega)] at this
      exact this
    · have := h.chain
      rw [List.drop_eq_nil_of_le (by omega), List.drop_eq_nil_of_le (by omega)] at this
      exact this
  simpa only [wpChain] using hch

/-- One operation that only reads has come up. -/
theorem WInv.readPut {tab m : List Nat} {b0 b1 : Nat} (hk : WChk ops tab m b0 b1) {listed : Array Bool} {a : Act} {w : World} {p : Nat} {F : Act} (h : WInv P ops m b0 b1 C Q listed a w p F) {i : Nat} {o : Oper} (ho : ops[i]? = some o) (hm : m.getD i 0 = 0)
    (hd : ∀ d ∈ rdeps ops i, listed.getD d false = true) {v : Value} (hv : ∀ t, o.dst = some t → t < F.tmps.size → F.tmps[t]? = some v) : WInv P ops m b0 b1 C Q (listed.setIfInBounds i true) (a.put o.dst v) w p F := by
  have hi : i < listed.size := by rw [h.size]; exact (Array.getElem?_eq_some_iff.1 ho).1
  have un : ∀ j, (listed.setIfInBounds i true).getD j false = false → j ≠ i ∧ listed.getD j false = false := fun j hj => by
    constructor
    · rintro rfl
      rw [(listed_set hi).2 (.inl rfl)] at hj
      cases hj
    · cases hl : listed.getD j false with
      | false => rfl
      | true => rw [(listed_set hi).2 (.inr hl)] at hj; cases hj
  refine ⟨by simp [h.size], fun j hj d hdj => (listed_set hi).2 (.inr ?_), fun j hj => (listed_set hi).2 (.inr (h.lows j hj)), fun j hj hj' => ?_, h.from_, fun j hb hj hj' hmj => (listed_set hi).2 (.inr (h.done j hb hj hj' hmj)), fun j hj hj' hmj => ?_, h.chain,
    fun ⟨j, hj, hmj, hlj⟩ => h.cls ⟨j, hj, hmj, (un j hlj).2⟩, by rw [put_defs]; exact h.defers, by rw [put_size]; exact h.tmps, fun t ht => ?_, fun j oj hoj hmj hlj => h.pure j oj hoj hmj (un j hlj).2⟩
  · rcases (listed_set hi).1 hj with rfl | hj
    · exact hd d hdj
    · exact h.closed j hj d hdj
  · have := h.highs j hj hj'
    have hne : j ≠ i := by rintro rfl; have := (hk.out j hj' hm).2; omega
    rw [getD_set_ne false (Ne.symm hne)]
    exact this
  · have := h.undone j hj hj' hmj
    have hne : j ≠ i := by rintro rfl; exact hmj hm
    rw [getD_set_ne false (Ne.symm hne)]
    exact this
  · rw [put_tmps]
    split
    · rename_i hdst
      rw [h.tmps]
      split
      · rename_i hlt; exact (hv t hdst hlt).symm
      · rename_i hlt; exact (Array.getElem?_eq_none (by omega)).symm
    · rename_i hdst
      refine h.agree t fun j oj hoj hmj hlj => ?_
      by_cases hji : j = i
      · subst hji
        rw [ho] at hoj
        cases hoj
        exact hdst
      · exact ht j oj hoj hmj (by rw [getD_set_ne false (Ne.symm hji)]; exact hlj)

/-- One of the others has come up. -/
theorem WInv.doPut {tab m : List Nat} {b0 b1 : Nat} (hk : WChk ops tab m b0 b1) {listed : Array Bool} {a : Act} {w : World} {p : Nat} {F : Act} (h : WInv P ops m b0 b1 C Q listed a w p F) {i : Nat} {o : Oper} (ho : ops[i]? = some o) (hm : m.getD i 0 ≠ 0) (hpi : p ≤ i) (hib : i < b1)
    (hno : ∀ j, p ≤ j → j < i → m.getD j 0 = 0) (hd : ∀ d ∈ rdeps ops i, listed.getD d false = true) {v : Value} {w' : World} {ds ds' : List Deferred} (hds : ds = ds')
    (hch : wpChain P ops C Q ((ops.toList.take b1).drop (i + 1)) ((m.take b1).drop (i + 1)) ({ F with defers := ds' }.put o.dst v) w') (hC : (∃ j, j < ops.size ∧ m.getD j 0 = 0 ∧ listed.getD j false = false) → C w') :
    WInv P ops m b0 b1 C Q (listed.setIfInBounds i true) ({ a with defers := ds }.put o.dst v) w' (i + 1) ({ F with defers := ds' }.put o.dst v) := by
  have hin : i < ops.size := (Array.getElem?_eq_some_iff.1 ho).1
  have hi : i < listed.size := by rw [h.size]; exact hin
  have un : ∀ j, (listed.setIfInBounds i true).getD j false = false → j ≠ i ∧ listed.getD j false = false := fun j hj => by
    constructor
    · rintro rfl
      rw [(listed_set hi).2 (.inl rfl)] at hj
      cases hj
    · cases hl : listed.getD j false with
      | false => rfl
      | true => rw [(listed_set hi).2 (.inr hl)] at hj; cases hj
  refine ⟨by simp [h.size], fun j hj d hdj => (listed_set hi).2 (.inr ?_), fun j hj => (listed_set hi).2 (.inr (h.lows j hj)), fun j hj hj' => ?_, by have := h.from_; omega, fun j hb hj hj' hmj => (listed_set hi).2 ?_, fun j hj hj' hmj => ?_, hch,
    fun ⟨j, hj, hmj, hlj⟩ => hC ⟨j, hj, hmj, (un j hlj).2⟩, by rw [put_defs, put_defs]; exact hds, by rw [put_size, put_size]; exact h.tmps, fun t ht => ?_, fun j oj hoj hmj hlj => ?_⟩
  · rcases (listed_set hi).1 hj with rfl | hj
    · exact hd d hdj
    · exact h.closed j hj d hdj
  · rw [getD_set_ne false (by omega)]
    exact h.highs j hj hj'
  · by_cases hji : j = i
    · exact .inl hji
    · right
      by_cases hjp : j < p
      · exact h.done j hb hjp hj' hmj
      · exact absurd (hno j (by omega) (by omega)) hmj
  · rw [getD_set_ne false (by omega)]
    exact h.undone j (by omega) hj' hmj
  · rw [put_tmps, put_tmps]
    have hsz : a.tmps.size = F.tmps.size := h.tmps
    by_cases hdst : o.dst = some t
    · rw [if_pos hdst, if_pos hdst, hsz]
    · rw [if_neg hdst, if_neg hdst]
      exact h.agree t fun j oj hoj hmj hlj => ht j oj hoj hmj (by
        have hji : j ≠ i := by rintro rfl; exact hm hmj
        rw [getD_set_ne false (Ne.symm hji)]
        exact hlj)
  · obtain ⟨hji, hlj⟩ := un j hlj
    have hjn : j < ops.size := (Array.getElem?_eq_some_iff.1 hoj).1
    have hjw := hk.out j hjn hmj
    have sp := pairChkT_spec (hk.pair j i hjw.1 hjw.2 (by have := h.from_; omega) hib) hji
    have hsel : ∀ cs b, oj.op ≠ .select cs b := fun cs b => Region.noSelect_spec hk.sel j oj cs b hoj
    have hnl : ∀ d, o.dst = some d → d ∉ oj.looksAt ops := fun d hdd hmem => by
      have := (sp.2.1 hmj (looks_of hoj ho hdd hmem)).2 hm
      rw [tab_listed hk.tab_ hk.back h.closed _ _ _ (Nat.lt_succ_self _) hin hjn hd this] at hlj
      cases hlj
    obtain ⟨u, hu, hut⟩ := h.pure j oj hoj hmj hlj
    refine ⟨u, ?_, fun t ht hlt => ?_⟩
    · have e1 := wanted_put (ops := ops) oj { F with defers := ds' } o.dst v hnl
      have e2 := execOp_put (ops := ops) oj hsel { F with defers := ds' } o.dst v hnl
      rcases hu with ⟨hw, hp⟩ | ⟨hw, hp⟩
      · exact .inl ⟨by rw [e1]; exact hw, fun w hw' => by unfold pureAt; rw [e2]; exact hp w hw'⟩
      · exact .inr ⟨by rw [e1]; exact hw, hp⟩
    · rw [put_tmps, if_neg]
      · rw [put_size] at hlt
        exact hut t ht hlt
      · intro hdd
        have := sp.1 hmj
        simp [clash, hoj, ho, ht, hdd] at this

theorem wall_listed {tab m : List Nat} {b0 b1 : Nat} (hk : WChk ops tab m b0 b1) {listed : Array Bool} (hs : listed.size = ops.size) (hr : Region.ready .any ops listed = []) : ∀ n j, j < n → j < ops.size → listed.getD j false = true
  | 0, _, h, _ => by omega
  | n + 1, j, _, hj => by
    by_cases h : listed.getD j false = true
    · exact h
    · have := ready_of hs hj (by simpa using h) (fun d hd => wall_listed hk hs hr n d (by have := hk.back j hj d hd; omega) (by have := hk.back j hj d hd; omega))
      rw [hr] at this
      cases this

theorem any_of_winv {Q' : Exit → Act → World → Prop} (hQ : LetsOut (NoPanic Q') → LetsOut (NoPanic Q)) {tab m : List Nat} {b0 b1 : Nat} (hk : WChk ops tab m b0 b1)
    (hE : ∀ (fuel : Nat) (listed : Array Bool) (a : Act) (w : World), leftOf ops listed ≤ fuel → listed.size = ops.size → (∀ j, j < b1 → listed.getD j false = true) → (∀ j, b1 ≤ j → j < ops.size → listed.getD j false = false) → Q' .normal a w → wpAny P .any ops (NoPanic Q) fuel listed a w) : ∀ (fuel : Nat) (listed : Array Bool) (a : Act) (w : World) (p : Nat) (F : Act), leftOf ops listed ≤ fuel → WInv P ops m b0 b1 C Q' listed a w p F →
    wpAny P .any ops (NoPanic Q) fuel listed a w := by
  intro fuel
  induction fuel with
  | zero =>
    intro listed a w p F hle h
    have hall : ∀ j, j < ops.size → listed.getD j false = true := fun j hj => by
      have h0 : leftOf ops listed = 0 := by omega
      unfold leftOf at h0
      have := List.countP_eq_zero.1 h0 j (List.mem_range.2 hj)
      rw [← getD_both' (by rw [h.size]; exact hj)]
      simpa using this
    have htop := hk.top
    exact hE 0 listed a w hle h.size (fun j hj => hall j (by omega)) h.highs (h.final hk fun j hj => hall j (by omega))
  | succ fuel ih =>
    intro listed a w p F hle h
    have htop := hk.top
    by_cases hfull : ∀ j, j < b1 → listed.getD j false = true
    · exact hE _ listed a w hle h.size hfull h.highs (h.final hk hfull)
    refine ⟨fun hr => absurd (fun j hj => wall_listed hk h.size hr (j + 1) j (by omega) (by omega)) hfull, fun i hi => ?_⟩
    obtain ⟨hun, o, ho, hall⟩ := mem_ready.1 hi
    have hin : i < ops.size := (Array.getElem?_eq_some_iff.1 ho).1
    have hil : i < listed.size := by rw [h.size]; exact hin
    have hun' : listed.getD i false = false := (getD_both' hil false).1 hun
    have hd := rdeps_listed ho hall
    have hsel : ∀ cs b, o.op ≠ .select cs b := fun cs b => Region.noSelect_spec hk.sel i o cs b ho
    have hleft : leftOf ops (listed.setIfInBounds i true) ≤ fuel := by
      have := countP_lt (p := fun i => !listed.getD i true) (q := fun j => !(listed.setIfInBounds i true).getD j true) (x := i) (List.range ops.size) (fun y hy => by
        by_cases hyi : i = y
        · subst hyi
          simp [Array.getD_eq_getD_getElem?, hil] at hy
        · rw [getD_set_ne true hyi] at hy
          exact hy) (List.mem_range.2 hin) (by simpa using hun) (by simp [Array.getD_eq_getD_getElem?, hil])
      unfold leftOf at hle ⊢
      omega
    have hib : i < b1 := by
      rcases Nat.lt_or_ge i b1 with hlt' | hge
      · exact hlt'
      · exfalso
        refine hfull fun j hj => ?_
        by_cases hj0 : j < b0
        · exact h.lows j hj0
        · exact tab_listed hk.tab_ hk.back h.closed _ i j (Nat.lt_succ_self i) hin (by omega) hd (hk.gate j i (by omega) hj hge hin)
    have hi0 : b0 ≤ i := by
      rcases Nat.lt_or_ge i b0 with hlt' | hge
      · rw [h.lows i hlt'] at hun'; cases hun'
      · exact hge
    unfold wpOp
    simp only [ho]
    by_cases hm : m.getD i 0 = 0
    · -- it only reads
      obtain ⟨v, hv, hvt⟩ := h.pure i o ho hm hun'
      have hlook : ∀ t ∈ o.looksAt ops, a.tmps[t]? = F.tmps[t]? := fun t ht => h.agree t fun j oj hoj hmj hlj hdj => by
        have hl := looks_of ho hoj hdj ht
        have hjn := (Array.getElem?_eq_some_iff.1 hoj).1
        by_cases hji : i = j
        · subst hji
          rw [hk.self i hin hm] at hl
          cases hl
        · have hjw := hk.out j hjn hmj
          have := ((pairChkT_spec (hk.pair i j hi0 hib hjw.1 hjw.2) hji).2.1 hm hl).1 hmj
          rw [hd j this] at hlj
          cases hlj
      obtain ⟨he, hwt⟩ := exec_agree (ops := ops) hsel hlook
      have hC : C w := h.cls ⟨i, hin, hm, hun'⟩
      have next := ih _ _ _ p F hleft (h.readPut hk ho hm hd hvt)
      rw [hwt]
      rcases hv with ⟨hw, hp⟩ | ⟨hw, rfl⟩
      · rw [if_pos hw]
        left
        have h1 := hp w hC
        unfold pureAt at h1
        unfold Oper.wp
        rw [he]
        generalize (execOp F.eval o).run P w = r at h1
        cases r with
        | ok n w' =>
          cases n with
          | value u => obtain ⟨rfl, rfl⟩ := h1; exact next
          | skip => obtain ⟨rfl, rfl⟩ := h1; exact next
          | enter f args =>
            obtain ⟨rfl, h2⟩ := h1
            simp only [Oper.upon]
            exact Calls.mono h2 fun e w'' ⟨he', hw'⟩ => by subst he'; subst hw'; exact next
          | _ => exact (h1 : False).elim
        | halt x w' => exact (h1 : False).elim
      · rw [if_neg (by simp [hw])]
        exact next
    · -- it does something
      have hpi : p ≤ i := by
        rcases Nat.lt_or_ge i p with hlt | hge
        · rw [h.done i hi0 hlt hib hm] at hun'
          cases hun'
        · exact hge
      have hno : ∀ j, p ≤ j → j < i → m.getD j 0 = 0 := fun j hj hji => by
        by_cases hmj : m.getD j 0 = 0
        · exact hmj
        · have h1 := (pairChkT_spec (hk.pair j i (by have := h.from_; omega) (by omega) hi0 hib) (by omega)).2.2.2.1 hmj hm hji
          have h2 := tab_listed hk.tab_ hk.back h.closed _ _ _ (Nat.lt_succ_self _) hin (by omega) hd h1
          rw [h.undone j hj (by omega) hmj] at h2
          cases h2
      have hlen : (m.take b1).length = (ops.toList.take b1).length := by simp [hk.len]
      have hl1 : (ops.toList.take b1).length = b1 := by simp; omega
      have hch := chain_skip (P := P) (C := C) (Q := Q') (ops := ops) hlen (i - p) p (by omega) (fun j hj hj' => by rw [getD_take (by omega)]; exact hno j hj (by omega)) h.chain
      rw [show p + (i - p) = i from by omega] at hch
      have hil2 : i < (ops.toList.take b1).length := by omega
      have him : i < (m.take b1).length := by omega
      have him' : i < m.length := by rw [hk.len]; exact hin
      have hoi : (ops.toList.take b1)[i] = o := by
        have := Array.getElem?_eq_some_iff.1 ho
        simpa using this.2
      have hmi' : (m.take b1)[i] = m.getD i 0 := by simp [List.getD_eq_getElem?_getD, List.getElem?_eq_getElem him']
      obtain ⟨k, hkm⟩ : ∃ k, (m.take b1)[i] = k + 1 := ⟨(m.take b1)[i] - 1, by omega⟩
      rw [List.drop_eq_getElem_cons hil2, List.drop_eq_getElem_cons him, hoi, hkm] at hch
      have hk0 : m.getD i 0 = k + 1 := by rw [← hkm, hmi']
      have hlook : ∀ t ∈ o.looksAt ops, a.tmps[t]? = F.tmps[t]? := fun t ht => h.agree t fun j oj hoj hmj hlj hdj => by
        have hl := looks_of ho hoj hdj ht
        have hjn := (Array.getElem?_eq_some_iff.1 hoj).1
        have hji : i ≠ j := by rintro rfl; exact hm hmj
        have hjw := hk.out j hjn hmj
        have h1 := (pairChkT_spec (hk.pair i j hi0 hib hjw.1 hjw.2) hji).2.2.1 hm hmj hl
        rw [tab_listed hk.tab_ hk.back h.closed _ _ _ (Nat.lt_succ_self _) hin hjn hd h1] at hlj
        cases hlj
      obtain ⟨he, hwt⟩ := exec_agree (ops := ops) hsel hlook
      have hcls : ∀ w', (k = 0 → C w') → (∃ j, j < ops.size ∧ m.getD j 0 = 0 ∧ listed.getD j false = false) → C w' := fun w' hw' ⟨j, hjn, hmj, hlj⟩ => by
        by_cases hk1 : k = 0
        · exact hw' hk1
        · have hji : j ≠ i := by rintro rfl; exact hm hmj
          have hjw := hk.out j hjn hmj
          have h1 := (pairChkT_spec (hk.pair j i hjw.1 hjw.2 hi0 hib) hji).2.2.2.2 (by omega) hmj
          rw [tab_listed hk.tab_ hk.back h.closed _ _ _ (Nat.lt_succ_self _) hin hjn hd h1] at hlj
          cases hlj
      simp only [wpChain] at hch
      rw [hwt]
      by_cases hw : Region.wanted o (yielded ops F.tmps) = true
      · rw [if_pos hw] at hch ⊢
        left
        refine wp_transfer2 (P := P) (Q := Q) (Q' := Q') hQ he (fun v w' hh => ?_) (fun d w' hh => ?_) hch
        · exact ih _ _ _ (i + 1) _ hleft (h.doPut hk ho hm hpi hib hno hd (ds := a.defers) (ds' := F.defers) h.defers hh.2 (hcls w' hh.1))
        · exact ih _ _ _ (i + 1) _ hleft (h.doPut hk ho hm hpi hib hno hd (ds := d :: a.defers) (ds' := d :: F.defers) (by rw [h.defers]) hh.2 (hcls w' hh.1))
      · rw [if_neg hw] at hch ⊢
        exact ih _ _ _ (i + 1) _ hleft (h.doPut hk ho hm hpi hib hno hd (ds := a.defers) (ds' := F.defers) h.defers hch h.cls)

theorem PureOk.wput {tab m : List Nat} {b0 b1 : Nat} (hk : WChk ops tab m b0 b1) {i j : Nat} {oi oj : Oper} (hi : ops[i]? = some oi) (hj : ops[j]? = some oj) (hmi : m.getD i 0 = 0) (hmj : m.getD j 0 = 0) (hji : j < i) {a : Act} {v : Value} (h : PureOk P ops C oj a) : PureOk P ops C oj (a.put oi.dst v) := by
  have hjn : j < ops.size := (Array.getElem?_eq_some_iff.1 hj).1
  have hin : i < ops.size := (Array.getElem?_eq_some_iff.1 hi).1
  have hjw := hk.out j hjn hmj
  have hiw := hk.out i hin hmi
  have sp := pairChkT_spec (hk.pair j i hjw.1 hjw.2 hiw.1 hiw.2) (by omega)
  have hsel : ∀ cs b, oj.op ≠ .select cs b := fun cs b => Region.noSelect_spec hk.sel j oj cs b hj
  have hnl : ∀ d, oi.dst = some d → d ∉ oj.looksAt ops := fun d hdd hmem => by
    have h1 := (sp.2.1 hmj (looks_of hj hi hdd hmem)).1 hmi
    have := hk.back j hjn i h1
    omega
  obtain ⟨u, hu, hut⟩ := h
  refine ⟨u, ?_, fun t ht hlt => ?_⟩
  · have e1 := wanted_put (ops := ops) oj a oi.dst v hnl
    have e2 := execOp_put (ops := ops) oj hsel a oi.dst v hnl
    rcases hu with ⟨hw, hp⟩ | ⟨hw, hp⟩
    · exact .inl ⟨by rw [e1]; exact hw, fun w hw' => by unfold pureAt; rw [e2]; exact hp w hw'⟩
    · exact .inr ⟨by rw [e1]; exact hw, hp⟩
  · rw [put_tmps, if_neg]
    · rw [put_size] at hlt
      exact hut t ht hlt
    · intro hdd
      have := sp.1 hmj
      simp [clash, hj, hi, ht, hdd] at this

theorem PureOk.wown {tab m : List Nat} {b0 b1 : Nat} (hk : WChk ops tab m b0 b1) {i : Nat} {o : Oper} (hi : ops[i]? = some o) (hmi : m.getD i 0 = 0) {a : Act} {v : Value}
    (hv : (Region.wanted o (yielded ops a.tmps) = true ∧ ∀ w, C w → pureAt P o a w v) ∨ (Region.wanted o (yielded ops a.tmps) = false ∧ v = undef)) : PureOk P ops C o (a.put o.dst v) := by
  have hin : i < ops.size := (Array.getElem?_eq_some_iff.1 hi).1
  have hsel : ∀ cs b, o.op ≠ .select cs b := fun cs b => Region.noSelect_spec hk.sel i o cs b hi
  have hnl : ∀ d, o.dst = some d → d ∉ o.looksAt ops := fun d hdd hmem => by
    have := looks_of hi hi hdd hmem
    rw [hk.self i hin hmi] at this
    cases this
  have e1 := wanted_put (ops := ops) o a o.dst v hnl
  have e2 := execOp_put (ops := ops) o hsel a o.dst v hnl
  refine ⟨v, ?_, fun t ht hlt => ?_⟩
  · rcases hv with ⟨hw, hp⟩ | ⟨hw, hp⟩
    · exact .inl ⟨by rw [e1]; exact hw, fun w hw' => by unfold pureAt; rw [e2]; exact hp w hw'⟩
    · exact .inr ⟨by rw [e1]; exact hw, hp⟩
  · rw [put_size] at hlt
    rw [put_tmps, if_pos ht, if_pos hlt]

theorem wpure_run {tab m : List Nat} {b0 b1 : Nat} (hk : WChk ops tab m b0 b1) {K : Act → Prop} : ∀ (d k : Nat) (a : Act), k + d = ops.size → wpPure P ops C K (ops.toList.drop k) (m.drop k) a → (∀ j o, ops[j]? = some o → j < k → m.getD j 0 = 0 → PureOk P ops C o a) →
    RunTo P ops C m K k a
  | 0, k, a, hkd, h, hp => by
    rw [List.drop_eq_nil_of_le (by simp; omega), List.drop_eq_nil_of_le (by rw [hk.len]; omega)] at h
    exact ⟨a, h, rfl, rfl, fun _ _ => rfl, fun j o hj hm => hp j o hj (by have := (Array.getElem?_eq_some_iff.1 hj).1; omega) hm⟩
  | d + 1, k, a, hkd, h, hp => by
    have hkn : k < ops.size := by omega
    have hl : k < ops.toList.length := by simpa using hkn
    have hml : k < m.length := by rw [hk.len]; exact hkn
    have ho : ops[k]? = some ops.toList[k] := by simp [Array.getElem?_eq_getElem hkn]
    have hmk : m.getD k 0 = m[k] := by simp [List.getD_eq_getElem?_getD, List.getElem?_eq_getElem hml]
    rw [List.drop_eq_getElem_cons hl, List.drop_eq_getElem_cons hml] at h
    cases hz : m[k] with
    | zero =>
      rw [hz] at h hmk
      have step : ∀ v, ((Region.wanted ops.toList[k] (yielded ops a.tmps) = true ∧ ∀ w, C w → pureAt P ops.toList[k] a w v) ∨ (Region.wanted ops.toList[k] (yielded ops a.tmps) = false ∧ v = undef)) →
          wpPure P ops C K (ops.toList.drop (k + 1)) (m.drop (k + 1)) (a.put ops.toList[k].dst v) → RunTo P ops C m K k a := fun v hv hn => by
        obtain ⟨F, h1, h2, h3, h4, h5⟩ := wpure_run hk d (k + 1) (a.put ops.toList[k].dst v) (by omega) hn (fun j o hj hjk hm => by
          by_cases hjk' : j = k
          · subst hjk'
            rw [ho] at hj
            cases hj
            exact PureOk.wown hk ho hmk hv
          · exact (hp j o hj (by omega) hm).wput hk ho hj hmk hm (by omega))
        exact ⟨F, h1, by rw [← h2, put_defs], by rw [← h3, put_size], fun t ht => by
          rw [← h4 t fun j o hj hjk hm => ht j o hj (by omega) hm, put_tmps, if_neg (ht k _ ho (Nat.le_refl _) hmk)], h5⟩
      simp only [wpPure] at h
      by_cases hw : Region.wanted ops.toList[k] (yielded ops a.tmps) = true
      · rw [if_pos hw] at h
        obtain ⟨v, hv, hn⟩ := h
        exact step v (.inl ⟨hw, hv⟩) hn
      · rw [if_neg hw] at h
        exact step undef (.inr ⟨by simpa using hw, rfl⟩) h
    | succ q =>
      rw [hz] at h hmk
      simp only [wpPure] at h
      obtain ⟨F, h1, h2, h3, h4, h5⟩ := wpure_run hk d (k + 1) a (by omega) h (fun j o hj hjk hm => hp j o hj (by
        have : j ≠ k := by rintro rfl; omega
        omega) hm)
      exact ⟨F, h1, h2, h3, fun t ht => h4 t fun j o hj hjk hm => ht j o hj (by omega) hm, h5⟩


/-- Where a piece's end leads. -/
def Then (Q : Exit → Act → World → Prop) (E : Act → World → Prop) : Exit → Act → World → Prop := fun x a w => match x with | .normal => E a w | x => Q x a w

/-- A REGION THAT DRAWS ITS ORDER, IN TWO PIECES. -/
theorem wp_region_chain2 {id : Nat} {l : List Oper} {a : Act} {w : World} (b : Nat) (m1 m2 : List Nat) (hm : P.follows .mixedOrders = true) (h1 : winChk l.toArray (ancTab l.toArray) m1 0 b = true) (h2 : winChk l.toArray (ancTab l.toArray) m2 b l.length = true) (hb : decide (0 < b ∧ b < l.length) = true)
    (C1 C2 : World → Prop) (hC : C1 w.drew)
    (h : wpPure P l.toArray C1 (fun F => wpChain P l.toArray C1 (Then Q fun a2 w2 => C2 w2 ∧ wpPure P l.toArray C2 (fun F2 => wpChain P l.toArray C2 Q (l.drop b) (m2.drop b) F2 w2) l m2 a2) (l.take b) (m1.take b) F w.drew) l m1 a) :
    (Code.region id l.toArray true).wp P Q a w := by
  have hk1 := wchk_of h1
  have hk2 := wchk_of h2
  obtain ⟨hb0, hb1⟩ := of_decide_eq_true hb
  refine wp_region_noPanic (wp_region_any hm ?_)
  obtain ⟨F, g1, g2, g3, g4, g5⟩ := wpure_run hk1 l.toArray.size 0 a (by omega) (by simpa using h) (fun j o _ hj _ => by omega)
  have hz : ∀ j, (Array.replicate l.toArray.size false).getD j false = false := fun j => by
    simp only [Array.getD_eq_getD_getElem?, Array.getElem?_replicate]
    split <;> rfl
  refine any_of_winv (Q := Q) (Q' := Then Q _) (fun h => h) hk1 ?_ l.toArray.size (Array.replicate l.toArray.size false) a w.drew 0 F ?_ ⟨by simp, (fun j hj => by rw [hz] at hj; cases hj), (fun j hj => by omega), fun j _ _ => hz j, Nat.le_refl _, (fun j _ hj => by omega), fun j _ _ _ => hz j, by simpa using g1, fun _ => hC, g2, g3,
    fun t ht => g4 t fun j o hj _ hmj => ht j o hj hmj (hz j), fun j o hj hmj _ => g5 j o hj hmj⟩
  · rintro fuel listed a2 w2 hle hs hlow hhigh ⟨hC2, h2'⟩
    obtain ⟨F2, f1, f2, f3, f4, f5⟩ := wpure_run hk2 l.toArray.size 0 a2 (by omega) (by simpa using h2') (fun j o _ hj _ => by omega)
    refine any_of_winv (Q := Q) (Q' := Q) (fun h => h) hk2 ?_ fuel listed a2 w2 b F2 hle ⟨hs, fun j hj d hd => ?_, hlow, fun j hj hj' => by simp at hj'; omega, Nat.le_refl _, (fun j hj hj' => by omega), fun j hj hj' _ => hhigh j hj (by simpa using hj'), ?_, fun _ => hC2, f2, f3,
      fun t ht => f4 t fun j o hj _ hmj => ht j o hj hmj (hhigh j (hk2.out j (Array.getElem?_eq_some_iff.1 hj).1 hmj).1 (Array.getElem?_eq_some_iff.1 hj).1), fun j o hj hmj _ => f5 j o hj hmj⟩
    · rintro fuel listed a3 w3 hle hs hlow hhigh hq
      have hall : ∀ j, j < l.toArray.size → listed.getD j false = true := fun j hj => hlow j (by simpa using hj)
      cases fuel with
      | zero =>
        refine ⟨?_, hq⟩
        refine List.eq_nil_iff_forall_not_mem.2 fun j hj => ?_
        obtain ⟨hun, o, ho, _⟩ := mem_ready.1 hj
        have hjn := (Array.getElem?_eq_some_iff.1 ho).1
        rw [(getD_both' (by rw [hs]; exact hjn) true).2 (hall j hjn)] at hun
        cases hun
      | succ fuel =>
        refine ⟨fun _ => hq, fun j hj => ?_⟩
        obtain ⟨hun, o, ho, _⟩ := mem_ready.1 hj
        have hjn := (Array.getElem?_eq_some_iff.1 ho).1
        rw [(getD_both' (by rw [hs]; exact hjn) true).2 (hall j hjn)] at hun
        cases hun
    · have hjn : j < l.toArray.size := by
        rcases Nat.lt_or_ge j l.toArray.size with h' | h'
        · exact h'
        · rw [Array.getD_eq_getD_getElem?, Array.getElem?_eq_none (by omega)] at hj; cases hj
      have hjb : j < b := by
        rcases Nat.lt_or_ge j b with h' | h'
        · exact h'
        · rw [hhigh j h' hjn] at hj; cases hj
      exact hlow d (by have := hk2.back j hjn d hd; omega)
    · simpa [List.take_of_length_le, hk2.len] using f1
  · unfold leftOf
    have := List.countP_le_length (p := fun i => !(Array.replicate l.toArray.size false).getD i true) (l := List.range l.toArray.size)
    simpa using this
end
end Go.Proofs.Ytdijaillcajpaaa
