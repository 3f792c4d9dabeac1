/-
  A region that draws its order, inside a fence of all functions: the operations that only read are run once, in the order of the text; then the others, which stand in one forced order.
-/
import Derived.Test.YtdijaillcajpaaaR0
import Derived.OrdersIn
import Derived.TacticsIn
namespace Go.Proofs.Ytdijaillcajpaaa
open Go

section
variable {Fe : Fence} {n : Nat} {P : Program} {ops : Array Oper} {C : World → Prop} {Q : Exit → Act → World → Prop}

/-- No deferred call among the operations. -/
def noDefer (ops : Array Oper) : Bool := ops.all fun o => match o.op with | .defer _ => false | _ => true
theorem noDefer_spec (h : noDefer ops = true) (i : Nat) (o : Oper) (ho : ops[i]? = some o) : ∀ c, o.op ≠ .defer c := by
  intro c e
  unfold noDefer at h
  rw [Array.all_eq_true] at h
  obtain ⟨hi, rfl⟩ := Array.getElem?_eq_some_iff.1 ho
  have := h i hi
  rw [e] at this
  cases this

/-- What is asked of an operation that only reads: one value, and the world that it got. -/
def pureUponI (_Fe : Fence) (_n : Nat) (_P : Program) (w : World) (v : Value) : Result Next → Prop
  | .ok (.value u) w' => w' = w ∧ u = v
  | .ok .skip w' => w' = w ∧ v = undef
  | _ => False
def pureAtI (Fe : Fence) (n : Nat) (P : Program) (o : Oper) (a : Act) (w : World) (v : Value) : Prop := pureUponI Fe n P w v ((execOp a.eval o).run P w)

/-- The operations that only read, in the order of the text. -/
def wpPureI (Fe : Fence) (n : Nat) (P : Program) (ops : Array Oper) (C : World → Prop) (K : Act → Prop) : List Oper → List Nat → Act → Prop
  | o :: r, 0 :: m, a => if Region.wanted o (yielded ops a.tmps) then ∃ v, (∀ w, C w → pureAtI Fe n P o a w v) ∧ wpPureI Fe n P ops C K r m (a.put o.dst v) else wpPureI Fe n P ops C K r m (a.put o.dst undef)
  | _ :: r, _ :: m, a => wpPureI Fe n P ops C K r m a
  | _, _, a => K a

/-- The others. -/
def wpChainI (Fe : Fence) (n : Nat) (P : Program) (ops : Array Oper) (C : World → Prop) (Q : Exit → Act → World → Prop) : List Oper → List Nat → Act → World → Prop
  | _ :: r, 0 :: m, a, w => wpChainI Fe n P ops C Q r m a w
  | o :: r, (k + 1) :: m, a, w =>
    if Region.wanted o (yielded ops a.tmps) then o.wpIn Fe n P a w (fun a' w' => (k = 0 → C w') ∧ wpChainI Fe n P ops C Q r m a' w') (NoPanic Q) else wpChainI Fe n P ops C Q r m (a.put o.dst undef) w
  | _, _, a, w => Q .normal a w

/-- In the frame F the operation yields what F holds of it. -/
def PureOkI (Fe : Fence) (n : Nat) (P : Program) (ops : Array Oper) (C : World → Prop) (o : Oper) (F : Act) : Prop :=
  ∃ v, ((Region.wanted o (yielded ops F.tmps) = true ∧ ∀ w, C w → pureAtI Fe n P o F w v) ∨ (Region.wanted o (yielded ops F.tmps) = false ∧ v = undef)) ∧ ∀ t, o.dst = some t → t < F.tmps.size → F.tmps[t]? = some v

theorem wp_transferI {o : Oper} {a F : Act} {w : World} {K K' : Act → World → Prop} (hfn : ∀ f, Fe.fn f) (hdf : ∀ c, o.op ≠ .defer c) (he : execOp a.eval o = execOp F.eval o)
    (h1 : ∀ v w', K (F.put o.dst v) w' → K' (a.put o.dst v) w') (h2 : ∀ d w', K ({ F with defers := d :: F.defers }.put o.dst undef) w' → K' ({ a with defers := d :: a.defers }.put o.dst undef) w')
    (h : o.wpIn Fe n P F w K (NoPanic Q)) : o.wpIn Fe n P a w K' (NoPanic Q) := by
  unfold Oper.wpIn at *
  refine ⟨fun f _ => hfn f, ?_⟩
  have h := h.2
  rw [Oper.semAt_eq _ _ _ hdf] at h ⊢
  rw [he]
  generalize (execOp F.eval o).run P w = r at *
  cases r with
  | ok n w' =>
    cases n with
    | value v => exact h1 _ _ h
    | skip => exact h1 _ _ h
    | defer d => exact h2 _ _ h
    | enter f args =>
      simp only [Oper.uponIn] at h ⊢
      exact ⟨h.1, CallsIn.mono h.2 fun e w'' he => by
        cases e with
        | returned v => exact h1 _ _ he
        | panicked c => exact (he : False).elim
        | outgrown => exact he⟩
    | row r args =>
      simp only [Oper.uponIn] at h ⊢
      exact ⟨h.1, RowsIn.mono h.2 fun v w'' he => h1 _ _ he⟩
    | round l f t as bo =>
      simp only [Oper.uponIn] at h ⊢
      exact ⟨h.1, RoundIn.mono h.2 fun e w'' he => by
        cases e with
        | returned v => exact h1 _ _ he
        | panicked c => exact (he : False).elim
        | outgrown => exact he⟩
    | _ => exact (h : False).elim
  | halt x w' =>
    cases x with
    | panic v => exact (h : False).elim
    | _ => exact (h : False).elim

/-- The state of a region on the way. -/
structure InvI (Fe : Fence) (n : Nat) (P : Program) (ops : Array Oper) (m : List Nat) (C : World → Prop) (Q : Exit → Act → World → Prop) (listed : Array Bool) (a : Act) (w : World) (p : Nat) (F : Act) : Prop where
  size : listed.size = ops.size
  closed : ∀ j, listed.getD j false = true → ∀ d ∈ rdeps ops j, listed.getD d false = true
  done : ∀ j, j < p → j < ops.size → m.getD j 0 ≠ 0 → listed.getD j false = true
  undone : ∀ j, p ≤ j → j < ops.size → m.getD j 0 ≠ 0 → listed.getD j false = false
  chain : wpChainI Fe n P ops C Q (ops.toList.drop p) (m.drop p) F w
  cls : (∃ j, j < ops.size ∧ m.getD j 0 = 0 ∧ listed.getD j false = false) → C w
  defers : a.defers = F.defers
  tmps : a.tmps.size = F.tmps.size
  agree : ∀ t, (∀ j o, ops[j]? = some o → m.getD j 0 = 0 → listed.getD j false = false → o.dst ≠ some t) → a.tmps[t]? = F.tmps[t]?
  pure : ∀ j o, ops[j]? = some o → m.getD j 0 = 0 → listed.getD j false = false → PureOkI Fe n P ops C o F

theorem chain_skipI {m : List Nat} {l : List Oper} {F : Act} {w : World} (hlen : m.length = l.length) : ∀ (d p : Nat), p + d ≤ l.length → (∀ i, p ≤ i → i < p + d → m.getD i 0 = 0) →
    wpChainI Fe n P ops C Q (l.drop p) (m.drop p) F w → wpChainI Fe n P ops C Q (l.drop (p + d)) (m.drop (p + d)) F w
  | 0, _, _, _, h => h
  | d + 1, p, hp, hz, h => by
    have h1 : p < l.length := by omega
    have h2 : p < m.length := by omega
    have h0 : m[p] = 0 := by simpa [List.getD_eq_getElem?_getD, List.getElem?_eq_getElem h2] using hz p (Nat.le_refl _) (by omega)
    rw [List.drop_eq_getElem_cons h1, List.drop_eq_getElem_cons h2, h0] at h
    have := chain_skipI hlen d (p + 1) (by omega) (fun i hi hi' => hz i (by omega) (by omega)) h
    rwa [show p + 1 + d = p + (d + 1) from by omega] at this

theorem InvI.final {m : List Nat} (hk : Chk ops m) {listed : Array Bool} {a : Act} {w : World} {p : Nat} {F : Act} (h : InvI Fe n P ops m C Q listed a w p F) (hall : ∀ j, j < ops.size → listed.getD j false = true) : NoPanic Q .normal a w := by
  have hp : ∀ i, p ≤ i → i < ops.size → m.getD i 0 = 0 := fun i hi hi' => by
    by_cases hm : m.getD i 0 = 0
    · exact hm
    · have := h.undone i hi hi' hm
      rw [hall i hi'] at this
      cases this
  have hF : a = F := by
    have : a.tmps = F.tmps := by
      apply Array.ext_getElem?
      intro t
      exact h.agree t fun j o ho _ hl _ => by
        rw [hall j (Array.getElem?_eq_some_iff.1 ho).1] at hl
        cases hl
    have h2 := h.defers
    cases a; cases F
    simp_all
  subst hF
  have hlen : m.length = ops.toList.length := by rw [hk.len]; simp
  have hch : wpChainI Fe n P ops C Q [] [] a w := by
    by_cases hpn : p ≤ ops.size
    · have := chain_skipI (Fe := Fe) (n := n) (C := C) (Q := Q) (P := P) (ops := ops) hlen (ops.size - p) p (by simp; omega) (fun i hi hi' => hp i hi (by omega)) h.chain
      rw [List.drop_eq_nil_of_le (by simp; omega), List.drop_eq_nil_of_le (by rw [hk.len]; omega)] at this
      exact this
    · have := h.chain
      rw [List.drop_eq_nil_of_le (by simp; omega), List.drop_eq_nil_of_le (by rw [hk.len]; omega)] at this
      exact this
  exact hch

/-- One operation that only reads has come up. -/
theorem InvI.readPut {m : List Nat} {listed : Array Bool} {a : Act} {w : World} {p : Nat} {F : Act} (h : InvI Fe n P ops m C Q listed a w p F) {i : Nat} {o : Oper} (ho : ops[i]? = some o) (hm : m.getD i 0 = 0)
    (hd : ∀ d ∈ rdeps ops i, listed.getD d false = true) {v : Value} (hv : ∀ t, o.dst = some t → t < F.tmps.size → F.tmps[t]? = some v) : InvI Fe n P ops m C Q (listed.setIfInBounds i true) (a.put o.dst v) w p F := by
  have hi : i < listed.size := by rw [h.size]; exact (Array.getElem?_eq_some_iff.1 ho).1
  have un : ∀ j, (listed.setIfInBounds i true).getD j false = false → j ≠ i ∧ listed.getD j false = false := fun j hj => by
    constructor
    · rintro rfl
      rw [(listed_set hi).2 (.inl rfl)] at hj
      cases hj
    · cases hl : listed.getD j false with
      | false => rfl
      | true => rw [(listed_set hi).2 (.inr hl)] at hj; cases hj
  refine ⟨by simp [h.size], fun j hj d hdj => (listed_set hi).2 (.inr ?_), fun j hj hj' hmj => (listed_set hi).2 (.inr (h.done j hj hj' hmj)), fun j hj hj' hmj => ?_, h.chain,
    fun ⟨j, hj, hmj, hlj⟩ => h.cls ⟨j, hj, hmj, (un j hlj).2⟩, by rw [put_defs]; exact h.defers, by rw [put_size]; exact h.tmps, fun t ht => ?_, fun j oj hoj hmj hlj => h.pure j oj hoj hmj (un j hlj).2⟩
  · rcases (listed_set hi).1 hj with rfl | hj
    · exact hd d hdj
    · exact h.closed j hj d hdj
  · have := h.undone j hj hj' hmj
    have hne : j ≠ i := by rintro rfl; exact hmj hm
    rw [getD_set_ne false (Ne.symm hne)]
    exact this
  · rw [put_tmps]
    split
    · rename_i hdst
      rw [h.tmps]
      split
      · rename_i hlt; exact (hv t hdst hlt).symm
      · rename_i hlt; exact (Array.getElem?_eq_none (by omega)).symm
    · rename_i hdst
      refine h.agree t fun j oj hoj hmj hlj => ?_
      by_cases hji : j = i
      · subst hji
        rw [ho] at hoj
        cases hoj
        exact hdst
      · exact ht j oj hoj hmj (by rw [getD_set_ne false (Ne.symm hji)]; exact hlj)

/-- One of the others has come up. -/
theorem InvI.doPut {m : List Nat} (hk : Chk ops m) {listed : Array Bool} {a : Act} {w : World} {p : Nat} {F : Act} (h : InvI Fe n P ops m C Q listed a w p F) {i : Nat} {o : Oper} (ho : ops[i]? = some o) (hm : m.getD i 0 ≠ 0) (hpi : p ≤ i)
    (hno : ∀ j, p ≤ j → j < i → m.getD j 0 = 0) (hd : ∀ d ∈ rdeps ops i, listed.getD d false = true) {v : Value} {w' : World} {ds ds' : List Deferred} (hds : ds = ds')
    (hch : wpChainI Fe n P ops C Q (ops.toList.drop (i + 1)) (m.drop (i + 1)) ({ F with defers := ds' }.put o.dst v) w') (hC : (∃ j, j < ops.size ∧ m.getD j 0 = 0 ∧ listed.getD j false = false) → C w') :
    InvI Fe n P ops m C Q (listed.setIfInBounds i true) ({ a with defers := ds }.put o.dst v) w' (i + 1) ({ F with defers := ds' }.put o.dst v) := by
  have hin : i < ops.size := (Array.getElem?_eq_some_iff.1 ho).1
  have hi : i < listed.size := by rw [h.size]; exact hin
  have un : ∀ j, (listed.setIfInBounds i true).getD j false = false → j ≠ i ∧ listed.getD j false = false := fun j hj => by
    constructor
    · rintro rfl
      rw [(listed_set hi).2 (.inl rfl)] at hj
      cases hj
    · cases hl : listed.getD j false with
      | false => rfl
      | true => rw [(listed_set hi).2 (.inr hl)] at hj; cases hj
  refine ⟨by simp [h.size], fun j hj d hdj => (listed_set hi).2 (.inr ?_), fun j hj hj' hmj => (listed_set hi).2 ?_, fun j hj hj' hmj => ?_, hch,
    fun ⟨j, hj, hmj, hlj⟩ => hC ⟨j, hj, hmj, (un j hlj).2⟩, by rw [put_defs, put_defs]; exact hds, by rw [put_size, put_size]; exact h.tmps, fun t ht => ?_, fun j oj hoj hmj hlj => ?_⟩
  · rcases (listed_set hi).1 hj with rfl | hj
    · exact hd d hdj
    · exact h.closed j hj d hdj
  · by_cases hji : j = i
    · exact .inl hji
    · right
      by_cases hjp : j < p
      · exact h.done j hjp hj' hmj
      · exact absurd (hno j (by omega) (by omega)) hmj
  · rw [getD_set_ne false (by omega)]
    exact h.undone j (by omega) hj' hmj
  · rw [put_tmps, put_tmps]
    have hsz : a.tmps.size = F.tmps.size := h.tmps
    by_cases hdst : o.dst = some t
    · rw [if_pos hdst, if_pos hdst, hsz]
    · rw [if_neg hdst, if_neg hdst]
      exact h.agree t fun j oj hoj hmj hlj => ht j oj hoj hmj (by
        have hji : j ≠ i := by rintro rfl; exact hm hmj
        rw [getD_set_ne false (Ne.symm hji)]
        exact hlj)
  · obtain ⟨hji, hlj⟩ := un j hlj
    have hjn : j < ops.size := (Array.getElem?_eq_some_iff.1 hoj).1
    have sp := pairChk_spec (hk.pair j i hjn hin) hji
    have hsel : ∀ cs b, oj.op ≠ .select cs b := fun cs b => Region.noSelect_spec hk.sel j oj cs b hoj
    have hnl : ∀ d, o.dst = some d → d ∉ oj.looksAt ops := fun d hdd hmem => by
      have := (sp.2.1 hmj (looks_of hoj ho hdd hmem)).2 hm
      rw [anc_listed h.closed _ _ _ hd this] at hlj
      cases hlj
    obtain ⟨u, hu, hut⟩ := h.pure j oj hoj hmj hlj
    refine ⟨u, ?_, fun t ht hlt => ?_⟩
    · have e1 := wanted_put (ops := ops) oj { F with defers := ds' } o.dst v hnl
      have e2 := execOp_put (ops := ops) oj hsel { F with defers := ds' } o.dst v hnl
      rcases hu with ⟨hw, hp⟩ | ⟨hw, hp⟩
      · exact .inl ⟨by rw [e1]; exact hw, fun w hw' => by unfold pureAtI; rw [e2]; exact hp w hw'⟩
      · exact .inr ⟨by rw [e1]; exact hw, hp⟩
    · rw [put_tmps, if_neg]
      · rw [put_size] at hlt
        exact hut t ht hlt
      · intro hdd
        have := sp.1 hmj
        simp [clash, hoj, ho, ht, hdd] at this

theorem any_of_invI {m : List Nat} (hfn : ∀ f, Fe.fn f) (hdf : noDefer ops = true) (hk : Chk ops m) : ∀ (fuel : Nat) (listed : Array Bool) (a : Act) (w : World) (p : Nat) (F : Act), leftOf ops listed ≤ fuel → InvI Fe n P ops m C Q listed a w p F →
    wpAnyIn Fe n P .any ops (NoPanic Q) fuel listed a w := by
  intro fuel
  induction fuel with
  | zero =>
    intro listed a w p F hle h
    have hall : ∀ j, j < ops.size → listed.getD j false = true := fun j hj => by
      have h0 : leftOf ops listed = 0 := by omega
      unfold leftOf at h0
      have := List.countP_eq_zero.1 h0 j (List.mem_range.2 hj)
      rw [← getD_both' (by rw [h.size]; exact hj)]
      simpa using this
    refine ⟨?_, h.final hk hall⟩
    refine List.eq_nil_iff_forall_not_mem.2 fun j hj => ?_
    obtain ⟨hun, o, ho, _⟩ := mem_ready.1 hj
    have hjn := (Array.getElem?_eq_some_iff.1 ho).1
    rw [(getD_both' (by rw [h.size]; exact hjn) true).2 (hall j hjn)] at hun
    cases hun
  | succ fuel ih =>
    intro listed a w p F hle h
    refine ⟨fun hr => h.final hk fun j hj => all_listed hk h.size hr (j + 1) j (by omega) hj, fun i hi => ?_⟩
    obtain ⟨hun, o, ho, hall⟩ := mem_ready.1 hi
    have hin : i < ops.size := (Array.getElem?_eq_some_iff.1 ho).1
    have hil : i < listed.size := by rw [h.size]; exact hin
    have hun' : listed.getD i false = false := (getD_both' hil false).1 hun
    have hd := rdeps_listed ho hall
    have hsel : ∀ cs b, o.op ≠ .select cs b := fun cs b => Region.noSelect_spec hk.sel i o cs b ho
    have hleft : leftOf ops (listed.setIfInBounds i true) ≤ fuel := by
      have := countP_lt (p := fun i => !listed.getD i true) (q := fun j => !(listed.setIfInBounds i true).getD j true) (x := i) (List.range ops.size) (fun y hy => by
        by_cases hyi : i = y
        · subst hyi
          simp [Array.getD_eq_getD_getElem?, hil] at hy
        · rw [getD_set_ne true hyi] at hy
          exact hy) (List.mem_range.2 hin) (by simpa using hun) (by simp [Array.getD_eq_getD_getElem?, hil])
      unfold leftOf at hle ⊢
      omega
    unfold wpOpIn
    simp only [ho]
    by_cases hm : m.getD i 0 = 0
    · -- it only reads
      obtain ⟨v, hv, hvt⟩ := h.pure i o ho hm hun'
      have hlook : ∀ t ∈ o.looksAt ops, a.tmps[t]? = F.tmps[t]? := fun t ht => h.agree t fun j oj hoj hmj hlj hdj => by
        have hl := looks_of ho hoj hdj ht
        have hjn := (Array.getElem?_eq_some_iff.1 hoj).1
        by_cases hji : i = j
        · subst hji
          rw [hk.self i hin hm] at hl
          cases hl
        · have := ((pairChk_spec (hk.pair i j hin hjn) hji).2.1 hm hl).1 hmj
          rw [hd j this] at hlj
          cases hlj
      obtain ⟨he, hwt⟩ := exec_agree (ops := ops) hsel hlook
      have hC : C w := h.cls ⟨i, hin, hm, hun'⟩
      have next := ih _ _ _ p F hleft (h.readPut ho hm hd hvt)
      rw [hwt]
      rcases hv with ⟨hw, hp⟩ | ⟨hw, rfl⟩
      · rw [if_pos hw]
        have h1 := hp w hC
        unfold pureAtI at h1
        unfold Oper.wpIn
        refine ⟨fun f _ => hfn f, ?_⟩
        rw [Oper.semAt_eq _ _ _ (noDefer_spec hdf i o ho), he]
        generalize (execOp F.eval o).run P w = r at h1
        cases r with
        | ok n w' =>
          cases n with
          | value u => obtain ⟨rfl, rfl⟩ := h1; exact next
          | skip => obtain ⟨rfl, rfl⟩ := h1; exact next
          | _ => exact (h1 : False).elim
        | halt x w' => exact (h1 : False).elim
      · rw [if_neg (by simp [hw])]
        exact ⟨fun f _ => hfn f, next⟩
    · -- it does something
      have hpi : p ≤ i := by
        rcases Nat.lt_or_ge i p with hlt | hge
        · rw [h.done i hlt hin hm] at hun'
          cases hun'
        · exact hge
      have hno : ∀ j, p ≤ j → j < i → m.getD j 0 = 0 := fun j hj hji => by
        by_cases hmj : m.getD j 0 = 0
        · exact hmj
        · have h1 := (pairChk_spec (hk.pair j i (by omega) hin) (by omega)).2.2.2.1 hmj hm hji
          have h2 := anc_listed h.closed _ _ _ hd h1
          rw [h.undone j hj (by omega) hmj] at h2
          cases h2
      have hlen : m.length = ops.toList.length := by rw [hk.len]; simp
      have hch := chain_skipI (Fe := Fe) (n := n) (P := P) (C := C) (Q := Q) (ops := ops) hlen (i - p) p (by simp; omega) (fun j hj hj' => hno j hj (by omega)) h.chain
      rw [show p + (i - p) = i from by omega] at hch
      have hil2 : i < ops.toList.length := by simpa using hin
      have him : i < m.length := by rw [hk.len]; exact hin
      have hoi : ops.toList[i] = o := by
        have := Array.getElem?_eq_some_iff.1 ho
        simpa using this.2
      obtain ⟨k, hkm⟩ : ∃ k, m[i] = k + 1 := by
        refine ⟨m[i] - 1, ?_⟩
        have : m.getD i 0 = m[i] := by simp [List.getD_eq_getElem?_getD, List.getElem?_eq_getElem him]
        omega
      rw [List.drop_eq_getElem_cons hil2, List.drop_eq_getElem_cons him, hoi, hkm] at hch
      have hk0 : m.getD i 0 = k + 1 := by rw [← hkm]; simp [List.getD_eq_getElem?_getD, List.getElem?_eq_getElem him]
      have hlook : ∀ t ∈ o.looksAt ops, a.tmps[t]? = F.tmps[t]? := fun t ht => h.agree t fun j oj hoj hmj hlj hdj => by
        have hl := looks_of ho hoj hdj ht
        have hjn := (Array.getElem?_eq_some_iff.1 hoj).1
        have hji : i ≠ j := by rintro rfl; exact hm hmj
        have h1 := (pairChk_spec (hk.pair i j hin hjn) hji).2.2.1 hm hmj hl
        rw [anc_listed h.closed _ _ _ hd h1] at hlj
        cases hlj
      obtain ⟨he, hwt⟩ := exec_agree (ops := ops) hsel hlook
      have hcls : ∀ w', (k = 0 → C w') → (∃ j, j < ops.size ∧ m.getD j 0 = 0 ∧ listed.getD j false = false) → C w' := fun w' hw' ⟨j, hjn, hmj, hlj⟩ => by
        by_cases hk1 : k = 0
        · exact hw' hk1
        · have hji : j ≠ i := by rintro rfl; exact hm hmj
          have h1 := (pairChk_spec (hk.pair j i hjn hin) hji).2.2.2.2 (by omega) hmj
          rw [anc_listed h.closed _ _ _ hd h1] at hlj
          cases hlj
      simp only [wpChainI] at hch
      rw [hwt]
      by_cases hw : Region.wanted o (yielded ops F.tmps) = true
      · rw [if_pos hw] at hch ⊢
        refine wp_transferI (P := P) (Q := Q) hfn (noDefer_spec hdf i o ho) he (fun v w' hh => ?_) (fun d w' hh => ?_) hch
        · exact ih _ _ _ (i + 1) _ hleft (h.doPut hk ho hm hpi hno hd (ds := a.defers) (ds' := F.defers) h.defers hh.2 (hcls w' hh.1))
        · exact ih _ _ _ (i + 1) _ hleft (h.doPut hk ho hm hpi hno hd (ds := d :: a.defers) (ds' := d :: F.defers) (by rw [h.defers]) hh.2 (hcls w' hh.1))
      · rw [if_neg hw] at hch ⊢
        exact ⟨fun f _ => hfn f, ih _ _ _ (i + 1) _ hleft (h.doPut hk ho hm hpi hno hd (ds := a.defers) (ds' := F.defers) h.defers hch h.cls)⟩

theorem PureOkI.put {m : List Nat} (hk : Chk ops m) {i j : Nat} {oi oj : Oper} (hi : ops[i]? = some oi) (hj : ops[j]? = some oj) (hmi : m.getD i 0 = 0) (hmj : m.getD j 0 = 0) (hji : j < i) {a : Act} {v : Value} (h : PureOkI Fe n P ops C oj a) : PureOkI Fe n P ops C oj (a.put oi.dst v) := by
  have hjn : j < ops.size := (Array.getElem?_eq_some_iff.1 hj).1
  have hin : i < ops.size := (Array.getElem?_eq_some_iff.1 hi).1
  have sp := pairChk_spec (hk.pair j i hjn hin) (by omega)
  have hsel : ∀ cs b, oj.op ≠ .select cs b := fun cs b => Region.noSelect_spec hk.sel j oj cs b hj
  have hnl : ∀ d, oi.dst = some d → d ∉ oj.looksAt ops := fun d hdd hmem => by
    have h1 := (sp.2.1 hmj (looks_of hj hi hdd hmem)).1 hmi
    have := hk.back j hjn i h1
    omega
  obtain ⟨u, hu, hut⟩ := h
  refine ⟨u, ?_, fun t ht hlt => ?_⟩
  · have e1 := wanted_put (ops := ops) oj a oi.dst v hnl
    have e2 := execOp_put (ops := ops) oj hsel a oi.dst v hnl
    rcases hu with ⟨hw, hp⟩ | ⟨hw, hp⟩
    · exact .inl ⟨by rw [e1]; exact hw, fun w hw' => by unfold pureAtI; rw [e2]; exact hp w hw'⟩
    · exact .inr ⟨by rw [e1]; exact hw, hp⟩
  · rw [put_tmps, if_neg]
    · rw [put_size] at hlt
      exact hut t ht hlt
    · intro hdd
      have := sp.1 hmj
      simp [clash, hj, hi, ht, hdd] at this

theorem PureOkI.own {m : List Nat} (hk : Chk ops m) {i : Nat} {o : Oper} (hi : ops[i]? = some o) (hmi : m.getD i 0 = 0) {a : Act} {v : Value}
    (hv : (Region.wanted o (yielded ops a.tmps) = true ∧ ∀ w, C w → pureAtI Fe n P o a w v) ∨ (Region.wanted o (yielded ops a.tmps) = false ∧ v = undef)) : PureOkI Fe n P ops C o (a.put o.dst v) := by
  have hin : i < ops.size := (Array.getElem?_eq_some_iff.1 hi).1
  have hsel : ∀ cs b, o.op ≠ .select cs b := fun cs b => Region.noSelect_spec hk.sel i o cs b hi
  have hnl : ∀ d, o.dst = some d → d ∉ o.looksAt ops := fun d hdd hmem => by
    have := looks_of hi hi hdd hmem
    rw [hk.self i hin hmi] at this
    cases this
  have e1 := wanted_put (ops := ops) o a o.dst v hnl
  have e2 := execOp_put (ops := ops) o hsel a o.dst v hnl
  refine ⟨v, ?_, fun t ht hlt => ?_⟩
  · rcases hv with ⟨hw, hp⟩ | ⟨hw, hp⟩
    · exact .inl ⟨by rw [e1]; exact hw, fun w hw' => by unfold pureAtI; rw [e2]; exact hp w hw'⟩
    · exact .inr ⟨by rw [e1]; exact hw, hp⟩
  · rw [put_size] at hlt
    rw [put_tmps, if_pos ht, if_pos hlt]

def RunToI (Fe : Fence) (n : Nat) (P : Program) (ops : Array Oper) (C : World → Prop) (m : List Nat) (K : Act → Prop) (k : Nat) (a : Act) : Prop :=
  ∃ F, K F ∧ a.defers = F.defers ∧ a.tmps.size = F.tmps.size ∧ (∀ t, (∀ j o, ops[j]? = some o → k ≤ j → m.getD j 0 = 0 → o.dst ≠ some t) → a.tmps[t]? = F.tmps[t]?) ∧ ∀ j o, ops[j]? = some o → m.getD j 0 = 0 → PureOkI Fe n P ops C o F

theorem pure_runI {m : List Nat} (hk : Chk ops m) {K : Act → Prop} : ∀ (d k : Nat) (a : Act), k + d = ops.size → wpPureI Fe n P ops C K (ops.toList.drop k) (m.drop k) a → (∀ j o, ops[j]? = some o → j < k → m.getD j 0 = 0 → PureOkI Fe n P ops C o a) →
    RunToI Fe n P ops C m K k a
  | 0, k, a, hkd, h, hp => by
    rw [List.drop_eq_nil_of_le (by simp; omega), List.drop_eq_nil_of_le (by rw [hk.len]; omega)] at h
    exact ⟨a, h, rfl, rfl, fun _ _ => rfl, fun j o hj hm => hp j o hj (by have := (Array.getElem?_eq_some_iff.1 hj).1; omega) hm⟩
  | d + 1, k, a, hkd, h, hp => by
    have hkn : k < ops.size := by omega
    have hl : k < ops.toList.length := by simpa using hkn
    have hml : k < m.length := by rw [hk.len]; exact hkn
    have ho : ops[k]? = some ops.toList[k] := by simp [Array.getElem?_eq_getElem hkn]
    have hmk : m.getD k 0 = m[k] := by simp [List.getD_eq_getElem?_getD, List.getElem?_eq_getElem hml]
    rw [List.drop_eq_getElem_cons hl, List.drop_eq_getElem_cons hml] at h
    cases hz : m[k] with
    | zero =>
      rw [hz] at h hmk
      have step : ∀ v, ((Region.wanted ops.toList[k] (yielded ops a.tmps) = true ∧ ∀ w, C w → pureAtI Fe n P ops.toList[k] a w v) ∨ (Region.wanted ops.toList[k] (yielded ops a.tmps) = false ∧ v = undef)) →
          wpPureI Fe n P ops C K (ops.toList.drop (k + 1)) (m.drop (k + 1)) (a.put ops.toList[k].dst v) → RunToI Fe n P ops C m K k a := fun v hv hn => by
        obtain ⟨F, h1, h2, h3, h4, h5⟩ := pure_runI hk d (k + 1) (a.put ops.toList[k].dst v) (by omega) hn (fun j o hj hjk hm => by
          by_cases hjk' : j = k
          · subst hjk'
            rw [ho] at hj
            cases hj
            exact PureOkI.own hk ho hmk hv
          · exact (hp j o hj (by omega) hm).put hk ho hj hmk hm (by omega))
        exact ⟨F, h1, by rw [← h2, put_defs], by rw [← h3, put_size], fun t ht => by
          rw [← h4 t fun j o hj hjk hm => ht j o hj (by omega) hm, put_tmps, if_neg (ht k _ ho (Nat.le_refl _) hmk)], h5⟩
      simp only [wpPureI] at h
      by_cases hw : Region.wanted ops.toList[k] (yielded ops a.tmps) = true
      · rw [if_pos hw] at h
        obtain ⟨v, hv, hn⟩ := h
        exact step v (.inl ⟨hw, hv⟩) hn
      · rw [if_neg hw] at h
        exact step undef (.inr ⟨by simpa using hw, rfl⟩) h
    | succ q =>
      rw [hz] at h hmk
      simp only [wpPureI] at h
      obtain ⟨F, h1, h2, h3, h4, h5⟩ := pure_runI hk d (k + 1) a (by omega) h (fun j o hj hjk hm => hp j o hj (by
        have : j ≠ k := by rintro rfl; omega
        omega) hm)
      exact ⟨F, h1, h2, h3, fun t ht => h4 t fun j o hj hjk hm => ht j o hj (by omega) hm, h5⟩

/-- A REGION THAT DRAWS ITS ORDER: first what only reads, then the others. -/
theorem wpIn_region_chain {id : Nat} {l : List Oper} {a : Act} {w : World} (m : List Nat) (hm : P.follows .mixedOrders = true) (hfn : ∀ f, Fe.fn f) (hdf : noDefer l.toArray = true) (hchk : chainChk l.toArray m = true) (C : World → Prop) (hC : C w.drew)
    (h : wpPureI Fe n P l.toArray C (fun F => wpChainI Fe n P l.toArray C Q l m F w.drew) l m a) : (Code.region id l.toArray true).wpIn Fe n P Q a w := by
  have hk := chk_of hchk
  refine Code.wpIn_mono NoPanic.imp (wpIn_region_any hm ?_)
  obtain ⟨F, h1, h2, h3, h4, h5⟩ := pure_runI hk l.toArray.size 0 a (by omega) (by simpa using h) (fun j o _ hj _ => by omega)
  have hz : ∀ j, (Array.replicate l.toArray.size false).getD j false = false := fun j => by
    simp only [Array.getD_eq_getD_getElem?, Array.getElem?_replicate]
    split <;> rfl
  refine any_of_invI hfn hdf hk l.toArray.size (Array.replicate l.toArray.size false) a w.drew 0 F ?_ ⟨by simp, (fun j hj => by rw [hz] at hj; cases hj), (fun j hj => by omega), fun j _ _ _ => hz j, by simpa using h1, fun _ => hC, h2, h3,
    fun t ht => h4 t fun j o hj _ hmj => ht j o hj hmj (hz j), fun j o hj hmj _ => h5 j o hj hmj⟩
  unfold leftOf
  have := List.countP_le_length (p := fun i => !(Array.replicate l.toArray.size false).getD i true) (l := List.range l.toArray.size)
  simpa using this

/-! The steps. -/
theorem pure_nilI {K : Act → Prop} {m : List Nat} {a : Act} (h : K a) : wpPureI Fe n P ops C K [] m a := by unfold wpPureI; exact h
theorem pure_skipI {K : Act → Prop} {k : Nat} {m : List Nat} {a : Act} {o : Oper} {r : List Oper} (h : wpPureI Fe n P ops C K r m a) : wpPureI Fe n P ops C K (o :: r) ((k + 1) :: m) a := by simp only [wpPureI]; exact h
theorem pure_stepI {K : Act → Prop} {m : List Nat} {a : Act} {o : Oper} {r : List Oper} (hg : o.guard = none) (v : Value) (hv : ∀ w, C w → pureAtI Fe n P o a w v) (h : wpPureI Fe n P ops C K r m (a.put o.dst v)) : wpPureI Fe n P ops C K (o :: r) (0 :: m) a := by
  simp only [wpPureI]
  rw [if_pos (by simp [Region.wanted, hg])]
  exact ⟨v, hv, h⟩
theorem pure_goI {K : Act → Prop} {m : List Nat} {a : Act} {o : Oper} {r : List Oper} (hg : o.guard = none) (h : ∃ v, (∀ w, C w → pureAtI Fe n P o a w v) ∧ wpPureI Fe n P ops C K r m (a.put o.dst v)) : wpPureI Fe n P ops C K (o :: r) (0 :: m) a := by
  obtain ⟨v, hv, h⟩ := h
  exact pure_stepI hg v hv h
theorem pure_kI {K : Act → Prop} {m : List Nat} {a : Act} {o : Oper} {r : List Oper} (hg : o.guard = none) (h : ∀ K' : Act → Prop, (∀ a, wpPureI Fe n P ops C K r m a → K' a) → ∃ v, (∀ w, C w → pureAtI Fe n P o a w v) ∧ K' (a.put o.dst v)) : wpPureI Fe n P ops C K (o :: r) (0 :: m) a :=
  pure_goI hg (h _ fun _ h => h)
/-- An operation under a guard that says no. -/
theorem pure_noI {K : Act → Prop} {m : List Nat} {a : Act} {o : Oper} {r : List Oper} (hg : Region.wanted o (yielded ops a.tmps) = false) (h : wpPureI Fe n P ops C K r m (a.put o.dst undef)) : wpPureI Fe n P ops C K (o :: r) (0 :: m) a := by
  simp only [wpPureI]
  rw [if_neg (by simp [hg])]
  exact h
theorem pure_yesI {K : Act → Prop} {m : List Nat} {a : Act} {o : Oper} {r : List Oper} (hg : Region.wanted o (yielded ops a.tmps) = true) (h : ∃ v, (∀ w, C w → pureAtI Fe n P o a w v) ∧ wpPureI Fe n P ops C K r m (a.put o.dst v)) : wpPureI Fe n P ops C K (o :: r) (0 :: m) a := by
  simp only [wpPureI]
  rw [if_pos hg]
  exact h
theorem pure_kyI {K : Act → Prop} {m : List Nat} {a : Act} {o : Oper} {r : List Oper} (hg : Region.wanted o (yielded ops a.tmps) = true) (h : ∀ K' : Act → Prop, (∀ a, wpPureI Fe n P ops C K r m a → K' a) → ∃ v, (∀ w, C w → pureAtI Fe n P o a w v) ∧ K' (a.put o.dst v)) : wpPureI Fe n P ops C K (o :: r) (0 :: m) a :=
  pure_yesI hg (h _ fun _ h => h)
theorem pure_knI {K : Act → Prop} {m : List Nat} {a : Act} {o : Oper} {r : List Oper} (hg : Region.wanted o (yielded ops a.tmps) = false) (h : ∀ K' : Act → Prop, (∀ a, wpPureI Fe n P ops C K r m a → K' a) → K' (a.put o.dst undef)) : wpPureI Fe n P ops C K (o :: r) (0 :: m) a :=
  pure_noI hg (h _ fun _ h => h)
theorem chain_skip0I {m : List Nat} {a : Act} {w : World} {o : Oper} {r : List Oper} (h : wpChainI Fe n P ops C Q r m a w) : wpChainI Fe n P ops C Q (o :: r) (0 :: m) a w := by simp only [wpChainI]; exact h
theorem chain_nilI {m : List Nat} {a : Act} {w : World} (h : Q .normal a w) : wpChainI Fe n P ops C Q [] m a w := by unfold wpChainI; exact h
theorem chain_stepI {k : Nat} {m : List Nat} {a : Act} {w : World} {o : Oper} {r : List Oper} (hg : o.guard = none)
    (h : ∀ K : Act → World → Prop, (∀ a' w', (k = 0 → C w') → wpChainI Fe n P ops C Q r m a' w' → K a' w') → o.wpIn Fe n P a w K (NoPanic Q)) : wpChainI Fe n P ops C Q (o :: r) ((k + 1) :: m) a w := by
  simp only [wpChainI]
  rw [if_pos (by simp [Region.wanted, hg])]
  exact h _ fun a' w' h1 h2 => ⟨h1, h2⟩
theorem chain_kyI {k : Nat} {m : List Nat} {a : Act} {w : World} {o : Oper} {r : List Oper} (hg : Region.wanted o (yielded ops a.tmps) = true)
    (h : ∀ K : Act → World → Prop, (∀ a' w', (k = 0 → C w') → wpChainI Fe n P ops C Q r m a' w' → K a' w') → o.wpIn Fe n P a w K (NoPanic Q)) : wpChainI Fe n P ops C Q (o :: r) ((k + 1) :: m) a w := by
  simp only [wpChainI]
  rw [if_pos hg]
  exact h _ fun a' w' h1 h2 => ⟨h1, h2⟩
theorem chain_knI {k : Nat} {m : List Nat} {a : Act} {w : World} {o : Oper} {r : List Oper} (hg : Region.wanted o (yielded ops a.tmps) = false)
    (h : ∀ K : Act → World → Prop, (∀ a' w', wpChainI Fe n P ops C Q r m a' w' → K a' w') → K (a.put o.dst undef) w) : wpChainI Fe n P ops C Q (o :: r) ((k + 1) :: m) a w := by
  simp only [wpChainI]
  rw [if_neg (by simp [hg])]
  exact h _ fun a' w' h2 => h2
end
attribute [go_sem] pureAtI pureUponI
end Go.Proofs.Ytdijaillcajpaaa
