/-
  A region that draws its order: the operations that only read are run once, in the order of the text; then the others, in every order that their edges leave open.
-/
import Derived.Test.YtdijaillcajpaaaR0
namespace Go.Proofs.Ytdijaillcajpaaa
open Go

def pairChkF (ops : Array Oper) (m : List Nat) (n i j : Nat) : Bool :=
  let ki := m.getD i 0
  let kj := m.getD j 0
  i == j ||
  ((ki != 0 || !clash ops i j) &&
   (ki != 0 || !looks ops i j || (if kj == 0 then (rdeps ops i).contains j else anc ops n j i)) &&
   (ki == 0 || kj != 0 || !looks ops i j || anc ops n i j) &&
   (decide (kj < 2) || ki != 0 || anc ops n j i))

/-- What is asked of a region: m says of each operation: 0 it only reads; 1 it does something; 2 it does something, behind all that only read. -/
def freeChk (ops : Array Oper) (m : List Nat) : Bool :=
  m.length == ops.size && Region.noSelect ops &&
  (List.range ops.size).all fun j => (m.getD j 0 != 0 || !looks ops j j) && (rdeps ops j).all (fun d => decide (d < j)) && (List.range ops.size).all fun i => pairChkF ops m ops.size i j

/-- Which of the operations T may come next. -/
def readyF (ops : Array Oper) (T : List Nat) : List Nat := T.filter fun i => T.all fun j => j == i || !anc ops ops.size i j
/-- The operations that do something. -/
def doersF (m : List Nat) : List Nat := (List.range m.length).filter fun i => m.getD i 0 != 0

section
variable {P : Program} {ops : Array Oper} {C : World → Prop} {Q : Exit → Act → World → Prop}

/-- The others, in whatever order. -/
def wpFree (P : Program) (ops : Array Oper) (C : World → Prop) (Q : Exit → Act → World → Prop) (m : List Nat) : Nat → List Nat → Act → World → Prop
  | 0, _, a, w => Q .normal a w
  | f + 1, T, a, w => ∀ i ∈ readyF ops T, ∀ o, ops[i]? = some o →
    if Region.wanted o (yielded ops a.tmps) then o.wp P a w (fun a' w' => (m.getD i 0 = 1 → C w') ∧ wpFree P ops C Q m f (T.erase i) a' w') (NoPanic Q) else wpFree P ops C Q m f (T.erase i) (a.put o.dst undef) w

theorem pairChkF_spec {m : List Nat} {n i j : Nat} (h : pairChkF ops m n i j = true) (hne : i ≠ j) :
    (m.getD i 0 = 0 → clash ops i j = false) ∧
    (m.getD i 0 = 0 → looks ops i j = true → (m.getD j 0 = 0 → j ∈ rdeps ops i) ∧ (m.getD j 0 ≠ 0 → anc ops n j i = true)) ∧
    (m.getD i 0 ≠ 0 → m.getD j 0 = 0 → looks ops i j = true → anc ops n i j = true) ∧
    (2 ≤ m.getD j 0 → m.getD i 0 = 0 → anc ops n j i = true) := by
  unfold pairChkF at h
  simp only [Bool.or_eq_true, beq_iff_eq, hne, false_or, Bool.and_eq_true, bne_iff_ne, ne_eq, Bool.not_eq_true', decide_eq_true_eq] at h
  obtain ⟨⟨⟨h1, h2⟩, h3⟩, h5⟩ := h
  refine ⟨fun a => ?_, fun a b => ⟨fun c => ?_, fun c => ?_⟩, fun a b c => ?_, fun a b => ?_⟩
  · rcases h1 with h1 | h1
    · exact absurd a h1
    · exact h1
  · rcases h2 with (h2 | h2) | h2
    · exact absurd a h2
    · rw [b] at h2; cases h2
    · rw [if_pos c] at h2; simpa using h2
  · rcases h2 with (h2 | h2) | h2
    · exact absurd a h2
    · rw [b] at h2; cases h2
    · rw [if_neg c] at h2; exact h2
  · rcases h3 with ((h3 | h3) | h3) | h3
    · exact absurd h3 a
    · exact absurd b h3
    · rw [c] at h3; cases h3
    · exact h3
  · rcases h5 with (h5 | h5) | h5
    · omega
    · exact absurd b h5
    · exact h5

/-- The state of a region on the way. -/
structure InvF (P : Program) (ops : Array Oper) (m : List Nat) (C : World → Prop) (Q : Exit → Act → World → Prop) (listed : Array Bool) (a : Act) (w : World) (T : List Nat) (F : Act) : Prop where
  size : listed.size = ops.size
  closed : ∀ j, listed.getD j false = true → ∀ d ∈ rdeps ops j, listed.getD d false = true
  todo : ∀ j, j ∈ T ↔ (j < ops.size ∧ m.getD j 0 ≠ 0 ∧ listed.getD j false = false)
  nodup : T.Nodup
  chain : wpFree P ops C Q m T.length T F w
  cls : (∃ j, j < ops.size ∧ m.getD j 0 = 0 ∧ listed.getD j false = false) → C w
  defers : a.defers = F.defers
  tmps : a.tmps.size = F.tmps.size
  agree : ∀ t, (∀ j o, ops[j]? = some o → m.getD j 0 = 0 → listed.getD j false = false → o.dst ≠ some t) → a.tmps[t]? = F.tmps[t]?
  pure : ∀ j o, ops[j]? = some o → m.getD j 0 = 0 → listed.getD j false = false → PureOk P ops C o F

structure ChkF (ops : Array Oper) (m : List Nat) : Prop where
  len : m.length = ops.size
  sel : Region.noSelect ops = true
  self : ∀ j, j < ops.size → m.getD j 0 = 0 → looks ops j j = false
  back : ∀ j, j < ops.size → ∀ d ∈ rdeps ops j, d < j
  pair : ∀ i j, i < ops.size → j < ops.size → pairChkF ops m ops.size i j = true

theorem chkF_of {m : List Nat} (h : freeChk ops m = true) : ChkF ops m := by
  unfold freeChk at h
  simp only [Bool.and_eq_true, beq_iff_eq, List.all_eq_true, List.mem_range, Bool.or_eq_true, bne_iff_ne, ne_eq, Bool.not_eq_true', decide_eq_true_eq] at h
  obtain ⟨⟨h1, h2⟩, h3⟩ := h
  exact ⟨h1, h2, fun j hj hm => (h3 j hj).1.1.resolve_left (fun h => h hm), fun j hj d hd => (h3 j hj).1.2 d hd, fun i j hi hj => (h3 j hj).2 i hi⟩

theorem all_listedF {m : List Nat} (hk : ChkF ops m) {listed : Array Bool} (hs : listed.size = ops.size) (hr : Region.ready .any ops listed = []) : ∀ n j, j < n → j < ops.size → listed.getD j false = true
  | 0, _, h, _ => by omega
  | n + 1, j, _, hj => by
    by_cases h : listed.getD j false = true
    · exact h
    · have := ready_of hs hj (by simpa using h) (fun d hd => all_listedF hk hs hr n d (by have := hk.back j hj d hd; omega) (by have := hk.back j hj d hd; omega))
      rw [hr] at this
      cases this

theorem InvF.final {m : List Nat} {listed : Array Bool} {a : Act} {w : World} {T : List Nat} {F : Act} (h : InvF P ops m C Q listed a w T F) (hall : ∀ j, j < ops.size → listed.getD j false = true) : NoPanic Q .normal a w := by
  have hT : T = [] := by
    refine List.eq_nil_iff_forall_not_mem.2 fun j hj => ?_
    obtain ⟨h1, _, h3⟩ := (h.todo j).1 hj
    rw [hall j h1] at h3
    cases h3
  have hF : a = F := by
    have : a.tmps = F.tmps := by
      apply Array.ext_getElem?
      intro t
      exact h.agree t fun j o ho _ hl _ => by
        rw [hall j (Array.getElem?_eq_some_iff.1 ho).1] at hl
        cases hl
    have h2 := h.defers
    cases a; cases F
    simp_all
  subst hF
  have := h.chain
  subst hT
  exact this

/-- One operation that only reads has come up. -/
theorem InvF.readPut {m : List Nat} {listed : Array Bool} {a : Act} {w : World} {T : List Nat} {F : Act} (h : InvF P ops m C Q listed a w T F) {i : Nat} {o : Oper} (ho : ops[i]? = some o) (hm : m.getD i 0 = 0)
    (hd : ∀ d ∈ rdeps ops i, listed.getD d false = true) {v : Value} (hv : ∀ t, o.dst = some t → t < F.tmps.size → F.tmps[t]? = some v) : InvF P ops m C Q (listed.setIfInBounds i true) (a.put o.dst v) w T F := by
  have hi : i < listed.size := by rw [h.size]; exact (Array.getElem?_eq_some_iff.1 ho).1
  have un : ∀ j, (listed.setIfInBounds i true).getD j false = false → j ≠ i ∧ listed.getD j false = false := fun j hj => by
    constructor
    · rintro rfl
      rw [(listed_set hi).2 (.inl rfl)] at hj
      cases hj
    · cases hl : listed.getD j false with
      | false => rfl
      | true => rw [(listed_set hi).2 (.inr hl)] at hj; cases hj
  refine ⟨by simp [h.size], fun j hj d hdj => (listed_set hi).2 (.inr ?_), fun j => ?_, h.nodup, h.chain,
    fun ⟨j, hj, hmj, hlj⟩ => h.cls ⟨j, hj, hmj, (un j hlj).2⟩, by rw [put_defs]; exact h.defers, by rw [put_size]; exact h.tmps, fun t ht => ?_, fun j oj hoj hmj hlj => h.pure j oj hoj hmj (un j hlj).2⟩
  · rcases (listed_set hi).1 hj with rfl | hj
    · exact hd d hdj
    · exact h.closed j hj d hdj
  · rw [h.todo j]
    constructor
    · rintro ⟨h1, h2, h3⟩
      have hne : j ≠ i := by rintro rfl; exact h2 hm
      exact ⟨h1, h2, by rw [getD_set_ne false (Ne.symm hne)]; exact h3⟩
    · rintro ⟨h1, h2, h3⟩
      exact ⟨h1, h2, (un j h3).2⟩
  · rw [put_tmps]
    split
    · rename_i hdst
      rw [h.tmps]
      split
      · rename_i hlt; exact (hv t hdst hlt).symm
      · rename_i hlt; exact (Array.getElem?_eq_none (by omega)).symm
    · rename_i hdst
      refine h.agree t fun j oj hoj hmj hlj => ?_
      by_cases hji : j = i
      · subst hji
        rw [ho] at hoj
        cases hoj
        exact hdst
      · exact ht j oj hoj hmj (by rw [getD_set_ne false (Ne.symm hji)]; exact hlj)

/-- One of the others has come up. -/
theorem InvF.doPut {m : List Nat} (hk : ChkF ops m) {listed : Array Bool} {a : Act} {w : World} {T : List Nat} {F : Act} (h : InvF P ops m C Q listed a w T F) {i : Nat} {o : Oper} (ho : ops[i]? = some o) (hm : m.getD i 0 ≠ 0) (hiT : i ∈ T)
    (hd : ∀ d ∈ rdeps ops i, listed.getD d false = true) {v : Value} {w' : World} {ds ds' : List Deferred} (hds : ds = ds')
    (hch : wpFree P ops C Q m (T.length - 1) (T.erase i) ({ F with defers := ds' }.put o.dst v) w') (hC : (∃ j, j < ops.size ∧ m.getD j 0 = 0 ∧ listed.getD j false = false) → C w') :
    InvF P ops m C Q (listed.setIfInBounds i true) ({ a with defers := ds }.put o.dst v) w' (T.erase i) ({ F with defers := ds' }.put o.dst v) := by
  have hin : i < ops.size := (Array.getElem?_eq_some_iff.1 ho).1
  have hi : i < listed.size := by rw [h.size]; exact hin
  have un : ∀ j, (listed.setIfInBounds i true).getD j false = false → j ≠ i ∧ listed.getD j false = false := fun j hj => by
    constructor
    · rintro rfl
      rw [(listed_set hi).2 (.inl rfl)] at hj
      cases hj
    · cases hl : listed.getD j false with
      | false => rfl
      | true => rw [(listed_set hi).2 (.inr hl)] at hj; cases hj
  refine ⟨by simp [h.size], fun j hj d hdj => (listed_set hi).2 (.inr ?_), fun j => ?_, h.nodup.erase i, by rw [List.length_erase_of_mem hiT]; exact hch,
    fun ⟨j, hj, hmj, hlj⟩ => hC ⟨j, hj, hmj, (un j hlj).2⟩, by rw [put_defs, put_defs]; exact hds, by rw [put_size, put_size]; exact h.tmps, fun t ht => ?_, fun j oj hoj hmj hlj => ?_⟩
  · rcases (listed_set hi).1 hj with rfl | hj
    · exact hd d hdj
    · exact h.closed j hj d hdj
  · rw [h.nodup.mem_erase_iff, h.todo j]
    constructor
    · rintro ⟨h0, h1, h2, h3⟩
      exact ⟨h1, h2, by rw [getD_set_ne false (Ne.symm h0)]; exact h3⟩
    · rintro ⟨h1, h2, h3⟩
      exact ⟨(un j h3).1, h1, h2, (un j h3).2⟩
  · rw [put_tmps, put_tmps]
    have hsz : a.tmps.size = F.tmps.size := h.tmps
    by_cases hdst : o.dst = some t
    · rw [if_pos hdst, if_pos hdst, hsz]
    · rw [if_neg hdst, if_neg hdst]
      exact h.agree t fun j oj hoj hmj hlj => ht j oj hoj hmj (by
        have hji : j ≠ i := by rintro rfl; exact hm hmj
        rw [getD_set_ne false (Ne.symm hji)]
        exact hlj)
  · obtain ⟨hji, hlj⟩ := un j hlj
    have hjn : j < ops.size := (Array.getElem?_eq_some_iff.1 hoj).1
    have sp := pairChkF_spec (hk.pair j i hjn hin) hji
    have hsel : ∀ cs b, oj.op ≠ .select cs b := fun cs b => Region.noSelect_spec hk.sel j oj cs b hoj
    have hnl : ∀ d, o.dst = some d → d ∉ oj.looksAt ops := fun d hdd hmem => by
      have := (sp.2.1 hmj (looks_of hoj ho hdd hmem)).2 hm
      rw [anc_listed h.closed _ _ _ hd this] at hlj
      cases hlj
    obtain ⟨u, hu, hut⟩ := h.pure j oj hoj hmj hlj
    refine ⟨u, ?_, fun t ht hlt => ?_⟩
    · have e1 := wanted_put (ops := ops) oj { F with defers := ds' } o.dst v hnl
      have e2 := execOp_put (ops := ops) oj hsel { F with defers := ds' } o.dst v hnl
      rcases hu with ⟨hw, hp⟩ | ⟨hw, hp⟩
      · exact .inl ⟨by rw [e1]; exact hw, fun w hw' => by unfold pureAt; rw [e2]; exact hp w hw'⟩
      · exact .inr ⟨by rw [e1]; exact hw, hp⟩
    · rw [put_tmps, if_neg]
      · rw [put_size] at hlt
        exact hut t ht hlt
      · intro hdd
        have := sp.1 hmj
        simp [clash, hoj, ho, ht, hdd] at this

theorem any_of_invF {m : List Nat} (hk : ChkF ops m) : ∀ (fuel : Nat) (listed : Array Bool) (a : Act) (w : World) (T : List Nat) (F : Act), leftOf ops listed ≤ fuel → InvF P ops m C Q listed a w T F →
    wpAny P .any ops (NoPanic Q) fuel listed a w := by
  intro fuel
  induction fuel with
  | zero =>
    intro listed a w T F hle h
    have hall : ∀ j, j < ops.size → listed.getD j false = true := fun j hj => by
      have h0 : leftOf ops listed = 0 := by omega
      unfold leftOf at h0
      have := List.countP_eq_zero.1 h0 j (List.mem_range.2 hj)
      rw [← getD_both' (by rw [h.size]; exact hj)]
      simpa using this
    refine ⟨?_, h.final hall⟩
    refine List.eq_nil_iff_forall_not_mem.2 fun j hj => ?_
    obtain ⟨hun, o, ho, _⟩ := mem_ready.1 hj
    have hjn := (Array.getElem?_eq_some_iff.1 ho).1
    rw [(getD_both' (by rw [h.size]; exact hjn) true).2 (hall j hjn)] at hun
    cases hun
  | succ fuel ih =>
    intro listed a w T F hle h
    refine ⟨fun hr => h.final fun j hj => all_listedF hk h.size hr (j + 1) j (by omega) hj, fun i hi => ?_⟩
    obtain ⟨hun, o, ho, hall⟩ := mem_ready.1 hi
    have hin : i < ops.size := (Array.getElem?_eq_some_iff.1 ho).1
    have hil : i < listed.size := by rw [h.size]; exact hin
    have hun' : listed.getD i false = false := (getD_both' hil false).1 hun
    have hd := rdeps_listed ho hall
    have hsel : ∀ cs b, o.op ≠ .select cs b := fun cs b => Region.noSelect_spec hk.sel i o cs b ho
    have hleft : leftOf ops (listed.setIfInBounds i true) ≤ fuel := by
      have := countP_lt (p := fun i => !listed.getD i true) (q := fun j => !(listed.setIfInBounds i true).getD j true) (x := i) (List.range ops.size) (fun y hy => by
        by_cases hyi : i = y
        · subst hyi
          simp [Array.getD_eq_getD_getElem?, hil] at hy
        · rw [getD_set_ne true hyi] at hy
          exact hy) (List.mem_range.2 hin) (by simpa using hun) (by simp [Array.getD_eq_getD_getElem?, hil])
      unfold leftOf at hle ⊢
      omega
    unfold wpOp
    simp only [ho]
    by_cases hm : m.getD i 0 = 0
    · -- it only reads
      obtain ⟨v, hv, hvt⟩ := h.pure i o ho hm hun'
      have hlook : ∀ t ∈ o.looksAt ops, a.tmps[t]? = F.tmps[t]? := fun t ht => h.agree t fun j oj hoj hmj hlj hdj => by
        have hl := looks_of ho hoj hdj ht
        have hjn := (Array.getElem?_eq_some_iff.1 hoj).1
        by_cases hji : i = j
        · subst hji
          rw [hk.self i hin hm] at hl
          cases hl
        · have := ((pairChkF_spec (hk.pair i j hin hjn) hji).2.1 hm hl).1 hmj
          rw [hd j this] at hlj
          cases hlj
      obtain ⟨he, hwt⟩ := exec_agree (ops := ops) hsel hlook
      have hC : C w := h.cls ⟨i, hin, hm, hun'⟩
      have next := ih _ _ _ T F hleft (h.readPut ho hm hd hvt)
      rw [hwt]
      rcases hv with ⟨hw, hp⟩ | ⟨hw, rfl⟩
      · rw [if_pos hw]
        left
        have h1 := hp w hC
        unfold pureAt at h1
        unfold Oper.wp
        rw [he]
        generalize (execOp F.eval o).run P w = r at h1
        cases r with
        | ok n w' =>
          cases n with
          | value u => obtain ⟨rfl, rfl⟩ := h1; exact next
          | skip => obtain ⟨rfl, rfl⟩ := h1; exact next
          | enter f args =>
            obtain ⟨rfl, h2⟩ := h1
            simp only [Oper.upon]
            exact Calls.mono h2 fun e w'' ⟨he', hw'⟩ => by subst he'; subst hw'; exact next
          | _ => exact (h1 : False).elim
        | halt x w' => exact (h1 : False).elim
      · rw [if_neg (by simp [hw])]
        exact next
    · -- it does something
      have hiT : i ∈ T := (h.todo i).2 ⟨hin, hm, hun'⟩
      have hrd : i ∈ readyF ops T := by
        unfold readyF
        refine List.mem_filter.2 ⟨hiT, List.all_eq_true.2 fun j hj => ?_⟩
        by_cases hji : j = i
        · simp [hji]
        · cases ha : anc ops ops.size i j with
          | false => simp
          | true =>
            have h1 := anc_listed h.closed _ _ _ hd ha
            rw [((h.todo j).1 hj).2.2] at h1
            cases h1
      have hTl : T.length = (T.length - 1) + 1 := by
        have := List.length_pos_of_mem hiT
        omega
      have hch := h.chain
      rw [hTl] at hch
      have hch := hch i hrd o ho
      have hlook : ∀ t ∈ o.looksAt ops, a.tmps[t]? = F.tmps[t]? := fun t ht => h.agree t fun j oj hoj hmj hlj hdj => by
        have hl := looks_of ho hoj hdj ht
        have hjn := (Array.getElem?_eq_some_iff.1 hoj).1
        have hji : i ≠ j := by rintro rfl; exact hm hmj
        have h1 := (pairChkF_spec (hk.pair i j hin hjn) hji).2.2.1 hm hmj hl
        rw [anc_listed h.closed _ _ _ hd h1] at hlj
        cases hlj
      obtain ⟨he, hwt⟩ := exec_agree (ops := ops) hsel hlook
      have hcls : ∀ w', (m.getD i 0 = 1 → C w') → (∃ j, j < ops.size ∧ m.getD j 0 = 0 ∧ listed.getD j false = false) → C w' := fun w' hw' ⟨j, hjn, hmj, hlj⟩ => by
        by_cases hk1 : m.getD i 0 = 1
        · exact hw' hk1
        · have hji : j ≠ i := by rintro rfl; exact hm hmj
          have h1 := (pairChkF_spec (hk.pair j i hjn hin) hji).2.2.2 (by omega) hmj
          rw [anc_listed h.closed _ _ _ hd h1] at hlj
          cases hlj
      rw [hwt]
      by_cases hw : Region.wanted o (yielded ops F.tmps) = true
      · rw [if_pos hw] at hch ⊢
        left
        refine wp_transfer (P := P) (Q := Q) he (fun v w' hh => ?_) (fun d w' hh => ?_) hch
        · exact ih _ _ _ (T.erase i) _ hleft (h.doPut hk ho hm hiT hd (ds := a.defers) (ds' := F.defers) h.defers hh.2 (hcls w' hh.1))
        · exact ih _ _ _ (T.erase i) _ hleft (h.doPut hk ho hm hiT hd (ds := d :: a.defers) (ds' := d :: F.defers) (by rw [h.defers]) hh.2 (hcls w' hh.1))
      · rw [if_neg hw] at hch ⊢
        exact ih _ _ _ (T.erase i) _ hleft (h.doPut hk ho hm hiT hd (ds := a.defers) (ds' := F.defers) h.defers hch h.cls)

theorem PureOk.putF {m : List Nat} (hk : ChkF ops m) {i j : Nat} {oi oj : Oper} (hi : ops[i]? = some oi) (hj : ops[j]? = some oj) (hmi : m.getD i 0 = 0) (hmj : m.getD j 0 = 0) (hji : j < i) {a : Act} {v : Value} (h : PureOk P ops C oj a) : PureOk P ops C oj (a.put oi.dst v) := by
  have hjn : j < ops.size := (Array.getElem?_eq_some_iff.1 hj).1
  have hin : i < ops.size := (Array.getElem?_eq_some_iff.1 hi).1
  have sp := pairChkF_spec (hk.pair j i hjn hin) (by omega)
  have hsel : ∀ cs b, oj.op ≠ .select cs b := fun cs b => Region.noSelect_spec hk.sel j oj cs b hj
  have hnl : ∀ d, oi.dst = some d → d ∉ oj.looksAt ops := fun d hdd hmem => by
    have h1 := (sp.2.1 hmj (looks_of hj hi hdd hmem)).1 hmi
    have := hk.back j hjn i h1
    omega
  obtain ⟨u, hu, hut⟩ := h
  refine ⟨u, ?_, fun t ht hlt => ?_⟩
  · have e1 := wanted_put (ops := ops) oj a oi.dst v hnl
    have e2 := execOp_put (ops := ops) oj hsel a oi.dst v hnl
    rcases hu with ⟨hw, hp⟩ | ⟨hw, hp⟩
    · exact .inl ⟨by rw [e1]; exact hw, fun w hw' => by unfold pureAt; rw [e2]; exact hp w hw'⟩
    · exact .inr ⟨by rw [e1]; exact hw, hp⟩
  · rw [put_tmps, if_neg]
    · rw [put_size] at hlt
      exact hut t ht hlt
    · intro hdd
      have := sp.1 hmj
      simp [clash, hj, hi, ht, hdd] at this

theorem PureOk.ownF {m : List Nat} (hk : ChkF ops m) {i : Nat} {o : Oper} (hi : ops[i]? = some o) (hmi : m.getD i 0 = 0) {a : Act} {v : Value}
    (hv : (Region.wanted o (yielded ops a.tmps) = true ∧ ∀ w, C w → pureAt P o a w v) ∨ (Region.wanted o (yielded ops a.tmps) = false ∧ v = undef)) : PureOk P ops C o (a.put o.dst v) := by
  have hin : i < ops.size := (Array.getElem?_eq_some_iff.1 hi).1
  have hsel : ∀ cs b, o.op ≠ .select cs b := fun cs b => Region.noSelect_spec hk.sel i o cs b hi
  have hnl : ∀ d, o.dst = some d → d ∉ o.looksAt ops := fun d hdd hmem => by
    have := looks_of hi hi hdd hmem
    rw [hk.self i hin hmi] at this
    cases this
  have e1 := wanted_put (ops := ops) o a o.dst v hnl
  have e2 := execOp_put (ops := ops) o hsel a o.dst v hnl
  refine ⟨v, ?_, fun t ht hlt => ?_⟩
  · rcases hv with ⟨hw, hp⟩ | ⟨hw, hp⟩
    · exact .inl ⟨by rw [e1]; exact hw, fun w hw' => by unfold pureAt; rw [e2]; exact hp w hw'⟩
    · exact .inr ⟨by rw [e1]; exact hw, hp⟩
  · rw [put_size] at hlt
    rw [put_tmps, if_pos ht, if_pos hlt]

def RunToF (P : Program) (ops : Array Oper) (C : World → Prop) (m : List Nat) (K : Act → Prop) (k : Nat) (a : Act) : Prop :=
  ∃ F, K F ∧ a.defers = F.defers ∧ a.tmps.size = F.tmps.size ∧ (∀ t, (∀ j o, ops[j]? = some o → k ≤ j → m.getD j 0 = 0 → o.dst ≠ some t) → a.tmps[t]? = F.tmps[t]?) ∧ ∀ j o, ops[j]? = some o → m.getD j 0 = 0 → PureOk P ops C o F

theorem pure_runF {m : List Nat} (hk : ChkF ops m) {K : Act → Prop} : ∀ (d k : Nat) (a : Act), k + d = ops.size → wpPure P ops C K (ops.toList.drop k) (m.drop k) a → (∀ j o, ops[j]? = some o → j < k → m.getD j 0 = 0 → PureOk P ops C o a) →
    RunToF P ops C m K k a
  | 0, k, a, hkd, h, hp => by
    rw [List.drop_eq_nil_of_le (by simp; omega), List.drop_eq_nil_of_le (by rw [hk.len]; omega)] at h
    exact ⟨a, h, rfl, rfl, fun _ _ => rfl, fun j o hj hm => hp j o hj (by have := (Array.getElem?_eq_some_iff.1 hj).1; omega) hm⟩
  | d + 1, k, a, hkd, h, hp => by
    have hkn : k < ops.size := by omega
    have hl : k < ops.toList.length := by simpa using hkn
    have hml : k < m.length := by rw [hk.len]; exact hkn
    have ho : ops[k]? = some ops.toList[k] := by simp [Array.getElem?_eq_getElem hkn]
    have hmk : m.getD k 0 = m[k] := by simp [List.getD_eq_getElem?_getD, List.getElem?_eq_getElem hml]
    rw [List.drop_eq_getElem_cons hl, List.drop_eq_getElem_cons hml] at h
    cases hz : m[k] with
    | zero =>
      rw [hz] at h hmk
      have step : ∀ v, ((Region.wanted ops.toList[k] (yielded ops a.tmps) = true ∧ ∀ w, C w → pureAt P ops.toList[k] a w v) ∨ (Region.wanted ops.toList[k] (yielded ops a.tmps) = false ∧ v = undef)) →
          wpPure P ops C K (ops.toList.drop (k + 1)) (m.drop (k + 1)) (a.put ops.toList[k].dst v) → RunToF P ops C m K k a := fun v hv hn => by
        obtain ⟨F, h1, h2, h3, h4, h5⟩ := pure_runF hk d (k + 1) (a.put ops.toList[k].dst v) (by omega) hn (fun j o hj hjk hm => by
          by_cases hjk' : j = k
          · subst hjk'
            rw [ho] at hj
            cases hj
            exact PureOk.ownF hk ho hmk hv
          · exact (hp j o hj (by omega) hm).putF hk ho hj hmk hm (by omega))
        exact ⟨F, h1, by rw [← h2, put_defs], by rw [← h3, put_size], fun t ht => by
          rw [← h4 t fun j o hj hjk hm => ht j o hj (by omega) hm, put_tmps, if_neg (ht k _ ho (Nat.le_refl _) hmk)], h5⟩
      simp only [wpPure] at h
      by_cases hw : Region.wanted ops.toList[k] (yielded ops a.tmps) = true
      · rw [if_pos hw] at h
        obtain ⟨v, hv, hn⟩ := h
        exact step v (.inl ⟨hw, hv⟩) hn
      · rw [if_neg hw] at h
        exact step undef (.inr ⟨by simpa using hw, rfl⟩) h
    | succ q =>
      rw [hz] at h hmk
      simp only [wpPure] at h
      obtain ⟨F, h1, h2, h3, h4, h5⟩ := pure_runF hk d (k + 1) a (by omega) h (fun j o hj hjk hm => hp j o hj (by
        have : j ≠ k := by rintro rfl; omega
        omega) hm)
      exact ⟨F, h1, h2, h3, fun t ht => h4 t fun j o hj hjk hm => ht j o hj (by omega) hm, h5⟩

theorem getD_range (m : List Nat) (j : Nat) : j ∈ doersF m ↔ (j < m.length ∧ m.getD j 0 ≠ 0) := by
  simp [doersF]
theorem doersF_nodup (m : List Nat) : (doersF m).Nodup := List.Pairwise.filter _ List.nodup_range

/-- A REGION THAT DRAWS ITS ORDER: first what only reads, then the others in whatever order. -/
theorem wp_region_free {id : Nat} {l : List Oper} {a : Act} {w : World} (m : List Nat) (hm : P.follows .mixedOrders = true) (hchk : freeChk l.toArray m = true) (C : World → Prop) (hC : C w.drew)
    (T : List Nat) (hT : doersF m = T) (h : wpPure P l.toArray C (fun F => wpFree P l.toArray C Q m T.length T F w.drew) l m a) : (Code.region id l.toArray true).wp P Q a w := by
  subst hT
  have hk := chkF_of hchk
  refine wp_region_noPanic (wp_region_any hm ?_)
  obtain ⟨F, h1, h2, h3, h4, h5⟩ := pure_runF hk l.toArray.size 0 a (by omega) (by simpa using h) (fun j o _ hj _ => by omega)
  have hz : ∀ j, (Array.replicate l.toArray.size false).getD j false = false := fun j => by
    simp only [Array.getD_eq_getD_getElem?, Array.getElem?_replicate]
    split <;> rfl
  refine any_of_invF hk l.toArray.size (Array.replicate l.toArray.size false) a w.drew (doersF m) F ?_ ⟨by simp, (fun j hj => by rw [hz] at hj; cases hj), (fun j => by rw [getD_range, hk.len, hz]; simp), doersF_nodup m, h1, fun _ => hC, h2, h3,
    fun t ht => h4 t fun j o hj _ hmj => ht j o hj hmj (hz j), fun j o hj hmj _ => h5 j o hj hmj⟩
  unfold leftOf
  have := List.countP_le_length (p := fun i => !(Array.replicate l.toArray.size false).getD i true) (l := List.range l.toArray.size)
  simpa using this

/-! The steps. -/
theorem free_nil {m T : List Nat} {a : Act} {w : World} (h : Q .normal a w) : wpFree P ops C Q m 0 T a w := h
/-- One that comes next. -/
def FreeAt (P : Program) (ops : Array Oper) (C : World → Prop) (Q : Exit → Act → World → Prop) (m : List Nat) (f : Nat) (T : List Nat) (a : Act) (w : World) (i : Nat) : Prop :=
  ∀ o, ops[i]? = some o → if Region.wanted o (yielded ops a.tmps) then o.wp P a w (fun a' w' => (m.getD i 0 = 1 → C w') ∧ wpFree P ops C Q m f (T.erase i) a' w') (NoPanic Q) else wpFree P ops C Q m f (T.erase i) (a.put o.dst undef) w
theorem free_one {m T : List Nat} {f : Nat} {a : Act} {w : World} (i : Nat) (hr : readyF ops T = [i]) (h : FreeAt P ops C Q m f T a w i) : wpFree P ops C Q m (f + 1) T a w := by
  intro j hj
  rw [hr] at hj
  simp at hj
  subst hj
  exact h
theorem free_two {m T : List Nat} {f : Nat} {a : Act} {w : World} (i j : Nat) (hr : readyF ops T = [i, j]) (h : FreeAt P ops C Q m f T a w i) (h' : FreeAt P ops C Q m f T a w j) : wpFree P ops C Q m (f + 1) T a w := by
  intro k hk
  rw [hr] at hk
  simp at hk
  rcases hk with rfl | rfl
  · exact h
  · exact h'
theorem free_at {m T T' : List Nat} {f : Nat} {a : Act} {w : World} {i : Nat} (o : Oper) (ho : ops[i]? = some o) (hg : o.guard = none) (k : Nat) (hk : m.getD i 0 = k) (hT : T.erase i = T')
    (h : ∀ K : Act → World → Prop, (∀ a' w', (k = 1 → C w') → wpFree P ops C Q m f T' a' w' → K a' w') → o.wp P a w K (NoPanic Q)) : FreeAt P ops C Q m f T a w i := by
  subst hk hT
  intro o' ho'
  rw [ho] at ho'
  cases ho'
  rw [if_pos (by simp [Region.wanted, hg])]
  exact h _ fun a' w' h1 h2 => ⟨h1, h2⟩
end
end Go.Proofs.Ytdijaillcajpaaa
