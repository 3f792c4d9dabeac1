/-
  A calm region that draws its order: each of its operations yields one value in every world of a class, and leaves a world of the class (so may its calls): it is walked once, in the order of the text.
-/
import Derived.Test.YtdijaillcajpaaaR0
namespace Go.Proofs.Ytdijaillcajpaaa
open Go

section
variable {P : Program} {ops : Array Oper} {C : World → Prop} {Q : Exit → Act → World → Prop}

/-- What is asked of an operation: one value, and a world of the class. -/
def calmUpon (P : Program) (C : World → Prop) (v : Value) : Result Next → Prop
  | .ok (.value u) w' => C w' ∧ u = v
  | .ok .skip w' => C w' ∧ v = undef
  | .ok (.enter f args) w' => Calls P f args w' (fun e w'' => e = .returned v ∧ C w'')
  | _ => False
def calmAt (P : Program) (C : World → Prop) (o : Oper) (a : Act) (w : World) (v : Value) : Prop := calmUpon P C v ((execOp a.eval o).run P w)
/-- The operations in the order of the text. -/
def wpCalm (P : Program) (ops : Array Oper) (C : World → Prop) (K : Act → Prop) : List Oper → Act → Prop
  | o :: r, a => if Region.wanted o (yielded ops a.tmps) then ∃ v, (∀ w, C w → calmAt P C o a w v) ∧ wpCalm P ops C K r (a.put o.dst v) else wpCalm P ops C K r (a.put o.dst undef)
  | [], a => K a
/-- In the frame F the operation yields what F holds of it. -/
def CalmOk (P : Program) (ops : Array Oper) (C : World → Prop) (o : Oper) (F : Act) : Prop :=
  ∃ v, ((Region.wanted o (yielded ops F.tmps) = true ∧ ∀ w, C w → calmAt P C o F w v) ∨ (Region.wanted o (yielded ops F.tmps) = false ∧ v = undef)) ∧ ∀ t, o.dst = some t → t < F.tmps.size → F.tmps[t]? = some v
structure ChkC (ops : Array Oper) : Prop where
  sel : Region.noSelect ops = true
  self : ∀ j, j < ops.size → looks ops j j = false
  back : ∀ j, j < ops.size → ∀ d ∈ rdeps ops j, d < j
  clash : ∀ i j, i < ops.size → j < ops.size → i ≠ j → clash ops i j = false
  looks : ∀ i j, i < ops.size → j < ops.size → i ≠ j → looks ops i j = true → j ∈ rdeps ops i
def calmChk (ops : Array Oper) : Bool := chainChk ops (List.replicate ops.size 0)
theorem chkC_of (h : calmChk ops = true) : ChkC ops := by
  have hk := chk_of h
  have hz : ∀ j, (List.replicate ops.size 0).getD j 0 = 0 := fun j => by
    simp only [List.getD_eq_getElem?_getD, List.getElem?_replicate]
    split <;> rfl
  exact ⟨hk.sel, fun j hj => hk.self j hj (hz j), hk.back, fun i j hi hj hne => (pairChk_spec (hk.pair i j hi hj) hne).1 (hz i), fun i j hi hj hne hl => ((pairChk_spec (hk.pair i j hi hj) hne).2.1 (hz i) hl).1 (hz j)⟩
structure InvC (P : Program) (ops : Array Oper) (C : World → Prop) (listed : Array Bool) (a : Act) (w : World) (F : Act) : Prop where
  size : listed.size = ops.size
  closed : ∀ j, listed.getD j false = true → ∀ d ∈ rdeps ops j, listed.getD d false = true
  cls : C w
  defers : a.defers = F.defers
  tmps : a.tmps.size = F.tmps.size
  agree : ∀ t, (∀ j o, ops[j]? = some o → listed.getD j false = false → o.dst ≠ some t) → a.tmps[t]? = F.tmps[t]?
  pure : ∀ j o, ops[j]? = some o → listed.getD j false = false → CalmOk P ops C o F
theorem InvC.final {listed : Array Bool} {a : Act} {w : World} {F : Act} (h : InvC P ops C listed a w F) (hfin : ∀ w, C w → Q .normal F w) (hall : ∀ j, j < ops.size → listed.getD j false = true) : NoPanic Q .normal a w := by
  have hF : a = F := by
    have : a.tmps = F.tmps := by
      apply Array.ext_getElem?
      intro t
      exact h.agree t fun j o ho hl _ => by
        rw [hall j (Array.getElem?_eq_some_iff.1 ho).1] at hl
        cases hl
    have h2 := h.defers
    cases a; cases F
    simp_all
  subst hF
  exact hfin w h.cls
theorem InvC.put {listed : Array Bool} {a : Act} {w w' : World} {F : Act} (h : InvC P ops C listed a w F) {i : Nat} {o : Oper} (ho : ops[i]? = some o)
    (hd : ∀ d ∈ rdeps ops i, listed.getD d false = true) {v : Value} (hv : ∀ t, o.dst = some t → t < F.tmps.size → F.tmps[t]? = some v) (hC : C w') : InvC P ops C (listed.setIfInBounds i true) (a.put o.dst v) w' F := by
  have hi : i < listed.size := by rw [h.size]; exact (Array.getElem?_eq_some_iff.1 ho).1
  have un : ∀ j, (listed.setIfInBounds i true).getD j false = false → j ≠ i ∧ listed.getD j false = false := fun j hj => by
    constructor
    · rintro rfl
      rw [(listed_set hi).2 (.inl rfl)] at hj
      cases hj
    · cases hl : listed.getD j false with
      | false => rfl
      | true => rw [(listed_set hi).2 (.inr hl)] at hj; cases hj
  refine ⟨by simp [h.size], fun j hj d hdj => (listed_set hi).2 (.inr ?_), hC, by rw [put_defs]; exact h.defers, by rw [put_size]; exact h.tmps, fun t ht => ?_, fun j oj hoj hlj => h.pure j oj hoj (un j hlj).2⟩
  · rcases (listed_set hi).1 hj with rfl | hj
    · exact hd d hdj
    · exact h.closed j hj d hdj
  · rw [put_tmps]
    split
    · rename_i hdst
      rw [h.tmps]
      split
      · rename_i hlt; exact (hv t hdst hlt).symm
      · rename_i hlt; exact (Array.getElem?_eq_none (by omega)).symm
    · rename_i hdst
      refine h.agree t fun j oj hoj hlj => ?_
      by_cases hji : j = i
      · subst hji
        rw [ho] at hoj
        cases hoj
        exact hdst
      · exact ht j oj hoj (by rw [getD_set_ne false (Ne.symm hji)]; exact hlj)
theorem all_listedC (hk : ChkC ops) {listed : Array Bool} (hs : listed.size = ops.size) (hr : Region.ready .any ops listed = []) : ∀ n j, j < n → j < ops.size → listed.getD j false = true
  | 0, _, h, _ => by omega
  | n + 1, j, _, hj => by
    by_cases h : listed.getD j false = true
    · exact h
    · have := ready_of hs hj (by simpa using h) (fun d hd => all_listedC hk hs hr n d (by have := hk.back j hj d hd; omega) (by have := hk.back j hj d hd; omega))
      rw [hr] at this
      cases this
theorem any_of_invC (hk : ChkC ops) : ∀ (fuel : Nat) (listed : Array Bool) (a : Act) (w : World) (F : Act), leftOf ops listed ≤ fuel → InvC P ops C listed a w F → (∀ w, C w → Q .normal F w) →
    wpAny P .any ops (NoPanic Q) fuel listed a w := by
  intro fuel
  induction fuel with
  | zero =>
    intro listed a w F hle h hfin
    have hall : ∀ j, j < ops.size → listed.getD j false = true := fun j hj => by
      have h0 : leftOf ops listed = 0 := by omega
      unfold leftOf at h0
      have := List.countP_eq_zero.1 h0 j (List.mem_range.2 hj)
      rw [← getD_both' (by rw [h.size]; exact hj)]
      simpa using this
    refine ⟨?_, h.final hfin hall⟩
    refine List.eq_nil_iff_forall_not_mem.2 fun j hj => ?_
    obtain ⟨hun, o, ho, _⟩ := mem_ready.1 hj
    have hjn := (Array.getElem?_eq_some_iff.1 ho).1
    rw [(getD_both' (by rw [h.size]; exact hjn) true).2 (hall j hjn)] at hun
    cases hun
  | succ fuel ih =>
    intro listed a w F hle h hfin
    refine ⟨fun hr => h.final hfin fun j hj => all_listedC hk h.size hr (j + 1) j (by omega) hj, fun i hi => ?_⟩
    obtain ⟨hun, o, ho, hall⟩ := mem_ready.1 hi
    have hin : i < ops.size := (Array.getElem?_eq_some_iff.1 ho).1
    have hil : i < listed.size := by rw [h.size]; exact hin
    have hun' : listed.getD i false = false := (getD_both' hil false).1 hun
    have hd := rdeps_listed ho hall
    have hsel : ∀ cs b, o.op ≠ .select cs b := fun cs b => Region.noSelect_spec hk.sel i o cs b ho
    have hleft : leftOf ops (listed.setIfInBounds i true) ≤ fuel := by
      have := countP_lt (p := fun i => !listed.getD i true) (q := fun j => !(listed.setIfInBounds i true).getD j true) (x := i) (List.range ops.size) (fun y hy => by
        by_cases hyi : i = y
        · subst hyi
          simp [Array.getD_eq_getD_getElem?, hil] at hy
        · rw [getD_set_ne true hyi] at hy
          exact hy) (List.mem_range.2 hin) (by simpa using hun) (by simp [Array.getD_eq_getD_getElem?, hil])
      unfold leftOf at hle ⊢
      omega
    unfold wpOp
    simp only [ho]
    obtain ⟨v, hv, hvt⟩ := h.pure i o ho hun'
    have hlook : ∀ t ∈ o.looksAt ops, a.tmps[t]? = F.tmps[t]? := fun t ht => h.agree t fun j oj hoj hlj hdj => by
      have hl := looks_of ho hoj hdj ht
      have hjn := (Array.getElem?_eq_some_iff.1 hoj).1
      by_cases hji : i = j
      · subst hji
        rw [hk.self i hin] at hl
        cases hl
      · have := hk.looks i j hin hjn hji hl
        rw [hd j this] at hlj
        cases hlj
    obtain ⟨he, hwt⟩ := exec_agree (ops := ops) hsel hlook
    have next := fun w' hw' => ih _ _ w' F hleft (h.put ho hd hvt hw') hfin
    rw [hwt]
    rcases hv with ⟨hw, hp⟩ | ⟨hw, rfl⟩
    · rw [if_pos hw]
      left
      have h1 := hp w h.cls
      unfold calmAt at h1
      unfold Oper.wp
      rw [he]
      generalize (execOp F.eval o).run P w = r at h1
      cases r with
      | ok n w' =>
        cases n with
        | value u => obtain ⟨h1, rfl⟩ := h1; exact next w' h1
        | skip => obtain ⟨h1, rfl⟩ := h1; exact next w' h1
        | enter f args =>
          simp only [Oper.upon]
          exact Calls.mono (show Calls P f args w' (fun e w'' => e = .returned v ∧ C w'') from h1) fun e w'' ⟨he', hw'⟩ => by subst he'; exact next w'' hw'
        | _ => exact (h1 : False).elim
      | halt x w' => exact (h1 : False).elim
    · rw [if_neg (by simp [hw])]
      exact next w h.cls
theorem CalmOk.put (hk : ChkC ops) {i j : Nat} {oi oj : Oper} (hi : ops[i]? = some oi) (hj : ops[j]? = some oj) (hji : j < i) {a : Act} {v : Value} (h : CalmOk P ops C oj a) : CalmOk P ops C oj (a.put oi.dst v) := by
  have hjn : j < ops.size := (Array.getElem?_eq_some_iff.1 hj).1
  have hin : i < ops.size := (Array.getElem?_eq_some_iff.1 hi).1
  have hsel : ∀ cs b, oj.op ≠ .select cs b := fun cs b => Region.noSelect_spec hk.sel j oj cs b hj
  have hnl : ∀ d, oi.dst = some d → d ∉ oj.looksAt ops := fun d hdd hmem => by
    have h1 := hk.looks j i hjn hin (by omega) (looks_of hj hi hdd hmem)
    have := hk.back j hjn i h1
    omega
  obtain ⟨u, hu, hut⟩ := h
  refine ⟨u, ?_, fun t ht hlt => ?_⟩
  · have e1 := wanted_put (ops := ops) oj a oi.dst v hnl
    have e2 := execOp_put (ops := ops) oj hsel a oi.dst v hnl
    rcases hu with ⟨hw, hp⟩ | ⟨hw, hp⟩
    · exact .inl ⟨by rw [e1]; exact hw, fun w hw' => by unfold calmAt; rw [e2]; exact hp w hw'⟩
    · exact .inr ⟨by rw [e1]; exact hw, hp⟩
  · rw [put_tmps, if_neg]
    · rw [put_size] at hlt
      exact hut t ht hlt
    · intro hdd
      have := hk.clash j i hjn hin (by omega)
      simp [Go.Proofs.Ytdijaillcajpaaa.clash, hj, hi, ht, hdd] at this
theorem CalmOk.own (hk : ChkC ops) {i : Nat} {o : Oper} (hi : ops[i]? = some o) {a : Act} {v : Value}
    (hv : (Region.wanted o (yielded ops a.tmps) = true ∧ ∀ w, C w → calmAt P C o a w v) ∨ (Region.wanted o (yielded ops a.tmps) = false ∧ v = undef)) : CalmOk P ops C o (a.put o.dst v) := by
  have hin : i < ops.size := (Array.getElem?_eq_some_iff.1 hi).1
  have hsel : ∀ cs b, o.op ≠ .select cs b := fun cs b => Region.noSelect_spec hk.sel i o cs b hi
  have hnl : ∀ d, o.dst = some d → d ∉ o.looksAt ops := fun d hdd hmem => by
    have := looks_of hi hi hdd hmem
    rw [hk.self i hin] at this
    cases this
  have e1 := wanted_put (ops := ops) o a o.dst v hnl
  have e2 := execOp_put (ops := ops) o hsel a o.dst v hnl
  refine ⟨v, ?_, fun t ht hlt => ?_⟩
  · rcases hv with ⟨hw, hp⟩ | ⟨hw, hp⟩
    · exact .inl ⟨by rw [e1]; exact hw, fun w hw' => by unfold calmAt; rw [e2]; exact hp w hw'⟩
    · exact .inr ⟨by rw [e1]; exact hw, hp⟩
  · rw [put_size] at hlt
    rw [put_tmps, if_pos ht, if_pos hlt]
def RunToC (P : Program) (ops : Array Oper) (C : World → Prop) (K : Act → Prop) (k : Nat) (a : Act) : Prop :=
  ∃ F, K F ∧ a.defers = F.defers ∧ a.tmps.size = F.tmps.size ∧ (∀ t, (∀ (j : Nat) (o : Oper), ops[j]? = some o → k ≤ j → o.dst ≠ some t) → a.tmps[t]? = F.tmps[t]?) ∧ ∀ (j : Nat) (o : Oper), ops[j]? = some o → CalmOk P ops C o F
theorem calm_run (hk : ChkC ops) {K : Act → Prop} : ∀ (d k : Nat) (a : Act), k + d = ops.size → wpCalm P ops C K (ops.toList.drop k) a → (∀ j o, ops[j]? = some o → j < k → CalmOk P ops C o a) → RunToC P ops C K k a
  | 0, k, a, hkd, h, hp => by
    rw [List.drop_eq_nil_of_le (by simp; omega)] at h
    exact ⟨a, h, rfl, rfl, fun _ _ => rfl, fun j o hj => hp j o hj (by have := (Array.getElem?_eq_some_iff.1 hj).1; omega)⟩
  | d + 1, k, a, hkd, h, hp => by
    have hkn : k < ops.size := by omega
    have hl : k < ops.toList.length := by simpa using hkn
    have ho : ops[k]? = some ops.toList[k] := by simp [Array.getElem?_eq_getElem hkn]
    rw [List.drop_eq_getElem_cons hl] at h
    have step : ∀ v, ((Region.wanted ops.toList[k] (yielded ops a.tmps) = true ∧ ∀ w, C w → calmAt P C ops.toList[k] a w v) ∨ (Region.wanted ops.toList[k] (yielded ops a.tmps) = false ∧ v = undef)) →
        wpCalm P ops C K (ops.toList.drop (k + 1)) (a.put ops.toList[k].dst v) → RunToC P ops C K k a := fun v hv hn => by
      obtain ⟨F, h1, h2, h3, h4, h5⟩ := calm_run hk d (k + 1) (a.put ops.toList[k].dst v) (by omega) hn (fun j o hj hjk => by
        by_cases hjk' : j = k
        · subst hjk'
          rw [ho] at hj
          cases hj
          exact CalmOk.own hk ho hv
        · exact (hp j o hj (by omega)).put hk ho hj (by omega))
      exact ⟨F, h1, by rw [← h2, put_defs], by rw [← h3, put_size], fun t ht => by
        rw [← h4 t fun j o hj hjk => ht j o hj (by omega), put_tmps, if_neg (ht k _ ho (Nat.le_refl _))], h5⟩
    simp only [wpCalm] at h
    by_cases hw : Region.wanted ops.toList[k] (yielded ops a.tmps) = true
    · rw [if_pos hw] at h
      obtain ⟨v, hv, hn⟩ := h
      exact step v (.inl ⟨hw, hv⟩) hn
    · rw [if_neg hw] at h
      exact step undef (.inr ⟨by simpa using hw, rfl⟩) h
/-- A CALM REGION. -/
theorem wp_region_calm {id : Nat} {l : List Oper} {a : Act} {w : World} (hm : P.follows .mixedOrders = true) (hchk : calmChk l.toArray = true) (C : World → Prop) (hC : C w.drew)
    (h : wpCalm P l.toArray C (fun F => ∀ w, C w → Q .normal F w) l a) : (Code.region id l.toArray true).wp P Q a w := by
  have hk := chkC_of hchk
  refine wp_region_noPanic (wp_region_any hm ?_)
  obtain ⟨F, h1, h2, h3, h4, h5⟩ := calm_run hk l.toArray.size 0 a (by omega) (by simpa using h) (fun j o _ hj => by omega)
  have hz : ∀ j, (Array.replicate l.toArray.size false).getD j false = false := fun j => by
    simp only [Array.getD_eq_getD_getElem?, Array.getElem?_replicate]
    split <;> rfl
  refine any_of_invC hk l.toArray.size (Array.replicate l.toArray.size false) a w.drew F ?_ ⟨by simp, (fun j hj => by rw [hz] at hj; cases hj), hC, h2, h3,
    fun t ht => h4 t fun j o hj _ => ht j o hj (hz j), fun j o hj _ => h5 j o hj⟩ h1
  unfold leftOf
  have := List.countP_le_length (p := fun i => !(Array.replicate l.toArray.size false).getD i true) (l := List.range l.toArray.size)
  simpa using this
/-- The same, boxed. -/
structure KB (P : Program) (ops : Array Oper) (C : World → Prop) (K : Act → Prop) (l : List Oper) (a : Act) : Prop where
  out : wpCalm P ops C K l a
theorem kb_nil {K : Act → Prop} {a : Act} (h : K a) : KB P ops C K [] a := ⟨h⟩
theorem kb_ky {K : Act → Prop} {a : Act} {o : Oper} {r : List Oper} (hg : Region.wanted o (yielded ops a.tmps) = true) (h : ∀ K' : Act → Prop, (∀ a, KB P ops C K r a → K' a) → ∃ v, (∀ w, C w → calmAt P C o a w v) ∧ K' (a.put o.dst v)) : KB P ops C K (o :: r) a := by
  obtain ⟨v, h1, h2⟩ := h (fun a => KB P ops C K r a) fun _ h => h
  exact ⟨by simp only [wpCalm]; rw [if_pos hg]; exact ⟨v, h1, h2.out⟩⟩
theorem kb_k {K : Act → Prop} {a : Act} {o : Oper} {r : List Oper} (hg : o.guard = none) (h : ∀ K' : Act → Prop, (∀ a, KB P ops C K r a → K' a) → ∃ v, (∀ w, C w → calmAt P C o a w v) ∧ K' (a.put o.dst v)) : KB P ops C K (o :: r) a :=
  kb_ky (by simp [Region.wanted, hg]) h
theorem kb_kn {K : Act → Prop} {a : Act} {o : Oper} {r : List Oper} (hg : Region.wanted o (yielded ops a.tmps) = false) (h : ∀ K' : Act → Prop, (∀ a, KB P ops C K r a → K' a) → K' (a.put o.dst undef)) : KB P ops C K (o :: r) a := by
  have h2 := h (fun a => KB P ops C K r a) fun _ h => h
  exact ⟨by simp only [wpCalm]; rw [if_neg (by simp [hg])]; exact h2.out⟩
end
attribute [go_sem] calmAt calmUpon
end Go.Proofs.Ytdijaillcajpaaa
