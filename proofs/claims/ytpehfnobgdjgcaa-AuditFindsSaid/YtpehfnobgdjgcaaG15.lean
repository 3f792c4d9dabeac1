/-
  The numbers of the shards of some lives: the document's.
-/
import Derived.Test.YtpehfnobgdjgcaaG10
import Derived.Test.YtpehfnobgdjgcaaS0
import Derived.Test.YtpehfnobgdjgcaaR4
import Derived.Test.YtpehfnobgdjgcaaG9
import Derived.ArgAppend
namespace Go.Proofs.Ytpehfnobgdjgcaa
open Go.RowKit

/-- An append onto a slice without spare room: the result is a row of our own. -/
theorem run_append_fullR {P : Program} {α : Type} {enc : α → List Value} {k : Nat} (w : World) (t ty e : TypeId) (i : TypeInfo) (z : Value) (bts : Nat) (ht : P.underlying t = some (.slice e)) (hi : P.info? e = some i) (hz : i.zero = some z) (hsize : i.size = k) (hby : i.bytes = bts) (hzs : z.cells.size = k) (h0 : 0 < k) (hk : ∀ x, (enc x).length = k) (h1 : ∀ x, ∀ v ∈ enc x, v.oneCell' = true)
    (a : Option Addr) (n : Nat) (l : List α) (ho : Reads enc k w a n n l) (a2 : Option Addr) (m c2 : Nat) (l2 : List α) (hx : Reads enc k w a2 m c2 l2) (hm : 0 < m) (hb : (n + m) * bts ≤ 140737488355328) (hbig : n + m ≤ 140737488355328) :
    ∃ a' c' w', (Builtin.append_ #[t, t] ty #[.slice a n n, .slice a2 m c2]).run P w = .ok (.slice a' (n + m) c') w' ∧ OwnR enc k w' w.heap.size e a' (n + m) c' (l ++ l2) ∧ Kp Non w w' := by
  have hlen := hx.len
  have hlen0 := ho.len
  cases a with
  | none =>
    have hn0 : n = 0 := ho.nil rfl
    subst hn0
    obtain rfl : l = [] := List.eq_nil_of_length_eq_zero hlen0.symm
    obtain ⟨v', w', hr, a', c', rfl, hO, hk', _⟩ := run_append_row (P := P) (enc := enc) w w.heap.size t ty e i z bts ht hi hz hsize hby hzs h0 hk h1 none 0 0 [] (OwnR.nil w _ e) a2 m c2 l2 hx hb hbig (Nat.le_refl _)
    exact ⟨a', c', w', hr, hO, hk'.mono fun i _ hi => by obtain ⟨ad, h, _⟩ := hi; cases h⟩
  | some ad =>
    obtain ⟨b2, o2, rfl⟩ := hx.there hm
    by_cases hn : n = 0
    · subst hn
      obtain rfl : l = [] := List.eq_nil_of_length_eq_zero hlen0.symm
      obtain ⟨v', w', hr, hO, hg⟩ := run_append_arg_grows (P := P) w t ty e i z k bts ht hi hz hsize hby hzs h0 ad 0 0 [] (by simp) (by simp) ⟨b2, o2, none⟩ m c2 (l2.flatMap enc) (by rw [flat_len enc k hk, hlen]) (fun j u hu => by rw [Addr.add_lit]; exact hx.flat hk h0 hu) (by omega) (by unfold maxLen; omega) hb
      obtain ⟨a', c', rfl⟩ : ∃ a' c', v' = .slice a' (0 + m) c' := by
        rcases hO.2 with ⟨_, h⟩ | ⟨g, cap, cur, h, _⟩
        · omega
        · exact ⟨_, _, h⟩
      exact ⟨a', c', w', hr, hO, (Kp.refl Non w).grown hg (fun _ h => by cases h)⟩
    · obtain ⟨b, o, e1⟩ := ho.there (by omega)
      cases e1
      obtain ⟨v', w', hr, hO, hg⟩ := run_append_arg_grows (P := P) w t ty e i z k bts ht hi hz hsize hby hzs h0 ⟨b, o, none⟩ n n (l.flatMap enc) (by rw [flat_len enc k hk, hlen0]) (fun j u hu => by rw [Addr.add_lit]; exact ho.flat hk h0 hu) ⟨b2, o2, none⟩ m c2 (l2.flatMap enc) (by rw [flat_len enc k hk, hlen]) (fun j u hu => by rw [Addr.add_lit]; exact hx.flat hk h0 hu) (by omega) (by unfold maxLen; omega) hb
      obtain ⟨a', c', rfl⟩ : ∃ a' c', v' = .slice a' (n + m) c' := by
        rcases hO.2 with ⟨_, h⟩ | ⟨g, cap, cur, h, _⟩
        · omega
        · exact ⟨_, _, h⟩
      exact ⟨a', c', w', hr, by unfold OwnR; rw [List.flatMap_append]; exact hO, (Kp.refl Non w).grown hg (fun _ h => by cases h)⟩

def FullR {α : Type} (enc : α → List Value) (k : Nat) (w : World) (e : TypeId) (n m : Nat) (l : List α) (v' : Value) (w' : World) : Prop := ∃ a' c', v' = .slice a' (n + m) c' ∧ OwnR enc k w' w.heap.size e a' (n + m) c' l ∧ Kp Non w w'
theorem wp_append_fullR {P : Program} {α : Type} {enc : α → List Value} {k : Nat} {w : World} {o : Oper} {a : Act} {K : Act → World → Prop} {Q : Exit → Act → World → Prop} (s x : Operand) (t : TypeId) (ho : o.op = .call { callee := .builtin .append, args := #[s, x], argTypes := #[t, t] })
    (e : TypeId) (i : TypeInfo) (z : Value) (bts : Nat) (ht : P.underlying t = some (.slice e)) (hi : P.info? e = some i) (hz : i.zero = some z) (hsize : i.size = k) (hby : i.bytes = bts) (hzs : z.cells.size = k) (h0 : 0 < k) (hk : ∀ x, (enc x).length = k) (h1 : ∀ x, ∀ v ∈ enc x, v.oneCell' = true)
    (ax : Option Addr) (n : Nat) (l : List α) (hs : a.eval s = .slice ax n n) (hown : Reads enc k w ax n n l) (a2 : Option Addr) (m c2 : Nat) (l2 : List α) (hx : a.eval x = .slice a2 m c2) (hb : Reads enc k w a2 m c2 l2) (hm : 0 < m)
    (hbd : (n + m) * bts ≤ 140737488355328) (hbig : n + m ≤ 140737488355328)
    (h : ∀ a' c' w', OwnR enc k w' w.heap.size e a' (n + m) c' (l ++ l2) → Kp Non w w' → K (a.put o.dst (.slice a' (n + m) c')) w') : o.wp P a w K Q := by
  refine wp_append_of s x t ho _ _ hs hx (R := FullR enc k w e n m (l ++ l2)) ?_ ?_
  · obtain ⟨a', c', w', h2, h3, h4⟩ := run_append_fullR (P := P) w t o.type e i z bts ht hi hz hsize hby hzs h0 hk h1 ax n l hown a2 m c2 l2 hb hm hbd hbig
    exact ⟨_, w', h2, a', c', rfl, h3, h4⟩
  · rintro v' w' ⟨a', c', rfl, h1, h2⟩
    exact h a' c' w' h1 h2
theorem Ints.dropE {w : World} {b o n c : Nat} {l : List Int} (h : Ints w (some ⟨b, o, none⟩) n c l) (j : Nat) (hj : j ≤ n) : Ints w (some ⟨b, o + j, none⟩) (n - j) (c - j) (l.drop j) := by
  have h1 := h.len
  have h2 := h.cap
  have h3 := h.max
  refine ⟨by simp; omega, by omega, by omega, (fun h => by cases h), fun i x hx => ⟨b, o + j, rfl, fun t v hv => ?_⟩⟩
  rw [List.getElem?_drop] at hx
  have := h.get hx hv
  rwa [show o + j + i * 1 + t = o + (j + i) * 1 + t by omega]
theorem Ints.takeE {w : World} {a : Option Addr} {n c : Nat} {l : List Int} (h : Ints w a n c l) (j : Nat) (hj : j ≤ n) : Ints w a j j (l.take j) := by
  have h1 := h.len
  have := h.take j (by omega)
  exact this.full
theorem Ints.none_ {w : World} (a : Option Addr) (ha : a ≠ none) : Ints w a 0 0 [] := ⟨rfl, Nat.le_refl _, by omega, fun h => absurd h ha, fun _ _ h => by simp at h⟩

/-- How many numbers stand ahead of x. -/
def idxU (x : Int) : List Int → Nat
  | [] => 0
  | y :: l => if y < x then idxU x l + 1 else 0
def insU (x : Int) (l : List Int) : List Int := if l[idxU x l]? = some x then l else l.take (idxU x l) ++ ([x] ++ l.drop (idxU x l))
def idsL (l : List LifeV) : List Int := l.foldl (fun o y => insU y.sh o) []
theorem idsL_snoc (l : List LifeV) (y : LifeV) : idsL (l ++ [y]) = insU y.sh (idsL l) := by simp [idsL, List.foldl_append]
theorem idsL_take {l : List LifeV} {k : Nat} (h : k < l.length) : idsL (l.take (k + 1)) = insU l[k].sh (idsL (l.take k)) := by rw [List.take_succ_eq_append_getElem h, idsL_snoc]
theorem idxU_le (x : Int) : ∀ l, idxU x l ≤ l.length
  | [] => Nat.le_refl _
  | y :: l => by
    have := idxU_le x l
    unfold idxU
    split <;> simp <;> omega
theorem idxU_lt (x : Int) : ∀ (l : List Int) (k : Nat) (h : k < l.length), k < idxU x l → l[k] < x
  | [], k, h, _ => by simp at h
  | y :: l, k, h, hk => by
    unfold idxU at hk
    split at hk
    · rename_i hy
      cases k with
      | zero => exact hy
      | succ k => exact idxU_lt x l k (by simpa using h) (by omega)
    · omega
theorem idxU_at (x : Int) : ∀ (l : List Int) (h : idxU x l < l.length), ¬ l[idxU x l] < x
  | [], h => by simp at h
  | y :: l, h => by
    by_cases hy : y < x
    · have e : idxU x (y :: l) = idxU x l + 1 := by simp [idxU, hy]
      simp only [e]
      exact idxU_at x l (by rw [e] at h; simpa using h)
    · have e : idxU x (y :: l) = 0 := by simp [idxU, hy]
      simp only [e]
      exact hy
theorem insU_len (x : Int) (l : List Int) : (insU x l).length ≤ l.length + 1 := by
  have := idxU_le x l
  unfold insU
  split
  · omega
  · simp; omega
theorem idsL_len (l : List LifeV) : (idsL l).length ≤ l.length := by
  induction l using snocInd with
  | h0 => simp [idsL]
  | h1 l y ih =>
    rw [idsL_snoc]
    have := insU_len y.sh (idsL l)
    simp
    omega

/-- Numbers of our own come out. -/
def IntsOut (l : List Int) (w : World) (e : Ending) (w' : World) : Prop := ∃ a n c, e = .returned (.slice a n c) ∧ OwnI w' w.heap.size a n c l ∧ Kp Non w w'

set_option maxRecDepth 100000 in
set_option maxHeartbeats 1000000 in
theorem shards_calls (a : Option Addr) (c : Nat) (l : List LifeV) (w : World) (hl : Reads encLife 3 w a l.length c l) (hs : l.length ≤ 1000) : Calls Try.prog 29 #[.slice a l.length c] w (IntsOut (idsL l) w) := by
  have hcx := hl.cap
  have hmx := hl.max
  obtain ⟨i0, hi0, hz0, hz1, hz2⟩ := info_parts infoI
  go_enter Try.func29, Try.ntmps29
  go_wp2_with fail
  go_loopw [3, 9] (fun v3 v9 wr => ∃ k : Nat, k ≤ l.length ∧ v9 = .int .i64 k ∧ (∃ n ax cx, v3 = .slice ax n cx ∧ n ≤ k ∧ OwnI wr w.heap.size ax n cx (idsL (l.take k))) ∧ Kp Non w wr) (fun _ v9 _ => l.length - (intOf v9).toNat)
  case atStart => exact ⟨0, by omega, rfl, ⟨0, none, 0, rfl, by omega, OwnR.nil w w.heap.size _⟩, Kp.refl _ _⟩
  case round =>
    obtain ⟨k, hk', rfl, ⟨n, ax, cx, rfl, hnk, hO⟩, hkr⟩ := hrel
    by_cases hlt : k < l.length
    · have g : (k : Int) < (l.length : Nat) := by omega
      obtain ⟨b, o, rfl⟩ := hl.there (by omega)
      have c0 := (hl.non hkr).get (i := 0) (List.getElem?_eq_getElem hlt) rfl
      have c1 := (hl.non hkr).get (i := 1) (List.getElem?_eq_getElem hlt) rfl
      have c2 := (hl.non hkr).get (i := 2) (List.getElem?_eq_getElem hlt) rfl
      simp only [Nat.add_zero] at c0
      have HT := Lib.hid (idsL_take hlt)
      have HN := Lib.hid (BxL.new2 wr l[k])
      generalize l[k] = x at *
      generalize idsL (l.take k) = out at *
      go_upto_region 5 with (fail)
      obtain ⟨V, eV, hN, kV⟩ := HN.out
      rw [eV]
      have HC := Lib.hid fun W (q : Kp Non V W) => (BxL.cells (Bx.non hN q)).2.1
      have hkV := hkr.trans kV
      have hO := hO.non kV
      have hlen := hO.len encI_len (by omega)
      clear eV HN hN c0 c1 c2
      generalize wr.heap.size = bx at *
      have HLn := Lib.hid hlen
      clear hlen
      go_wp2_with fail
      go_loopw [6] (fun v6 wi => ∃ j : Nat, j ≤ idxU x.sh out ∧ v6 = .int .i64 j ∧ Kp Non V wi) (fun v6 _ => out.length - (intOf v6).toNat)
      case atStart => exact ⟨0, by omega, rfl, Kp.refl _ _⟩
      case round =>
        obtain ⟨j, hj', rfl, hki⟩ := hrel
        have n1 := HC.out _ hki
        have hOi := hO.non hki
        have hkI := hkV.trans hki
        have HRd := Lib.hid (hOi.reads encI_len (by omega))
        have hcx3 := HRd.out.cap
        have hmx3 := HRd.out.max
        by_cases hjn : j < n
        · have gj : (j : Int) < (n : Nat) := by omega
          have hjo : j < out.length := by have := HLn.out; omega
          obtain ⟨gg, og, rfl⟩ := HRd.out.there (by omega)
          have d0 := Ints.c HRd.out hjo
          by_cases hlt2 : out[j] < x.sh
          · have hd : decide (out[j] < x.sh) = true := decide_eq_true hlt2
            have HJ : Hid (j + 1 ≤ idxU x.sh out) := Lib.hid (by
              rcases Nat.lt_or_ge j (idxU x.sh out) with h | h
              · exact h
              · obtain rfl : j = idxU x.sh out := by omega
                exact absurd hlt2 (idxU_at x.sh out hjo))
            generalize out[j] = y at *
            clear hlt2
            go_wp2_with fail
            go_quiet (fail)
            go_wp2_with fail
            go_roundw
            case rel => exact ⟨j + 1, HJ.out, by go_num, hki.drewN _⟩
            case measure => simp [intOf]; omega
          · have hd : decide (out[j] < x.sh) = false := decide_eq_false hlt2
            have HJ : Hid (idxU x.sh out = j) := Lib.hid (by
              rcases Nat.lt_or_ge j (idxU x.sh out) with h | h
              · exact absurd (idxU_lt x.sh out j hjo h) hlt2
              · omega)
            have HOJ := Lib.hid (List.getElem?_eq_getElem hjo)
            generalize out[j] = y at *
            clear hlt2
            have ejn : ((j : Int) == (n : Int)) = false := by simp; omega
            go_wp2_with fail
            go_quiet (fail)
            go_wp2_with fail
            by_cases hy : y = x.sh
            · have ey : (y != x.sh) = false := by simp [hy]
              have HI : Hid (insU x.sh out = out) := Lib.hid (by unfold insU; rw [HJ.out, HOJ.out, hy, if_pos rfl])
              go_quiet (fail)
              go_wp2_with fail
              go_roundw
              case rel => exact ⟨k + 1, by omega, by go_num, ⟨n, _, cx, rfl, by omega, by rw [HT.out, HI.out]; exact hOi.non ((Kp.refl Non _).drewN _)⟩, hkI.drewN _⟩
              case measure => simp [intOf]; omega
            · have ey : (y != x.sh) = true := by simp [hy]
              have HI : Hid (insU x.sh out = out.take j ++ ([x.sh] ++ out.drop j)) := Lib.hid (by unfold insU; rw [HJ.out, HOJ.out, if_neg (by simpa using hy)])
              go_quiet (fail)
              go_upto_region 9 with (fail)
              have hcj : ¬ cx = j := by omega
              have gjc : (j : Int) ≤ (cx : Nat) := by omega
              have gjn : (j : Int) ≤ (n : Nat) := by omega
              have HDR : Hid (∀ W, Kp Non wr W → Ints W (some ⟨gg, og + j, none⟩) (n - j) (cx - j) (out.drop j)) := Lib.hid fun W r => Ints.dropE (HRd.out.non r) j (by omega)
              have HTK : Hid (∀ W, Kp Non wr W → Ints W (some ⟨gg, og, none⟩) j j (out.take j)) := Lib.hid fun W r => Ints.takeE (HRd.out.non r) j (by omega)
              refine wp_region_pieces [(13, [0,0,0,0,0,0,1,0,0,0,1,2,2], fun W => W.cell? ⟨bx, 1, none⟩ = some (.int .i64 x.sh) ∧ Kp Non wr W)] (by kernel_rfl) (by kernel_rfl) ?_
              refine (And.intro ?_ ?_ : _ ∧ _)
              · exact ⟨n1, (((Kp.refl Non wr).drewN _).drewN _).drew⟩
              refine PB.out ?_
              repeat (first | (with_reducible refine pb_skip ?_) | ((first | (with_reducible refine pb_k rfl ?_) | ((with_reducible refine pb_ky ?hg ?_); (case hg => simp [Region.wanted, yielded]; done))); intro K hK; apply Exists.intro; refine ⟨fun w' hC => ?_, ?_⟩; (obtain ⟨d1, d2⟩ := hC; go_simp; rfl); go_simp; refine hK _ ?_; clear hK K) | ((with_reducible refine pb_kn ?hg ?_); (case hg => simp [Region.wanted, yielded]; done); intro K hK; go_simp; refine hK _ ?_; clear hK K))
              with_reducible refine pb_nil ?_
              simp only [List.take_succ_cons, List.take_zero, List.drop_zero]
              refine CB.out ?_
              repeat (with_reducible refine cb_skip ?_)
              with_reducible refine cb_step rfl fun K hK => ?_
              go_simp
              refine hK _ _ (fun _ => ⟨(((Kp.refl Non wr).drewN _).alloc _).cell n1 (fun f => f), ((Kp.refl Non wr).drewN _).alloc _⟩) ?_
              clear hK K
              repeat (with_reducible refine cb_skip ?_)
              with_reducible refine cb_step rfl fun K hK => ?_
              refine wp_append_row (P := Try.prog) (enc := encI) _ _ 66 rfl w.heap.size 3 i0 _ 8 Try.underlying66 hi0 hz0 hz1 hz2 rfl (by decide) encI_len encI_one _ 1 1 [x.sh] rfl (OwnR.mk (cur := #[.int .i64 x.sh]) ?hb (heap_alloc_new _ _) (by omega) (by unfold maxLen; omega) rfl rfl rfl) _ _ _ (out.drop j) rfl ?hd ?h1 ?h2 ?h3 ?_
              case hb => exact hkI.size
              case hd => exact HDR.out _ (((Kp.refl Non wr).drewN _).alloc _)
              case h1 => omega
              case h2 => omega
              case h3 => exact ((hkI.drewN _).alloc _).size
              intro a5 c5 w5 hO5 hk5 _
              have hk5 : Kp Non wr w5 := (((Kp.refl Non wr).drewN _).alloc _).comp hk5 (fun _ _ f => f) (fun i hi hs => by obtain ⟨ad, hs, rfl⟩ := hs; cases hs; exact absurd hi (Nat.lt_irrefl _))
              refine hK _ _ (fun _ => ⟨hk5.cell n1 (fun f => f), hk5⟩) ?_
              clear hK K
              have hR5 := hO5.reads encI_len (by omega)
              repeat (with_reducible refine cb_skip ?_)
              with_reducible refine cb_step rfl fun K hK => ?_
              refine wp_append_fullR (P := Try.prog) (enc := encI) _ _ 66 rfl 3 i0 _ 8 Try.underlying66 hi0 hz0 hz1 hz2 rfl (by decide) encI_len encI_one _ _ (out.take j) rfl (HTK.out _ hk5) _ _ _ _ rfl hR5 ?h0 ?h1 ?h2 ?_
              case h0 => omega
              case h1 => omega
              case h2 => omega
              intro a6 c6 w6 hO6 hk6
              have hk6 := hk5.trans hk6
              refine hK _ _ (fun h => by cases h) ?_
              clear hK K
              repeat (with_reducible refine cb_skip ?_)
              with_reducible refine cb_step rfl fun K hK => ?_
              go_simp
              refine hK _ _ (fun h => by cases h) ?_
              clear hK K
              repeat (with_reducible refine cb_skip ?_)
              with_reducible refine cb_nil ?_
              simp only [Then, wpPieces]
              go_wp2_with fail
              go_roundw
              case rel => exact ⟨k + 1, by omega, by go_num, ⟨_, a6, c6, rfl, by omega, by rw [HT.out, HI.out]; exact hO6.lower ((hkI.trans hk5).size)⟩, hkI.trans hk6⟩
              case measure => simp [intOf]; omega
        · obtain rfl : j = n := by have := idxU_le x.sh out; have := HLn.out; omega
          have HI : Hid (insU x.sh out = out.take j ++ ([x.sh] ++ out.drop j)) := Lib.hid (by
            have := idxU_le x.sh out
            have h2 := HLn.out
            have h3 : idxU x.sh out = j := by omega
            unfold insU; rw [h3, if_neg (by rw [List.getElem?_eq_none (by omega)]; simp)])
          have ejn : ((j : Int) == (j : Int)) = true := by simp
          go_wp2_with fail
          go_quiet (fail)
          go_wp2_with fail
          go_quiet (fail)
          go_upto_region 9 with (fail)
          have gjc : (j : Int) ≤ (cx : Nat) := by omega
          have gjn : (j : Int) ≤ (j : Nat) := by omega
          have HE0 : Hid (out.drop j = []) := Lib.hid (List.drop_of_length_le (by have := HLn.out; omega))
          have HTK : Hid (∀ W, Kp Non wr W → Ints W ax j j (out.take j)) := Lib.hid fun W r => Ints.takeE (HRd.out.non r) j (Nat.le_refl _)
          rcases hOi.lie with ⟨rfl, h1, rfl, _⟩ | ⟨gg, cur, rfl, hlie⟩
          · obtain rfl : j = 0 := h1
            have HDR : Hid (∀ W, Kp Non wr W → Ints W none 0 0 (out.drop 0)) := Lib.hid fun W r => by rw [HE0.out]; exact Reads.empty W
            simp only [Int.natCast_zero]
            refine wp_region_pieces [(13, [0,0,0,0,0,0,1,0,0,0,1,2,2], fun W => W.cell? ⟨bx, 1, none⟩ = some (.int .i64 x.sh) ∧ Kp Non wr W)] (by kernel_rfl) (by kernel_rfl) ?_
            refine (And.intro ?_ ?_ : _ ∧ _)
            · exact ⟨n1, (((Kp.refl Non wr).drewN _).drewN _).drew⟩
            refine PB.out ?_
            repeat (first | (with_reducible refine pb_skip ?_) | ((first | (with_reducible refine pb_k rfl ?_) | ((with_reducible refine pb_ky ?hg ?_); (case hg => simp [Region.wanted, yielded]; done))); intro K hK; apply Exists.intro; refine ⟨fun w' hC => ?_, ?_⟩; (obtain ⟨d1, d2⟩ := hC; go_simp; rfl); go_simp; refine hK _ ?_; clear hK K) | ((with_reducible refine pb_kn ?hg ?_); (case hg => simp [Region.wanted, yielded]; done); intro K hK; go_simp; refine hK _ ?_; clear hK K))
            with_reducible refine pb_nil ?_
            simp only [List.take_succ_cons, List.take_zero, List.drop_zero]
            refine CB.out ?_
            repeat (with_reducible refine cb_skip ?_)
            with_reducible refine cb_step rfl fun K hK => ?_
            go_simp
            refine hK _ _ (fun _ => ⟨(((Kp.refl Non wr).drewN _).alloc _).cell n1 (fun f => f), ((Kp.refl Non wr).drewN _).alloc _⟩) ?_
            clear hK K
            repeat (with_reducible refine cb_skip ?_)
            with_reducible refine cb_step rfl fun K hK => ?_
            refine wp_append_row (P := Try.prog) (enc := encI) _ _ 66 rfl w.heap.size 3 i0 _ 8 Try.underlying66 hi0 hz0 hz1 hz2 rfl (by decide) encI_len encI_one _ 1 1 [x.sh] rfl (OwnR.mk (cur := #[.int .i64 x.sh]) ?hb (heap_alloc_new _ _) (by omega) (by unfold maxLen; omega) rfl rfl rfl) _ _ _ (out.drop 0) rfl ?hd ?h1 ?h2 ?h3 ?_
            case hb => exact hkI.size
            case hd => exact HDR.out _ (((Kp.refl Non wr).drewN _).alloc _)
            case h1 => omega
            case h2 => omega
            case h3 => exact ((hkI.drewN _).alloc _).size
            intro a5 c5 w5 hO5 hk5 _
            have hk5 : Kp Non wr w5 := (((Kp.refl Non wr).drewN _).alloc _).comp hk5 (fun _ _ f => f) (fun i hi hs => by obtain ⟨ad, hs, rfl⟩ := hs; cases hs; exact absurd hi (Nat.lt_irrefl _))
            refine hK _ _ (fun _ => ⟨hk5.cell n1 (fun f => f), hk5⟩) ?_
            clear hK K
            have hR5 := hO5.reads encI_len (by omega)
            repeat (with_reducible refine cb_skip ?_)
            with_reducible refine cb_step rfl fun K hK => ?_
            refine wp_append_fullR (P := Try.prog) (enc := encI) _ _ 66 rfl 3 i0 _ 8 Try.underlying66 hi0 hz0 hz1 hz2 rfl (by decide) encI_len encI_one _ _ (out.take 0) rfl (HTK.out _ hk5) _ _ _ _ rfl hR5 ?h0 ?h1 ?h2 ?_
            case h0 => omega
            case h1 => omega
            case h2 => omega
            intro a6 c6 w6 hO6 hk6
            have hk6 := hk5.trans hk6
            refine hK _ _ (fun h => by cases h) ?_
            clear hK K
            repeat (with_reducible refine cb_skip ?_)
            with_reducible refine cb_step rfl fun K hK => ?_
            go_simp
            refine hK _ _ (fun h => by cases h) ?_
            clear hK K
            repeat (with_reducible refine cb_skip ?_)
            with_reducible refine cb_nil ?_
            simp only [Then, wpPieces]
            go_wp2_with fail
            go_roundw
            case rel => exact ⟨k + 1, by omega, by go_num, ⟨_, a6, c6, rfl, by omega, by rw [HT.out, HI.out]; exact hO6.lower ((hkI.trans hk5).size)⟩, hkI.trans hk6⟩
            case measure => simp [intOf]; omega
          · clear hlie
            by_cases hcj : cx = j
            · have HDR : Hid (∀ W, Kp Non wr W → Ints W (some ⟨gg, 0, none⟩) 0 0 (out.drop j)) := Lib.hid fun W r => by rw [HE0.out]; exact Ints.none_ _ (fun h => by cases h)
              refine wp_region_pieces [(13, [0,0,0,0,0,0,1,0,0,0,1,2,2], fun W => W.cell? ⟨bx, 1, none⟩ = some (.int .i64 x.sh) ∧ Kp Non wr W)] (by kernel_rfl) (by kernel_rfl) ?_
              refine (And.intro ?_ ?_ : _ ∧ _)
              · exact ⟨n1, (((Kp.refl Non wr).drewN _).drewN _).drew⟩
              refine PB.out ?_
              repeat (first | (with_reducible refine pb_skip ?_) | ((first | (with_reducible refine pb_k rfl ?_) | ((with_reducible refine pb_ky ?hg ?_); (case hg => simp [Region.wanted, yielded]; done))); intro K hK; apply Exists.intro; refine ⟨fun w' hC => ?_, ?_⟩; (obtain ⟨d1, d2⟩ := hC; go_simp; rfl); go_simp; refine hK _ ?_; clear hK K) | ((with_reducible refine pb_kn ?hg ?_); (case hg => simp [Region.wanted, yielded]; done); intro K hK; go_simp; refine hK _ ?_; clear hK K))
              with_reducible refine pb_nil ?_
              simp only [List.take_succ_cons, List.take_zero, List.drop_zero]
              refine CB.out ?_
              repeat (with_reducible refine cb_skip ?_)
              with_reducible refine cb_step rfl fun K hK => ?_
              go_simp
              refine hK _ _ (fun _ => ⟨(((Kp.refl Non wr).drewN _).alloc _).cell n1 (fun f => f), ((Kp.refl Non wr).drewN _).alloc _⟩) ?_
              clear hK K
              repeat (with_reducible refine cb_skip ?_)
              with_reducible refine cb_step rfl fun K hK => ?_
              refine wp_append_row (P := Try.prog) (enc := encI) _ _ 66 rfl w.heap.size 3 i0 _ 8 Try.underlying66 hi0 hz0 hz1 hz2 rfl (by decide) encI_len encI_one _ 1 1 [x.sh] rfl (OwnR.mk (cur := #[.int .i64 x.sh]) ?hb (heap_alloc_new _ _) (by omega) (by unfold maxLen; omega) rfl rfl rfl) _ _ _ (out.drop j) rfl ?hd ?h1 ?h2 ?h3 ?_
              case hb => exact hkI.size
              case hd => exact HDR.out _ (((Kp.refl Non wr).drewN _).alloc _)
              case h1 => omega
              case h2 => omega
              case h3 => exact ((hkI.drewN _).alloc _).size
              intro a5 c5 w5 hO5 hk5 _
              have hk5 : Kp Non wr w5 := (((Kp.refl Non wr).drewN _).alloc _).comp hk5 (fun _ _ f => f) (fun i hi hs => by obtain ⟨ad, hs, rfl⟩ := hs; cases hs; exact absurd hi (Nat.lt_irrefl _))
              refine hK _ _ (fun _ => ⟨hk5.cell n1 (fun f => f), hk5⟩) ?_
              clear hK K
              have hR5 := hO5.reads encI_len (by omega)
              repeat (with_reducible refine cb_skip ?_)
              with_reducible refine cb_step rfl fun K hK => ?_
              refine wp_append_fullR (P := Try.prog) (enc := encI) _ _ 66 rfl 3 i0 _ 8 Try.underlying66 hi0 hz0 hz1 hz2 rfl (by decide) encI_len encI_one _ _ (out.take j) rfl (HTK.out _ hk5) _ _ _ _ rfl hR5 ?h0 ?h1 ?h2 ?_
              case h0 => omega
              case h1 => omega
              case h2 => omega
              intro a6 c6 w6 hO6 hk6
              have hk6 := hk5.trans hk6
              refine hK _ _ (fun h => by cases h) ?_
              clear hK K
              repeat (with_reducible refine cb_skip ?_)
              with_reducible refine cb_step rfl fun K hK => ?_
              go_simp
              refine hK _ _ (fun h => by cases h) ?_
              clear hK K
              repeat (with_reducible refine cb_skip ?_)
              with_reducible refine cb_nil ?_
              simp only [Then, wpPieces]
              go_wp2_with fail
              go_roundw
              case rel => exact ⟨k + 1, by omega, by go_num, ⟨_, a6, c6, rfl, by omega, by rw [HT.out, HI.out]; exact hO6.lower ((hkI.trans hk5).size)⟩, hkI.trans hk6⟩
              case measure => simp [intOf]; omega
            · have HDR : Hid (∀ W, Kp Non wr W → Ints W (some ⟨gg, j, none⟩) 0 (cx - j) (out.drop j)) := Lib.hid fun W r => by rw [HE0.out]; exact ⟨rfl, by omega, by omega, (fun h => by cases h), fun _ _ h => by simp at h⟩
              refine wp_region_pieces [(13, [0,0,0,0,0,0,1,0,0,0,1,2,2], fun W => W.cell? ⟨bx, 1, none⟩ = some (.int .i64 x.sh) ∧ Kp Non wr W)] (by kernel_rfl) (by kernel_rfl) ?_
              refine (And.intro ?_ ?_ : _ ∧ _)
              · exact ⟨n1, (((Kp.refl Non wr).drewN _).drewN _).drew⟩
              refine PB.out ?_
              repeat (first | (with_reducible refine pb_skip ?_) | ((first | (with_reducible refine pb_k rfl ?_) | ((with_reducible refine pb_ky ?hg ?_); (case hg => simp [Region.wanted, yielded]; done))); intro K hK; apply Exists.intro; refine ⟨fun w' hC => ?_, ?_⟩; (obtain ⟨d1, d2⟩ := hC; go_simp; rfl); go_simp; refine hK _ ?_; clear hK K) | ((with_reducible refine pb_kn ?hg ?_); (case hg => simp [Region.wanted, yielded]; done); intro K hK; go_simp; refine hK _ ?_; clear hK K))
              with_reducible refine pb_nil ?_
              simp only [List.take_succ_cons, List.take_zero, List.drop_zero]
              refine CB.out ?_
              repeat (with_reducible refine cb_skip ?_)
              with_reducible refine cb_step rfl fun K hK => ?_
              go_simp
              refine hK _ _ (fun _ => ⟨(((Kp.refl Non wr).drewN _).alloc _).cell n1 (fun f => f), ((Kp.refl Non wr).drewN _).alloc _⟩) ?_
              clear hK K
              repeat (with_reducible refine cb_skip ?_)
              with_reducible refine cb_step rfl fun K hK => ?_
              refine wp_append_row (P := Try.prog) (enc := encI) _ _ 66 rfl w.heap.size 3 i0 _ 8 Try.underlying66 hi0 hz0 hz1 hz2 rfl (by decide) encI_len encI_one _ 1 1 [x.sh] rfl (OwnR.mk (cur := #[.int .i64 x.sh]) ?hb (heap_alloc_new _ _) (by omega) (by unfold maxLen; omega) rfl rfl rfl) _ _ _ (out.drop j) rfl ?hd ?h1 ?h2 ?h3 ?_
              case hb => exact hkI.size
              case hd => exact HDR.out _ (((Kp.refl Non wr).drewN _).alloc _)
              case h1 => omega
              case h2 => omega
              case h3 => exact ((hkI.drewN _).alloc _).size
              intro a5 c5 w5 hO5 hk5 _
              have hk5 : Kp Non wr w5 := (((Kp.refl Non wr).drewN _).alloc _).comp hk5 (fun _ _ f => f) (fun i hi hs => by obtain ⟨ad, hs, rfl⟩ := hs; cases hs; exact absurd hi (Nat.lt_irrefl _))
              refine hK _ _ (fun _ => ⟨hk5.cell n1 (fun f => f), hk5⟩) ?_
              clear hK K
              have hR5 := hO5.reads encI_len (by omega)
              repeat (with_reducible refine cb_skip ?_)
              with_reducible refine cb_step rfl fun K hK => ?_
              refine wp_append_fullR (P := Try.prog) (enc := encI) _ _ 66 rfl 3 i0 _ 8 Try.underlying66 hi0 hz0 hz1 hz2 rfl (by decide) encI_len encI_one _ _ (out.take j) rfl (HTK.out _ hk5) _ _ _ _ rfl hR5 ?h0 ?h1 ?h2 ?_
              case h0 => omega
              case h1 => omega
              case h2 => omega
              intro a6 c6 w6 hO6 hk6
              have hk6 := hk5.trans hk6
              refine hK _ _ (fun h => by cases h) ?_
              clear hK K
              repeat (with_reducible refine cb_skip ?_)
              with_reducible refine cb_step rfl fun K hK => ?_
              go_simp
              refine hK _ _ (fun h => by cases h) ?_
              clear hK K
              repeat (with_reducible refine cb_skip ?_)
              with_reducible refine cb_nil ?_
              simp only [Then, wpPieces]
              go_wp2_with fail
              go_roundw
              case rel => exact ⟨k + 1, by omega, by go_num, ⟨_, a6, c6, rfl, by omega, by rw [HT.out, HI.out]; exact hO6.lower ((hkI.trans hk5).size)⟩, hkI.trans hk6⟩
              case measure => simp [intOf]; omega
    · obtain rfl : k = l.length := by omega
      rw [List.take_of_length_le (Nat.le_refl _)] at hO
      go_wp2_with fail
      go_ret
      exact ⟨ax, n, cx, rfl, hO, hkr⟩
end Go.Proofs.Ytpehfnobgdjgcaa
