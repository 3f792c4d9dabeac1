/-
  SpanTexts: a Map of texts does as one of numbers. For every input. (The frame: sframe.py.)
-/
import Derived.Test.YtkgjpmgoapfamaaE19
import Derived.Test.YtkgjpmgoapfamaaE14
import Derived.Test.YtkgjpmgoapfamaaL5
import Derived.Sort.CutIn
namespace Go.Proofs.Ytkgjpmgoapfamaa
open Go.RowKit Go.Shelf
attribute [local go_sem] Oper.semAt_some

theorem results_cell_bool {fn : Func} {p : Tmp} (h : fn.results = #[.cell p 4]) (tmps : Array Value) (w : World) {b : Bool} (ad : Addr) (ht : tmps.getD p undef = .pointer (some ad)) (hc : w.cell? ad = some (.bool b)) :
    (results fn tmps).run Try.prog w = .ok (.bool b) w := by
  have := Try.sizeOf4
  have ht' : tmps[p]?.getD undef = .pointer (some ad) := by simpa using ht
  simp [results, h, ht', go_sem, hc, this]
theorem run_txt (W : World) (b : Nat) (hb : b = W.heap.size) (v : Int) : (convert 67 9 (.slice (some ⟨b, 0, none⟩) 2 2)).run Try.prog (W.alloc (.cells #[.int .u8 (v % 256), .int .u8 (v / 256 % 256)] 5)) = .ok (.string (txt v)) (W.alloc (.cells #[.int .u8 (v % 256), .int .u8 (v / 256 % 256)] 5)) := by
  have e1 : byteV (UInt8.ofNat (v % 256).toNat) = .int .u8 (v % 256) := by
    unfold byteV
    have h : (UInt8.ofNat (v % 256).toNat).toNat = (v % 256).toNat := by simp; omega
    rw [h]; congr 1; omega
  have e2 : byteV (UInt8.ofNat (v / 256 % 256).toNat) = .int .u8 (v / 256 % 256) := by
    unfold byteV
    have h : (UInt8.ofNat (v / 256 % 256).toNat).toNat = (v / 256 % 256).toNat := by simp; omega
    rw [h]; congr 1; omega
  exact run_string_bytes _ 67 9 5 Try.underlying67 Try.underlying5 Try.underlying9 _ 2 2 [UInt8.ofNat (v % 256).toNat, UInt8.ofNat (v / 256 % 256).toNat] ⟨rfl, by omega, by omega, (fun h => by cases h), fun ad j x ha hx => by
    cases ha
    match j, hx with
    | 0, hx => simp at hx; subst hx; rw [e1]; exact cell_new (w := W) (cur := #[.int .u8 (v % 256), .int .u8 (v / 256 % 256)]) (e := 5) (fr := (0, 0)) hb 0
    | 1, hx => simp at hx; subst hx; rw [e2]; exact cell_new (w := W) (cur := #[.int .u8 (v % 256), .int .u8 (v / 256 % 256)]) (e := 5) (fr := (0, 0)) hb 1
    | j + 2, hx => simp at hx⟩

theorem kf6 {W W' : World} (h : Kp Non W W') (b : Nat) (v : Value) {B : Nat} : KeepsFrom B W (W'.setCell ⟨b, 0, none⟩ v) :=
  (KeepsFrom.trans ⟨h.size, fun _ _ _ ho _ => h.heap ho (fun f => f)⟩ ((KeepsOthers.setCell W' _ _).from B))
/-- What the loop over the pieces knows. -/
structure TextSt (w : World) (M : List (Sp × Int)) (al : Option Addr) (cl : Nat) (av : Option Addr) (cv : Nat) (T : List (Sp × ByteArray)) (bl : Option Addr) (dl : Nat) (bv : Option Addr) (dv : Nat) (W : World) : Prop where
  map : MapI W (w.heap.size + 1) M al cl av cv
  txts : MapT W (w.heap.size + 1 + 1) T bl dl bv dv
  bR : Boxed W w.heap.size 4 (.bool false)
  kp : Kp (One w.heap.size) w W
theorem OwnR.cellsKept {α : Type} {enc : α → List Value} {k : Nat} {A B : World} {base : Nat} {e : TypeId} {a : Option Addr} {n c : Nat} {l : List α} {row : Option Nat} (h : OwnR enc k A base e a n c l) (hg : A.grownBy B row) (hr : ∀ r, row = some r → ∃ o : Obj, A.heap[r]? = some o ∧ o.isCells = false) : OwnR enc k B base e a n c l :=
  h.keeps fun g o hgb ho _ => by
    obtain ⟨cs, hcs⟩ := h.tag g hgb
    rw [hcs] at ho
    cases ho
    exact cells_kept hg hr hcs
theorem TextSt.own {w : World} {b : Nat} {M : List (Sp × Int)} {al : Option Addr} {cl : Nat} {av : Option Addr} {cv : Nat} {T : List (Sp × ByteArray)} {bl : Option Addr} {dl : Nat} {bv : Option Addr} {dv : Nat} (hb : w.heap.size < b) : OwnFrom b (fun (_ : Unit) => TextSt w M al cl av cv T bl dl bv dv) := fun _ A B row h hg hr =>
  have hr' : ∀ r, row = some r → ∃ o : Obj, A.heap[r]? = some o ∧ o.isCells = false := fun r e => (hr r e).2
  ⟨⟨cells_kept hg hr' h.map.box, h.map.spans.cellsKept hg hr', h.map.vals.cellsKept hg hr'⟩, ⟨cells_kept hg hr' h.txts.box, h.txts.spans.cellsKept hg hr', h.txts.vals.cellsKept hg hr'⟩, cells_kept hg hr' h.bR, h.kp.grown hg (fun k e => .inr (by have := (hr k e).1; omega))⟩
theorem TextSt.kpn {w : World} {M : List (Sp × Int)} {al : Option Addr} {cl : Nat} {av : Option Addr} {cv : Nat} {T : List (Sp × ByteArray)} {bl : Option Addr} {dl : Nat} {bv : Option Addr} {dv : Nat} {W W' : World} (h : TextSt w M al cl av cv T bl dl bv dv W) (q : Kp Non W W') : TextSt w M al cl av cv T bl dl bv dv W' :=
  ⟨h.map.non q, h.txts.non q, q.heap h.bR (fun f => f), h.kp.comp q (fun _ _ q => q) (fun _ _ f => f.elim)⟩

set_option maxRecDepth 100000 in
set_option maxHeartbeats 1000000 in
theorem texts_walk (aA : Option Addr) (nA cA : Nat) (lA : List OpD) (w : World) (hA : Reads encO 4 w aA nA cA lA) : Calls Try.prog 10 #[.slice aA nA cA] w (BoolOut true w) := by
  refine (callsIn_wide (n := 4)).1 ?_
  have h1 : 1 ≤ 4 := by omega
  obtain rfl := hA.len
  have hcA := hA.cap
  have hmA := hA.max
  refine callsIn_of_wp_marks Try.func10 rfl trivial ?_ rfl
  simp only [Try.ntmps10, List.size_toArray, List.length_cons, List.length_nil, Nat.reduceAdd, Nat.reduceSub, Array.replicate_succ, Array.replicate_zero, List.push_toArray, List.append_toArray, List.nil_append, List.cons_append]
  gi_upto_region 3 with (fail)
  iterate 13 (first | go_values | gi_guarded | gi_step | gi_upon | gi_back | go_simp)
  have hkA : Kp Non w (((w.alloc (.cells #[.bool false] 4)).alloc (.cells #[.slice none 0 0, .slice none 0 0] 41)).alloc (.cells #[.slice none 0 0, .slice none 0 0] 66)) := (((Kp.refl _ w).alloc _).alloc _).alloc _
  have hT0 : Both w (w.heap.size + 1) (w.heap.size + 1 + 1) [] [] (((w.alloc (.cells #[.bool false] 4)).alloc (.cells #[.slice none 0 0, .slice none 0 0] 41)).alloc (.cells #[.slice none 0 0, .slice none 0 0] 66)) := by
    have q1 := heap_alloc_new (w.alloc (.cells #[.bool false] 4)) (.cells #[.slice none 0 0, .slice none 0 0] 41)
    have q2 := heap_alloc_new ((w.alloc (.cells #[.bool false] 4)).alloc (.cells #[.slice none 0 0, .slice none 0 0] 41)) (.cells #[.slice none 0 0, .slice none 0 0] 66)
    simp only [World.size_alloc] at q1 q2
    refine ⟨⟨none, 0, none, 0, none, 0, none, 0, ⟨((Kp.refl Non _).alloc _).heap q1 (fun f => f), OwnR.nil _ _ _, OwnR.nil _ _ _⟩, ⟨q2, OwnR.nil _ _ _, OwnR.nil _ _ _⟩, ?_, ?_⟩, hkA.non⟩
    · rintro i (rfl | ⟨_, h, _⟩ | ⟨_, h, _⟩)
      · refine ⟨by omega, ?_⟩
        rintro (h | ⟨_, h, _⟩ | ⟨_, h, _⟩)
        · omega
        · cases h
        · cases h
      · cases h
      · cases h
    · rintro i (rfl | ⟨_, h, _⟩ | ⟨_, h, _⟩)
      · omega
      · cases h
      · cases h
  have hR0 : Boxed (((w.alloc (.cells #[.bool false] 4)).alloc (.cells #[.slice none 0 0, .slice none 0 0] 41)).alloc (.cells #[.slice none 0 0, .slice none 0 0] 66)) w.heap.size 4 (.bool false) := ((Boxed.new w 4 (.bool false)).alloc _).alloc _
  gi_cut [] from 5 (fun wc => ∃ M, Both w (w.heap.size + 1) (w.heap.size + 1 + 1) M (turn txt M) wc ∧ Canon M ∧ (∀ p ∈ M, 0 ≤ p.2 ∧ p.2 < 65536) ∧ M.length ≤ 120 ∧ Boxed wc w.heap.size 4 (.bool false))
  case first =>
    gi_wp2_with fail
    gi_loopw [15] (fun v15 wr => ∃ (k : Nat) (M : List (Sp × Int)), k ≤ lA.length ∧ k ≤ 60 ∧ v15 = .int .i64 k ∧ Both w (w.heap.size + 1) (w.heap.size + 1 + 1) M (turn txt M) wr ∧ Canon M ∧ (∀ p ∈ M, 0 ≤ p.2 ∧ p.2 < 65536) ∧ M.length ≤ 2 * k ∧ Boxed wr w.heap.size 4 (.bool false)) (fun v15 _ => lA.length - (intOf v15).toNat)
    case atStart => exact ⟨0, [], by omega, by omega, rfl, hT0, trivial, (fun _ h => by cases h), by simp, hR0⟩
    case round =>
      obtain ⟨k, M, hk, hk6, rfl, hT, hCn, hRg, hMl, hRb⟩ := hrel
      have hrd := hA.non (hT.kp.mono fun i hi (q : i = w.heap.size) => by omega)
      by_cases hgo : k < lA.length ∧ k < 60
      · obtain ⟨hlt, hlt6⟩ := hgo
        have g : (k : Int) < (lA.length : Nat) := by omega
        have g6 : (k : Int) < 60 := by omega
        obtain ⟨b, o, rfl⟩ := hrd.there (by omega)
        obtain ⟨c0, c1, c2, c3⟩ := Ops.c hrd hlt
        clear hrd
        generalize lA[k] = op at *
        obtain ⟨s, v, d⟩ := op
        have hkB : Kp Non wr ((wr.alloc (.cells #[.int .i64 s.1, .int .i64 s.2, .int .i64 v, .bool d] 47)).alloc (.cells #[.int .u8 (v % 256), .int .u8 (v / 256 % 256)] 5)) := ((Kp.refl _ _).alloc _).alloc _
        have hbx := ((Kp.refl Non (wr.alloc (.cells #[.int .i64 s.1, .int .i64 s.2, .int .i64 v, .bool d] 47))).alloc (.cells #[.int .u8 (v % 256), .int .u8 (v / 256 % 256)] 5)).heap (heap_alloc_new wr (.cells #[.int .i64 s.1, .int .i64 s.2, .int .i64 v, .bool d] 47)) (fun f => f)
        have hT1 := hT.non hkB
        have hR1 : Boxed _ w.heap.size 4 (.bool false) := (hRb.alloc (.cells #[.int .i64 s.1, .int .i64 s.2, .int .i64 v, .bool d] 47)).alloc (.cells #[.int .u8 (v % 256), .int .u8 (v / 256 % 256)] 5)
        have hcv := run_txt (wr.alloc (.cells #[.int .i64 s.1, .int .i64 s.2, .int .i64 v, .bool d] 47)) (wr.heap.size + 1) (by simp) v
        have hand := i64_and65535 v
        cases d with
        | true =>
          have HNC := Lib.hid (hT1.numCall (M' := gstep M s (v % 65536) false) (f := 29) fun al cl av cv hM => dropI_gen _ M s (v % 65536) _ (by omega) al cl av cv hM)
          gi_wp2_with fail
          refine ⟨trivial, ?_⟩
          refine (callsIn_wide.2 (HNC.out)).mono ?_
          rintro e W2 ⟨rfl, hT2, hk2, hop⟩
          have hbx2 := hop _ _ _ hbx
          have hR2 : Boxed W2 w.heap.size 4 (.bool false) := hk2.heap hR1 (fun q => by omega)
          have e0 : W2.cell? ⟨wr.heap.size, 0, none⟩ = some (.int .i64 s.1) := (cell_of_row W2 wr.heap.size 0 _ _ _ hbx2).trans rfl
          have e1 : W2.cell? ⟨wr.heap.size, 1, none⟩ = some (.int .i64 s.2) := (cell_of_row W2 wr.heap.size 1 _ _ _ hbx2).trans rfl
          have HTC := Lib.hid (hT2.txtCall (f := 38) (args := #[.pointer (some ⟨w.heap.size + 1 + 1, 0, none⟩), valS s]) (T' := turn txt (gstep M s (v % 65536) false)) fun al cl av cv hM => by
            rw [← gstep_turn hCn s (v % 65536) false (fun x => 0 ≤ x ∧ x < 65536) (by constructor <;> omega) hRg txt (fun a b ha hb h => txt_inj ha hb h), txt_low]
            exact dropT_gen _ (turn txt M) s (txt v) W2 (by unfold turn; simp; omega) al cl av cv hM)
          gi_wp2_with fail
          refine ⟨trivial, ?_⟩
          refine (callsIn_wide.2 (HTC.out)).mono ?_
          rintro e W3 ⟨rfl, hT3, hk3, _⟩
          have hR3 : Boxed W3 w.heap.size 4 (.bool false) := hk3.heap hR2 (fun q => by omega)
          gi_wp2_with fail
          go_roundw
          case rel => exact ⟨k + 1, _, by omega, by omega, by go_num, hT3, gstep_canon hCn _ _ _, gstep_vals hCn s (v % 65536) false (fun x => 0 ≤ x ∧ x < 65536) (by constructor <;> omega) hRg, by have := gstep_len hCn.rise s (v % 65536) false; omega, hR3⟩
          case measure => simp [intOf]; omega
        | false =>
          have HNC := Lib.hid (hT1.numCall (M' := gstep M s (v % 65536) true) (f := 30) fun al cl av cv hM => putI_gen _ M s (v % 65536) _ (by omega) al cl av cv hM)
          gi_wp2_with fail
          refine ⟨trivial, ?_⟩
          refine (callsIn_wide.2 (HNC.out)).mono ?_
          rintro e W2 ⟨rfl, hT2, hk2, hop⟩
          have hbx2 := hop _ _ _ hbx
          have hR2 : Boxed W2 w.heap.size 4 (.bool false) := hk2.heap hR1 (fun q => by omega)
          have e0 : W2.cell? ⟨wr.heap.size, 0, none⟩ = some (.int .i64 s.1) := (cell_of_row W2 wr.heap.size 0 _ _ _ hbx2).trans rfl
          have e1 : W2.cell? ⟨wr.heap.size, 1, none⟩ = some (.int .i64 s.2) := (cell_of_row W2 wr.heap.size 1 _ _ _ hbx2).trans rfl
          have HTC := Lib.hid (hT2.txtCall (f := 39) (args := #[.pointer (some ⟨w.heap.size + 1 + 1, 0, none⟩), valS s, .string (txt v)]) (T' := turn txt (gstep M s (v % 65536) true)) fun al cl av cv hM => by
            rw [← gstep_turn hCn s (v % 65536) true (fun x => 0 ≤ x ∧ x < 65536) (by constructor <;> omega) hRg txt (fun a b ha hb h => txt_inj ha hb h), txt_low]
            exact putT_gen _ (turn txt M) s (txt v) W2 (by unfold turn; simp; omega) al cl av cv hM)
          gi_wp2_with fail
          refine ⟨trivial, ?_⟩
          refine (callsIn_wide.2 (HTC.out)).mono ?_
          rintro e W3 ⟨rfl, hT3, hk3, _⟩
          have hR3 : Boxed W3 w.heap.size 4 (.bool false) := hk3.heap hR2 (fun q => by omega)
          gi_wp2_with fail
          go_roundw
          case rel => exact ⟨k + 1, _, by omega, by omega, by go_num, hT3, gstep_canon hCn _ _ _, gstep_vals hCn s (v % 65536) true (fun x => 0 ≤ x ∧ x < 65536) (by constructor <;> omega) hRg, by have := gstep_len hCn.rise s (v % 65536) true; omega, hR3⟩
          case measure => simp [intOf]; omega
      · have hex : (k < lA.length ∧ 60 ≤ k) ∨ k = lA.length := by omega
        have hML : M.length ≤ 120 := by omega
        clear hgo hMl
        rcases hex with ⟨hlt, hge⟩ | rfl
        case inl =>
          have g : (k : Int) < (lA.length : Nat) := by omega
          have g6 : ¬ (k : Int) < 60 := by omega
          obtain ⟨b, o, rfl⟩ := hrd.there (by omega)
          obtain ⟨c0, c1, c2, c3⟩ := Ops.c hrd hlt
          clear hrd
          generalize lA[k] = op at *
          obtain ⟨s, v, d⟩ := op
          have hT1 := hT.non ((Kp.refl Non wr).alloc (.cells #[.int .i64 s.1, .int .i64 s.2, .int .i64 v, .bool d] 47))
          have hR1 : Boxed _ w.heap.size 4 (.bool false) := hRb.alloc (.cells #[.int .i64 s.1, .int .i64 s.2, .int .i64 v, .bool d] 47)
          clear hT hRb
          gi_wp2_with fail
          gi_meet
          case rel => exact ⟨M, hT1, hCn, hRg, hML, hR1⟩
        case inr =>
          gi_wp2_with fail
          gi_meet
          case rel => exact ⟨M, hT, hCn, hRg, hML, hRb⟩
  case rest =>
    obtain ⟨M, hT1, hCn, hRg, hMl, hR1⟩ := hcut
    obtain ⟨W, rfl⟩ : ∃ W, W = wc := ⟨_, rfl⟩
    obtain ⟨al, cl, av, cv, bl, dl, bv, dv, hM, hTx, hMS, hTS⟩ := hT1.ex
    have hkW := hT1.kp
    have hTl : (turn txt M).length = M.length := by simp [turn]
    have HL1 := Lib.hid (lenI_calls _ M al cl av cv W hM (by omega))
    have HL2 := Lib.hid (fun W' (h : Kp Non W W') => lenT_calls _ (turn txt M) bl dl bv dv W' (hTx.non h) (by omega))
    rw [hTl] at HL2
    clear hTl hT1
    gi_wp2_with fail
    refine ⟨trivial, ?_⟩
    refine (callsIn_wide.2 (HL1.out)).mono ?_
    rintro e W2 ⟨rfl, hk2⟩
    gi_wp2_with fail
    refine ⟨trivial, ?_⟩
    refine (callsIn_wide.2 (HL2.out W2 hk2)).mono ?_
    rintro e W3 ⟨rfl, hk3⟩
    have hk3 := hk2.trans hk3
    have hM3 := hM.non hk3
    have hT3 := hTx.non hk3
    have hR3 : Boxed W3 w.heap.size 4 (.bool false) := hk3.heap hR1 (fun f => f)
    have hkw3 := hkW.comp hk3 (U := One w.heap.size) (fun _ _ q => q) (fun _ _ f => f.elim)
    have hne : ((M.length : Int) != (M.length : Int)) = false := by simp
    clear hM hTx hR1 hkW HL1 HL2 hk2 hMS hTS
    gi_wp2_with fail
    refine ⟨trivial, ?_⟩
    refine (callsIn_wide.2 (eachI_calls _ _)).mono ?_
    rintro e W4 ⟨rfl, hW4⟩
    gi_wp2_with fail
    have bP := Boxed.new W3 61 (.pointer (some ⟨w.heap.size + 1, 0, none⟩))
    have hkN : Kp Non W3 (W3.alloc (.cells #[.pointer (some ⟨w.heap.size + 1, 0, none⟩)] 61)) := (Kp.refl _ _).alloc _
    have hsz : (W3.alloc (.cells #[.pointer (some ⟨w.heap.size + 1, 0, none⟩)] 61)).heap.size = W3.heap.size + 1 := by simp
    generalize W3.alloc (.cells #[.pointer (some ⟨w.heap.size + 1, 0, none⟩)] 61) = W5 at *
    have hSt : TextSt w M al cl av cv (turn txt M) bl dl bv dv W5 := ⟨hM3.non hkN, hT3.non hkN, hkN.heap hR3 (fun f => f), hkw3.comp hkN (fun _ _ q => q) (fun _ _ f => f.elim)⟩
    have hrb : w.heap.size < W3.heap.size := hR3.lt
    clear hM3 hT3 hR3 hkw3 hW4 hkN
    have HSay := Lib.hid (fun (x : Sp × Int) (hx : x ∈ M) => (show get (turn txt M) x.1.1 = some (txt x.2) by unfold turn; rw [get_turn, get_start hCn.rise hx]; rfl))
    refine wpIn_rangeFunc_ownH rfl h1 (gf := 60) (lb := #[.pointer (some ⟨W3.heap.size, 0, none⟩)]) rfl trivial (enters_of Try.func60 (by kernel_rfl) rfl)
      (eachItI_stops 3 (by omega) W5.heap.size W3.heap.size (w.heap.size + 1) M al cl av cv W5 (Nat.le_refl _) bP.cell hSt.map (by omega)) (fun h k => h.trans k) (fun W l o o' hl h2 h3 h4 => KG.putObj (w := W5) hSt.map.lt W l o o' hl h2 h3 h4) (Below.refl _ _) (fun _ => rfl)
      (fun _ W => TextSt w M al cl av cv (turn txt M) bl dl bv dv W)
      (fun c pre _ => c = .ret ∧ ¬ pre <+: M)
      (fun s A B row hs hg hr => TextSt.own (b := W5.heap.size) (by omega) () A B row hs hg hr)
      (fun c s A B row hs _ _ => hs)
      hSt
      (fun x a' W => ∃ b, a' = { tmps := #[.slice aA lA.length cA, undef, .pointer (some ⟨w.heap.size, 0, none⟩), .pointer (some ⟨w.heap.size + 1, 0, none⟩), .pointer (some ⟨w.heap.size + 1 + 1, 0, none⟩), u5, u6, u7, .func (.func 60) #[] #[.pointer (some ⟨W3.heap.size, 0, none⟩)], .pointer (some ⟨b, 0, none⟩), .int .i64 x.2, u11, u12, u13, u14, u15, u16, u17, u18, u19, u20, u21, u22, u23, u24, u25, u26, u27, u28, u29, u30, u31, u32, u33, u34, u35, u36, u37, u38, u39, u40, u41, u42, u43, u44, u45, u46, u47, u48, u49, .int .i64 (M.length : Int), .int .i64 (M.length : Int), .bool false, .func (.func 60) #[] #[.pointer (some ⟨W3.heap.size, 0, none⟩)], .func (.func 60) #[] #[.pointer (some ⟨W3.heap.size, 0, none⟩)], .bool false, .func (.func 60) #[] #[.pointer (some ⟨W3.heap.size, 0, none⟩)], valS x.1, .int .i64 x.2, u59, u60, u61, u62, u63, u64, u65, u66, u67, u68, u69, u70, u71, u72, u73, u74, u75, u76, u77, u78], defers := [] } ∧ BoxS W b x.1)
      (fun x a' _ A B row hs hg hr => by
        obtain ⟨b, e, hb⟩ := hs
        exact ⟨b, e, cells_kept hg (fun r e => (hr r e).2) hb⟩) ?assign ?body ?done ?stop
    case assign =>
      intro lp pre x W K hI hK
      simp [encsI]
      gi_wp2
      have hkA2 : Kp Non W (W.alloc (.cells #[.int .i64 x.1.1, .int .i64 x.1.2] 30)) := (Kp.refl _ _).alloc _
      exact hK _ _ ((KeepsOthers.alloc W _).from _) (KG.of_kp hkA2 hI.map.lt (fun _ f => f.elim)) (hI.kpn hkA2) ⟨W.heap.size, rfl, BoxS.new W x.1⟩
    case body =>
      rintro lp pre x a' W hl hrec hE ⟨b, rfl, hbx⟩ hlt
      have z0 := hbx.c0
      have xR := hE.bR.cell
      have fR := hE.bR.frozen
      have hG := getT_calls _ (turn txt M) bl dl bv dv x.1.1 W hE.txts
      have HNot := Lib.hid (fun (h : get (turn txt M) x.1.1 ≠ some (txt x.2)) (q : (pre ++ [x]) <+: M) => h (HSay.out x (q.subset (by simp))))
      have HE := Lib.hid hE
      clear hbx hE hSt bP
      cases hr : get (turn txt M) x.1.1 with
      | none =>
        rw [hr] at hG
        have HN := Lib.hid (HNot.out (by rw [hr]; simp))
        have HG := Lib.hid hG
        clear hG hr HNot
        gi_wp2_with fail
        refine ⟨trivial, ?_⟩
        refine (callsIn_wide.2 (HG.out)).mono ?_
        rintro e W6 ⟨rfl, hk6⟩
        have xR6 := hk6.cell xR (fun f => f)
        have fR6 : W6.frozen? ⟨w.heap.size, 0, none⟩ = false := (HE.out.kpn hk6).bR.frozen
        gi_wp2
        exact ⟨kf6 hk6 _ _, rfl, HN.out⟩
      | some u =>
        rw [hr] at hG
        have HN := Lib.hid (fun (h : u ≠ txt x.2) => HNot.out (by rw [hr]; simpa using h))
        have HG := Lib.hid hG
        clear hG hr HNot
        gi_wp2_with fail
        refine ⟨trivial, ?_⟩
        refine (callsIn_wide.2 (HG.out)).mono ?_
        rintro e W6 ⟨rfl, hk6⟩
        have xR6 := hk6.cell xR (fun f => f)
        have fR6 : W6.frozen? ⟨w.heap.size, 0, none⟩ = false := (HE.out.kpn hk6).bR.frozen
        have hkT : Kp Non W6 (W6.alloc (.cells #[.int .u8 (x.2 % 256), .int .u8 (x.2 / 256 % 256)] 5)) := (Kp.refl _ _).alloc _
        have xR7 := hkT.cell xR6 (fun f => f)
        have fR7 : (W6.alloc (.cells #[.int .u8 (x.2 % 256), .int .u8 (x.2 / 256 % 256)] 5)).frozen? ⟨w.heap.size, 0, none⟩ = false := (HE.out.kpn (hk6.trans hkT)).bR.frozen
        have hcv := run_txt W6 W6.heap.size rfl x.2
        generalize txt x.2 = tx at *
        by_cases hu : u = tx
        · have hb : (u.toList == tx.toList) = true := by rw [hu]; exact beq_self_eq_true _
          gi_wp2
          exact ⟨⟨(hk6.trans hkT).size, fun k o _ ho _ => (hk6.trans hkT).heap ho (fun f => f)⟩, KG.of_kp (hk6.trans hkT) HE.out.map.lt (fun _ f => f.elim), HE.out.kpn (hk6.trans hkT)⟩
        · have hb : (u.toList == tx.toList) = false := (Lib.bytes_beq_false_iff _ _).2 hu
          have HN2 := Lib.hid (HN.out hu)
          clear HN
          gi_wp2
          exact ⟨kf6 (hk6.trans hkT) _ _, rfl, HN2.out⟩
    case done =>
      rintro D ys W hD rfl hE hK
      have xR := hE.bR.cell
      have fR := hE.bR.frozen
      have HE := Lib.hid hE
      have HD := Lib.hid hK
      clear hE hK hSt bP
      gi_wp2_with fail
      refine ⟨trivial, ?_⟩
      refine (callsIn_wide.2 (lives_true W)).mono ?_
      rintro e W6 ⟨rfl, hk6⟩
      have xR6 := hk6.cell xR (fun f => f)
      have fR6 : W6.frozen? ⟨w.heap.size, 0, none⟩ = false := (HE.out.kpn hk6).bR.frozen
      gi_wp2
      have hRf : Boxed (W6.setCell ⟨w.heap.size, 0, none⟩ (.bool true)) w.heap.size 4 (.bool true) := (HE.out.kpn hk6).bR.set (.bool true)
      have hks : Kp (One w.heap.size) W6 (W6.setCell ⟨w.heap.size, 0, none⟩ (.bool true)) := Kp.setCell (S := One w.heap.size) (Kp.refl _ _) (p := ⟨w.heap.size, 0, none⟩) (.inl rfl) _
      have hD7 : (W6.setCell ⟨w.heap.size, 0, none⟩ (.bool true)).heap[D]? = some (.deferred (some [])) := hks.heap (hk6.heap HD.out (fun f => f)) (fun q => by have q : D = w.heap.size := q; omega)
      have hDne : D ≠ w.heap.size := fun q => by omega
      refine ⟨by simp, .inl ⟨_, _, rfl, run_takeDeferred hD7, ?_⟩⟩
      have hRg : ((W6.setCell ⟨w.heap.size, 0, none⟩ (.bool true)).putObj D (.deferred none)).cell? ⟨w.heap.size, 0, none⟩ = some (.bool true) := by
        have := hRf.cell
        rw [← this]
        simp only [World.cell?]
        rw [World.putObj_heap_other (fun e => hDne e.symm)]
      refine ⟨_, results_cell_bool rfl _ _ _ rfl hRg, rfl, ?_⟩
      exact ((HE.out.kp.comp (hk6.comp hks (U := One w.heap.size) (fun _ _ f => f.elim) (fun _ _ q => q)) (fun _ _ q => q) (fun _ _ q => q)).grown (grownBy_putObj' _ D _) (fun k e => by cases e; exact .inr (by omega))).mono fun i hi (q : i = w.heap.size) => by omega
    case stop =>
      rintro D c pre W hD hpre ⟨_, hn⟩ hK
      exact absurd hpre hn
open Go.ChangeShapes Go.WideShapes Go.ChangeAt
set_option maxRecDepth 100000 in
theorem span_texts_lifted (os : Os) (started : os.Started) (H : Type) (enc : TypeId × Value → H) :
    ReturnsInHanded {} Try.checked os 10 .any (Rows.spanTextsSpec.pre6 enc Try.prog Try.f10 Rows.spanTextsRow.domain false) (Rows.spanTextsSpec.post enc Try.prog Try.f10 false true false false) := by
  refine returnsInHanded_of_change_sized (C := Try.checked) own started (by kernel_rfl) Try.func10
    (ChangeSpec.witness6 (enc := enc) (C := Try.checked) false ⟨#[], #[.slice none 0 0], []⟩ 8 (by kernel_rfl) (by kernel_rfl) (by kernel_rfl) (by kernel_rfl)) ?_
  intro W base args ds gs before hval0 hW hcnd _ _
  have hval : ∀ (j : Nat) t v, Try.f10.params[j]? = some t → args[j]? = some v → Value.okWide Try.prog W .any base t v := hval0
  have hW' := hW
  obtain ⟨p, q, hA0, hV, rfl, hfz, hnd⟩ := hW
  have hA : DataW.TrodAll enc Try.prog W 0 (fun _ => true) true Try.f10.params.toList args.toList ds p := hA0
  rw [Try.params10] at hA hval
  obtain ⟨v0, vs0, d0, ds0, p0, q0, hargs, rfl, rfl, h0, r0⟩ := trodAll_cons hA
  obtain ⟨rfl, rfl, rfl⟩ := trodAll_nil r0
  obtain rfl : args = #[v0] := by cases args; simp_all
  obtain ⟨rfl, rfl⟩ := trodVars_none hV
  have lt0 : ∀ x ∈ p0, x.block < W.heap.size := by obtain ⟨m, hm⟩ := h0; exact DataW.trod_lt m _ _ _ hm
  have k0 := h0
  obtain ⟨a0, n0, c0, rfl⟩ := okWide_slice Try.underlying39 (hval 0 39 v0 rfl rfl)
  obtain ⟨l0, b0, i0⟩ := ops_in h0
  clear hA0 hval0
  refine (texts_walk a0 n0 c0 l0 W b0).mono fun e W' ⟨he, hk⟩ => ?_
  have bel := hk.below
  subst he
  exact ⟨_, rfl, _, _, _, [], _, [], hW', trodAll_mk1 (shut_bool Try.underlying4 _), (trodAll_cons_mk (Below.trod laidOut (by kernel_rfl) (of_decide_eq_true (by kernel_rfl)) k0 bel lt0)
    trodAll_mk0), rfl, bel.frame _, fun h => by cases h⟩

theorem span_texts : Rows.SpanTextsSaid :=
  OpenClaim.holds_of_wide 10 Try.f10 rfl rfl rfl rfl rfl rfl rfl ⟨rfl, rfl, rfl, rfl, rfl⟩ rfl rfl rfl rfl rfl (by kernel_rfl) Try.func10 (by kernel_rfl)
    (of_decide_eq_true (by kernel_rfl)) (by unfold Func.isWrapper; first | (rw [if_pos (by decide +kernel)]; kernel_rfl) | (rw [if_neg (by decide +kernel)]; exact ⟨rfl, rfl⟩))
    (fun os started H enc _ => span_texts_lifted os started H enc)
#print axioms span_texts
end Go.Proofs.Ytkgjpmgoapfamaa
