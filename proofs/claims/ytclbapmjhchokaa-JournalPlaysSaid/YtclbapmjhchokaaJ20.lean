/-
  The same rows; what the document finds on a disk.
-/
import Derived.Test.YtclbapmjhchokaaJ19
namespace Go.Proofs.Ytclbapmjhchokaa
open Go.RowKit

/-- A row with its records reads as rows. -/
theorem Recs.rows {F : Nat → Prop} {w : World} {a : Option Addr} {n c : Nat} {vs : List Value} {rs : List (List UInt8)} (hS : SRow w 22 a n c vs) (hR : Recs F w vs rs) : RowsB w a n c rs := by
  refine ⟨by rw [← hR.len, hS.len], hS.cap.1, hS.cap.2, fun i r hr => ?_⟩
  obtain ⟨b, k, h1, h2, _⟩ := hR.at_ i r hr
  obtain ⟨g, h3, h4⟩ := hS.cl h1
  exact ⟨g, 0, b, k, h3, by rw [Nat.zero_add]; exact h4, h2⟩

set_option maxRecDepth 100000 in
set_option maxHeartbeats 2000000 in
theorem same_true (a : Option Addr) (n c : Nat) (a2 : Option Addr) (c2 : Nat) (l : List (List UInt8)) (w : World) (h1 : RowsB w a n c l) (h2 : RowsB w a2 n c2 l) : Calls Try.prog 43 #[.slice a n c, .slice a2 n c2] w (TruePost w) := by
  have hmax := h1.max
  have hcap := h1.cap
  have hcap2 := h2.cap
  have HN := Lib.hid h1.len
  have q0 : ((n : Int) != (n : Int)) = false := by simp
  go_enter Try.func43, Try.ntmps43
  go_wp2_with fail
  go_loopw [13] (fun v13 wr => ∃ i : Nat, i ≤ n ∧ v13 = .int .i64 i ∧ Kp Non w wr) (fun v13 _ => n - (intOf v13).toNat)
  case atStart => exact ⟨0, Nat.zero_le _, rfl, Kp.refl _ _⟩
  case round =>
    obtain ⟨i, hi, rfl, hk⟩ := hrel
    by_cases hlt : i < n
    · have g1 : (i : Int) < (n : Int) := by omega
      have g2 : (0 : Int) ≤ (i : Int) := by omega
      have hx0 : i < l.length := by have := HN.out; omega
      obtain ⟨b, o, ra, rc, rfl, hc, hB⟩ := (h1.non hk).at_ i l[i] (List.getElem?_eq_getElem hx0)
      obtain ⟨b2, o2, ra2, rc2, rfl, hc2, hB2⟩ := (h2.non hk).at_ i l[i] (List.getElem?_eq_getElem hx0)
      generalize l[i] = r at *
      have hkd : Kp Non w wr.drew := hk.drew
      have cv1 := conv_string wr.drew _ _ _ _ hB.drew
      have cv2 := conv_string wr.drew _ _ _ _ hB2.drew
      have e1 : (r == r) = true := by simp
      go_wp2_with fail
      refine wp_region_chain [0,0,0,0,0,0,0,0,0,0,0] (by kernel_rfl) (by kernel_rfl) (fun w' => w' = wr.drew) rfl ?_
      repeat (first | (with_reducible refine pure_skip ?_) | ((with_reducible refine pure_k rfl ?_); intro K hK; apply Exists.intro; refine ⟨fun w' hC => ?_, ?_⟩; (subst hC; go_simp; rfl); go_simp; refine hK _ ?_; clear hK K))
      with_reducible refine pure_nil ?_
      repeat (with_reducible refine chain_skip0 ?_)
      with_reducible refine chain_nil ?_
      go_wp2_with fail
      exact ⟨⟨i + 1, by omega, by go_num, hkd⟩, by simp [intOf]; omega⟩
    · obtain rfl : i = n := by omega
      have g1 : ¬ (i : Int) < (i : Int) := by omega
      go_wp2
      go_ret
      exact ⟨rfl, hk⟩

/-- Why an image is none, as the document counts. -/
def fwhy (b : List UInt8) : Nat := if b.length = 0 then 4 else if unfWhy b = 3 then 3 else if unfWhy b ≠ 0 ∨ num4 b + 8 ≠ b.length then 2 else 0
def fcut (b : List UInt8) : Int := if (scanL b).2.2 = 2 then ((scanL b).2.1 : Nat) else -1
def NoFind (k : Nat) (e : Ending) : Prop := e = .returned (.tuple #[.slice none 0 0, .slice none 0 0, .int .i64 (-1), .int .i64 (k : Nat)])
def FindPost (img log : List UInt8) (w : World) (e : Ending) (w' : World) : Prop :=
  Kp Non w w' ∧ if fwhy img ≠ 0 then NoFind (fwhy img) e else if (scanL log).2.2 = 3 then NoFind 3 e else
    ∃ a c ra rc vs, e = .returned (.tuple #[.slice a (unfData img).length c, .slice ra (scanL log).1.length rc, .int .i64 (fcut log), .int .i64 0]) ∧ OwnB w' w.heap.size 5 a (unfData img).length c (unfData img) ∧
      SRow w' 22 ra (scanL log).1.length rc vs ∧ Recs Non w' vs (scanL log).1 ∧ ∀ k, Blk ra k → w.heap.size ≤ k

theorem results_tmp4 {fn : Func} {t u v x : Tmp} (h : fn.results = #[.tmp t, .tmp u, .tmp v, .tmp x]) (tmps : Array Value) (P : Program) (w : World) :
    (results fn tmps).run P w = .ok (.tuple #[tmps.getD t undef, tmps.getD u undef, tmps.getD v undef, tmps.getD x undef]) w := by
  simp [results, h]

set_option maxRecDepth 100000 in
set_option maxHeartbeats 1000000 in
theorem find_calls (ia : Option Addr) (m ic : Nat) (img : List UInt8) (la : Option Addr) (n lc : Nat) (log : List UInt8) (w : World) (hi : Bytes w ia m ic img) (hl : Bytes w la n lc log) (him : m ≤ 1000000000000) (hlm : n ≤ 1000000000000) :
    Calls Try.prog 41 #[.slice ia m ic, .slice la n lc] w (FindPost img log w) := by
  have HM := Lib.hid hi.len
  have HN := Lib.hid hl.len
  have HP := Lib.hid (show ∀ e w', FindPost img log w e w' = FindPost img log w e w' from fun _ _ => rfl)
  by_cases h0 : m = 0
  · subst h0
    have hf : fwhy img = 4 := by unfold fwhy; rw [← HM.out, if_pos rfl]
    go_enter Try.func41, Try.ntmps41
    go_wp2_with fail
    refine bodyPost_ret (results_tmp4 rfl _ _ _) rfl ?_
    refine ⟨Kp.refl _ _, ?_⟩
    rw [hf, if_pos (by omega)]
    rfl
  · have q0 : ((m : Int) == 0) = false := by simp; omega
    have hfw : fwhy img = if unfWhy img = 3 then 3 else if unfWhy img ≠ 0 ∨ num4 img + 8 ≠ img.length then 2 else 0 := by unfold fwhy; rw [← HM.out, if_neg h0]
    have HF := Lib.hid hfw
    clear hfw
    go_enter Try.func41, Try.ntmps41
    go_wp2_with fail
    refine (unframeR_calls ia m ic img w hi him).mono ?_
    rintro e w1 ⟨hk1, hp1⟩
    have hl1 := hl.non hk1
    have hw3 := unfWhy_le img
    by_cases hy : unfWhy img = 0
    · rw [if_pos hy] at hp1
      obtain ⟨da, dc, rfl, hOd⟩ := hp1
      have hu := unf0 hy
      have hul := unfData_len hu.2
      rw [← hul] at hOd
      by_cases hne : num4 img + 8 = img.length
      · have t1 : (((num4 img + 8 : Nat) : Int) != (m : Int)) = false := by have := HM.out; simp; omega
        have hf : fwhy img = 0 := by rw [HF.out, if_neg (by omega), if_neg (by omega)]
        have HF0 := Lib.hid hf
        have HU := Lib.hid hul
        rw [← hul]
        have hbase : w.heap.size ≤ w1.heap.size := hk1.size
        have hOb := hOd.base (Nat.le_refl w.heap.size)
        rw [← hul] at t1
        clear HF hy hne hu hf
        generalize hX : (((unfData img).length + 8 : Nat) : Int) = X at *
        go_wp2_with fail
        have hB1 := hOd.bytes
        clear HP
        go_loopw [4, 5, 10] (fun v4 v5 v10 wr => ∃ (rs : List (List UInt8)) (ra : Option Addr) (rc : Nat) (vs : List Value), v4 = .slice da (num4 img) dc ∧ v5 = .slice ra rs.length rc ∧ v10 = .int .i64 (sizes rs : Nat) ∧ sizes rs ≤ n ∧ SRow wr 22 ra rs.length rc vs ∧ Recs Non wr vs rs ∧ (∀ k, Blk ra k → w1.heap.size ≤ k) ∧
          Kp Non w1 wr ∧ scanL log = (rs ++ (scanL (log.drop (sizes rs))).1, sizes rs + (scanL (log.drop (sizes rs))).2.1, (scanL (log.drop (sizes rs))).2.2)) (fun _ _ v10 _ => n + 1 - (intOf v10).toNat)
        case atStart => exact ⟨[], none, 0, [], rfl, rfl, rfl, by simp [sizes], SRow.nil _ _, Recs.nil _, (fun k hk => by obtain ⟨_, q, _⟩ := hk; cases q), Kp.refl _ _, by simp [sizes]⟩
        case round =>
          obtain ⟨rs, ra, rc, vs, rfl, rfl, rfl, hle, hS, hR, hnew, hkw, hscan⟩ := hrel
          have HS := Lib.hid hscan
          clear hscan
          have hlw := hl1.non hkw
          have hq := hk1.trans hkw
          have g2 : (0 : Int) ≤ ((sizes rs : Nat) : Int) := by omega
          have g3 : ((sizes rs : Nat) : Int) ≤ (n : Int) := by omega
          have g4 : (n : Int) ≤ (lc : Int) := by have := hl.cap; omega
          have g5 : n ≤ lc := hl.cap
          have hcnt := sizes_count rs
          have hlD := hlw.drop (sizes rs) hle
          have hrl : (log.drop (sizes rs)).length = n - sizes rs := by have := HN.out; simp; omega
          have HR := Lib.hid hrl
          have hOr : OwnB wr w.heap.size 5 da (unfData img).length dc (unfData img) := hOb.kp hkw (fun _ _ f => f)
          generalize hrest : log.drop (sizes rs) = rest at *
          have HREST := Lib.hid hrest
          clear hrest hrl
          generalize hat : sizes rs = at_ at *
          have HAT := Lib.hid hat
          clear hat
          by_cases hcz : lc = at_
          · have hnz : n - at_ = 0 := by omega
            have hrz : rest = [] := List.eq_nil_of_length_eq_zero (by rw [HR.out]; omega)
            have hbz : Bytes wr la 0 0 rest := by
              rw [hrz]
              exact ⟨rfl, by omega, by omega, fun _ => rfl, fun _ _ _ _ h => by simp at h⟩
            have hcz' : lc - at_ = 0 := by omega
            go_wp2_with fail
            refine (unframeR_calls la 0 0 rest wr hbz (by omega)).mono ?_
            rintro e w2 ⟨hk2, hp2⟩
            have hq2 := hq.trans hk2
            have hS2 := hS.non hk2
            have hR2 := hR.non hk2
            have hO2 := hOr.kp hk2 (fun _ _ f => f)
            have hy2 : unfWhy rest = 1 := by rw [hrz]; rfl
            rw [if_neg (by omega), hy2] at hp2
            subst hp2
            have hs := HS.out
            rw [scanL_end (b := rest) (by omega), List.append_nil, Nat.add_zero, hy2] at hs
            go_wp2_with fail
            refine bodyPost_ret (results_tmp4 rfl _ _ _) rfl ?_
            refine ⟨hq2, ?_⟩
            rw [if_neg (by rw [HF0.out]; omega), hs, if_neg (by simp)]
            have hfc : fcut log = -1 := by
              unfold fcut
              rw [hs]
              rw [if_neg (by simp)]
            rw [hfc]
            refine ⟨da, dc, ra, rc, vs, ?_, hO2, hS2, hR2, fun k hk => Nat.le_trans hbase (hnew k hk)⟩
            rw [HU.out]
            rfl
          have hcz' : ¬ lc - at_ = 0 := by omega
          go_wp2_with fail
          refine (unframeR_calls _ _ _ rest wr hlD (by omega)).mono ?_
          rintro e w2 ⟨hk2, hp2⟩
          have hq2 := hq.trans hk2
          have hS2 := hS.non hk2
          have hR2 := hR.non hk2
          have hO2 := hOr.kp hk2 (fun _ _ f => f)
          have hw4 := unfWhy_le rest
          rcases (show unfWhy rest = 0 ∨ unfWhy rest = 1 ∨ unfWhy rest = 2 ∨ unfWhy rest = 3 by omega) with hy2 | hy2 | hy2 | hy2
          · rw [if_pos hy2] at hp2
            obtain ⟨fa, fc, rfl, hOf⟩ := hp2
            have hu2 := unf0 hy2
            have hul2 := unfData_len hu2.2
            have hs := HS.out
            rw [scanL_step (b := rest) hy2, show rest.drop (num4 rest + 8) = log.drop (at_ + num4 rest + 8) by rw [← HREST.out, List.drop_drop, Nat.add_assoc]] at hs
            have HS5 := Lib.hid hs
            have hkA := (Kp.refl Non w2).alloc (Obj.cells #[Value.slice fa (num4 rest) fc] 22)
            have hcA := cell_of_row _ _ 0 _ _ _ (heap_alloc_new w2 (Obj.cells #[Value.slice fa (num4 rest) fc] 22))
            have hSA := hS2.non hkA
            have hRA := hR2.non hkA
            have hfA := hOf.bytes.non hkA
            have hqA := hq2.trans hkA
            have hszA := hqA.size
            have hkwA := (hkw.trans hk2).trans hkA
            have hrlen := HR.out
            have hat2 : IntKind.i64.wrap ((at_ : Int) + ((num4 rest + 8 : Nat) : Int)) = ((at_ + (num4 rest + 8) : Nat) : Int) := by rw [IntWalk.i64_in _ (by omega)]; omega
            obtain ⟨i1, hi1, hy0, hy1, hy3⟩ := info_parts' info22
            have hzc : (Value.slice none 0 0).cells = #[Value.slice none 0 0] := rfl
            clear hs
            generalize hN8 : num4 rest + 8 = n8 at *
            go_wp2_with ((at_builtin; refine wpList_append_srow rfl _ _ 59 rfl 22 i1 (.slice none 0 0) 24 Try.underlying59 hi1 hy0 hy1 hy3 hzc (NB.slice _ _ _) ra rs.length rc vs rfl hSA ⟨w2.heap.size, 0, none⟩ 1 (.slice fa (num4 rest) fc) rfl hcA rfl (NB.slice _ _ _) (by omega) (by omega) ?_; intro a2 c2 w3 hS3 hk3 ha3))
            have hkw3 : Kp Non w1 w3 := hkwA.comp hk3 (fun _ _ f => f) (fun x hx q => by have := hnew x q; omega)
            have hR3 : Recs Non w3 (vs ++ [Value.slice fa (num4 rest) fc]) (rs ++ [unfData rest]) := by
              have h5 := hfA.nob hk3 hSA.noB
              rw [← hul2] at h5 ⊢
              exact (hRA.kp hk3 hSA.noB).add h5 (fun _ _ _ f => f)
            have hl3 : (rs ++ [unfData rest]).length = rs.length + 1 := by simp
            have hs3 : sizes (rs ++ [unfData rest]) = at_ + n8 := by rw [sizes_one, HAT.out, hul2]; omega
            have hn3 : ∀ k, Blk a2 k → w1.heap.size ≤ k := by
              intro k hk
              rcases ha3 with rfl | rfl
              · exact hnew k hk
              · obtain ⟨_, q1, q2⟩ := hk
                cases q1
                rw [← q2]
                exact hkwA.size
            refine ⟨⟨rs ++ [unfData rest], a2, c2, vs ++ [Value.slice fa (num4 rest) fc], rfl, by rw [hl3], by rw [hs3]; simp, by rw [hs3]; omega, by rw [hl3]; exact hS3, hR3, hn3, hkw3, ?_⟩, by simp [intOf]; omega⟩
            rw [HS5.out, hs3, show at_ + num4 rest + 8 = at_ + n8 by omega]
            simp only [List.append_assoc, List.singleton_append, Prod.mk.injEq, true_and]
            exact ⟨by omega, trivial⟩
          · rw [if_neg (by omega), hy2] at hp2
            subst hp2
            have hs := HS.out
            rw [scanL_end (b := rest) (by omega), List.append_nil, Nat.add_zero, hy2] at hs
            go_wp2_with fail
            refine bodyPost_ret (results_tmp4 rfl _ _ _) rfl ?_
            refine ⟨hq2, ?_⟩
            rw [if_neg (by rw [HF0.out]; omega), hs, if_neg (by simp)]
            have hfc : fcut log = -1 := by
              unfold fcut
              rw [hs]
              rw [if_neg (by simp)]
            rw [hfc]
            refine ⟨da, dc, ra, rc, vs, ?_, hO2, hS2, hR2, fun k hk => Nat.le_trans hbase (hnew k hk)⟩
            rw [HU.out]
            rfl
          · rw [if_neg (by omega), hy2] at hp2
            subst hp2
            have hs := HS.out
            rw [scanL_end (b := rest) (by omega), List.append_nil, Nat.add_zero, hy2] at hs
            go_wp2_with fail
            refine bodyPost_ret (results_tmp4 rfl _ _ _) rfl ?_
            refine ⟨hq2, ?_⟩
            rw [if_neg (by rw [HF0.out]; omega), hs, if_neg (by simp)]
            have hfc : fcut log = (at_ : Nat) := by
              unfold fcut
              rw [hs]
              rw [if_pos rfl]
            rw [hfc]
            refine ⟨da, dc, ra, rc, vs, ?_, hO2, hS2, hR2, fun k hk => Nat.le_trans hbase (hnew k hk)⟩
            rw [HU.out]
            rfl
          · rw [if_neg (by omega), hy2] at hp2
            subst hp2
            have hs := HS.out
            rw [scanL_end (b := rest) (by omega), List.append_nil, Nat.add_zero, hy2] at hs
            go_wp2_with fail
            refine bodyPost_ret (results_tmp4 rfl _ _ _) rfl ?_
            refine ⟨hq2, ?_⟩
            rw [if_neg (by rw [HF0.out]; omega), hs, if_pos rfl]
            rfl
      · have t1 : (((num4 img + 8 : Nat) : Int) != (m : Int)) = true := by have := HM.out; simp; omega
        have hf : fwhy img = 2 := by rw [HF.out, if_neg (by omega), if_pos (.inr hne)]
        generalize hX : ((num4 img + 8 : Nat) : Int) = X at *
        go_wp2_with fail
        refine bodyPost_ret (results_tmp4 rfl _ _ _) rfl ?_
        refine ⟨hk1, ?_⟩
        rw [hf, if_pos (by omega)]
        rfl
    · rw [if_neg hy] at hp1
      subst hp1
      by_cases h3 : unfWhy img = 3
      · have hf : fwhy img = 3 := by rw [HF.out, if_pos h3]
        rw [h3]
        go_wp2_with fail
        refine bodyPost_ret (results_tmp4 rfl _ _ _) rfl ?_
        refine ⟨hk1, ?_⟩
        rw [hf, if_pos (by omega)]
        rfl
      · have hf : fwhy img = 2 := by rw [HF.out, if_neg h3, if_pos (.inl hy)]
        have t1 : (((unfWhy img : Nat) : Int) == 3) = false := by simp; omega
        have t2 : (((unfWhy img : Nat) : Int) != 0) = true := by simp; omega
        generalize unfWhy img = k at *
        go_wp2_with fail
        refine bodyPost_ret (results_tmp4 rfl _ _ _) rfl ?_
        refine ⟨hk1, ?_⟩
        rw [hf, if_pos (by omega)]
        rfl
end Go.Proofs.Ytclbapmjhchokaa
