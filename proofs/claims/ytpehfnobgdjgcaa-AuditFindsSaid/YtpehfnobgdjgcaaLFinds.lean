/-
  AuditFinds: of what one client did alone an answer that is turned is found, in its block; so is a write that is done, and that nobody executed, or twice. For every input. (The frame: sframe.py.)
-/
import Derived.Test.YtpehfnobgdjgcaaW5
import Derived.Test.YtpehfnobgdjgcaaO1
namespace Go.Proofs.Ytpehfnobgdjgcaa
open Go.RowKit

theorem OwnR.addr {α : Type} {enc : α → List Value} {k : Nat} {w : World} {base n c : Nat} {e : TypeId} {a : Option Addr} {l : List α} (h : OwnR enc k w base e a n c l) (hn : 0 < n) : ∃ g, a = some ⟨g, 0, none⟩ ∧ base ≤ g := by
  rcases OwnR.lie h with ⟨_, h0, _⟩ | ⟨g, cur, e, hb, _⟩
  · omega
  · exact ⟨g, e, hb⟩
theorem AloneSt.deedsR {W : World} {base n : Nat} {ds : List DeedV} {da : Option Addr} {dc lb : Nat} {la : Option Addr} {lc : Nat} (h : AloneSt W base n ds da dc lb la lc) {W' : World} (r : Kp Non W W') : Deeds W' da ds.length dc ds :=
  ⟨(OwnR.non h.deeds r).reads encDeed_len (by omega), fun d hd => ⟨(OwnR.non (h.texts d hd).1 r).reads encT_len (by omega), (OwnR.non (h.texts d hd).2 r).reads encT_len (by omega)⟩⟩
theorem AloneSt.non {W W' : World} {base n : Nat} {ds : List DeedV} {da : Option Addr} {dc lb : Nat} {la : Option Addr} {lc : Nat} (h : AloneSt W base n ds da dc lb la lc) (r : Kp Non W W') : AloneSt W' base n ds da dc lb la lc :=
  ⟨h.al, OwnR.non h.deeds r, OwnR.non h.lives r, OwnR.non h.log r, fun d hd => ⟨OwnR.non (h.texts d hd).1 r, OwnR.non (h.texts d hd).2 r⟩⟩
theorem AloneSt.livesR {W : World} {base n : Nat} {ds : List DeedV} {da : Option Addr} {dc lb : Nat} {la : Option Addr} {lc : Nat} (h : AloneSt W base n ds da dc lb la lc) {W' : World} (r : Kp Non W W') : Lives W' (some ⟨lb, 0, none⟩) 1 1 [⟨0, 1, ⟨la, ds.length, lc, ds.map ranD⟩⟩] :=
  ⟨(OwnR.non h.lives r).reads encLife_len (by omega), fun y hy => by
    obtain rfl := List.mem_singleton.1 hy
    refine ⟨(OwnR.non h.log r).reads encRan_len (by omega), fun q hq => ?_⟩
    obtain ⟨d, hd, rfl⟩ := List.mem_map.1 hq
    exact ⟨(OwnR.non (h.texts d hd).1 r).reads encT_len (by omega), (OwnR.non (h.texts d hd).2 r).reads encT_len (by omega)⟩⟩
/-- The row of an empty slice that was written out. -/
theorem OwnR.zero {α : Type} {enc : α → List Value} {k : Nat} (w : World) (e : TypeId) : OwnR enc k (w.alloc (.cells #[] e)) w.heap.size e (some ⟨w.heap.size, 0, none⟩) 0 0 ([] : List α) :=
  OwnR.mk (Nat.le_refl _) (heap_alloc_new w _) (Nat.le_refl _) (Nat.zero_le _) (by simp) (by simp) (by simp)
theorem store9 (W : World) (b o : Nat) (v0 v1 v2 v3 v4 v5 v6 v7 v8 : Value) : ((((((((W.setCell ⟨b, o, none⟩ v0).setCell ⟨b, o + 1, none⟩ v1).setCell ⟨b, o + 2, none⟩ v2).setCell ⟨b, o + 3, none⟩ v3).setCell ⟨b, o + 4, none⟩ v4).setCell ⟨b, o + 5, none⟩ v5).setCell ⟨b, o + 6, none⟩ v6).setCell ⟨b, o + 7, none⟩ v7).setCell ⟨b, o + 8, none⟩ v8 = W.setCells b o [v0, v1, v2, v3, v4, v5, v6, v7, v8] := rfl
theorem no_blk {a : Option Addr} {g : Nat} (h : ∀ i, Blk a i → ¬ Blk (some ⟨g, 0, none⟩) i) : ∀ i, Blk a i → ¬ One g i := fun i hi e => h i hi ⟨_, rfl, (e : i = g).symm⟩
theorem Reads.drop {α : Type} {enc : α → List Value} {k : Nat} {w : World} {b o n c : Nat} {l : List α} (h : Reads enc k w (some ⟨b, o, none⟩) n c l) (i : Nat) (hi : i ≤ l.length) : Reads enc k w (some ⟨b, o + i * k, none⟩) (n - i) (c - i) (l.drop i) := by
  have h1 := h.len
  have h2 := h.cap
  have h3 := h.max
  refine ⟨by simp; omega, by omega, by omega, (fun e => by cases e), fun j x hx => ?_⟩
  rw [List.getElem?_drop] at hx
  obtain ⟨b', o', e, hc⟩ := h.at_ (i + j) x hx
  cases e
  refine ⟨b, o + i * k, rfl, fun q v hv => ?_⟩
  rw [show o + i * k + j * k + q = o + (i + j) * k + q by rw [Nat.add_mul]; omega]
  exact hc q v hv
theorem Reads.none_ {α : Type} {enc : α → List Value} {k : Nat} {w : World} {a : Option Addr} {l : List α} (hl : l = []) : Reads enc k w a 0 0 l := ⟨by rw [hl]; rfl, Nat.le_refl _, by omega, fun _ => rfl, fun _ _ h => by rw [hl] at h; simp at h⟩
/-- What region 7 reads. -/
structure F7 (b5 b11 : Nat) (y1 : Int) (d : DeedV) (W : World) : Prop where
  y : W.cell? ⟨b5, 1, none⟩ = some (.int .u64 y1)
  d3 : W.cell? ⟨b11, 3, none⟩ = some (.int .i64 d.fr)
  d4 : W.cell? ⟨b11, 4, none⟩ = some (.int .i64 d.to)
/-- What region 22 reads. -/
structure F22 (lg k : Nat) (r : RanV) (W : World) : Prop where
  c0 : W.cell? ⟨lg, k * 10, none⟩ = some (.int .i64 r.ref.1)
  c1 : W.cell? ⟨lg, k * 10 + 1, none⟩ = some (.int .i64 r.ref.2)
  c2 : W.cell? ⟨lg, k * 10 + 2, none⟩ = some (.int .i64 r.cmd.op)
  c3 : W.cell? ⟨lg, k * 10 + 3, none⟩ = some (.int .i64 r.cmd.cl)
  c4 : W.cell? ⟨lg, k * 10 + 4, none⟩ = some (.int .i64 r.cmd.sq)
  c5 : W.cell? ⟨lg, k * 10 + 5, none⟩ = some (.int .i64 r.cmd.fr)
  c6 : W.cell? ⟨lg, k * 10 + 6, none⟩ = some (.int .i64 r.cmd.to)
  c7 : W.cell? ⟨lg, k * 10 + 7, none⟩ = some (.slice r.cmd.da.a r.cmd.da.n r.cmd.da.c)
  c8 : W.cell? ⟨lg, k * 10 + 8, none⟩ = some (.bool r.rep.ok)
  c9 : W.cell? ⟨lg, k * 10 + 9, none⟩ = some (.slice r.rep.da.a r.rep.da.n r.rep.da.c)
theorem F22.of {W : World} {lg n lc k : Nat} {l : List RanV} {r : RanV} (h : Reads encRan 10 W (some ⟨lg, 0, none⟩) n lc l) (hr : l[k]? = some r) : F22 lg k r W := by
  have key : ∀ i v, (encRan r)[i]? = some v → W.cell? ⟨lg, k * 10 + i, none⟩ = some v := fun i v hv => by have := h.get hr hv; rwa [Nat.zero_add] at this
  exact ⟨key 0 _ rfl, key 1 _ rfl, key 2 _ rfl, key 3 _ rfl, key 4 _ rfl, key 5 _ rfl, key 6 _ rfl, key 7 _ rfl, key 8 _ rfl, key 9 _ rfl⟩
set_option maxRecDepth 100000 in
set_option maxHeartbeats 4000000 in
theorem finds_walk (a : Option Addr) (ln c : Nat) (l : List DoV) (x y0 y1 : Int) (hx : 0 ≤ x ∧ x ≤ 18446744073709551615) (hy0 : 0 ≤ y0) (hy1 : 0 ≤ y1) (w : World) (hl : Reads encDo 4 w a ln c l) : Calls Try.prog 7 #[.slice a ln c, .int .u64 x, .agg #[.int .u64 y0, .int .u64 y1]] w (BoolOut true w) := by
  obtain rfl := hl.len
  obtain ⟨n, hn⟩ : ∃ n : Nat, 1 + x % 12 = n := Int.eq_ofNat_of_zero_le (by omega)
  have hnb : 1 ≤ n ∧ n ≤ 12 := by omega
  obtain ⟨iD, hiD, hzD, hsD, hbD⟩ := info_parts infoDeed
  obtain ⟨iR, hiR, hzR, hsR, hbR⟩ := info_parts infoRan
  obtain ⟨iT, hiT, hzT, hsT, hbT⟩ := info_parts infoT
  obtain ⟨V, eV, hB5, kV⟩ : ∃ V, w.alloc (.cells #[.int .u64 y0, .int .u64 y1] 55) = V ∧ Bx V w.heap.size 55 [.int .u64 y0, .int .u64 y1] ∧ Kp Non w V := ⟨_, rfl, Bx.new w _ [.int .u64 y0, .int .u64 y1], (Kp.refl Non w).alloc _⟩
  have HV := Lib.hid eV
  have HA := Lib.hid (aalone_calls a c l n hnb V (hl.non kV))
  have HNB := Lib.hid hnb
  have HB5 := Lib.hid fun W (r : Kp Non V W) => Bx.non hB5 r
  clear eV hB5
  go_enter Try.func7, Try.ntmps7
  go_upto_region 1 with (fail)
  rw [HV.out]
  generalize hb5 : w.heap.size = b5 at *
  go_wp2_with fail
  clear hn
  refine HA.out.mono ?_
  rintro e w1 ⟨ds, da, dc, lb, la, lc, rfl, hN, hS, hk1⟩
  have hd20 : ds.length ≤ 20 := by omega
  have kw1 := kV.trans hk1
  by_cases h0 : ds.length = 0
  · have e0 : ((ds.length : Int) == 0) = true := by rw [h0]; rfl
    clear h0
    go_wp2_with fail
    refine (alives_calls w1).mono ?_
    rintro e w2 ⟨rfl, hk2⟩
    go_wp2_with fail
    go_ret
    exact ⟨rfl, kw1.trans hk2⟩
  have e0 : ((ds.length : Int) == 0) = false := by rw [beq_eq_false_iff_ne]; omega
  obtain ⟨db, rfl, hdb⟩ := hS.deeds.addr (by omega)
  have w2' : ¬ (ds.length : Int) = 0 := by omega
  have w3' : ¬ ds.length = 0 := h0
  have w1' : IntKind.u64.wrap (ds.length : Int) = ds.length := IntWalk.u64_in _ (by omega)
  obtain ⟨k, hkm⟩ := Int.eq_ofNat_of_zero_le (Int.emod_nonneg y0 (show (ds.length : Int) ≠ 0 by omega))
  have hkl : k < ds.length := by have := Int.emod_lt_of_pos y0 (show (0 : Int) < ds.length by omega); omega
  have HKM := Lib.hid hkm
  clear hkm
  have HK64 : Hid (wrap64 (k : Int) = k) := Lib.hid (by unfold wrap64; omega)
  have b0 : w1.cell? ⟨b5, 0, none⟩ = some (.int .u64 y0) := (HB5.out _ hk1).c rfl
  have HD := Lib.hid (hS.al.deed k _ (List.getElem?_eq_getElem hkl))
  have HR := Lib.hid (hS.al.read k _ (List.getElem?_eq_getElem hkl))
  have HX := Lib.hid (List.getElem?_eq_getElem hkl)
  have HTx := Lib.hid (hS.texts _ (List.getElem_mem hkl))
  obtain ⟨c0, c1, c2, c3, c4, c5, c6, c7, c8⟩ : _ ∧ _ ∧ _ ∧ _ ∧ _ ∧ _ ∧ _ ∧ _ ∧ _ := (hS.deedsR (Kp.refl _ _)).cells hkl
  simp only [Nat.zero_add] at c0 c1 c2 c3 c4 c5 c6 c7 c8
  have HN := Lib.hid (BxD.new2 w1 ds[k])
  have hcd := (hS.deedsR (Kp.refl _ _)).reads.cap
  have hmd := (hS.deedsR (Kp.refl _ _)).reads.max
  have HS := Lib.hid hS
  have HS0 := Lib.hid hS
  have HLB : Hid (lb < w1.heap.size) := Lib.hid (hS.lives.blk lb ⟨_, rfl, rfl⟩).2
  have kw1' := Lib.hid kw1
  have g : (k : Int) < (ds.length : Nat) := Int.ofNat_lt.2 hkl
  generalize ds[k] = d at *
  clear hS HA hN
  go_upto_region 6 with (fail)
  rw [HKM.out, HK64.out]
  clear w1' w2' w3' HKM HK64 b0
  go_upto_region 7 with (fail)
  obtain ⟨V1, eV, hB, kV1⟩ := HN.out
  rw [eV]
  have HZ : Hid (w1.heap.size < V1.heap.size) := Lib.hid (Bx.lt hB)
  have HB := Lib.hid fun W (r : Kp Non V1 W) => Bx.non hB r
  have hk2 := hk1.trans kV1
  have HK1 := Lib.hid kV1
  have HS := Lib.hid fun W (r : Kp Non V1 W) => HS.out.non (kV1.trans r)
  have kw2 := kw1.trans kV1
  have HTx := Lib.hid fun W (r : Kp Non V1 W) => (⟨OwnR.non HTx.out.1 (kV1.trans r), OwnR.non HTx.out.2 (kV1.trans r)⟩ : OwnD W V.heap.size d)
  clear HN eV hB kV1 c0 c1 c2 c3 c4 c5 c6 c7 c8 hk1 kw1
  generalize hb11 : w1.heap.size = b11 at *
  have hD := HD.out
  have hfr := hD.fr
  have hub := hD.ub
  obtain ⟨m, hm, hmm⟩ := tm_nat hy1 (show (0 : Int) < d.to - d.fr by omega) (by have := HNB.out; omega)
  have v1 : IntKind.i64.wrap (d.to - d.fr) = d.to - d.fr := IntWalk.i64_in _ (by have := HNB.out; omega)
  have v2 : IntKind.u64.wrap (d.to - d.fr) = d.to - d.fr := IntWalk.u64_in _ (by have := HNB.out; omega)
  have v3 : ¬ (d.to - d.fr) = 0 := by omega
  have v4 : IntKind.i64.wrap (d.fr + (m : Int)) = d.fr + m := IntWalk.i64_in _ (by have := HNB.out; omega)
  have HF7 := Lib.hid fun W (r : Kp Non V1 W) => (⟨(HB5.out W (hk2.trans r)).c rfl, (BxD.cells (HB.out W r)).2.2.2.1, (BxD.cells (HB.out W r)).2.2.2.2.1⟩ : F7 b5 b11 y1 d W)
  clear hD
  refine wp_region_pieces [(14, [0,0,0,0,0,0,0,0,0,0,0,0,0,2], F7 b5 b11 y1 d)] (by kernel_rfl) (by kernel_rfl) ?_
  refine (And.intro ?_ ?_ : _ ∧ _)
  · exact HF7.out _ (Kp.refl _ _).drew
  refine PB.out ?_
  repeat (first | (with_reducible refine pb_skip ?_) | ((first | (with_reducible refine pb_k rfl ?_) | ((with_reducible refine pb_ky ?hg ?_); (case hg => simp [Region.wanted, yielded]; done))); intro K hK; apply Exists.intro; refine ⟨fun w' hC => ?_, ?_⟩; (obtain ⟨y, d3, d4⟩ := hC; go_simp; rfl); go_simp; refine hK _ ?_; clear hK K) | ((with_reducible refine pb_kn ?hg ?_); (case hg => simp [Region.wanted, yielded]; done); intro K hK; go_simp; refine hK _ ?_; clear hK K))
  with_reducible refine pb_nil ?_
  simp only [List.take_succ_cons, List.take_zero, List.drop_zero]
  refine CB.out ?_
  repeat (with_reducible refine cb_skip ?_)
  with_reducible refine cb_step rfl fun K hK => ?_
  go_simp
  refine hK _ _ (fun h => by cases h) ?_
  clear hK K
  repeat (with_reducible refine cb_skip ?_)
  with_reducible refine cb_nil ?_
  simp only [Then, wpPieces]
  obtain ⟨U, hU⟩ : ∃ U, V1.drew = U := ⟨_, rfl⟩
  rw [hU]
  have kU : Kp Non V1 U := hU ▸ (Kp.refl _ _).drew
  have HM : Hid (m < (d.to - d.fr).toNat) := Lib.hid (by omega)
  have hkU := hk2.trans kU
  have kwU := kw2.trans kU
  clear v1 v2 v3 v4 hmm hm hU HF7 hfr hub
  obtain ⟨n0, n1, n2, n3, n4, n5, n6, n7, n8⟩ := BxD.cells (HB.out U kU)
  have hzU : b11 < U.heap.size := Bx.lt (HB.out U kU)
  by_cases h1 : d.op = 1
  · have e1 : (d.op == 1) = true := by simp [h1]
    have HRd : Hid (d.re.l.length = (d.to - d.fr).toNat) := Lib.hid (HR.out h1).1
    have HRn : Hid (d.re.n = d.re.l.length) := Lib.hid (OwnR.len (HTx.out U kU).2 encT_len (by omega))
    clear h1
    obtain ⟨q, hq⟩ : ∃ q, d.re.n = q := ⟨_, rfl⟩
    have HQ : Hid (q = (d.to - d.fr).toNat) := Lib.hid (by rw [← hq, HRn.out, HRd.out])
    rw [hq] at n8
    have hq12 : q ≤ 12 := by have := HQ.out; have := HD.out.ub; have := HD.out.fr; have := HNB.out; omega
    have hre : Reads encT 1 U d.re.a q d.re.c d.re.l := by rw [← hq]; exact (HTx.out U kU).2.reads encT_len (by omega)
    have HRe := Lib.hid hre
    clear hq hre
    go_upto_region 11 with (at_builtin; refine wpList_append_row (P := Try.prog) (enc := encT) rfl _ _ 26 rfl U.heap.size 9 iT _ 16 Try.underlying26 hiT hzT hsT hbT rfl (by decide) encT_len encT_one (some ⟨U.heap.size, 0, none⟩) 0 0 [] rfl (OwnR.zero U 9) d.re.a q d.re.c d.re.l rfl (HRe.out.non ((Kp.refl Non U).alloc _)) (by omega) (by omega) ((Kp.refl Non U).alloc _).size ?_; intro a3 c3 w3 hO3 hk3 _; rw [Nat.zero_add] at hO3 ⊢; have k3 : Kp Non U w3 := (((Kp.refl Non U).alloc _).newer hk3 (fun i hi => (by obtain ⟨ad, e, rfl⟩ := hi; cases e; exact Nat.le_refl _))); have hB3 := HB.out w3 (kU.trans k3); have hc8 : w3.cell? ⟨b11, 8, none⟩ = _ := (BxD.cells hB3).2.2.2.2.2.2.2.2; have hf8 := Bx.f hB3 8)
    rw [List.nil_append] at hO3
    obtain ⟨hB4, k4⟩ := Bx.set hB3 8 (.slice a3 q c3)
    obtain ⟨W4, hW4⟩ : ∃ W, w3.setCell ⟨b11, 8, none⟩ (.slice a3 q c3) = W := ⟨_, rfl⟩
    rw [hW4] at hB4 k4 ⊢
    have hB4 : BxD W4 b11 (withRe d ⟨a3, q, c3, d.re.l⟩) := hB4
    have hO4 : OwnT W4 U.heap.size a3 q c3 d.re.l := OwnR.kp hO3 k4 (fun i hi hb => by have := (hO3.blk i hi).1; have : i = b11 := hb; omega)
    have q0 : 0 < q := by have := HQ.out; have := HD.out.fr; omega
    obtain ⟨g3, rfl, hg3⟩ := OwnR.addr hO4 q0
    have HO4 := Lib.hid hO4
    have hmq : m < q := by have := HQ.out; have := HM.out; omega
    obtain ⟨s0, hs0⟩ : ∃ s0, d.re.l[m]? = some s0 := ⟨_, List.getElem?_eq_getElem (by rw [HRd.out, ← HQ.out]; exact hmq)⟩
    have is1 : W4.cell? ⟨g3, m, none⟩ = some (.string s0) := OwnT.at_ hO4 hs0
    have fz1 := OwnR.fz hO4 rfl m
    have hst := OwnT.set1 hO4 m never
    obtain ⟨n0, n1, n2, n3, n4, n5, n6, n7, n8⟩ := BxD.cells hB4
    simp only [withRe] at n0 n1 n2 n3 n4 n5 n6 n7 n8
    have gq : (m : Int) < (q : Nat) := Int.ofNat_lt.2 hmq
    have v2 : d.fr + (m : Int) - d.fr = m := by omega
    go_upto_region 12 with (fail)
    obtain ⟨W5, hW5⟩ : ∃ W, W4.setCell ⟨g3, m, none⟩ (.string never) = W := ⟨_, rfl⟩
    have hW5' : W4.setCell ⟨g3, m, none⟩ (.string ⟨#[110, 101, 118, 101, 114, 32, 119, 114, 105, 116, 116, 101, 110]⟩) = W5 := hW5
    rw [hW5] at hst
    rw [hW5']
    have k45 : Kp (One g3) W4 W5 := hW5 ▸ Kp.setCell (S := One g3) (Kp.refl _ W4) (p := ⟨g3, m, none⟩) (.inl rfl) _
    have hB5 := Bx.kp hB4 k45 (by show ¬ b11 = g3; omega)
    have k15 : Kp Non w1 W5 := (((HK1.out.trans kU).trans k3).newer k4 fun i hi => by have : i = b11 := hi; omega).newer k45 fun i hi => by have : i = g3 := hi; have := HK1.out.size; have := kU.size; omega
    have hS5 := HS0.out.non k15
    have hbd : db < W5.heap.size := (hS5.deeds.blk db ⟨_, rfl, rfl⟩).2
    obtain ⟨n0, n1, n2, n3, n4, n5, n6, n7, n8⟩ := BxD.cells hB5
    simp only [withRe] at n0 n1 n2 n3 n4 n5 n6 n7 n8
    have hkl' := (List.getElem?_eq_some_iff.1 HX.out).1
    obtain ⟨c0, c1, c2, c3', c4, c5, c6, c7, c8⟩ := (hS5.deedsR (Kp.refl _ _)).cells hkl'
    simp only [Nat.zero_add] at c0 c1 c2 c3' c4 c5 c6 c7 c8
    rw [(List.getElem?_eq_some_iff.1 HX.out).2] at c0 c1 c2 c3' c4 c5 c6 c7 c8
    have f0 := hS5.deeds.fz rfl (k * 9)
    have f1 := hS5.deeds.fz rfl (k * 9 + 1)
    have f2 := hS5.deeds.fz rfl (k * 9 + 2)
    have f3 := hS5.deeds.fz rfl (k * 9 + 3)
    have f4 := hS5.deeds.fz rfl (k * 9 + 4)
    have f5 := hS5.deeds.fz rfl (k * 9 + 5)
    have f6 := hS5.deeds.fz rfl (k * 9 + 6)
    have f7 := hS5.deeds.fz rfl (k * 9 + 7)
    have f8 := hS5.deeds.fz rfl (k * 9 + 8)
    have HSt := Lib.hid hst
    have HS5 := Lib.hid hS5
    have HB5' := Lib.hid hB5
    clear hst hS5 hB5 hB4 hO4 hO3 k4 k45 is1 fz1 hs0 hB3 hc8 hf8 hk3
    go_upto_region 13 with (fail)
    rw [store9]
    have hDr := OwnR.setElem HS5.out.deeds encDeed_len (by omega) hkl' (withRe d ⟨some ⟨g3, 0, none⟩, q, c3, d.re.l.set m never⟩)
    obtain ⟨W6, hW6⟩ : ∃ W, W5.setCells db (k * 9) (encDeed (withRe d ⟨some ⟨g3, 0, none⟩, q, c3, d.re.l.set m never⟩)) = W := ⟨_, rfl⟩
    have hW6' : W5.setCells db (k * 9) [.int .i64 d.cl, .int .i64 d.sq, .int .i64 d.op, .int .i64 d.fr, .int .i64 d.to, .slice d.da.a d.da.n d.da.c, .int .i64 d.be, .int .i64 d.en, .slice (some ⟨g3, 0, none⟩) q c3] = W6 := hW6
    rw [hW6'] 
    rw [hW6] at hDr
    have k56 : Kp (One db) W5 W6 := hW6 ▸ Kp.setCells (S := One db) (.inl rfl) _ _ (Kp.refl _ W5)
    have tx6 : ∀ {z : Tx} {base : Nat}, OwnT W5 base z.a z.n z.c z.l → z.there W6 := fun h => (OwnR.kp h k56 (no_blk (no_row h HS5.out.deeds (by decide)))).reads encT_len (by omega)
    have HDs : Hid (Deeds W6 (some ⟨db, 0, none⟩) ds.length dc (ds.set k (withRe d ⟨some ⟨g3, 0, none⟩, q, c3, d.re.l.set m never⟩))) := Lib.hid ⟨hDr.reads encDeed_len (by omega), fun e he => by
      rcases List.mem_or_eq_of_mem_set he with he | rfl
      · exact ⟨tx6 (HS5.out.texts e he).1, tx6 (HS5.out.texts e he).2⟩
      · exact ⟨tx6 (HS5.out.texts d (List.mem_of_getElem? HX.out)).1, tx6 (z := ⟨some ⟨g3, 0, none⟩, q, c3, d.re.l.set m never⟩) HSt.out⟩⟩
    have HLs : Hid (Lives W6 (some ⟨lb, 0, none⟩) 1 1 [⟨0, 1, ⟨la, ds.length, lc, ds.map ranD⟩⟩]) := Lib.hid ⟨(OwnR.kp HS5.out.lives k56 (no_blk (no_row HS5.out.lives HS5.out.deeds (by decide)))).reads encLife_len (by omega), fun y hy => by
      obtain rfl := List.mem_singleton.1 hy
      refine ⟨(OwnR.kp HS5.out.log k56 (no_blk (no_row HS5.out.log HS5.out.deeds (by decide)))).reads encRan_len (by omega), fun r hr => ?_⟩
      obtain ⟨e, he, rfl⟩ := List.mem_map.1 hr
      exact ⟨tx6 (HS5.out.texts e he).1, tx6 (HS5.out.texts e he).2⟩⟩
    have hsl : (ds.set k (withRe d ⟨some ⟨g3, 0, none⟩, q, c3, d.re.l.set m never⟩)).length = ds.length := List.length_set
    have HC := check_calls n (some ⟨db, 0, none⟩) dc (ds.set k (withRe d ⟨some ⟨g3, 0, none⟩, q, c3, d.re.l.set m never⟩)) (some ⟨lb, 0, none⟩) 1 [⟨0, 1, ⟨la, ds.length, lc, ds.map ranD⟩⟩] W6 (by rw [hsl]; exact HDs.out) HLs.out (by rw [hsl]; exact hd20) (show 1 ≤ 12 by decide) (fun y hy => by obtain rfl := List.mem_singleton.1 hy; show (ds.map ranD).length ≤ 1000; rw [List.length_map]; omega)
    rw [turned_check HS5.out.al HNB.out.2 HX.out (eq_of_beq e1) HM.out rfl, hsl] at HC
    have HC := Lib.hid HC
    have kw6 : Kp Non w W6 := (kw1'.out.trans k15).newer k56 fun i hi => by have : i = db := hi; have := kV.size; omega
    have e9 : ((d.fr + (m : Int)) == (d.fr + (m : Int))) = true := by simp
    clear hDr k56 HDs HLs tx6 hsl n0 n1 n2 n3 n4 n5 n6 n7 n8 c0 c1 c2 c3' c4 c5 c6 c7 c8 f0 f1 f2 f3 f4 f5 f6 f7 f8 hW6 hW6'
    go_wp2_with fail
    refine HC.out.mono ?_
    rintro e w7 ⟨rfl, hk7⟩
    have kw7 := kw6.trans hk7
    clear HC
    go_wp2_with fail
    refine (alives_calls w7).mono ?_
    rintro e w8 ⟨rfl, hk8⟩
    go_wp2_with fail
    go_ret
    exact ⟨rfl, kw7.trans hk8⟩
  · have e1 : (d.op == 1) = false := by simp [h1]
    by_cases h2 : d.op = 2
    · have e2 : (d.op == 2) = true := by simp [h2]
      have HO : Hid (d.op = 2 ∨ d.op = 3) := Lib.hid (.inl h2)
      clear h1 h2
      have hSU := HS0.out.non (HK1.out.trans kU)
      obtain ⟨lg, hlg, hlgb⟩ := OwnR.addr hSU.log (by have := (List.getElem?_eq_some_iff.1 HX.out).1; omega)
      have l2 : U.cell? ⟨lb, 2, none⟩ = some (.slice (some ⟨lg, 0, none⟩) ds.length lc) := by have := (hSU.lives.reads encLife_len (by omega)).get (j := 0) (i := 2) rfl rfl; rw [← hlg]; simpa using this
      have hlb : lb < U.heap.size := (hSU.lives.blk lb ⟨_, rfl, rfl⟩).2
      rw [hlg] at hSU
      have HSU := Lib.hid hSU
      have hkl' : k < ds.length := (List.getElem?_eq_some_iff.1 HX.out).1
      have hlc : ds.length ≤ lc := (hSU.log.reads encRan_len (by omega)).cap
      have hlm : lc ≤ 9223372036854775807 := (hSU.log.reads encRan_len (by omega)).max
      clear hSU
      go_upto_region 18 with (fail)
      have HRw := Lib.hid (HSU.out.log.reads encRan_len (by omega))
      have v2 : IntKind.i64.wrap ((k : Int) + 1) = k + 1 := IntWalk.i64_in _ (by omega)
      have p0 : 0 ≤ (k : Int) + 1 := by omega
      have p1 : (k : Int) + 1 ≤ (ds.length : Int) := by omega
      obtain ⟨la2, hla2⟩ : ∃ a : Option Addr, (if lc = k + 1 then some (⟨lg, 0, none⟩ : Addr) else some ⟨lg, (k + 1) * 10, none⟩) = a := ⟨_, rfl⟩
      have v3 : k ≤ lc := by omega
      have v4 : k + 1 ≤ ds.length := by omega
      refine wp_region_pieces [(14, [0,1,0,0,0,1,0,0,0,0,1,0,0,2], fun _ => True)] (by kernel_rfl) (by kernel_rfl) ?_
      refine (And.intro ?_ ?_ : _ ∧ _)
      · exact trivial
      refine PB.out ?_
      repeat (first | (with_reducible refine pb_skip ?_) | ((first | (with_reducible refine pb_k rfl ?_) | ((with_reducible refine pb_ky ?hg ?_); (case hg => simp [Region.wanted, yielded]; done))); intro K hK; apply Exists.intro; refine ⟨fun w' hC => ?_, ?_⟩; (go_simp; rfl); go_simp; refine hK _ ?_; clear hK K) | ((with_reducible refine pb_kn ?hg ?_); (case hg => simp [Region.wanted, yielded]; done); intro K hK; go_simp; refine hK _ ?_; clear hK K))
      with_reducible refine pb_nil ?_
      simp only [List.take_succ_cons, List.take_zero, List.drop_zero]
      refine CB.out ?_
      have HR2 : Hid (Reads encRan 10 U la2 (ds.length - (k + 1)) (lc - (k + 1)) ((ds.map ranD).drop (k + 1))) := Lib.hid (by
        by_cases h : lc = k + 1
        · rw [← hla2, if_pos h]
          have e1 : ds.length - (k + 1) = 0 := by omega
          have e2 : lc - (k + 1) = 0 := by omega
          rw [e1, e2]
          exact Reads.none_ (List.drop_eq_nil_of_le (by rw [List.length_map]; omega))
        · rw [← hla2, if_neg h]
          have := HRw.out.drop (k + 1) (by rw [List.length_map]; omega)
          rwa [Nat.zero_add] at this)
      have HR1 : Hid (Reads encRan 10 U (some ⟨lg, 0, none⟩) k lc ((ds.map ranD).take k)) := Lib.hid (HRw.out.take k (by rw [List.length_map]; omega))
      clear hla2
      repeat (with_reducible refine cb_skip ?_)
      with_reducible refine cb_step rfl fun K hK => ?_
      go_simp
      refine hK _ _ (fun _ => trivial) ?_
      clear hK K
      have kA : Kp Non U (U.drew.alloc (.cells #[] 61)) := ((Kp.refl Non U).drew).alloc _
      repeat (with_reducible refine cb_skip ?_)
      with_reducible refine cb_step rfl fun K hK => ?_
      refine wp_append_row (P := Try.prog) (enc := encRan) _ _ 46 rfl U.heap.size 61 iR _ 112 Try.underlying46 hiR hzR hsR hbR rfl (by decide) encRan_len encRan_one (some ⟨U.heap.size, 0, none⟩) 0 0 [] rfl (OwnR.zero U.drew 61) (some ⟨lg, 0, none⟩) k lc ((ds.map ranD).take k) rfl (HR1.out.non kA) (by omega) (by omega) kA.size ?_
      intro a3 c3 w3 hO3 hk3 _
      rw [Nat.zero_add] at hO3 ⊢
      rw [List.nil_append] at hO3
      have k3 : Kp Non U w3 := kA.newer hk3 fun i hi => by obtain ⟨ad, e, rfl⟩ := hi; cases e; exact Nat.le_refl _
      refine hK _ _ (fun _ => trivial) ?_
      clear hK K hk3 kA
      repeat (with_reducible refine cb_skip ?_)
      with_reducible refine cb_step rfl fun K hK => ?_
      refine wp_append_row (P := Try.prog) (enc := encRan) _ _ 46 rfl U.heap.size 61 iR _ 112 Try.underlying46 hiR hzR hsR hbR rfl (by decide) encRan_len encRan_one a3 k c3 ((ds.map ranD).take k) rfl hO3 la2 (ds.length - (k + 1)) (lc - (k + 1)) ((ds.map ranD).drop (k + 1)) rfl (HR2.out.non k3) (by omega) (by omega) k3.size ?_
      intro a4 c4 w4 hO4 hk4 _
      have k4 : Kp Non U w4 := k3.newer hk4 fun i hi => (hO3.blk i hi).1
      refine hK _ _ (fun _ => trivial) ?_
      clear hK K hk4
      have hS4 := HSU.out.non k4
      have hc2 : w4.cell? ⟨lb, 2, none⟩ = some (.slice (some ⟨lg, 0, none⟩) ds.length lc) := by have := (hS4.lives.reads encLife_len (by omega)).get (j := 0) (i := 2) rfl rfl; simpa using this
      have hf2 := hS4.lives.fz rfl 2
      repeat (with_reducible refine cb_skip ?_)
      with_reducible refine cb_step rfl fun K hK => ?_
      go_simp
      refine hK _ _ (fun h => by cases h) ?_
      clear hK K
      repeat (with_reducible refine cb_skip ?_)
      with_reducible refine cb_nil ?_
      simp only [Then, wpPieces]
      obtain ⟨N, hN⟩ : ∃ N, k + (ds.length - (k + 1)) = N := ⟨_, rfl⟩
      rw [hN] at hO4 ⊢
      obtain ⟨W5, hW5⟩ : ∃ W, w4.setCell ⟨lb, 2, none⟩ (.slice a4 N c4) = W := ⟨_, rfl⟩
      have k5 : Kp (One lb) w4 W5 := hW5 ▸ Kp.setCell (S := One lb) (Kp.refl _ w4) (p := ⟨lb, 2, none⟩) (.inl rfl) _
      have hLv := OwnR.set hS4.lives 2 (.slice a4 N c4) (l' := [⟨0, 1, ⟨a4, N, c4, (ds.map ranD).take k ++ (ds.map ranD).drop (k + 1)⟩⟩]) rfl
      rw [hW5] at hLv
      rw [hW5]
      have tx5 : ∀ {z : Tx} {base : Nat}, OwnT w4 base z.a z.n z.c z.l → OwnT W5 base z.a z.n z.c z.l := fun h => OwnR.kp h k5 (no_blk (no_row h hS4.lives (by decide)))
      have HT5 : Hid (∀ e ∈ ds, OwnD W5 V.heap.size e) := Lib.hid fun e he => ⟨tx5 (hS4.texts e he).1, tx5 (hS4.texts e he).2⟩
      have HD5 := Lib.hid (OwnR.kp hS4.deeds k5 (no_blk (no_row hS4.deeds hS4.lives (by decide))))
      have HG5 := Lib.hid (OwnR.kp hS4.log k5 (no_blk (no_row hS4.log hS4.lives (by decide))))
      have HO5 := Lib.hid (OwnR.kp hO4 k5 (no_blk (no_row hO4 hS4.lives (by decide))))
      have HL5 := Lib.hid hLv
      have kU5 : Kp (One lb) U W5 := k4.non.trans k5
      have kw5 : Kp Non w W5 := kwU.newer kU5 fun i hi => by have : i = lb := hi; have := (hS4.lives.blk lb ⟨_, rfl, rfl⟩).1; have := kV.size; omega
      have HRn : Hid (∀ r ∈ (ds.map ranD).take k ++ (ds.map ranD).drop (k + 1), r ∈ ds.map ranD) := Lib.hid fun r hr => by
        rcases List.mem_append.1 hr with h | h
        · exact List.mem_of_mem_take h
        · exact List.mem_of_mem_drop h
      have hth : Hid (∀ W, Kp Non W5 W → ∀ r ∈ ds.map ranD, r.there W) := Lib.hid fun W q r hr => by
        obtain ⟨e, he, rfl⟩ := List.mem_map.1 hr
        exact ⟨(OwnR.non (HT5.out e he).1 q).reads encT_len (by omega), (OwnR.non (HT5.out e he).2 q).reads encT_len (by omega)⟩
      have HC := check_calls n (some ⟨db, 0, none⟩) dc ds (some ⟨lb, 0, none⟩) 1 [⟨0, 1, ⟨a4, N, c4, (ds.map ranD).take k ++ (ds.map ranD).drop (k + 1)⟩⟩] W5 ⟨HD5.out.reads encDeed_len (by omega), fun e he => ⟨(HT5.out e he).1.reads encT_len (by omega), (HT5.out e he).2.reads encT_len (by omega)⟩⟩
        ⟨hLv.reads encLife_len (by omega), fun y hy => by obtain rfl := List.mem_singleton.1 hy; exact ⟨HO5.out.reads encRan_len (by omega), fun r hr => hth.out W5 (Kp.refl _ _) r (HRn.out r hr)⟩⟩ hd20 (show 1 ≤ 12 by decide) (fun y hy => by
          obtain rfl := List.mem_singleton.1 hy
          show ((ds.map ranD).take k ++ (ds.map ranD).drop (k + 1)).length ≤ 1000
          rw [List.length_append, List.length_take, List.length_drop, List.length_map]
          omega)
      rw [gone_check HS0.out.al HNB.out.2 HX.out HO.out] at HC
      have HC := Lib.hid HC
      have HB5' := Lib.hid (Bx.kp (HB.out w4 (kU.trans k4)) k5 (by show ¬ b11 = lb; have := HLB.out; omega))
      have HLW : Hid (lb < W5.heap.size) := Lib.hid (HL5.out.blk lb ⟨_, rfl, rfl⟩).2
      clear hLv tx5 k5 kU5 hS4 hO4 hc2 hf2 hW5 n0 n1 n2 n3 n4 n5 n6 n7 n8 l2 HR1 HR2 HRw k4 k3 hO3
      go_wp2_with fail
      refine HC.out.mono ?_
      rintro e w6 ⟨rfl, k6⟩
      have kw6 := kw5.trans k6
      obtain ⟨n0, n1, n2, n3, n4, n5, n6, n7, n8⟩ := BxD.cells (Bx.non HB5'.out k6)
      have e9 : (d.fr != d.fr) = false := by simp
      clear HC
      go_upto_region 22 with (fail)
      have HRg := Lib.hid fun W (r : Kp Non w6 W) => (OwnR.non HG5.out (k6.trans r)).reads encRan_len (by omega)
      have hrk : (ds.map ranD)[k]? = some (ranD d) := by rw [List.getElem?_map, HX.out]; rfl
      have HC22 := Lib.hid fun W (r : Kp Non w6 W) => F22.of (HRg.out W r) hrk
      have gk : (k : Int) < (ds.length : Nat) := by omega
      clear hrk
      refine wp_region_free [0,1,0,1,0,0,0,0,1,1,0,0,2] (by kernel_rfl) (by kernel_rfl) (F22 lg k (ranD d)) (HC22.out _ (Kp.refl _ _).drew) [1,3,8,9,12] rfl ?_
      repeat (first | (with_reducible refine pure_skip ?_) | ((with_reducible refine pure_k rfl ?_); intro K hK; apply Exists.intro; refine ⟨fun w' hC => ?_, ?_⟩; (obtain ⟨c0, c1, c2, c3, c4, c5, c6, c7, c8, c9⟩ := hC; go_simp; rfl); go_simp; refine hK _ ?_; clear hK K))
      with_reducible refine pure_nil ?_
      show wpFree _ _ _ _ _ 5 _ _ _
      have kd : Kp Non w6 w6.drew := (Kp.refl _ _).drew
      generalize w6.drew = wd at kd ⊢
      refine free_two 1 8 (by kernel_rfl) ?_ ?_
      · skip
        refine free_at _ rfl rfl 1 rfl rfl fun K hK => ?_
        go_simp
        refine hK _ _ (fun _ => HC22.out _ (kd.alloc _)) ?_
        clear hK K
        obtain ⟨wa1, hwa1⟩ : ∃ W, World.alloc wd (.cells #[] 61) = W := ⟨_, rfl⟩
        have ka1 : Kp Non w6 wa1 := hwa1 ▸ kd.alloc _
        have kab1 : Kp Non wd wa1 := hwa1 ▸ (Kp.refl Non wd).alloc _
        have za1 : OwnRs wa1 wd.heap.size (some ⟨wd.heap.size, 0, none⟩) 0 0 [] := hwa1 ▸ OwnR.zero wd 61
        rw [hwa1]
        clear hwa1
        have pz : w6.heap.size ≤ wd.heap.size := kd.size
        refine free_two 3 8 (by kernel_rfl) ?_ ?_
        · skip
          refine free_at _ rfl rfl 1 rfl rfl fun K hK => ?_
          refine wp_append_row (P := Try.prog) (enc := encRan) _ _ 46 rfl w6.heap.size 61 iR _ 112 Try.underlying46 hiR hzR hsR hbR rfl (by decide) encRan_len encRan_one (some ⟨wd.heap.size, 0, none⟩) 0 0 [] rfl (za1.rebase fun i hi => by obtain ⟨ad, e, rfl⟩ := hi; cases e; exact pz) (some ⟨lg, 0, none⟩) ds.length lc (ds.map ranD) rfl (HRg.out _ ka1) (by omega) (by omega) ka1.size ?_
          intro a5 c5 wa2 hoa2 hka2 _
          rw [Nat.zero_add] at hoa2 ⊢
          rw [List.nil_append] at hoa2
          have ka2 : Kp Non w6 wa2 := ka1.newer hka2 fun i hi => by obtain ⟨ad, e, rfl⟩ := hi; cases e; exact pz
          refine hK _ _ (fun _ => HC22.out _ ka2) ?_
          clear hK K
          refine free_one 8 (by kernel_rfl) ?_
          refine free_at _ rfl rfl 1 rfl rfl fun K hK => ?_
          go_simp
          refine hK _ _ (fun _ => HC22.out _ (ka2.alloc _)) ?_
          clear hK K
          have rl3 : Reads encRan 10 (World.alloc wa2 (.cells #[.int .i64 (ranD d).ref.1, .int .i64 (ranD d).ref.2, .int .i64 (ranD d).cmd.op, .int .i64 (ranD d).cmd.cl, .int .i64 (ranD d).cmd.sq, .int .i64 (ranD d).cmd.fr, .int .i64 (ranD d).cmd.to, .slice (ranD d).cmd.da.a (ranD d).cmd.da.n (ranD d).cmd.da.c, .bool (ranD d).rep.ok, .slice (ranD d).rep.da.a (ranD d).rep.da.n (ranD d).rep.da.c] 61)) (some ⟨wa2.heap.size, 0, none⟩) 1 1 [ranD d] := Reads.new (x := ranD d) rfl rfl
          obtain ⟨wa3, hwa3⟩ : ∃ W, World.alloc wa2 (.cells #[.int .i64 (ranD d).ref.1, .int .i64 (ranD d).ref.2, .int .i64 (ranD d).cmd.op, .int .i64 (ranD d).cmd.cl, .int .i64 (ranD d).cmd.sq, .int .i64 (ranD d).cmd.fr, .int .i64 (ranD d).cmd.to, .slice (ranD d).cmd.da.a (ranD d).cmd.da.n (ranD d).cmd.da.c, .bool (ranD d).rep.ok, .slice (ranD d).rep.da.a (ranD d).rep.da.n (ranD d).rep.da.c] 61) = W := ⟨_, rfl⟩
          have ka3 : Kp Non w6 wa3 := hwa3 ▸ ka2.alloc _
          have kab3 : Kp Non wa2 wa3 := hwa3 ▸ (Kp.refl Non wa2).alloc _
          rw [hwa3] at rl3 ⊢
          clear hwa3
          have oo := OwnR.non hoa2 kab3
          refine free_one 9 (by kernel_rfl) ?_
          refine free_at _ rfl rfl 1 rfl rfl fun K hK => ?_
          refine wp_append_row (P := Try.prog) (enc := encRan) _ _ 46 rfl w6.heap.size 61 iR _ 112 Try.underlying46 hiR hzR hsR hbR rfl (by decide) encRan_len encRan_one a5 ds.length c5 (ds.map ranD) rfl oo _ 1 1 [ranD d] rfl rl3 (by omega) (by omega) ka3.size ?_
          intro a7 c7 W7 hO7 hk7 _
          have K7 : Kp Non w6 W7 := ka3.newer hk7 fun i hi => (oo.blk i hi).1
          refine hK _ _ (fun _ => HC22.out _ K7) ?_
          clear hK K
          have l2c : W7.cell? ⟨lb, 2, none⟩ = some (.slice a4 N c4) := by have := ((OwnR.non HL5.out (k6.trans K7)).reads encLife_len (by omega)).get (j := 0) (i := 2) rfl rfl; simpa using this
          have l2f := (OwnR.non HL5.out (k6.trans K7)).fz rfl 2
          refine free_one 12 (by kernel_rfl) ?_
          refine free_at _ rfl rfl 2 rfl rfl fun K hK => ?_
          go_simp
          refine hK _ _ (fun h => by cases h) ?_
          clear hK K
          refine free_nil ?_
          have hL7 := OwnR.non HL5.out (k6.trans K7)
          obtain ⟨W8, hW8⟩ : ∃ W, World.setCell W7 ⟨lb, 2, none⟩ (.slice a7 (ds.length + 1) c7) = W := ⟨_, rfl⟩
          have k8 : Kp (One lb) W7 W8 := hW8 ▸ Kp.setCell (S := One lb) (Kp.refl _ W7) (p := ⟨lb, 2, none⟩) (.inl rfl) _
          have hLv := OwnR.set hL7 2 (.slice a7 (ds.length + 1) c7) (l' := [⟨0, 1, ⟨a7, ds.length + 1, c7, ds.map ranD ++ [ranD d]⟩⟩]) rfl
          rw [hW8] at hLv
          rw [hW8]
          have l3c : W8.cell? ⟨lb, 2, none⟩ = some (.slice a7 (ds.length + 1) c7) := by have := (hLv.reads encLife_len (by omega)).get (j := 0) (i := 2) rfl rfl; simpa using this
          have hO8 := OwnR.kp hO7 k8 (no_blk (no_row hO7 hL7 (by decide)))
          have hG8 := OwnR.kp (OwnR.non HG5.out (k6.trans K7)) k8 (no_blk (no_row (OwnR.non HG5.out (k6.trans K7)) hL7 (by decide)))
          have hth8 : ∀ r ∈ ds.map ranD, r.there W8 := fun r hr => by
            obtain ⟨e, he, rfl⟩ := List.mem_map.1 hr
            have h1 := OwnR.non (HT5.out e he).1 (k6.trans K7)
            have h2 := OwnR.non (HT5.out e he).2 (k6.trans K7)
            exact ⟨(OwnR.kp h1 k8 (no_blk (no_row h1 hL7 (by decide)))).reads encT_len (by omega), (OwnR.kp h2 k8 (no_blk (no_row h2 hL7 (by decide)))).reads encT_len (by omega)⟩
          have kw8 : Kp Non w W8 := (kw6.trans K7).newer k8 fun i hi => by have : i = lb := hi; have := (HL5.out.blk lb ⟨_, rfl, rfl⟩).1; have := kV.size; omega
          have hrd : Rans W8 (some ⟨lg, 0, none⟩) (ds.map ranD).length lc (ds.map ranD) := ⟨by rw [List.length_map]; exact hG8.reads encRan_len (by omega), hth8⟩
          have hrx : Rans W8 a7 (ds.map ranD ++ [ranD d]).length c7 (ds.map ranD ++ [ranD d]) := ⟨by rw [List.length_append, List.length_map]; exact hO8.reads encRan_len (by omega), fun r hr => by
            rcases List.mem_append.1 hr with h | h
            · exact hth8 r h
            · obtain rfl := List.mem_singleton.1 h
              exact hth8 _ (List.mem_map_of_mem (List.mem_of_getElem? HX.out))⟩
          have HA1 := Lib.hid (agree_calls _ _ _ _ _ _ W8 hrd hrd)
          have HA2 := Lib.hid fun W (r : Kp Non W8 W) => agree_calls _ _ _ _ _ _ W (hrx.non r) (hrd.non r)
          rw [agree_self (refs_nodup HS0.out.al)] at HA1
          rw [agree_dup (List.mem_map_of_mem (List.mem_of_getElem? HX.out))] at HA2
          rw [List.length_append] at HA2
          simp only [List.length_map, List.length_cons, List.length_nil] at HA1 HA2
          have hLv := Lib.hid hLv
          clear hL7 hO7 hO8 hG8 hth8 hrd hrx k8 hW8 l2c l2f K7 hk7 HC22 HRg
          go_wp2_with fail
          refine HA1.out.mono ?_
          rintro e w9 ⟨rfl, k9⟩
          have l3c : w9.cell? ⟨lb, 2, none⟩ = some (.slice a7 (ds.length + 1) c7) := k9.cell l3c (fun f => f)
          have kw9 := kw8.trans k9
          have HA2 := Lib.hid (HA2.out _ k9)
          clear HA1
          go_wp2_with fail
          refine HA2.out.mono ?_
          rintro e wz ⟨rfl, kz⟩
          have kwz := kw9.trans kz
          clear HA2
          go_wp2_with fail
          refine (alives_calls wz).mono ?_
          rintro e wy ⟨rfl, ky⟩
          go_wp2_with fail
          go_ret
          exact ⟨rfl, kwz.trans ky⟩
        · skip
          refine free_at _ rfl rfl 1 rfl rfl fun K hK => ?_
          go_simp
          refine hK _ _ (fun _ => HC22.out _ (ka1.alloc _)) ?_
          clear hK K
          have rl3 : Reads encRan 10 (World.alloc wa1 (.cells #[.int .i64 (ranD d).ref.1, .int .i64 (ranD d).ref.2, .int .i64 (ranD d).cmd.op, .int .i64 (ranD d).cmd.cl, .int .i64 (ranD d).cmd.sq, .int .i64 (ranD d).cmd.fr, .int .i64 (ranD d).cmd.to, .slice (ranD d).cmd.da.a (ranD d).cmd.da.n (ranD d).cmd.da.c, .bool (ranD d).rep.ok, .slice (ranD d).rep.da.a (ranD d).rep.da.n (ranD d).rep.da.c] 61)) (some ⟨wa1.heap.size, 0, none⟩) 1 1 [ranD d] := Reads.new (x := ranD d) rfl rfl
          obtain ⟨wa3, hwa3⟩ : ∃ W, World.alloc wa1 (.cells #[.int .i64 (ranD d).ref.1, .int .i64 (ranD d).ref.2, .int .i64 (ranD d).cmd.op, .int .i64 (ranD d).cmd.cl, .int .i64 (ranD d).cmd.sq, .int .i64 (ranD d).cmd.fr, .int .i64 (ranD d).cmd.to, .slice (ranD d).cmd.da.a (ranD d).cmd.da.n (ranD d).cmd.da.c, .bool (ranD d).rep.ok, .slice (ranD d).rep.da.a (ranD d).rep.da.n (ranD d).rep.da.c] 61) = W := ⟨_, rfl⟩
          have ka3 : Kp Non w6 wa3 := hwa3 ▸ ka1.alloc _
          have kab3 : Kp Non wa1 wa3 := hwa3 ▸ (Kp.refl Non wa1).alloc _
          rw [hwa3] at rl3 ⊢
          clear hwa3
          refine free_one 3 (by kernel_rfl) ?_
          have zz := OwnR.non za1 kab3
          refine free_at _ rfl rfl 1 rfl rfl fun K hK => ?_
          refine wp_append_row (P := Try.prog) (enc := encRan) _ _ 46 rfl w6.heap.size 61 iR _ 112 Try.underlying46 hiR hzR hsR hbR rfl (by decide) encRan_len encRan_one (some ⟨wd.heap.size, 0, none⟩) 0 0 [] rfl (zz.rebase fun i hi => by obtain ⟨ad, e, rfl⟩ := hi; cases e; exact pz) (some ⟨lg, 0, none⟩) ds.length lc (ds.map ranD) rfl (HRg.out _ ka3) (by omega) (by omega) ka3.size ?_
          intro a5 c5 wa2 hoa2 hka2 _
          rw [Nat.zero_add] at hoa2 ⊢
          rw [List.nil_append] at hoa2
          have ka2 : Kp Non w6 wa2 := ka3.newer hka2 fun i hi => by obtain ⟨ad, e, rfl⟩ := hi; cases e; exact pz
          refine hK _ _ (fun _ => HC22.out _ ka2) ?_
          clear hK K
          have rr := rl3.kp hka2 (fun i hi hb => by obtain ⟨ad, e, rfl⟩ := hi; cases e; obtain ⟨ad, e, e2⟩ := hb; cases e; have := (OwnR.blk za1 wd.heap.size ⟨_, rfl, rfl⟩).2; have e2 : wd.heap.size = wa1.heap.size := e2; omega)
          refine free_one 9 (by kernel_rfl) ?_
          refine free_at _ rfl rfl 1 rfl rfl fun K hK => ?_
          refine wp_append_row (P := Try.prog) (enc := encRan) _ _ 46 rfl w6.heap.size 61 iR _ 112 Try.underlying46 hiR hzR hsR hbR rfl (by decide) encRan_len encRan_one a5 ds.length c5 (ds.map ranD) rfl hoa2 _ 1 1 [ranD d] rfl rr (by omega) (by omega) ka2.size ?_
          intro a7 c7 W7 hO7 hk7 _
          have K7 : Kp Non w6 W7 := ka2.newer hk7 fun i hi => (hoa2.blk i hi).1
          refine hK _ _ (fun _ => HC22.out _ K7) ?_
          clear hK K
          have l2c : W7.cell? ⟨lb, 2, none⟩ = some (.slice a4 N c4) := by have := ((OwnR.non HL5.out (k6.trans K7)).reads encLife_len (by omega)).get (j := 0) (i := 2) rfl rfl; simpa using this
          have l2f := (OwnR.non HL5.out (k6.trans K7)).fz rfl 2
          refine free_one 12 (by kernel_rfl) ?_
          refine free_at _ rfl rfl 2 rfl rfl fun K hK => ?_
          go_simp
          refine hK _ _ (fun h => by cases h) ?_
          clear hK K
          refine free_nil ?_
          have hL7 := OwnR.non HL5.out (k6.trans K7)
          obtain ⟨W8, hW8⟩ : ∃ W, World.setCell W7 ⟨lb, 2, none⟩ (.slice a7 (ds.length + 1) c7) = W := ⟨_, rfl⟩
          have k8 : Kp (One lb) W7 W8 := hW8 ▸ Kp.setCell (S := One lb) (Kp.refl _ W7) (p := ⟨lb, 2, none⟩) (.inl rfl) _
          have hLv := OwnR.set hL7 2 (.slice a7 (ds.length + 1) c7) (l' := [⟨0, 1, ⟨a7, ds.length + 1, c7, ds.map ranD ++ [ranD d]⟩⟩]) rfl
          rw [hW8] at hLv
          rw [hW8]
          have l3c : W8.cell? ⟨lb, 2, none⟩ = some (.slice a7 (ds.length + 1) c7) := by have := (hLv.reads encLife_len (by omega)).get (j := 0) (i := 2) rfl rfl; simpa using this
          have hO8 := OwnR.kp hO7 k8 (no_blk (no_row hO7 hL7 (by decide)))
          have hG8 := OwnR.kp (OwnR.non HG5.out (k6.trans K7)) k8 (no_blk (no_row (OwnR.non HG5.out (k6.trans K7)) hL7 (by decide)))
          have hth8 : ∀ r ∈ ds.map ranD, r.there W8 := fun r hr => by
            obtain ⟨e, he, rfl⟩ := List.mem_map.1 hr
            have h1 := OwnR.non (HT5.out e he).1 (k6.trans K7)
            have h2 := OwnR.non (HT5.out e he).2 (k6.trans K7)
            exact ⟨(OwnR.kp h1 k8 (no_blk (no_row h1 hL7 (by decide)))).reads encT_len (by omega), (OwnR.kp h2 k8 (no_blk (no_row h2 hL7 (by decide)))).reads encT_len (by omega)⟩
          have kw8 : Kp Non w W8 := (kw6.trans K7).newer k8 fun i hi => by have : i = lb := hi; have := (HL5.out.blk lb ⟨_, rfl, rfl⟩).1; have := kV.size; omega
          have hrd : Rans W8 (some ⟨lg, 0, none⟩) (ds.map ranD).length lc (ds.map ranD) := ⟨by rw [List.length_map]; exact hG8.reads encRan_len (by omega), hth8⟩
          have hrx : Rans W8 a7 (ds.map ranD ++ [ranD d]).length c7 (ds.map ranD ++ [ranD d]) := ⟨by rw [List.length_append, List.length_map]; exact hO8.reads encRan_len (by omega), fun r hr => by
            rcases List.mem_append.1 hr with h | h
            · exact hth8 r h
            · obtain rfl := List.mem_singleton.1 h
              exact hth8 _ (List.mem_map_of_mem (List.mem_of_getElem? HX.out))⟩
          have HA1 := Lib.hid (agree_calls _ _ _ _ _ _ W8 hrd hrd)
          have HA2 := Lib.hid fun W (r : Kp Non W8 W) => agree_calls _ _ _ _ _ _ W (hrx.non r) (hrd.non r)
          rw [agree_self (refs_nodup HS0.out.al)] at HA1
          rw [agree_dup (List.mem_map_of_mem (List.mem_of_getElem? HX.out))] at HA2
          rw [List.length_append] at HA2
          simp only [List.length_map, List.length_cons, List.length_nil] at HA1 HA2
          have hLv := Lib.hid hLv
          clear hL7 hO7 hO8 hG8 hth8 hrd hrx k8 hW8 l2c l2f K7 hk7 HC22 HRg
          go_wp2_with fail
          refine HA1.out.mono ?_
          rintro e w9 ⟨rfl, k9⟩
          have l3c : w9.cell? ⟨lb, 2, none⟩ = some (.slice a7 (ds.length + 1) c7) := k9.cell l3c (fun f => f)
          have kw9 := kw8.trans k9
          have HA2 := Lib.hid (HA2.out _ k9)
          clear HA1
          go_wp2_with fail
          refine HA2.out.mono ?_
          rintro e wz ⟨rfl, kz⟩
          have kwz := kw9.trans kz
          clear HA2
          go_wp2_with fail
          refine (alives_calls wz).mono ?_
          rintro e wy ⟨rfl, ky⟩
          go_wp2_with fail
          go_ret
          exact ⟨rfl, kwz.trans ky⟩
      · skip
        refine free_at _ rfl rfl 1 rfl rfl fun K hK => ?_
        go_simp
        refine hK _ _ (fun _ => HC22.out _ (kd.alloc _)) ?_
        clear hK K
        have rl3 : Reads encRan 10 (World.alloc wd (.cells #[.int .i64 (ranD d).ref.1, .int .i64 (ranD d).ref.2, .int .i64 (ranD d).cmd.op, .int .i64 (ranD d).cmd.cl, .int .i64 (ranD d).cmd.sq, .int .i64 (ranD d).cmd.fr, .int .i64 (ranD d).cmd.to, .slice (ranD d).cmd.da.a (ranD d).cmd.da.n (ranD d).cmd.da.c, .bool (ranD d).rep.ok, .slice (ranD d).rep.da.a (ranD d).rep.da.n (ranD d).rep.da.c] 61)) (some ⟨wd.heap.size, 0, none⟩) 1 1 [ranD d] := Reads.new (x := ranD d) rfl rfl
        obtain ⟨wa3, hwa3⟩ : ∃ W, World.alloc wd (.cells #[.int .i64 (ranD d).ref.1, .int .i64 (ranD d).ref.2, .int .i64 (ranD d).cmd.op, .int .i64 (ranD d).cmd.cl, .int .i64 (ranD d).cmd.sq, .int .i64 (ranD d).cmd.fr, .int .i64 (ranD d).cmd.to, .slice (ranD d).cmd.da.a (ranD d).cmd.da.n (ranD d).cmd.da.c, .bool (ranD d).rep.ok, .slice (ranD d).rep.da.a (ranD d).rep.da.n (ranD d).rep.da.c] 61) = W := ⟨_, rfl⟩
        have ka3 : Kp Non w6 wa3 := hwa3 ▸ kd.alloc _
        have kab3 : Kp Non wd wa3 := hwa3 ▸ (Kp.refl Non wd).alloc _
        rw [hwa3] at rl3 ⊢
        clear hwa3
        refine free_one 1 (by kernel_rfl) ?_
        refine free_at _ rfl rfl 1 rfl rfl fun K hK => ?_
        go_simp
        refine hK _ _ (fun _ => HC22.out _ (ka3.alloc _)) ?_
        clear hK K
        obtain ⟨wa1, hwa1⟩ : ∃ W, World.alloc wa3 (.cells #[] 61) = W := ⟨_, rfl⟩
        have ka1 : Kp Non w6 wa1 := hwa1 ▸ ka3.alloc _
        have kab1 : Kp Non wa3 wa1 := hwa1 ▸ (Kp.refl Non wa3).alloc _
        have za1 : OwnRs wa1 wa3.heap.size (some ⟨wa3.heap.size, 0, none⟩) 0 0 [] := hwa1 ▸ OwnR.zero wa3 61
        rw [hwa1]
        clear hwa1
        have pz : w6.heap.size ≤ wa3.heap.size := ka3.size
        refine free_one 3 (by kernel_rfl) ?_
        refine free_at _ rfl rfl 1 rfl rfl fun K hK => ?_
        refine wp_append_row (P := Try.prog) (enc := encRan) _ _ 46 rfl w6.heap.size 61 iR _ 112 Try.underlying46 hiR hzR hsR hbR rfl (by decide) encRan_len encRan_one (some ⟨wa3.heap.size, 0, none⟩) 0 0 [] rfl (za1.rebase fun i hi => by obtain ⟨ad, e, rfl⟩ := hi; cases e; exact pz) (some ⟨lg, 0, none⟩) ds.length lc (ds.map ranD) rfl (HRg.out _ ka1) (by omega) (by omega) ka1.size ?_
        intro a5 c5 wa2 hoa2 hka2 _
        rw [Nat.zero_add] at hoa2 ⊢
        rw [List.nil_append] at hoa2
        have ka2 : Kp Non w6 wa2 := ka1.newer hka2 fun i hi => by obtain ⟨ad, e, rfl⟩ := hi; cases e; exact pz
        refine hK _ _ (fun _ => HC22.out _ ka2) ?_
        clear hK K
        have hlt3 : wd.heap.size < wa3.heap.size := rl3.lt (by omega) encRan_len (by omega) _ ⟨_, rfl, rfl⟩
        have rr := (rl3.non kab1).kp hka2 (fun i hi hb => by obtain ⟨ad, e, rfl⟩ := hi; cases e; obtain ⟨ad, e, e2⟩ := hb; cases e; have e2 : wa3.heap.size = wd.heap.size := e2; omega)
        refine free_one 9 (by kernel_rfl) ?_
        refine free_at _ rfl rfl 1 rfl rfl fun K hK => ?_
        refine wp_append_row (P := Try.prog) (enc := encRan) _ _ 46 rfl w6.heap.size 61 iR _ 112 Try.underlying46 hiR hzR hsR hbR rfl (by decide) encRan_len encRan_one a5 ds.length c5 (ds.map ranD) rfl hoa2 _ 1 1 [ranD d] rfl rr (by omega) (by omega) ka2.size ?_
        intro a7 c7 W7 hO7 hk7 _
        have K7 : Kp Non w6 W7 := ka2.newer hk7 fun i hi => (hoa2.blk i hi).1
        refine hK _ _ (fun _ => HC22.out _ K7) ?_
        clear hK K
        have l2c : W7.cell? ⟨lb, 2, none⟩ = some (.slice a4 N c4) := by have := ((OwnR.non HL5.out (k6.trans K7)).reads encLife_len (by omega)).get (j := 0) (i := 2) rfl rfl; simpa using this
        have l2f := (OwnR.non HL5.out (k6.trans K7)).fz rfl 2
        refine free_one 12 (by kernel_rfl) ?_
        refine free_at _ rfl rfl 2 rfl rfl fun K hK => ?_
        go_simp
        refine hK _ _ (fun h => by cases h) ?_
        clear hK K
        refine free_nil ?_
        have hL7 := OwnR.non HL5.out (k6.trans K7)
        obtain ⟨W8, hW8⟩ : ∃ W, World.setCell W7 ⟨lb, 2, none⟩ (.slice a7 (ds.length + 1) c7) = W := ⟨_, rfl⟩
        have k8 : Kp (One lb) W7 W8 := hW8 ▸ Kp.setCell (S := One lb) (Kp.refl _ W7) (p := ⟨lb, 2, none⟩) (.inl rfl) _
        have hLv := OwnR.set hL7 2 (.slice a7 (ds.length + 1) c7) (l' := [⟨0, 1, ⟨a7, ds.length + 1, c7, ds.map ranD ++ [ranD d]⟩⟩]) rfl
        rw [hW8] at hLv
        rw [hW8]
        have l3c : W8.cell? ⟨lb, 2, none⟩ = some (.slice a7 (ds.length + 1) c7) := by have := (hLv.reads encLife_len (by omega)).get (j := 0) (i := 2) rfl rfl; simpa using this
        have hO8 := OwnR.kp hO7 k8 (no_blk (no_row hO7 hL7 (by decide)))
        have hG8 := OwnR.kp (OwnR.non HG5.out (k6.trans K7)) k8 (no_blk (no_row (OwnR.non HG5.out (k6.trans K7)) hL7 (by decide)))
        have hth8 : ∀ r ∈ ds.map ranD, r.there W8 := fun r hr => by
          obtain ⟨e, he, rfl⟩ := List.mem_map.1 hr
          have h1 := OwnR.non (HT5.out e he).1 (k6.trans K7)
          have h2 := OwnR.non (HT5.out e he).2 (k6.trans K7)
          exact ⟨(OwnR.kp h1 k8 (no_blk (no_row h1 hL7 (by decide)))).reads encT_len (by omega), (OwnR.kp h2 k8 (no_blk (no_row h2 hL7 (by decide)))).reads encT_len (by omega)⟩
        have kw8 : Kp Non w W8 := (kw6.trans K7).newer k8 fun i hi => by have : i = lb := hi; have := (HL5.out.blk lb ⟨_, rfl, rfl⟩).1; have := kV.size; omega
        have hrd : Rans W8 (some ⟨lg, 0, none⟩) (ds.map ranD).length lc (ds.map ranD) := ⟨by rw [List.length_map]; exact hG8.reads encRan_len (by omega), hth8⟩
        have hrx : Rans W8 a7 (ds.map ranD ++ [ranD d]).length c7 (ds.map ranD ++ [ranD d]) := ⟨by rw [List.length_append, List.length_map]; exact hO8.reads encRan_len (by omega), fun r hr => by
          rcases List.mem_append.1 hr with h | h
          · exact hth8 r h
          · obtain rfl := List.mem_singleton.1 h
            exact hth8 _ (List.mem_map_of_mem (List.mem_of_getElem? HX.out))⟩
        have HA1 := Lib.hid (agree_calls _ _ _ _ _ _ W8 hrd hrd)
        have HA2 := Lib.hid fun W (r : Kp Non W8 W) => agree_calls _ _ _ _ _ _ W (hrx.non r) (hrd.non r)
        rw [agree_self (refs_nodup HS0.out.al)] at HA1
        rw [agree_dup (List.mem_map_of_mem (List.mem_of_getElem? HX.out))] at HA2
        rw [List.length_append] at HA2
        simp only [List.length_map, List.length_cons, List.length_nil] at HA1 HA2
        have hLv := Lib.hid hLv
        clear hL7 hO7 hO8 hG8 hth8 hrd hrx k8 hW8 l2c l2f K7 hk7 HC22 HRg
        go_wp2_with fail
        refine HA1.out.mono ?_
        rintro e w9 ⟨rfl, k9⟩
        have l3c : w9.cell? ⟨lb, 2, none⟩ = some (.slice a7 (ds.length + 1) c7) := k9.cell l3c (fun f => f)
        have kw9 := kw8.trans k9
        have HA2 := Lib.hid (HA2.out _ k9)
        clear HA1
        go_wp2_with fail
        refine HA2.out.mono ?_
        rintro e wz ⟨rfl, kz⟩
        have kwz := kw9.trans kz
        clear HA2
        go_wp2_with fail
        refine (alives_calls wz).mono ?_
        rintro e wy ⟨rfl, ky⟩
        go_wp2_with fail
        go_ret
        exact ⟨rfl, kwz.trans ky⟩
    · have e2 : (d.op == 2) = false := by simp [h2]
      by_cases h3 : d.op = 3
      · have e3 : (d.op == 3) = true := by simp [h3]
        have HO : Hid (d.op = 2 ∨ d.op = 3) := Lib.hid (.inr h3)
        clear h1 h2 h3
        have hSU := HS0.out.non (HK1.out.trans kU)
        obtain ⟨lg, hlg, hlgb⟩ := OwnR.addr hSU.log (by have := (List.getElem?_eq_some_iff.1 HX.out).1; omega)
        have l2 : U.cell? ⟨lb, 2, none⟩ = some (.slice (some ⟨lg, 0, none⟩) ds.length lc) := by have := (hSU.lives.reads encLife_len (by omega)).get (j := 0) (i := 2) rfl rfl; rw [← hlg]; simpa using this
        have hlb : lb < U.heap.size := (hSU.lives.blk lb ⟨_, rfl, rfl⟩).2
        rw [hlg] at hSU
        have HSU := Lib.hid hSU
        have hkl' : k < ds.length := (List.getElem?_eq_some_iff.1 HX.out).1
        have hlc : ds.length ≤ lc := (hSU.log.reads encRan_len (by omega)).cap
        have hlm : lc ≤ 9223372036854775807 := (hSU.log.reads encRan_len (by omega)).max
        clear hSU
        go_upto_region 18 with (fail)
        have HRw := Lib.hid (HSU.out.log.reads encRan_len (by omega))
        have v2 : IntKind.i64.wrap ((k : Int) + 1) = k + 1 := IntWalk.i64_in _ (by omega)
        have p0 : 0 ≤ (k : Int) + 1 := by omega
        have p1 : (k : Int) + 1 ≤ (ds.length : Int) := by omega
        obtain ⟨la2, hla2⟩ : ∃ a : Option Addr, (if lc = k + 1 then some (⟨lg, 0, none⟩ : Addr) else some ⟨lg, (k + 1) * 10, none⟩) = a := ⟨_, rfl⟩
        have v3 : k ≤ lc := by omega
        have v4 : k + 1 ≤ ds.length := by omega
        refine wp_region_pieces [(14, [0,1,0,0,0,1,0,0,0,0,1,0,0,2], fun _ => True)] (by kernel_rfl) (by kernel_rfl) ?_
        refine (And.intro ?_ ?_ : _ ∧ _)
        · exact trivial
        refine PB.out ?_
        repeat (first | (with_reducible refine pb_skip ?_) | ((first | (with_reducible refine pb_k rfl ?_) | ((with_reducible refine pb_ky ?hg ?_); (case hg => simp [Region.wanted, yielded]; done))); intro K hK; apply Exists.intro; refine ⟨fun w' hC => ?_, ?_⟩; (go_simp; rfl); go_simp; refine hK _ ?_; clear hK K) | ((with_reducible refine pb_kn ?hg ?_); (case hg => simp [Region.wanted, yielded]; done); intro K hK; go_simp; refine hK _ ?_; clear hK K))
        with_reducible refine pb_nil ?_
        simp only [List.take_succ_cons, List.take_zero, List.drop_zero]
        refine CB.out ?_
        have HR2 : Hid (Reads encRan 10 U la2 (ds.length - (k + 1)) (lc - (k + 1)) ((ds.map ranD).drop (k + 1))) := Lib.hid (by
          by_cases h : lc = k + 1
          · rw [← hla2, if_pos h]
            have e1 : ds.length - (k + 1) = 0 := by omega
            have e2 : lc - (k + 1) = 0 := by omega
            rw [e1, e2]
            exact Reads.none_ (List.drop_eq_nil_of_le (by rw [List.length_map]; omega))
          · rw [← hla2, if_neg h]
            have := HRw.out.drop (k + 1) (by rw [List.length_map]; omega)
            rwa [Nat.zero_add] at this)
        have HR1 : Hid (Reads encRan 10 U (some ⟨lg, 0, none⟩) k lc ((ds.map ranD).take k)) := Lib.hid (HRw.out.take k (by rw [List.length_map]; omega))
        clear hla2
        repeat (with_reducible refine cb_skip ?_)
        with_reducible refine cb_step rfl fun K hK => ?_
        go_simp
        refine hK _ _ (fun _ => trivial) ?_
        clear hK K
        have kA : Kp Non U (U.drew.alloc (.cells #[] 61)) := ((Kp.refl Non U).drew).alloc _
        repeat (with_reducible refine cb_skip ?_)
        with_reducible refine cb_step rfl fun K hK => ?_
        refine wp_append_row (P := Try.prog) (enc := encRan) _ _ 46 rfl U.heap.size 61 iR _ 112 Try.underlying46 hiR hzR hsR hbR rfl (by decide) encRan_len encRan_one (some ⟨U.heap.size, 0, none⟩) 0 0 [] rfl (OwnR.zero U.drew 61) (some ⟨lg, 0, none⟩) k lc ((ds.map ranD).take k) rfl (HR1.out.non kA) (by omega) (by omega) kA.size ?_
        intro a3 c3 w3 hO3 hk3 _
        rw [Nat.zero_add] at hO3 ⊢
        rw [List.nil_append] at hO3
        have k3 : Kp Non U w3 := kA.newer hk3 fun i hi => by obtain ⟨ad, e, rfl⟩ := hi; cases e; exact Nat.le_refl _
        refine hK _ _ (fun _ => trivial) ?_
        clear hK K hk3 kA
        repeat (with_reducible refine cb_skip ?_)
        with_reducible refine cb_step rfl fun K hK => ?_
        refine wp_append_row (P := Try.prog) (enc := encRan) _ _ 46 rfl U.heap.size 61 iR _ 112 Try.underlying46 hiR hzR hsR hbR rfl (by decide) encRan_len encRan_one a3 k c3 ((ds.map ranD).take k) rfl hO3 la2 (ds.length - (k + 1)) (lc - (k + 1)) ((ds.map ranD).drop (k + 1)) rfl (HR2.out.non k3) (by omega) (by omega) k3.size ?_
        intro a4 c4 w4 hO4 hk4 _
        have k4 : Kp Non U w4 := k3.newer hk4 fun i hi => (hO3.blk i hi).1
        refine hK _ _ (fun _ => trivial) ?_
        clear hK K hk4
        have hS4 := HSU.out.non k4
        have hc2 : w4.cell? ⟨lb, 2, none⟩ = some (.slice (some ⟨lg, 0, none⟩) ds.length lc) := by have := (hS4.lives.reads encLife_len (by omega)).get (j := 0) (i := 2) rfl rfl; simpa using this
        have hf2 := hS4.lives.fz rfl 2
        repeat (with_reducible refine cb_skip ?_)
        with_reducible refine cb_step rfl fun K hK => ?_
        go_simp
        refine hK _ _ (fun h => by cases h) ?_
        clear hK K
        repeat (with_reducible refine cb_skip ?_)
        with_reducible refine cb_nil ?_
        simp only [Then, wpPieces]
        obtain ⟨N, hN⟩ : ∃ N, k + (ds.length - (k + 1)) = N := ⟨_, rfl⟩
        rw [hN] at hO4 ⊢
        obtain ⟨W5, hW5⟩ : ∃ W, w4.setCell ⟨lb, 2, none⟩ (.slice a4 N c4) = W := ⟨_, rfl⟩
        have k5 : Kp (One lb) w4 W5 := hW5 ▸ Kp.setCell (S := One lb) (Kp.refl _ w4) (p := ⟨lb, 2, none⟩) (.inl rfl) _
        have hLv := OwnR.set hS4.lives 2 (.slice a4 N c4) (l' := [⟨0, 1, ⟨a4, N, c4, (ds.map ranD).take k ++ (ds.map ranD).drop (k + 1)⟩⟩]) rfl
        rw [hW5] at hLv
        rw [hW5]
        have tx5 : ∀ {z : Tx} {base : Nat}, OwnT w4 base z.a z.n z.c z.l → OwnT W5 base z.a z.n z.c z.l := fun h => OwnR.kp h k5 (no_blk (no_row h hS4.lives (by decide)))
        have HT5 : Hid (∀ e ∈ ds, OwnD W5 V.heap.size e) := Lib.hid fun e he => ⟨tx5 (hS4.texts e he).1, tx5 (hS4.texts e he).2⟩
        have HD5 := Lib.hid (OwnR.kp hS4.deeds k5 (no_blk (no_row hS4.deeds hS4.lives (by decide))))
        have HG5 := Lib.hid (OwnR.kp hS4.log k5 (no_blk (no_row hS4.log hS4.lives (by decide))))
        have HO5 := Lib.hid (OwnR.kp hO4 k5 (no_blk (no_row hO4 hS4.lives (by decide))))
        have HL5 := Lib.hid hLv
        have kU5 : Kp (One lb) U W5 := k4.non.trans k5
        have kw5 : Kp Non w W5 := kwU.newer kU5 fun i hi => by have : i = lb := hi; have := (hS4.lives.blk lb ⟨_, rfl, rfl⟩).1; have := kV.size; omega
        have HRn : Hid (∀ r ∈ (ds.map ranD).take k ++ (ds.map ranD).drop (k + 1), r ∈ ds.map ranD) := Lib.hid fun r hr => by
          rcases List.mem_append.1 hr with h | h
          · exact List.mem_of_mem_take h
          · exact List.mem_of_mem_drop h
        have hth : Hid (∀ W, Kp Non W5 W → ∀ r ∈ ds.map ranD, r.there W) := Lib.hid fun W q r hr => by
          obtain ⟨e, he, rfl⟩ := List.mem_map.1 hr
          exact ⟨(OwnR.non (HT5.out e he).1 q).reads encT_len (by omega), (OwnR.non (HT5.out e he).2 q).reads encT_len (by omega)⟩
        have HC := check_calls n (some ⟨db, 0, none⟩) dc ds (some ⟨lb, 0, none⟩) 1 [⟨0, 1, ⟨a4, N, c4, (ds.map ranD).take k ++ (ds.map ranD).drop (k + 1)⟩⟩] W5 ⟨HD5.out.reads encDeed_len (by omega), fun e he => ⟨(HT5.out e he).1.reads encT_len (by omega), (HT5.out e he).2.reads encT_len (by omega)⟩⟩
          ⟨hLv.reads encLife_len (by omega), fun y hy => by obtain rfl := List.mem_singleton.1 hy; exact ⟨HO5.out.reads encRan_len (by omega), fun r hr => hth.out W5 (Kp.refl _ _) r (HRn.out r hr)⟩⟩ hd20 (show 1 ≤ 12 by decide) (fun y hy => by
            obtain rfl := List.mem_singleton.1 hy
            show ((ds.map ranD).take k ++ (ds.map ranD).drop (k + 1)).length ≤ 1000
            rw [List.length_append, List.length_take, List.length_drop, List.length_map]
            omega)
        rw [gone_check HS0.out.al HNB.out.2 HX.out HO.out] at HC
        have HC := Lib.hid HC
        have HB5' := Lib.hid (Bx.kp (HB.out w4 (kU.trans k4)) k5 (by show ¬ b11 = lb; have := HLB.out; omega))
        have HLW : Hid (lb < W5.heap.size) := Lib.hid (HL5.out.blk lb ⟨_, rfl, rfl⟩).2
        clear hLv tx5 k5 kU5 hS4 hO4 hc2 hf2 hW5 n0 n1 n2 n3 n4 n5 n6 n7 n8 l2 HR1 HR2 HRw k4 k3 hO3
        go_wp2_with fail
        refine HC.out.mono ?_
        rintro e w6 ⟨rfl, k6⟩
        have kw6 := kw5.trans k6
        obtain ⟨n0, n1, n2, n3, n4, n5, n6, n7, n8⟩ := BxD.cells (Bx.non HB5'.out k6)
        have e9 : (d.fr != d.fr) = false := by simp
        clear HC
        go_upto_region 22 with (fail)
        have HRg := Lib.hid fun W (r : Kp Non w6 W) => (OwnR.non HG5.out (k6.trans r)).reads encRan_len (by omega)
        have hrk : (ds.map ranD)[k]? = some (ranD d) := by rw [List.getElem?_map, HX.out]; rfl
        have HC22 := Lib.hid fun W (r : Kp Non w6 W) => F22.of (HRg.out W r) hrk
        have gk : (k : Int) < (ds.length : Nat) := by omega
        clear hrk
        refine wp_region_free [0,1,0,1,0,0,0,0,1,1,0,0,2] (by kernel_rfl) (by kernel_rfl) (F22 lg k (ranD d)) (HC22.out _ (Kp.refl _ _).drew) [1,3,8,9,12] rfl ?_
        repeat (first | (with_reducible refine pure_skip ?_) | ((with_reducible refine pure_k rfl ?_); intro K hK; apply Exists.intro; refine ⟨fun w' hC => ?_, ?_⟩; (obtain ⟨c0, c1, c2, c3, c4, c5, c6, c7, c8, c9⟩ := hC; go_simp; rfl); go_simp; refine hK _ ?_; clear hK K))
        with_reducible refine pure_nil ?_
        show wpFree _ _ _ _ _ 5 _ _ _
        have kd : Kp Non w6 w6.drew := (Kp.refl _ _).drew
        generalize w6.drew = wd at kd ⊢
        refine free_two 1 8 (by kernel_rfl) ?_ ?_
        · skip
          refine free_at _ rfl rfl 1 rfl rfl fun K hK => ?_
          go_simp
          refine hK _ _ (fun _ => HC22.out _ (kd.alloc _)) ?_
          clear hK K
          obtain ⟨wa1, hwa1⟩ : ∃ W, World.alloc wd (.cells #[] 61) = W := ⟨_, rfl⟩
          have ka1 : Kp Non w6 wa1 := hwa1 ▸ kd.alloc _
          have kab1 : Kp Non wd wa1 := hwa1 ▸ (Kp.refl Non wd).alloc _
          have za1 : OwnRs wa1 wd.heap.size (some ⟨wd.heap.size, 0, none⟩) 0 0 [] := hwa1 ▸ OwnR.zero wd 61
          rw [hwa1]
          clear hwa1
          have pz : w6.heap.size ≤ wd.heap.size := kd.size
          refine free_two 3 8 (by kernel_rfl) ?_ ?_
          · skip
            refine free_at _ rfl rfl 1 rfl rfl fun K hK => ?_
            refine wp_append_row (P := Try.prog) (enc := encRan) _ _ 46 rfl w6.heap.size 61 iR _ 112 Try.underlying46 hiR hzR hsR hbR rfl (by decide) encRan_len encRan_one (some ⟨wd.heap.size, 0, none⟩) 0 0 [] rfl (za1.rebase fun i hi => by obtain ⟨ad, e, rfl⟩ := hi; cases e; exact pz) (some ⟨lg, 0, none⟩) ds.length lc (ds.map ranD) rfl (HRg.out _ ka1) (by omega) (by omega) ka1.size ?_
            intro a5 c5 wa2 hoa2 hka2 _
            rw [Nat.zero_add] at hoa2 ⊢
            rw [List.nil_append] at hoa2
            have ka2 : Kp Non w6 wa2 := ka1.newer hka2 fun i hi => by obtain ⟨ad, e, rfl⟩ := hi; cases e; exact pz
            refine hK _ _ (fun _ => HC22.out _ ka2) ?_
            clear hK K
            refine free_one 8 (by kernel_rfl) ?_
            refine free_at _ rfl rfl 1 rfl rfl fun K hK => ?_
            go_simp
            refine hK _ _ (fun _ => HC22.out _ (ka2.alloc _)) ?_
            clear hK K
            have rl3 : Reads encRan 10 (World.alloc wa2 (.cells #[.int .i64 (ranD d).ref.1, .int .i64 (ranD d).ref.2, .int .i64 (ranD d).cmd.op, .int .i64 (ranD d).cmd.cl, .int .i64 (ranD d).cmd.sq, .int .i64 (ranD d).cmd.fr, .int .i64 (ranD d).cmd.to, .slice (ranD d).cmd.da.a (ranD d).cmd.da.n (ranD d).cmd.da.c, .bool (ranD d).rep.ok, .slice (ranD d).rep.da.a (ranD d).rep.da.n (ranD d).rep.da.c] 61)) (some ⟨wa2.heap.size, 0, none⟩) 1 1 [ranD d] := Reads.new (x := ranD d) rfl rfl
            obtain ⟨wa3, hwa3⟩ : ∃ W, World.alloc wa2 (.cells #[.int .i64 (ranD d).ref.1, .int .i64 (ranD d).ref.2, .int .i64 (ranD d).cmd.op, .int .i64 (ranD d).cmd.cl, .int .i64 (ranD d).cmd.sq, .int .i64 (ranD d).cmd.fr, .int .i64 (ranD d).cmd.to, .slice (ranD d).cmd.da.a (ranD d).cmd.da.n (ranD d).cmd.da.c, .bool (ranD d).rep.ok, .slice (ranD d).rep.da.a (ranD d).rep.da.n (ranD d).rep.da.c] 61) = W := ⟨_, rfl⟩
            have ka3 : Kp Non w6 wa3 := hwa3 ▸ ka2.alloc _
            have kab3 : Kp Non wa2 wa3 := hwa3 ▸ (Kp.refl Non wa2).alloc _
            rw [hwa3] at rl3 ⊢
            clear hwa3
            have oo := OwnR.non hoa2 kab3
            refine free_one 9 (by kernel_rfl) ?_
            refine free_at _ rfl rfl 1 rfl rfl fun K hK => ?_
            refine wp_append_row (P := Try.prog) (enc := encRan) _ _ 46 rfl w6.heap.size 61 iR _ 112 Try.underlying46 hiR hzR hsR hbR rfl (by decide) encRan_len encRan_one a5 ds.length c5 (ds.map ranD) rfl oo _ 1 1 [ranD d] rfl rl3 (by omega) (by omega) ka3.size ?_
            intro a7 c7 W7 hO7 hk7 _
            have K7 : Kp Non w6 W7 := ka3.newer hk7 fun i hi => (oo.blk i hi).1
            refine hK _ _ (fun _ => HC22.out _ K7) ?_
            clear hK K
            have l2c : W7.cell? ⟨lb, 2, none⟩ = some (.slice a4 N c4) := by have := ((OwnR.non HL5.out (k6.trans K7)).reads encLife_len (by omega)).get (j := 0) (i := 2) rfl rfl; simpa using this
            have l2f := (OwnR.non HL5.out (k6.trans K7)).fz rfl 2
            refine free_one 12 (by kernel_rfl) ?_
            refine free_at _ rfl rfl 2 rfl rfl fun K hK => ?_
            go_simp
            refine hK _ _ (fun h => by cases h) ?_
            clear hK K
            refine free_nil ?_
            have hL7 := OwnR.non HL5.out (k6.trans K7)
            obtain ⟨W8, hW8⟩ : ∃ W, World.setCell W7 ⟨lb, 2, none⟩ (.slice a7 (ds.length + 1) c7) = W := ⟨_, rfl⟩
            have k8 : Kp (One lb) W7 W8 := hW8 ▸ Kp.setCell (S := One lb) (Kp.refl _ W7) (p := ⟨lb, 2, none⟩) (.inl rfl) _
            have hLv := OwnR.set hL7 2 (.slice a7 (ds.length + 1) c7) (l' := [⟨0, 1, ⟨a7, ds.length + 1, c7, ds.map ranD ++ [ranD d]⟩⟩]) rfl
            rw [hW8] at hLv
            rw [hW8]
            have l3c : W8.cell? ⟨lb, 2, none⟩ = some (.slice a7 (ds.length + 1) c7) := by have := (hLv.reads encLife_len (by omega)).get (j := 0) (i := 2) rfl rfl; simpa using this
            have hO8 := OwnR.kp hO7 k8 (no_blk (no_row hO7 hL7 (by decide)))
            have hG8 := OwnR.kp (OwnR.non HG5.out (k6.trans K7)) k8 (no_blk (no_row (OwnR.non HG5.out (k6.trans K7)) hL7 (by decide)))
            have hth8 : ∀ r ∈ ds.map ranD, r.there W8 := fun r hr => by
              obtain ⟨e, he, rfl⟩ := List.mem_map.1 hr
              have h1 := OwnR.non (HT5.out e he).1 (k6.trans K7)
              have h2 := OwnR.non (HT5.out e he).2 (k6.trans K7)
              exact ⟨(OwnR.kp h1 k8 (no_blk (no_row h1 hL7 (by decide)))).reads encT_len (by omega), (OwnR.kp h2 k8 (no_blk (no_row h2 hL7 (by decide)))).reads encT_len (by omega)⟩
            have kw8 : Kp Non w W8 := (kw6.trans K7).newer k8 fun i hi => by have : i = lb := hi; have := (HL5.out.blk lb ⟨_, rfl, rfl⟩).1; have := kV.size; omega
            have hrd : Rans W8 (some ⟨lg, 0, none⟩) (ds.map ranD).length lc (ds.map ranD) := ⟨by rw [List.length_map]; exact hG8.reads encRan_len (by omega), hth8⟩
            have hrx : Rans W8 a7 (ds.map ranD ++ [ranD d]).length c7 (ds.map ranD ++ [ranD d]) := ⟨by rw [List.length_append, List.length_map]; exact hO8.reads encRan_len (by omega), fun r hr => by
              rcases List.mem_append.1 hr with h | h
              · exact hth8 r h
              · obtain rfl := List.mem_singleton.1 h
                exact hth8 _ (List.mem_map_of_mem (List.mem_of_getElem? HX.out))⟩
            have HA1 := Lib.hid (agree_calls _ _ _ _ _ _ W8 hrd hrd)
            have HA2 := Lib.hid fun W (r : Kp Non W8 W) => agree_calls _ _ _ _ _ _ W (hrx.non r) (hrd.non r)
            rw [agree_self (refs_nodup HS0.out.al)] at HA1
            rw [agree_dup (List.mem_map_of_mem (List.mem_of_getElem? HX.out))] at HA2
            rw [List.length_append] at HA2
            simp only [List.length_map, List.length_cons, List.length_nil] at HA1 HA2
            have hLv := Lib.hid hLv
            clear hL7 hO7 hO8 hG8 hth8 hrd hrx k8 hW8 l2c l2f K7 hk7 HC22 HRg
            go_wp2_with fail
            refine HA1.out.mono ?_
            rintro e w9 ⟨rfl, k9⟩
            have l3c : w9.cell? ⟨lb, 2, none⟩ = some (.slice a7 (ds.length + 1) c7) := k9.cell l3c (fun f => f)
            have kw9 := kw8.trans k9
            have HA2 := Lib.hid (HA2.out _ k9)
            clear HA1
            go_wp2_with fail
            refine HA2.out.mono ?_
            rintro e wz ⟨rfl, kz⟩
            have kwz := kw9.trans kz
            clear HA2
            go_wp2_with fail
            refine (alives_calls wz).mono ?_
            rintro e wy ⟨rfl, ky⟩
            go_wp2_with fail
            go_ret
            exact ⟨rfl, kwz.trans ky⟩
          · skip
            refine free_at _ rfl rfl 1 rfl rfl fun K hK => ?_
            go_simp
            refine hK _ _ (fun _ => HC22.out _ (ka1.alloc _)) ?_
            clear hK K
            have rl3 : Reads encRan 10 (World.alloc wa1 (.cells #[.int .i64 (ranD d).ref.1, .int .i64 (ranD d).ref.2, .int .i64 (ranD d).cmd.op, .int .i64 (ranD d).cmd.cl, .int .i64 (ranD d).cmd.sq, .int .i64 (ranD d).cmd.fr, .int .i64 (ranD d).cmd.to, .slice (ranD d).cmd.da.a (ranD d).cmd.da.n (ranD d).cmd.da.c, .bool (ranD d).rep.ok, .slice (ranD d).rep.da.a (ranD d).rep.da.n (ranD d).rep.da.c] 61)) (some ⟨wa1.heap.size, 0, none⟩) 1 1 [ranD d] := Reads.new (x := ranD d) rfl rfl
            obtain ⟨wa3, hwa3⟩ : ∃ W, World.alloc wa1 (.cells #[.int .i64 (ranD d).ref.1, .int .i64 (ranD d).ref.2, .int .i64 (ranD d).cmd.op, .int .i64 (ranD d).cmd.cl, .int .i64 (ranD d).cmd.sq, .int .i64 (ranD d).cmd.fr, .int .i64 (ranD d).cmd.to, .slice (ranD d).cmd.da.a (ranD d).cmd.da.n (ranD d).cmd.da.c, .bool (ranD d).rep.ok, .slice (ranD d).rep.da.a (ranD d).rep.da.n (ranD d).rep.da.c] 61) = W := ⟨_, rfl⟩
            have ka3 : Kp Non w6 wa3 := hwa3 ▸ ka1.alloc _
            have kab3 : Kp Non wa1 wa3 := hwa3 ▸ (Kp.refl Non wa1).alloc _
            rw [hwa3] at rl3 ⊢
            clear hwa3
            refine free_one 3 (by kernel_rfl) ?_
            have zz := OwnR.non za1 kab3
            refine free_at _ rfl rfl 1 rfl rfl fun K hK => ?_
            refine wp_append_row (P := Try.prog) (enc := encRan) _ _ 46 rfl w6.heap.size 61 iR _ 112 Try.underlying46 hiR hzR hsR hbR rfl (by decide) encRan_len encRan_one (some ⟨wd.heap.size, 0, none⟩) 0 0 [] rfl (zz.rebase fun i hi => by obtain ⟨ad, e, rfl⟩ := hi; cases e; exact pz) (some ⟨lg, 0, none⟩) ds.length lc (ds.map ranD) rfl (HRg.out _ ka3) (by omega) (by omega) ka3.size ?_
            intro a5 c5 wa2 hoa2 hka2 _
            rw [Nat.zero_add] at hoa2 ⊢
            rw [List.nil_append] at hoa2
            have ka2 : Kp Non w6 wa2 := ka3.newer hka2 fun i hi => by obtain ⟨ad, e, rfl⟩ := hi; cases e; exact pz
            refine hK _ _ (fun _ => HC22.out _ ka2) ?_
            clear hK K
            have rr := rl3.kp hka2 (fun i hi hb => by obtain ⟨ad, e, rfl⟩ := hi; cases e; obtain ⟨ad, e, e2⟩ := hb; cases e; have := (OwnR.blk za1 wd.heap.size ⟨_, rfl, rfl⟩).2; have e2 : wd.heap.size = wa1.heap.size := e2; omega)
            refine free_one 9 (by kernel_rfl) ?_
            refine free_at _ rfl rfl 1 rfl rfl fun K hK => ?_
            refine wp_append_row (P := Try.prog) (enc := encRan) _ _ 46 rfl w6.heap.size 61 iR _ 112 Try.underlying46 hiR hzR hsR hbR rfl (by decide) encRan_len encRan_one a5 ds.length c5 (ds.map ranD) rfl hoa2 _ 1 1 [ranD d] rfl rr (by omega) (by omega) ka2.size ?_
            intro a7 c7 W7 hO7 hk7 _
            have K7 : Kp Non w6 W7 := ka2.newer hk7 fun i hi => (hoa2.blk i hi).1
            refine hK _ _ (fun _ => HC22.out _ K7) ?_
            clear hK K
            have l2c : W7.cell? ⟨lb, 2, none⟩ = some (.slice a4 N c4) := by have := ((OwnR.non HL5.out (k6.trans K7)).reads encLife_len (by omega)).get (j := 0) (i := 2) rfl rfl; simpa using this
            have l2f := (OwnR.non HL5.out (k6.trans K7)).fz rfl 2
            refine free_one 12 (by kernel_rfl) ?_
            refine free_at _ rfl rfl 2 rfl rfl fun K hK => ?_
            go_simp
            refine hK _ _ (fun h => by cases h) ?_
            clear hK K
            refine free_nil ?_
            have hL7 := OwnR.non HL5.out (k6.trans K7)
            obtain ⟨W8, hW8⟩ : ∃ W, World.setCell W7 ⟨lb, 2, none⟩ (.slice a7 (ds.length + 1) c7) = W := ⟨_, rfl⟩
            have k8 : Kp (One lb) W7 W8 := hW8 ▸ Kp.setCell (S := One lb) (Kp.refl _ W7) (p := ⟨lb, 2, none⟩) (.inl rfl) _
            have hLv := OwnR.set hL7 2 (.slice a7 (ds.length + 1) c7) (l' := [⟨0, 1, ⟨a7, ds.length + 1, c7, ds.map ranD ++ [ranD d]⟩⟩]) rfl
            rw [hW8] at hLv
            rw [hW8]
            have l3c : W8.cell? ⟨lb, 2, none⟩ = some (.slice a7 (ds.length + 1) c7) := by have := (hLv.reads encLife_len (by omega)).get (j := 0) (i := 2) rfl rfl; simpa using this
            have hO8 := OwnR.kp hO7 k8 (no_blk (no_row hO7 hL7 (by decide)))
            have hG8 := OwnR.kp (OwnR.non HG5.out (k6.trans K7)) k8 (no_blk (no_row (OwnR.non HG5.out (k6.trans K7)) hL7 (by decide)))
            have hth8 : ∀ r ∈ ds.map ranD, r.there W8 := fun r hr => by
              obtain ⟨e, he, rfl⟩ := List.mem_map.1 hr
              have h1 := OwnR.non (HT5.out e he).1 (k6.trans K7)
              have h2 := OwnR.non (HT5.out e he).2 (k6.trans K7)
              exact ⟨(OwnR.kp h1 k8 (no_blk (no_row h1 hL7 (by decide)))).reads encT_len (by omega), (OwnR.kp h2 k8 (no_blk (no_row h2 hL7 (by decide)))).reads encT_len (by omega)⟩
            have kw8 : Kp Non w W8 := (kw6.trans K7).newer k8 fun i hi => by have : i = lb := hi; have := (HL5.out.blk lb ⟨_, rfl, rfl⟩).1; have := kV.size; omega
            have hrd : Rans W8 (some ⟨lg, 0, none⟩) (ds.map ranD).length lc (ds.map ranD) := ⟨by rw [List.length_map]; exact hG8.reads encRan_len (by omega), hth8⟩
            have hrx : Rans W8 a7 (ds.map ranD ++ [ranD d]).length c7 (ds.map ranD ++ [ranD d]) := ⟨by rw [List.length_append, List.length_map]; exact hO8.reads encRan_len (by omega), fun r hr => by
              rcases List.mem_append.1 hr with h | h
              · exact hth8 r h
              · obtain rfl := List.mem_singleton.1 h
                exact hth8 _ (List.mem_map_of_mem (List.mem_of_getElem? HX.out))⟩
            have HA1 := Lib.hid (agree_calls _ _ _ _ _ _ W8 hrd hrd)
            have HA2 := Lib.hid fun W (r : Kp Non W8 W) => agree_calls _ _ _ _ _ _ W (hrx.non r) (hrd.non r)
            rw [agree_self (refs_nodup HS0.out.al)] at HA1
            rw [agree_dup (List.mem_map_of_mem (List.mem_of_getElem? HX.out))] at HA2
            rw [List.length_append] at HA2
            simp only [List.length_map, List.length_cons, List.length_nil] at HA1 HA2
            have hLv := Lib.hid hLv
            clear hL7 hO7 hO8 hG8 hth8 hrd hrx k8 hW8 l2c l2f K7 hk7 HC22 HRg
            go_wp2_with fail
            refine HA1.out.mono ?_
            rintro e w9 ⟨rfl, k9⟩
            have l3c : w9.cell? ⟨lb, 2, none⟩ = some (.slice a7 (ds.length + 1) c7) := k9.cell l3c (fun f => f)
            have kw9 := kw8.trans k9
            have HA2 := Lib.hid (HA2.out _ k9)
            clear HA1
            go_wp2_with fail
            refine HA2.out.mono ?_
            rintro e wz ⟨rfl, kz⟩
            have kwz := kw9.trans kz
            clear HA2
            go_wp2_with fail
            refine (alives_calls wz).mono ?_
            rintro e wy ⟨rfl, ky⟩
            go_wp2_with fail
            go_ret
            exact ⟨rfl, kwz.trans ky⟩
        · skip
          refine free_at _ rfl rfl 1 rfl rfl fun K hK => ?_
          go_simp
          refine hK _ _ (fun _ => HC22.out _ (kd.alloc _)) ?_
          clear hK K
          have rl3 : Reads encRan 10 (World.alloc wd (.cells #[.int .i64 (ranD d).ref.1, .int .i64 (ranD d).ref.2, .int .i64 (ranD d).cmd.op, .int .i64 (ranD d).cmd.cl, .int .i64 (ranD d).cmd.sq, .int .i64 (ranD d).cmd.fr, .int .i64 (ranD d).cmd.to, .slice (ranD d).cmd.da.a (ranD d).cmd.da.n (ranD d).cmd.da.c, .bool (ranD d).rep.ok, .slice (ranD d).rep.da.a (ranD d).rep.da.n (ranD d).rep.da.c] 61)) (some ⟨wd.heap.size, 0, none⟩) 1 1 [ranD d] := Reads.new (x := ranD d) rfl rfl
          obtain ⟨wa3, hwa3⟩ : ∃ W, World.alloc wd (.cells #[.int .i64 (ranD d).ref.1, .int .i64 (ranD d).ref.2, .int .i64 (ranD d).cmd.op, .int .i64 (ranD d).cmd.cl, .int .i64 (ranD d).cmd.sq, .int .i64 (ranD d).cmd.fr, .int .i64 (ranD d).cmd.to, .slice (ranD d).cmd.da.a (ranD d).cmd.da.n (ranD d).cmd.da.c, .bool (ranD d).rep.ok, .slice (ranD d).rep.da.a (ranD d).rep.da.n (ranD d).rep.da.c] 61) = W := ⟨_, rfl⟩
          have ka3 : Kp Non w6 wa3 := hwa3 ▸ kd.alloc _
          have kab3 : Kp Non wd wa3 := hwa3 ▸ (Kp.refl Non wd).alloc _
          rw [hwa3] at rl3 ⊢
          clear hwa3
          refine free_one 1 (by kernel_rfl) ?_
          refine free_at _ rfl rfl 1 rfl rfl fun K hK => ?_
          go_simp
          refine hK _ _ (fun _ => HC22.out _ (ka3.alloc _)) ?_
          clear hK K
          obtain ⟨wa1, hwa1⟩ : ∃ W, World.alloc wa3 (.cells #[] 61) = W := ⟨_, rfl⟩
          have ka1 : Kp Non w6 wa1 := hwa1 ▸ ka3.alloc _
          have kab1 : Kp Non wa3 wa1 := hwa1 ▸ (Kp.refl Non wa3).alloc _
          have za1 : OwnRs wa1 wa3.heap.size (some ⟨wa3.heap.size, 0, none⟩) 0 0 [] := hwa1 ▸ OwnR.zero wa3 61
          rw [hwa1]
          clear hwa1
          have pz : w6.heap.size ≤ wa3.heap.size := ka3.size
          refine free_one 3 (by kernel_rfl) ?_
          refine free_at _ rfl rfl 1 rfl rfl fun K hK => ?_
          refine wp_append_row (P := Try.prog) (enc := encRan) _ _ 46 rfl w6.heap.size 61 iR _ 112 Try.underlying46 hiR hzR hsR hbR rfl (by decide) encRan_len encRan_one (some ⟨wa3.heap.size, 0, none⟩) 0 0 [] rfl (za1.rebase fun i hi => by obtain ⟨ad, e, rfl⟩ := hi; cases e; exact pz) (some ⟨lg, 0, none⟩) ds.length lc (ds.map ranD) rfl (HRg.out _ ka1) (by omega) (by omega) ka1.size ?_
          intro a5 c5 wa2 hoa2 hka2 _
          rw [Nat.zero_add] at hoa2 ⊢
          rw [List.nil_append] at hoa2
          have ka2 : Kp Non w6 wa2 := ka1.newer hka2 fun i hi => by obtain ⟨ad, e, rfl⟩ := hi; cases e; exact pz
          refine hK _ _ (fun _ => HC22.out _ ka2) ?_
          clear hK K
          have hlt3 : wd.heap.size < wa3.heap.size := rl3.lt (by omega) encRan_len (by omega) _ ⟨_, rfl, rfl⟩
          have rr := (rl3.non kab1).kp hka2 (fun i hi hb => by obtain ⟨ad, e, rfl⟩ := hi; cases e; obtain ⟨ad, e, e2⟩ := hb; cases e; have e2 : wa3.heap.size = wd.heap.size := e2; omega)
          refine free_one 9 (by kernel_rfl) ?_
          refine free_at _ rfl rfl 1 rfl rfl fun K hK => ?_
          refine wp_append_row (P := Try.prog) (enc := encRan) _ _ 46 rfl w6.heap.size 61 iR _ 112 Try.underlying46 hiR hzR hsR hbR rfl (by decide) encRan_len encRan_one a5 ds.length c5 (ds.map ranD) rfl hoa2 _ 1 1 [ranD d] rfl rr (by omega) (by omega) ka2.size ?_
          intro a7 c7 W7 hO7 hk7 _
          have K7 : Kp Non w6 W7 := ka2.newer hk7 fun i hi => (hoa2.blk i hi).1
          refine hK _ _ (fun _ => HC22.out _ K7) ?_
          clear hK K
          have l2c : W7.cell? ⟨lb, 2, none⟩ = some (.slice a4 N c4) := by have := ((OwnR.non HL5.out (k6.trans K7)).reads encLife_len (by omega)).get (j := 0) (i := 2) rfl rfl; simpa using this
          have l2f := (OwnR.non HL5.out (k6.trans K7)).fz rfl 2
          refine free_one 12 (by kernel_rfl) ?_
          refine free_at _ rfl rfl 2 rfl rfl fun K hK => ?_
          go_simp
          refine hK _ _ (fun h => by cases h) ?_
          clear hK K
          refine free_nil ?_
          have hL7 := OwnR.non HL5.out (k6.trans K7)
          obtain ⟨W8, hW8⟩ : ∃ W, World.setCell W7 ⟨lb, 2, none⟩ (.slice a7 (ds.length + 1) c7) = W := ⟨_, rfl⟩
          have k8 : Kp (One lb) W7 W8 := hW8 ▸ Kp.setCell (S := One lb) (Kp.refl _ W7) (p := ⟨lb, 2, none⟩) (.inl rfl) _
          have hLv := OwnR.set hL7 2 (.slice a7 (ds.length + 1) c7) (l' := [⟨0, 1, ⟨a7, ds.length + 1, c7, ds.map ranD ++ [ranD d]⟩⟩]) rfl
          rw [hW8] at hLv
          rw [hW8]
          have l3c : W8.cell? ⟨lb, 2, none⟩ = some (.slice a7 (ds.length + 1) c7) := by have := (hLv.reads encLife_len (by omega)).get (j := 0) (i := 2) rfl rfl; simpa using this
          have hO8 := OwnR.kp hO7 k8 (no_blk (no_row hO7 hL7 (by decide)))
          have hG8 := OwnR.kp (OwnR.non HG5.out (k6.trans K7)) k8 (no_blk (no_row (OwnR.non HG5.out (k6.trans K7)) hL7 (by decide)))
          have hth8 : ∀ r ∈ ds.map ranD, r.there W8 := fun r hr => by
            obtain ⟨e, he, rfl⟩ := List.mem_map.1 hr
            have h1 := OwnR.non (HT5.out e he).1 (k6.trans K7)
            have h2 := OwnR.non (HT5.out e he).2 (k6.trans K7)
            exact ⟨(OwnR.kp h1 k8 (no_blk (no_row h1 hL7 (by decide)))).reads encT_len (by omega), (OwnR.kp h2 k8 (no_blk (no_row h2 hL7 (by decide)))).reads encT_len (by omega)⟩
          have kw8 : Kp Non w W8 := (kw6.trans K7).newer k8 fun i hi => by have : i = lb := hi; have := (HL5.out.blk lb ⟨_, rfl, rfl⟩).1; have := kV.size; omega
          have hrd : Rans W8 (some ⟨lg, 0, none⟩) (ds.map ranD).length lc (ds.map ranD) := ⟨by rw [List.length_map]; exact hG8.reads encRan_len (by omega), hth8⟩
          have hrx : Rans W8 a7 (ds.map ranD ++ [ranD d]).length c7 (ds.map ranD ++ [ranD d]) := ⟨by rw [List.length_append, List.length_map]; exact hO8.reads encRan_len (by omega), fun r hr => by
            rcases List.mem_append.1 hr with h | h
            · exact hth8 r h
            · obtain rfl := List.mem_singleton.1 h
              exact hth8 _ (List.mem_map_of_mem (List.mem_of_getElem? HX.out))⟩
          have HA1 := Lib.hid (agree_calls _ _ _ _ _ _ W8 hrd hrd)
          have HA2 := Lib.hid fun W (r : Kp Non W8 W) => agree_calls _ _ _ _ _ _ W (hrx.non r) (hrd.non r)
          rw [agree_self (refs_nodup HS0.out.al)] at HA1
          rw [agree_dup (List.mem_map_of_mem (List.mem_of_getElem? HX.out))] at HA2
          rw [List.length_append] at HA2
          simp only [List.length_map, List.length_cons, List.length_nil] at HA1 HA2
          have hLv := Lib.hid hLv
          clear hL7 hO7 hO8 hG8 hth8 hrd hrx k8 hW8 l2c l2f K7 hk7 HC22 HRg
          go_wp2_with fail
          refine HA1.out.mono ?_
          rintro e w9 ⟨rfl, k9⟩
          have l3c : w9.cell? ⟨lb, 2, none⟩ = some (.slice a7 (ds.length + 1) c7) := k9.cell l3c (fun f => f)
          have kw9 := kw8.trans k9
          have HA2 := Lib.hid (HA2.out _ k9)
          clear HA1
          go_wp2_with fail
          refine HA2.out.mono ?_
          rintro e wz ⟨rfl, kz⟩
          have kwz := kw9.trans kz
          clear HA2
          go_wp2_with fail
          refine (alives_calls wz).mono ?_
          rintro e wy ⟨rfl, ky⟩
          go_wp2_with fail
          go_ret
          exact ⟨rfl, kwz.trans ky⟩
      · have e3 : (d.op == 3) = false := by simp [h3]
        clear h1 h2 h3
        go_wp2_with fail
        refine (alives_calls U).mono ?_
        rintro e w2 ⟨rfl, hk9⟩
        go_wp2_with fail
        go_ret
        exact ⟨rfl, kwU.trans hk9⟩
section
open Go.ChangeShapes Go.WideShapes Go.ChangeAt Go.Deep
variable {H : Type} {enc : TypeId × Value → H} {w : World} {base : Nat} {held : Bool}
set_option maxRecDepth 100000 in
theorem twou_in {b0 : Nat} {v : Value} {d : DataW H} {p : List MemPlace} (hv : Value.okWide Try.prog w .any b0 55 v) (h : DataW.Trod enc Try.prog w base (fun _ => true) held 55 v d p) : ∃ y z : Int, v = .agg #[.int .u64 y, .int .u64 z] ∧ 0 ≤ y ∧ 0 ≤ z := by
  have hT : Try.prog.underlying 55 = some (.array 2 51) := by kernel_rfl
  have h2 : Try.prog.cellsOf 51 = 1 := by kernel_rfl
  have h4 : Try.prog.cellsOf 55 = 2 := by kernel_rfl
  have hv' := hv
  simp only [Value.okWide, hT] at hv'
  obtain ⟨cs, rfl, hsz, _⟩ := hv'
  rw [h4] at hsz
  obtain ⟨l⟩ := cs
  match l, hsz with
  | [v0, v1], _ =>
    obtain ⟨fuel, ht⟩ := h
    obtain ⟨xs, m, _, _, _, hxl, hfl⟩ := DataW.trod_array hT ht
    have f0 := hfl 0 (by omega)
    have f1 := hfl 1 (by omega)
    rw [h2] at f0 f1
    match xs, hxl with
    | [y0, y1], _ =>
      have f0 : DataW.trod enc Try.prog w base (fun _ => true) held m 51 [v0] = some y0 := by simpa [Value.cells] using f0
      have f1 : DataW.trod enc Try.prog w base (fun _ => true) held m 51 [v1] = some y1 := by simpa [Value.cells] using f1
      obtain ⟨k0, e0, _, g0⟩ := DataW.trod_int Try.underlying51 f0
      obtain ⟨k1, e1, _, g1⟩ := DataW.trod_int Try.underlying51 f1
      cases e0
      cases e1
      simp only [Lit.wf, Bool.and_eq_true, decide_eq_true_eq] at g0 g1
      exact ⟨k0, k1, rfl, g0.1, g1.1⟩
end
open Go.ChangeShapes Go.WideShapes Go.ChangeAt
set_option maxRecDepth 100000 in
theorem audit_finds_lifted (os : Os) (started : os.Started) (H : Type) (enc : TypeId × Value → H) :
    ReturnsInHanded {} Try.checked os 7 .any (Rows.auditFindsSpec.pre6 enc Try.prog Try.f7 Rows.auditFindsRow.domain false) (Rows.auditFindsSpec.post enc Try.prog Try.f7 false true false false) := by
  refine returnsInHanded_of_change_sized (C := Try.checked) own started (by kernel_rfl) Try.func7
    (ChangeSpec.witness6 (enc := enc) (C := Try.checked) false ⟨#[], #[.slice none 0 0, .int .u64 0, .agg #[.int .u64 0, .int .u64 0]], []⟩ 8 (by kernel_rfl) (by kernel_rfl) (by kernel_rfl) (by kernel_rfl)) ?_
  intro W base args ds gs before hval0 hW hcnd _ _
  have hval : ∀ (j : Nat) t v, Try.f7.params[j]? = some t → args[j]? = some v → Value.okWide Try.prog W .any base t v := hval0
  have hW' := hW
  obtain ⟨p, q, hA0, hV, rfl, hfz, hnd⟩ := hW
  have hA : DataW.TrodAll enc Try.prog W 0 (fun _ => true) true Try.f7.params.toList args.toList ds p := hA0
  rw [Try.params7] at hA hval
  obtain ⟨v0, vs0, d0, ds0, p0, q0, hargs, rfl, rfl, h0, r0⟩ := trodAll_cons hA
  obtain ⟨v1, vs1, d1, ds1, p1, q1, rfl, rfl, rfl, h1, r1⟩ := trodAll_cons r0
  obtain ⟨v2, vs2, d2, ds2, p2, q2, rfl, rfl, rfl, h2, r2⟩ := trodAll_cons r1
  obtain ⟨rfl, rfl, rfl⟩ := trodAll_nil r2
  obtain rfl : args = #[v0, v1, v2] := by cases args; simp_all
  obtain ⟨rfl, rfl⟩ := trodVars_none hV
  have lt0 : ∀ x ∈ p0, x.block < W.heap.size := by obtain ⟨m, hm⟩ := h0; exact DataW.trod_lt m _ _ _ hm
  have k0 := h0
  obtain ⟨a0, n0, c0, rfl⟩ := okWide_slice Try.underlying50 (hval 0 50 v0 rfl rfl)
  obtain ⟨l0, b0, i0⟩ := dos_in h0
  have lt1 : ∀ x ∈ p1, x.block < W.heap.size := by obtain ⟨m, hm⟩ := h1; exact DataW.trod_lt m _ _ _ hm
  have k1 := h1
  obtain ⟨a1, rfl, _, _, w1⟩ := open_int Try.underlying51 (hval 1 51 v1 rfl rfl) h1
  simp only [Lit.wf, Bool.and_eq_true, decide_eq_true_eq] at w1
  have lt2 : ∀ x ∈ p2, x.block < W.heap.size := by obtain ⟨m, hm⟩ := h2; exact DataW.trod_lt m _ _ _ hm
  have k2 := h2
  obtain ⟨y2, z2, rfl, i2, j2⟩ := twou_in (hval 2 55 v2 rfl rfl) h2
  clear hA0 hval0
  refine (finds_walk a0 n0 c0 l0 a1 y2 z2 w1 i2 j2 W b0).mono fun e W' ⟨he, hk⟩ => ?_
  have bel := hk.below
  subst he
  exact ⟨_, rfl, _, _, _, [], _, [], hW', trodAll_mk1 (shut_bool Try.underlying4 _), (trodAll_cons_mk (Below.trod laidOut (by kernel_rfl) (of_decide_eq_true (by kernel_rfl)) k0 bel lt0)
    (trodAll_cons_mk (Below.trod laidOut (by kernel_rfl) (of_decide_eq_true (by kernel_rfl)) k1 bel lt1)
    (trodAll_cons_mk (Below.trod laidOut (by kernel_rfl) (of_decide_eq_true (by kernel_rfl)) k2 bel lt2)
    trodAll_mk0))), rfl, bel.frame _, fun h => by cases h⟩

theorem audit_finds : Rows.AuditFindsSaid :=
  OpenClaim.holds_of_wide 7 Try.f7 rfl rfl rfl rfl rfl rfl rfl ⟨rfl, rfl, rfl, rfl, rfl⟩ rfl rfl rfl rfl rfl (by kernel_rfl) Try.func7 (by kernel_rfl)
    (of_decide_eq_true (by kernel_rfl)) (by unfold Func.isWrapper; first | (rw [if_pos (by decide +kernel)]; kernel_rfl) | (rw [if_neg (by decide +kernel)]; exact ⟨rfl, rfl⟩))
    (fun os started H enc _ => audit_finds_lifted os started H enc)
#print axioms audit_finds
end Go.Proofs.Ytpehfnobgdjgcaa
