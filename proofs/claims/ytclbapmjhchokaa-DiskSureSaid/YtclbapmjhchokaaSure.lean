/-
  DiskSure: what was synced stays behind any crashes, and a second crash changes nothing. For every input.
-/
import Derived.Test.YtclbapmjhchokaaF0
import Derived.Lib.SmallJoins
namespace Go.Proofs.Ytclbapmjhchokaa
open Go.RowKit

namespace Sure
def u0 : St := St.new 20
def u1 (al : List UInt8) : St := { u0 with log := al }
def u2 (al : List UInt8) : St := { u0 with log := al, sure := al.length }
def u3 (al bl : List UInt8) : St := { u0 with log := al ++ bl, sure := al.length }

theorem e1 (al : List UInt8) (h : al.length ≤ 3000) : u0.append al = (0, u1 al) :=
  append_fits rfl rfl (by
    have h1 : secs ((0 : Int) + al.length) ≤ 6 := secs_le _ _ (by omega)
    show secs ((0 : Int) + al.length) ≤ 20 - secs 0 - secs 0
    rw [secs_zero]; omega)
theorem e2 (al : List UInt8) : (u1 al).sync = (0, u2 al) := sync_on rfl rfl
theorem e3 (al bl : List UInt8) (h : al.length ≤ 3000) (h' : bl.length ≤ 3000) : (u2 al).append bl = (0, u3 al bl) :=
  append_fits rfl rfl (by
    have h1 : secs ((al.length : Int) + bl.length) ≤ 12 := secs_le _ _ (by omega)
    show secs ((al.length : Int) + bl.length) ≤ 20 - secs 0 - secs 0
    rw [secs_zero]; omega)
theorem u1_ok (al : List UInt8) (h : al.length ≤ 3000) : (u1 al).ok := by
  have := (St.new_ok 20 (by omega) (by omega)).append al
  rw [show St.new 20 = u0 from rfl, e1 al h] at this
  exact this
theorem u2_ok (al : List UInt8) (h : al.length ≤ 3000) : (u2 al).ok := by
  have := (u1_ok al h).sync
  rw [e2] at this
  exact this
theorem u3_ok (al bl : List UInt8) (h : al.length ≤ 3000) (h' : bl.length ≤ 3000) : (u3 al bl).ok := by
  have := (u2_ok al h).append bl
  rw [e3 al bl h h'] at this
  exact this

/-- How many bytes of b stay. -/
def kOf (k0 : Int) (n : Nat) : Int := max 0 (min k0 n)
def logOf (al bl : List UInt8) (k0 : Int) : List UInt8 := (al ++ bl).take (al.length + (kOf k0 bl.length).toNat)
theorem e4 (al bl : List UInt8) (k0 : Int) : ((u3 al bl).crash k0).log = logOf al bl k0 := by
  simp only [St.crash, St.stays, u3, logOf, kOf]
  congr 1
  simp
  omega
theorem e5 (al bl : List UInt8) (k0 k1 : Int) : (((u3 al bl).crash k0).crash k1).log = logOf al bl k0 := by
  have h : (((u3 al bl).crash k0).crash k1).log = ((u3 al bl).crash k0).log := by
    have h1 : ((u3 al bl).crash k0).sure = ((u3 al bl).crash k0).log.length := by
      simp [St.crash, St.stays, u3]
      omega
    generalize (u3 al bl).crash k0 = s at *
    simp only [St.crash, St.stays]
    rw [h1]
    rw [List.take_of_length_le (by omega)]
  rw [h, e4]
theorem logOf_len (al bl : List UInt8) (k0 : Int) : (logOf al bl k0).length ≤ 6000 ∨ 3000 < al.length ∨ 3000 < bl.length := by
  simp [logOf]; omega

/-- The text ahead of place n of the two together. -/
theorem cut_text (al bl : List UInt8) (k0 : Int) : (⟨(al ++ bl).toArray⟩ : ByteArray).extract 0 ((al.length : Int) + kOf k0 bl.length).toNat = ⟨(logOf al bl k0).toArray⟩ := by
  rw [show ((al.length : Int) + kOf k0 bl.length).toNat = al.length + (kOf k0 bl.length).toNat from by unfold kOf; omega]
  simp [logOf, ByteArray.extract_mk]
end Sure

open Sure in
set_option maxRecDepth 100000 in
set_option maxHeartbeats 2000000 in
theorem sure_long (aa : Option Addr) (an ac : Nat) (ba : Option Addr) (bn bc : Nat) (k0 k1 : Int) (w : World) (h : 3000 < an ∨ 3000 < bn) :
    Calls Try.prog 3 #[.slice aa an ac, .slice ba bn bc, .agg #[.int .i64 k0, .int .i64 k1]] w (TruePost w) := by
  have HL := Lib.hid (fun W => lives_true W)
  by_cases h1 : 3000 < an
  · have g1 : (3000 : Int) < an := by omega
    clear h h1
    go_enter Try.func3, Try.ntmps3
    go_wp2_with fail
    refine (HL.out _).mono ?_
    rintro e w1 ⟨rfl, hk⟩
    go_wp2_with fail
    go_ret
    exact ⟨rfl, ((Kp.refl _ _).alloc _).trans hk⟩
  · have g1 : decide ((3000 : Int) < an) = false := by simp; omega
    have g2 : (3000 : Int) < bn := by omega
    clear h h1
    go_enter Try.func3, Try.ntmps3
    go_wp2_with fail
    refine (HL.out _).mono ?_
    rintro e w1 ⟨rfl, hk⟩
    go_wp2_with fail
    go_ret
    exact ⟨rfl, ((Kp.refl _ _).alloc _).trans hk⟩

open Sure in
set_option maxRecDepth 100000 in
set_option maxHeartbeats 4000000 in
theorem sure_short (aa : Option Addr) (an ac : Nat) (al : List UInt8) (ba : Option Addr) (bn bc : Nat) (bl : List UInt8) (k0 k1 : Int) (w : World) (h1 : an ≤ 3000) (h2 : bn ≤ 3000)
    (ha : Bytes w aa an ac al) (hb : Bytes w ba bn bc bl) :
    Calls Try.prog 3 #[.slice aa an ac, .slice ba bn bc, .agg #[.int .i64 k0, .int .i64 k1]] w (TruePost w) := by
  have HL := Lib.hid (fun W => lives_true W)
  have g1 : decide ((3000 : Int) < an) = false := by simp; omega
  have g2 : decide ((3000 : Int) < bn) = false := by simp; omega
  have hal : al.length ≤ 3000 := by have := ha.len; omega
  have hbl : bl.length ≤ 3000 := by have := hb.len; omega
  have HE1 := Lib.hid (e1 al hal)
  have HE2 := Lib.hid (e2 al)
  have HE3 := Lib.hid (e3 al bl hal hbl)
  have HE4 := Lib.hid (e4 al bl k0)
  have HE5 := Lib.hid (e5 al bl k0 k1)
  have ok1 := u1_ok al hal
  have ok2 := u2_ok al hal
  have ok3 := u3_ok al bl hal hbl
  go_enter Try.func3, Try.ntmps3
  go_wp2_with fail
  have hkA : Kp Non w (w.alloc (.cells #[.int .i64 k0, .int .i64 k1] 23)) := (Kp.refl _ _).alloc _
  refine (new_calls 20 _ (by omega) (by omega)).mono ?_
  rintro e w1 ⟨rfl, hd1, hk1⟩
  have hdl : w.heap.size < (w.alloc (.cells #[.int .i64 k0, .int .i64 k1] 23)).heap.size := by simp
  have p0 : w1.cell? ⟨w.heap.size, 0, none⟩ = some (.int .i64 k0) := hk1.cell (a := ⟨w.heap.size, 0, none⟩) (by simp [go_sem]) (fun f => f)
  have p1 : w1.cell? ⟨w.heap.size, 1, none⟩ = some (.int .i64 k1) := hk1.cell (a := ⟨w.heap.size, 1, none⟩) (by simp [go_sem]) (fun f => f)
  replace hk1 := hkA.trans hk1
  clear hkA
  generalize (w.alloc (.cells #[.int .i64 k0, .int .i64 k1] 23)).heap.size = d at *
  go_wp2_with fail
  refine (append_calls d u0 _ _ _ al _ hd1 (St.new_ok 20 (by omega) (by omega)) (ha.non hk1) (by omega)).mono ?_
  rintro e w2 ⟨rfl, hdw2, kw2⟩
  rw [HE1.out] at hdw2 ⊢
  replace p0 := kw2.cell p0 (fun e => by have : w.heap.size = d := e; omega)
  replace p1 := kw2.cell p1 (fun e => by have : w.heap.size = d := e; omega)
  replace hk1 := Kp.dev hk1 (by omega) kw2
  go_wp2_with fail
  refine (sync_calls d (u1 al) _ hdw2 ok1).mono ?_
  rintro e w3 ⟨rfl, hdw3, kw3⟩
  rw [HE2.out] at hdw3 ⊢
  replace p0 := kw3.cell p0 (fun e => by have : w.heap.size = d := e; omega)
  replace p1 := kw3.cell p1 (fun e => by have : w.heap.size = d := e; omega)
  replace hk1 := Kp.dev hk1 (by omega) kw3
  go_wp2_with fail
  refine (append_calls d (u2 al) _ _ _ bl _ hdw3 ok2 (hb.non hk1) (by omega)).mono ?_
  rintro e w4 ⟨rfl, hdw4, kw4⟩
  rw [HE3.out] at hdw4 ⊢
  replace p0 := kw4.cell p0 (fun e => by have : w.heap.size = d := e; omega)
  replace p1 := kw4.cell p1 (fun e => by have : w.heap.size = d := e; omega)
  replace hk1 := Kp.dev hk1 (by omega) kw4
  go_wp2_with fail
  refine (crash_calls d (u3 al bl) k0 _ hdw4 ok3).mono ?_
  rintro e w5 ⟨rfl, hdw5, kw5⟩
  replace p0 := kw5.cell p0 (fun e => by have : w.heap.size = d := e; omega)
  replace p1 := kw5.cell p1 (fun e => by have : w.heap.size = d := e; omega)
  replace hk1 := Kp.dev hk1 (by omega) kw5
  have ok4 := ok3.crash k0
  go_wp2_with fail
  refine (log_calls d _ _ hdw5 ok4).mono ?_
  rintro e w6 ⟨kw6, he⟩
  rw [show ((u3 al bl).crash k0).off = false from rfl, if_neg (by simp), HE4.out] at he
  obtain ⟨xa, xc, rfl, hX⟩ := he
  replace p0 := kw6.cell p0 (fun f => f)
  replace p1 := kw6.cell p1 (fun f => f)
  have hdw6 := hdw5.non kw6
  replace hk1 := hk1.trans kw6
  have hx := hX.bytes
  go_wp2_with fail
  refine (crash_calls d _ k1 _ hdw6 ok4).mono ?_
  rintro e w7 ⟨rfl, hdw7, kw7⟩
  replace p0 := kw7.cell p0 (fun e => by have : w.heap.size = d := e; omega)
  replace p1 := kw7.cell p1 (fun e => by have : w.heap.size = d := e; omega)
  replace hx := hx.one hdw6 kw7
  replace hk1 := Kp.dev hk1 (by omega) kw7
  have ok5 := ok4.crash k1
  go_wp2_with fail
  refine (log_calls d _ _ hdw7 ok5).mono ?_
  rintro e w8 ⟨kw8, he⟩
  rw [show (((u3 al bl).crash k0).crash k1).off = false from rfl, if_neg (by simp), HE5.out] at he
  obtain ⟨ya, yc, rfl, hY⟩ := he
  replace p0 := kw8.cell p0 (fun f => f)
  replace p1 := kw8.cell p1 (fun f => f)
  replace hk1 := hk1.trans kw8
  replace hx := hx.non kw8
  have hy := hY.bytes
  clear hX hY kw2 kw3 kw4 kw5 kw6 kw7 kw8 hdw2 hdw3 hdw4 hdw5 hdw6 hdw7 ok1 ok2 ok3 ok4 ok5
  have ca := conv_string w8 _ _ _ _ (ha.non hk1)
  have cb := conv_string w8 _ _ _ _ (hb.non hk1)
  obtain ⟨q, hq⟩ : ∃ q : Int, (if (bn : Int) < k0 then (bn : Int) else k0) = q := ⟨_, rfl⟩
  obtain ⟨k, hk⟩ : ∃ k : Int, (if 0 < q then q else 0) = k := ⟨_, rfl⟩
  have hkk : k = kOf k0 bl.length := by
    have := hb.len
    unfold kOf
    split at hq <;> split at hk <;> omega
  have hkb : 0 ≤ k ∧ k ≤ bn := by split at hq <;> split at hk <;> omega
  have HK := Lib.hid hkk
  clear hkk
  go_wp2_with fail
  clear hq hk ca cb p0 p1
  have hS : (({ data := al.toArray } : ByteArray) ++ { data := bl.toArray }) = { data := (al ++ bl).toArray } := by
    apply ByteArray.ext; simp
  rw [hS]
  have hcut := cut_text al bl k0
  rw [← HK.out, ← ha.len] at hcut
  have hSz : (an : Int) + k ≤ ((⟨(al ++ bl).toArray⟩ : ByteArray).size : Int) := by
    have h3 := ha.len
    have h4 := hb.len
    simp [ByteArray.size]
    omega
  have hS0 : 0 ≤ (an : Int) + k := by omega
  have hSw : IntKind.i64.wrap ((an : Int) + k) = (an : Int) + k := IntWalk.i64_in _ (by omega)
  generalize ({ data := (al ++ bl).toArray } : ByteArray) = S at *
  have cx := conv_string w8.drew _ _ _ _ hx.drew
  have cy := conv_string w8.drew _ _ _ _ hy.drew
  generalize ({ data := (logOf al bl k0).toArray } : ByteArray) = X at *
  refine wp_region_chain [0,0,0,0,0,0,0,0,0,0,0,0,0,0,0,0,0,2,2,2] (by kernel_rfl) (by kernel_rfl) (fun w' => w' = w8.drew) rfl ?_
  repeat (first | (with_reducible refine pure_skip ?_) | ((first | (with_reducible refine pure_k rfl ?_) | (refine pure_ky (by rfl) ?_)); intro K hK; apply Exists.intro; refine ⟨fun w' hC => ?_, ?_⟩; (subst hC; go_simp; rfl); go_simp; refine hK _ ?_; clear hK K))
  with_reducible refine pure_nil ?_
  repeat (with_reducible refine chain_skip0 ?_)
  refine chain_ky (by rfl) fun K hK => ?_
  go_simp
  refine (HL.out _).mono ?_
  rintro e w9 ⟨rfl, hk9⟩
  go_simp
  refine hK _ _ (fun h => by cases h) ?_
  clear hK K
  with_reducible refine chain_step rfl fun K hK => ?_
  go_simp
  refine hK _ _ (fun h => by cases h) ?_
  clear hK K
  with_reducible refine chain_step rfl fun K hK => ?_
  go_simp
  refine hK _ _ (fun h => by cases h) ?_
  clear hK K
  with_reducible refine chain_nil ?_
  go_wp2
  go_ret
  exact ⟨rfl, hk1.drew.trans hk9⟩

theorem sure_walk (aa : Option Addr) (an ac : Nat) (al : List UInt8) (ba : Option Addr) (bn bc : Nat) (bl : List UInt8) (k0 k1 : Int) (w : World)
    (ha : Bytes w aa an ac al) (hb : Bytes w ba bn bc bl) :
    Calls Try.prog 3 #[.slice aa an ac, .slice ba bn bc, .agg #[.int .i64 k0, .int .i64 k1]] w (TruePost w) := by
  by_cases h : 3000 < an ∨ 3000 < bn
  · exact sure_long aa an ac ba bn bc k0 k1 w h
  · exact sure_short aa an ac al ba bn bc bl k0 k1 w (by omega) (by omega) ha hb

open Go.ChangeShapes Go.WideShapes Go.ChangeAt
set_option maxRecDepth 100000 in
/-- An array of two numbers that came in. -/
theorem two_in {H : Type} {enc : TypeId × Value → H} {w : World} {base : Nat} {held : Bool} {b0 : Nat} {v : Value} {d : DataW H} {p : List MemPlace}
    (hv : Value.okWide Try.prog w .any b0 23 v) (h : DataW.Trod enc Try.prog w base (fun _ => true) held 23 v d p) : ∃ k0 k1, v = .agg #[.int .i64 k0, .int .i64 k1] := by
  simp only [Value.okWide, Try.underlying23] at hv
  obtain ⟨cs, rfl, hsz, _⟩ := hv
  have hc : Try.prog.cellsOf 23 = 2 := by kernel_rfl
  have hc3 : Try.prog.cellsOf 3 = 1 := by kernel_rfl
  rw [hc] at hsz
  obtain ⟨l⟩ := cs
  match l, hsz with
  | [c0, c1], _ =>
    obtain ⟨fuel, hf⟩ := h
    obtain ⟨xs, m, _, _, _, hlen, hi⟩ := DataW.trod_array Try.underlying23 hf
    match xs, hlen with
    | [y0, y1], _ =>
      have g0 := hi 0 (by omega)
      have g1 := hi 1 (by omega)
      rw [hc3] at g0 g1
      simp [Value.cells] at g0 g1
      obtain ⟨a, e0, _, _⟩ := DataW.trod_int Try.underlying3 g0
      obtain ⟨b, e1, _, _⟩ := DataW.trod_int Try.underlying3 g1
      simp at e0 e1
      subst e0 e1
      exact ⟨a, b, rfl⟩

set_option maxRecDepth 100000 in
theorem sure_lifted (os : Os) (started : os.Started) (H : Type) (enc : TypeId × Value → H) :
    ReturnsInHanded {} Try.checked os 3 .any (Rows.diskSureSpec.pre6 enc Try.prog Try.f3 Rows.diskSureRow.domain false) (Rows.diskSureSpec.post enc Try.prog Try.f3 false true false false) := by
  refine returnsInHanded_of_change (C := Try.checked) own started (by kernel_rfl) Try.func3
    (ChangeSpec.witness6 (enc := enc) (C := Try.checked) false ⟨#[], #[.slice none 0 0, .slice none 0 0, .agg #[.int .i64 0, .int .i64 0]], []⟩ 8 (by kernel_rfl) (by kernel_rfl) (by kernel_rfl) (by kernel_rfl)) ?_
  intro W base args ds gs before hval0 hW hcnd _
  have hval : ∀ (j : Nat) t v, Try.f3.params[j]? = some t → args[j]? = some v → Value.okWide Try.prog W .any base t v := hval0
  have hW' := hW
  obtain ⟨p, q, hA0, hV, rfl, hfz, hnd⟩ := hW
  have hA : DataW.TrodAll enc Try.prog W 0 (fun _ => true) true Try.f3.params.toList args.toList ds p := hA0
  rw [Try.params3] at hA hval
  obtain ⟨v0, vs0, d0, ds0, p0, q0, hargs, rfl, rfl, h0, r0⟩ := trodAll_cons hA
  obtain ⟨v1, vs1, d1, ds1, p1, q1, rfl, rfl, rfl, h1, r1⟩ := trodAll_cons r0
  obtain ⟨v2, vs2, d2, ds2, p2, q2, rfl, rfl, rfl, h2, r2⟩ := trodAll_cons r1
  obtain ⟨rfl, rfl, rfl⟩ := trodAll_nil r2
  obtain rfl : args = #[v0, v1, v2] := by cases args; simp_all
  obtain ⟨rfl, rfl⟩ := trodVars_none hV
  have lt0 : ∀ x ∈ p0, x.block < W.heap.size := by obtain ⟨m, hm⟩ := h0; exact DataW.trod_lt m _ _ _ hm
  have lt1 : ∀ x ∈ p1, x.block < W.heap.size := by obtain ⟨m, hm⟩ := h1; exact DataW.trod_lt m _ _ _ hm
  have lt2 : ∀ x ∈ p2, x.block < W.heap.size := by obtain ⟨m, hm⟩ := h2; exact DataW.trod_lt m _ _ _ hm
  obtain ⟨a0, n0, c0, rfl⟩ := okWide_slice Try.underlying22 (hval 0 22 v0 rfl rfl)
  obtain ⟨a1, n1, c1, rfl⟩ := okWide_slice Try.underlying22 (hval 1 22 v1 rfl rfl)
  obtain ⟨l0, hb0⟩ := bytes_in h0
  obtain ⟨l1, hb1⟩ := bytes_in h1
  obtain ⟨k0, k1, rfl⟩ := two_in (hval 2 23 v2 rfl rfl) h2
  clear hA0 hval0
  refine (sure_walk a0 n0 c0 l0 a1 n1 c1 l1 k0 k1 W hb0 hb1).mono fun e W' ⟨he, hk⟩ => ?_
  have bel := hk.below
  subst he
  exact ⟨_, rfl, _, _, _, [], _, [], hW', trodAll_mk1 (shut_bool Try.underlying4 _), (trodAll_cons_mk (Below.trod laidOut (by kernel_rfl) (of_decide_eq_true (by kernel_rfl)) h0 bel lt0) (trodAll_cons_mk (Below.trod laidOut (by kernel_rfl) (of_decide_eq_true (by kernel_rfl)) h1 bel lt1)
    (trodAll_cons_mk (Below.trod laidOut (by kernel_rfl) (of_decide_eq_true (by kernel_rfl)) h2 bel lt2) trodAll_mk0))), rfl, bel.frame _, fun h => by cases h⟩

theorem disk_sure : Rows.DiskSureSaid :=
  OpenClaim.holds_of_wide 3 Try.f3 rfl rfl rfl rfl rfl rfl rfl ⟨rfl, rfl, rfl, rfl, rfl⟩ rfl rfl rfl rfl rfl (by kernel_rfl) Try.func3 (by kernel_rfl)
    (of_decide_eq_true (by kernel_rfl)) (by unfold Func.isWrapper; first | (rw [if_pos (by decide +kernel)]; kernel_rfl) | (rw [if_neg (by decide +kernel)]; exact ⟨rfl, rfl⟩))
    (fun os started H enc _ => sure_lifted os started H enc)
#print axioms disk_sure
end Go.Proofs.Ytclbapmjhchokaa
