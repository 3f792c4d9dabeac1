/-
  Does a journal tell what the document's has?
-/
import Derived.Test.YtclbapmjhchokaaJ22
import Derived.Test.YtclbapmjhchokaaR4
namespace Go.Proofs.Ytclbapmjhchokaa
open Go.RowKit

theorem sizes_take_le' (l : List (List UInt8)) (a : Nat) : sizes (l.take a) ≤ sizes l := by
  conv => rhs; rw [← List.take_append_drop a l]
  rw [sizes_append]
  omega
theorem sizes_get (l : List (List UInt8)) (i : Nat) (hi : i < l.length) : sizes (l.take (i + 1)) = sizes (l.take i) + (l[i].length + 8) := by
  rw [List.take_succ_eq_append_getElem hi, sizes_one]

set_option maxRecDepth 100000 in
set_option maxHeartbeats 2000000 in
theorem alike_calls {F : Nat → Prop} {b0 b1 : Nat} {w : World} {j d x xd : Nat} {s s2 : St} {J : JSt} {ra xa : Option Addr} (hJ : Jou F b0 w j d s J ra) (hX : RJou b1 w x xd s2 J xa) (hsz : sizes J.recs ≤ 1000000000) (hil : J.image.length ≤ 1000000000000) :
    Calls Try.prog 61 #[.pointer (some ⟨j, 0, none⟩), .pointer (some ⟨x, 0, none⟩)] w (TruePost w) := by
  have HX := hX
  obtain ⟨rc, ia, ic, vs, hX⟩ := hX
  have c1 := hX.c1
  have c2 := hX.c2
  have c3 := hX.c3
  have hrows := hX.rows
  have hrec := hX.recs
  have hcnt := sizes_count J.recs
  have hIb := hX.image
  have hRX := Recs.rows hrows hrec
  go_enter Try.func61, Try.ntmps61
  go_wp2_with fail
  go_loopw [5, 13] (fun v5 v13 wr => ∃ i : Nat, i ≤ J.recs.length ∧ v5 = .int .i64 (sizes (J.recs.take i) : Nat) ∧ v13 = .int .i64 i ∧ wr = w) (fun _ v13 _ => J.recs.length - (intOf v13).toNat)
  case atStart => exact ⟨0, Nat.zero_le _, by simp [sizes], rfl, rfl⟩
  case round =>
    obtain ⟨i, hi, rfl, rfl, rfl⟩ := hrel
    have hle := sizes_take_le' J.recs i
    by_cases hlt : i < J.recs.length
    · have g1 : (i : Int) < (J.recs.length : Int) := by omega
      have g2 : (0 : Int) ≤ (i : Int) := by omega
      obtain ⟨b, k, hv, hbytes, _⟩ := hrec.at_ i J.recs[i] (List.getElem?_eq_getElem hlt)
      obtain ⟨g, rfl, hcell⟩ := hrows.cl hv
      have hsg := sizes_get J.recs i hlt
      have hle2 := sizes_take_le' J.recs (i + 1)
      have HS := Lib.hid hsg
      generalize J.recs[i] = r at *
      have v1 : IntKind.i64.wrap ((r.length : Int) + 8) = (r.length : Int) + 8 := IntWalk.i64_in _ (by omega)
      have v2 : IntKind.i64.wrap (((sizes (J.recs.take i) : Nat) : Int) + ((r.length : Int) + 8)) = ((sizes (J.recs.take (i + 1)) : Nat) : Int) := by rw [hsg, IntWalk.i64_in _ (by omega)]; omega
      have v6 : IntKind.i64.wrap ((i : Int) + 1) = (i : Int) + 1 := IntWalk.i64_in _ (by omega)
      clear hv hbytes hsg
      generalize sizes (J.recs.take i) = z1 at *
      generalize hz2 : sizes (J.recs.take (i + 1)) = z2 at *
      go_wp2_with fail
      exact ⟨⟨i + 1, by omega, by rw [hz2], by go_num, trivial⟩, by simp [intOf]; omega⟩
    · obtain rfl : i = J.recs.length := by omega
      have g1 : ¬ (J.recs.length : Int) < (J.recs.length : Int) := by omega
      rw [List.take_length]
      have eI : (J.image == J.image) = true := by simp
      have eN : ((J.recs.length : Int) == (J.recs.length : Int)) = true := by simp
      have eS : (((sizes J.recs : Nat) : Int) == ((sizes J.recs : Nat) : Int)) = true := by simp
      have eD : (J.down == J.down) = true := by simp
      have hkD : Kp Non wr wr.drew := (Kp.refl _ _).drew
      go_wp2_with fail
      refine wp_region_pieces [(10, [0,1,1,0,0,0,0,0,2,2,9,9,9,9,9,9,9,9,9,9,9,9,9,9,9,9,9,9,9,9,9,9,9,9,9,9,9,9,9,9,9,9,9,9], (fun w' => w'.cell? ⟨x, 1, none⟩ = some (.slice ia J.image.length ic) ∧ Bytes w' ia J.image.length ic J.image)), (19, [9,9,9,9,9,9,9,9,9,9,0,1,0,0,0,0,1,2,2,9,9,9,9,9,9,9,9,9,9,9,9,9,9,9,9,9,9,9,9,9,9,9,9,9], (fun w' => w'.cell? ⟨x, 2, none⟩ = some (.slice xa J.recs.length rc))), (29, [9,9,9,9,9,9,9,9,9,9,9,9,9,9,9,9,9,9,9,0,1,0,0,0,0,0,2,2,2,9,9,9,9,9,9,9,9,9,9,9,9,9,9,9], (fun w' => w'.cell? ⟨x, 2, none⟩ = some (.slice xa J.recs.length rc))), (35, [9,9,9,9,9,9,9,9,9,9,9,9,9,9,9,9,9,9,9,9,9,9,9,9,9,9,9,9,9,0,1,0,2,2,2,9,9,9,9,9,9,9,9,9], (fun _ => True)), (44, [9,9,9,9,9,9,9,9,9,9,9,9,9,9,9,9,9,9,9,9,9,9,9,9,9,9,9,9,9,9,9,9,9,9,9,0,1,0,0,0,0,2,2,2], (fun w' => w'.cell? ⟨x, 3, none⟩ = some (.bool J.down)))] (by kernel_rfl) (by kernel_rfl) ?_
      refine (And.intro ?_ ?_ : _ ∧ _)
      · exact ⟨hkD.cell c1 (fun f => f), hIb.non hkD⟩
      refine PB.out ?_
      repeat (first | (with_reducible refine pb_skip ?_) | ((first | (with_reducible refine pb_k rfl ?_) | (refine pb_ky (by rfl) ?_)); intro K hK; apply Exists.intro; refine ⟨fun w' hC => ?_, ?_⟩; (have cv := conv_string w' _ _ _ _ hC.2; have hC1 := hC.1; go_simp; rfl); go_simp; refine hK _ ?_; clear hK K))
      with_reducible refine pb_nil ?_
      simp only [List.take_succ_cons, List.take_zero, List.drop_zero]
      refine CB.out ?_
      repeat (with_reducible refine cb_skip ?_)
      (first | (with_reducible refine cb_step rfl fun K hK => ?_) | (refine cb_ky (by rfl) fun K hK => ?_))
      go_simp
      refine (jimage_calls (hJ.non hkD) hil).mono ?_
      rintro e w1 ⟨a1, e1, rfl, hO1, hk1⟩
      have q1 := hkD.trans hk1
      have cv1 := conv_string w1 _ _ _ _ hO1.bytes
      have k1 : w1.cell? ⟨x, 1, none⟩ = _ := q1.cell c1 (fun f => f)
      go_simp
      refine hK _ _ (fun _ => ⟨k1, hIb.non q1⟩) ?_
      clear hK K
      repeat (with_reducible refine cb_skip ?_)
      (first | (with_reducible refine cb_step rfl fun K hK => ?_) | (refine cb_ky (by rfl) fun K hK => ?_))
      go_simp
      refine hK _ _ (fun _ => ⟨k1, hIb.non q1⟩) ?_
      clear hK K
      repeat (with_reducible refine cb_skip ?_)
      (first | (with_reducible refine cb_step rfl fun K hK => ?_) | (refine cb_ky (by rfl) fun K hK => ?_))
      go_simp
      refine hK _ _ (fun h => by cases h) ?_
      clear hK K
      repeat (with_reducible refine cb_skip ?_)
      (first | (with_reducible refine cb_step rfl fun K hK => ?_) | (refine cb_ky (by rfl) fun K hK => ?_))
      go_simp
      refine hK _ _ (fun h => by cases h) ?_
      clear hK K
      with_reducible refine cb_nil ?_
      refine (And.intro ?_ ?_ : _ ∧ _)
      · exact (q1.cell c2 (fun f => f))
      refine PB.out ?_
      repeat (first | (with_reducible refine pb_skip ?_) | ((first | (with_reducible refine pb_k rfl ?_) | (refine pb_ky (by rfl) ?_)); intro K hK; apply Exists.intro; refine ⟨fun w' hC => ?_, ?_⟩; (go_simp; rfl); go_simp; refine hK _ ?_; clear hK K))
      with_reducible refine pb_nil ?_
      simp only [List.take_succ_cons, List.take_zero, List.drop_succ_cons, List.drop_zero]
      refine CB.out ?_
      repeat (with_reducible refine cb_skip ?_)
      (first | (with_reducible refine cb_step rfl fun K hK => ?_) | (refine cb_ky (by rfl) fun K hK => ?_))
      go_simp
      refine (jrecords_calls (hJ.non q1) (fun r hr => ?_) (by omega)).mono ?_
      · obtain ⟨y, z, hyz⟩ := List.append_of_mem hr
        rw [hyz, sizes_append] at hsz
        simp only [sizes] at hsz
        omega
      rintro e w2 ⟨a2, e2, u2, rfl, hS2, hR2, _, hk2⟩
      have q2 := q1.trans hk2
      have k2 : w2.cell? ⟨x, 2, none⟩ = _ := q2.cell c2 (fun f => f)
      go_simp
      refine hK _ _ (fun _ => k2) ?_
      clear hK K
      repeat (with_reducible refine cb_skip ?_)
      (first | (with_reducible refine cb_step rfl fun K hK => ?_) | (refine cb_ky (by rfl) fun K hK => ?_))
      go_simp
      refine (same_true a2 _ e2 xa rc _ w2 (Recs.rows hS2 hR2) (hRX.non q2)).mono ?_
      rintro e w3 ⟨rfl, hk3⟩
      have q3 := q2.trans hk3
      have k3 : w3.cell? ⟨x, 2, none⟩ = _ := q3.cell c2 (fun f => f)
      go_simp
      refine hK _ _ (fun _ => k3) ?_
      clear hK K
      repeat (with_reducible refine cb_skip ?_)
      (first | (with_reducible refine cb_step rfl fun K hK => ?_) | (refine cb_ky (by rfl) fun K hK => ?_))
      go_simp
      refine hK _ _ (fun h => by cases h) ?_
      clear hK K
      repeat (with_reducible refine cb_skip ?_)
      (first | (with_reducible refine cb_step rfl fun K hK => ?_) | (refine cb_ky (by rfl) fun K hK => ?_))
      go_simp
      refine hK _ _ (fun h => by cases h) ?_
      clear hK K
      with_reducible refine cb_nil ?_
      refine (And.intro ?_ ?_ : _ ∧ _)
      · exact k3
      refine PB.out ?_
      repeat (first | (with_reducible refine pb_skip ?_) | ((first | (with_reducible refine pb_k rfl ?_) | (refine pb_ky (by rfl) ?_)); intro K hK; apply Exists.intro; refine ⟨fun w' hC => ?_, ?_⟩; (go_simp; rfl); go_simp; refine hK _ ?_; clear hK K))
      with_reducible refine pb_nil ?_
      simp only [List.take_succ_cons, List.take_zero, List.drop_succ_cons, List.drop_zero]
      refine CB.out ?_
      repeat (with_reducible refine cb_skip ?_)
      (first | (with_reducible refine cb_step rfl fun K hK => ?_) | (refine cb_ky (by rfl) fun K hK => ?_))
      go_simp
      refine (jcount_calls (hJ.non q3)).mono ?_
      rintro e w4 ⟨rfl, rfl⟩
      go_simp
      refine hK _ _ (fun _ => k3) ?_
      clear hK K
      repeat (with_reducible refine cb_skip ?_)
      (first | (with_reducible refine cb_step rfl fun K hK => ?_) | (refine cb_ky (by rfl) fun K hK => ?_))
      go_simp
      refine hK _ _ (fun h => by cases h) ?_
      clear hK K
      repeat (with_reducible refine cb_skip ?_)
      (first | (with_reducible refine cb_step rfl fun K hK => ?_) | (refine cb_ky (by rfl) fun K hK => ?_))
      go_simp
      refine hK _ _ (fun h => by cases h) ?_
      clear hK K
      repeat (with_reducible refine cb_skip ?_)
      (first | (with_reducible refine cb_step rfl fun K hK => ?_) | (refine cb_ky (by rfl) fun K hK => ?_))
      go_simp
      refine hK _ _ (fun h => by cases h) ?_
      clear hK K
      with_reducible refine cb_nil ?_
      refine (And.intro ?_ ?_ : _ ∧ _)
      · exact trivial
      refine PB.out ?_
      repeat (first | (with_reducible refine pb_skip ?_) | ((first | (with_reducible refine pb_k rfl ?_) | (refine pb_ky (by rfl) ?_)); intro K hK; apply Exists.intro; refine ⟨fun w' hC => ?_, ?_⟩; (go_simp; rfl); go_simp; refine hK _ ?_; clear hK K))
      with_reducible refine pb_nil ?_
      simp only [List.take_succ_cons, List.take_zero, List.drop_succ_cons, List.drop_zero]
      refine CB.out ?_
      repeat (with_reducible refine cb_skip ?_)
      (first | (with_reducible refine cb_step rfl fun K hK => ?_) | (refine cb_ky (by rfl) fun K hK => ?_))
      go_simp
      refine (jsize_calls (hJ.non q3)).mono ?_
      rintro e w5 ⟨rfl, rfl⟩
      go_simp
      refine hK _ _ (fun _ => trivial) ?_
      clear hK K
      repeat (with_reducible refine cb_skip ?_)
      (first | (with_reducible refine cb_step rfl fun K hK => ?_) | (refine cb_ky (by rfl) fun K hK => ?_))
      go_simp
      refine hK _ _ (fun h => by cases h) ?_
      clear hK K
      repeat (with_reducible refine cb_skip ?_)
      (first | (with_reducible refine cb_step rfl fun K hK => ?_) | (refine cb_ky (by rfl) fun K hK => ?_))
      go_simp
      refine hK _ _ (fun h => by cases h) ?_
      clear hK K
      repeat (with_reducible refine cb_skip ?_)
      (first | (with_reducible refine cb_step rfl fun K hK => ?_) | (refine cb_ky (by rfl) fun K hK => ?_))
      go_simp
      refine hK _ _ (fun h => by cases h) ?_
      clear hK K
      with_reducible refine cb_nil ?_
      refine (And.intro ?_ ?_ : _ ∧ _)
      · exact (q3.cell c3 (fun f => f))
      refine PB.out ?_
      repeat (first | (with_reducible refine pb_skip ?_) | ((first | (with_reducible refine pb_k rfl ?_) | (refine pb_ky (by rfl) ?_)); intro K hK; apply Exists.intro; refine ⟨fun w' hC => ?_, ?_⟩; (go_simp; rfl); go_simp; refine hK _ ?_; clear hK K))
      with_reducible refine pb_nil ?_
      simp only [List.take_succ_cons, List.take_zero, List.drop_succ_cons, List.drop_zero]
      refine CB.out ?_
      repeat (with_reducible refine cb_skip ?_)
      (first | (with_reducible refine cb_step rfl fun K hK => ?_) | (refine cb_ky (by rfl) fun K hK => ?_))
      go_simp
      refine (jdown_calls (hJ.non q3)).mono ?_
      rintro e w6 ⟨rfl, rfl⟩
      go_simp
      refine hK _ _ (fun _ => q3.cell c3 (fun f => f)) ?_
      clear hK K
      repeat (with_reducible refine cb_skip ?_)
      (first | (with_reducible refine cb_step rfl fun K hK => ?_) | (refine cb_ky (by rfl) fun K hK => ?_))
      go_simp
      refine hK _ _ (fun h => by cases h) ?_
      clear hK K
      repeat (with_reducible refine cb_skip ?_)
      (first | (with_reducible refine cb_step rfl fun K hK => ?_) | (refine cb_ky (by rfl) fun K hK => ?_))
      go_simp
      refine hK _ _ (fun h => by cases h) ?_
      clear hK K
      repeat (with_reducible refine cb_skip ?_)
      (first | (with_reducible refine cb_step rfl fun K hK => ?_) | (refine cb_ky (by rfl) fun K hK => ?_))
      go_simp
      refine hK _ _ (fun h => by cases h) ?_
      clear hK K
      with_reducible refine cb_nil ?_
      simp only [Then, wpPieces]
      go_wp2_with fail
      go_ret
      exact ⟨rfl, q3⟩
end Go.Proofs.Ytclbapmjhchokaa
