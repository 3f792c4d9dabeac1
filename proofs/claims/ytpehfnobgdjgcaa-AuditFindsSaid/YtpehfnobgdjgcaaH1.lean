/-
  The document's example.
-/
import Derived.Test.YtpehfnobgdjgcaaG31
namespace Go.Proofs.Ytpehfnobgdjgcaa
open Go.RowKit

theorem Reads.blk {α : Type} {enc : α → List Value} {k : Nat} (hk : ∀ x, (enc x).length = k) (h0 : 0 < k) {W : World} {b : Nat} {cur : Array Value} {e : TypeId} (l : List α) (hg : W.heap[b]? = some (.cells cur e)) (hc : cur.toList = l.flatMap enc) (hm : l.length ≤ maxLen) : Reads enc k W (some ⟨b, 0, none⟩) l.length l.length l := by
  have hs : cur.size = l.length * k := by rw [← Array.length_toList, hc, flat_len enc k hk]
  refine OwnR.reads (base := 0) (e := e) (OwnR.mk (Nat.zero_le _) hg (Nat.le_refl _) hm hs ?_ (flat_len enc k hk l)) hk h0
  rw [List.take_of_length_le (by rw [Array.length_toList, hs]; exact Nat.le_refl _), hc]
theorem calls_chain7 {w : World} {o0 o1 o2 o3 o4 o5 o6 : Obj} {f : FuncId} {vs : Array Value} {Q : Ending → World → Prop}
    (h : ∀ V, V.heap[w.heap.size]? = some o0 → V.heap[w.heap.size + 1]? = some o1 → V.heap[w.heap.size + 1 + 1]? = some o2 → V.heap[w.heap.size + 1 + 1 + 1]? = some o3 → V.heap[w.heap.size + 1 + 1 + 1 + 1]? = some o4 → V.heap[w.heap.size + 1 + 1 + 1 + 1 + 1]? = some o5 → V.heap[w.heap.size + 1 + 1 + 1 + 1 + 1 + 1]? = some o6 → Kp Non w V → Calls Try.prog f vs V Q) :
    Calls Try.prog f vs (((((((w.alloc o0).alloc o1).alloc o2).alloc o3).alloc o4).alloc o5).alloc o6) Q := by
  have st : ∀ (W : World) (o : Obj) {i : Nat} {x : Obj}, W.heap[i]? = some x → (W.alloc o).heap[i]? = some x := fun W o i x hx => ((Kp.refl Non W).alloc o).heap hx fun f => f
  have nw : ∀ (W : World) (o : Obj) {i : Nat}, i = W.heap.size → (W.alloc o).heap[i]? = some o := fun W o i hi => by rw [hi]; exact heap_alloc_new W o
  have z : ∀ (W : World) (o : Obj), (W.alloc o).heap.size = W.heap.size + 1 := fun W o => World.size_alloc W o
  refine h _ ?_ ?_ ?_ ?_ ?_ ?_ ?_ (((((((Kp.refl Non w).alloc _).alloc _).alloc _).alloc _).alloc _).alloc _ |>.alloc _)
  · exact st _ _ (st _ _ (st _ _ (st _ _ (st _ _ (st _ _ (nw _ _ rfl))))))
  · exact st _ _ (st _ _ (st _ _ (st _ _ (st _ _ (nw _ _ (by rw [z]))))))
  · exact st _ _ (st _ _ (st _ _ (st _ _ (nw _ _ (by rw [z, z])))))
  · exact st _ _ (st _ _ (st _ _ (nw _ _ (by rw [z, z, z]))))
  · exact st _ _ (st _ _ (nw _ _ (by rw [z, z, z, z])))
  · exact st _ _ (nw _ _ (by rw [z, z, z, z, z]))
  · exact nw _ _ (by rw [z, z, z, z, z, z])
def tA : ByteArray := ⟨#[97]⟩
def liveD1 (s : Nat) : DeedV := ⟨0, 1, 2, 0, 1, ⟨some ⟨s + 1 + 1 + 1 + 1, 0, none⟩, 1, 1, [⟨#[97]⟩]⟩, 1, 2, Tx.nil⟩
def liveD2 (b : Nat) (t : ByteArray) : DeedV := ⟨0, 2, 1, 0, 1, Tx.nil, 3, 4, ⟨some ⟨b, 0, none⟩, 1, 1, [t]⟩⟩
def liveR (s : Nat) : RanV := ⟨(0, 1), ⟨2, 0, 1, 0, 1, ⟨some ⟨s, 0, none⟩, 1, 1, [⟨#[97]⟩]⟩⟩, ⟨true, Tx.nil⟩⟩
def liveL (s : Nat) : LifeV := ⟨0, 1, ⟨some ⟨s + 1 + 1, 0, none⟩, 1, 1, [liveR s]⟩⟩
theorem not_one {b o c : Nat} (h : b ≠ c) : ∀ i, Blk (some ⟨b, o, none⟩) i → ¬ One c i := by
  rintro i ⟨ad, e, rfl⟩ h'
  cases e
  exact h h'
/-- Lives stay where what differs is in none of their rows. -/
theorem Lives.far {w w' : World} {S : Nat → Prop} {a : Option Addr} {n c : Nat} {l : List LifeV} (h : Lives w a n c l) (k : Kp S w w') (ha : ∀ i, Blk a i → ¬ S i) (hl : ∀ y ∈ l, (∀ i, Blk y.log.a i → ¬ S i) ∧ ∀ x ∈ y.log.l, (∀ i, Blk x.cmd.da.a i → ¬ S i) ∧ ∀ i, Blk x.rep.da.a i → ¬ S i) : Lives w' a n c l :=
  ⟨h.reads.kp k ha, fun y hy => ⟨(h.each y hy).reads.kp k (hl y hy).1, fun x hx => ⟨Reads.kp ((h.each y hy).each x hx).1 k ((hl y hy).2 x hx).1, Reads.kp ((h.each y hy).each x hx).2 k ((hl y hy).2 x hx).2⟩⟩⟩
theorem live_one (s b : Nat) : checkB 2 [liveD1 s, liveD2 b ⟨#[]⟩] [liveL s] = (0, false) := by kernel_rfl
theorem live_two (s b : Nat) : checkB 2 [liveD1 s, liveD2 b ⟨#[97]⟩] [liveL s] = (0, true) := by kernel_rfl
set_option maxRecDepth 100000 in
set_option maxHeartbeats 1000000 in
theorem alives_calls (w : World) : Calls Try.prog 11 #[] w (BoolOut true w) := by
  go_enter Try.func11, Try.ntmps11
  go_wp2_with fail
  refine calls_chain7 fun V f0 f1 f2 f3 f4 f5 f6 kV => ?_
  have T0 : Texts V (some ⟨w.heap.size, 0, none⟩) 1 1 [⟨#[97]⟩] := Reads.blk encT_len (by omega) [_] f0 rfl (by decide)
  have T4 : Texts V (some ⟨w.heap.size + 1 + 1 + 1 + 1, 0, none⟩) 1 1 [⟨#[97]⟩] := Reads.blk encT_len (by omega) [_] f4 rfl (by decide)
  have T5 : Texts V (some ⟨w.heap.size + 1 + 1 + 1 + 1 + 1, 0, none⟩) 1 1 [⟨#[]⟩] := Reads.blk encT_len (by omega) [_] f5 rfl (by decide)
  have HL : Hid (Lives V (some ⟨w.heap.size + 1 + 1 + 1, 0, none⟩) 1 1 [liveL w.heap.size]) := Lib.hid ⟨Reads.blk encLife_len (by omega) [_] f3 rfl (show 1 ≤ maxLen by decide), fun x hx => by
    obtain rfl := List.mem_singleton.1 hx
    exact ⟨Reads.blk encRan_len (by omega) [_] f2 rfl (show 1 ≤ maxLen by decide), fun x hx => by
      obtain rfl := List.mem_singleton.1 hx
      exact ⟨T0, Tx.nil_there _⟩⟩⟩
  have HD : Hid (Deeds V (some ⟨w.heap.size + 1 + 1 + 1 + 1 + 1 + 1, 0, none⟩) 2 2 [liveD1 w.heap.size, liveD2 (w.heap.size + 1 + 1 + 1 + 1 + 1) ⟨#[]⟩]) := Lib.hid ⟨Reads.blk encDeed_len (by omega) [_, _] f6 rfl (show 2 ≤ maxLen by decide), fun x hx => by
    rcases List.mem_cons.1 hx with rfl | hx
    · exact ⟨T4, Tx.nil_there _⟩
    · obtain rfl := List.mem_singleton.1 hx
      exact ⟨Tx.nil_there _, T5⟩⟩
  have HB : Hid (Bx V (w.heap.size + 1 + 1 + 1 + 1 + 1 + 1) 28 ([liveD1 w.heap.size, liveD2 (w.heap.size + 1 + 1 + 1 + 1 + 1) ⟨#[]⟩].flatMap encDeed)) := Lib.hid f6
  have HT4 := Lib.hid T4
  have HC := Lib.hid (check_calls 2 (some ⟨w.heap.size + 1 + 1 + 1 + 1 + 1 + 1, 0, none⟩) 2 [liveD1 w.heap.size, liveD2 (w.heap.size + 1 + 1 + 1 + 1 + 1) ⟨#[]⟩] (some ⟨w.heap.size + 1 + 1 + 1, 0, none⟩) 1 [liveL w.heap.size] V HD.out HL.out (show 2 ≤ 20 by decide) (show 1 ≤ 12 by decide) (fun y hy => by obtain rfl := List.mem_singleton.1 hy; exact (show 1 ≤ 1000 by decide)))
  rw [live_one] at HC
  clear f0 f1 f2 f3 f4 f5 f6 T0 T4 T5
  refine HC.out.mono ?_
  rintro e w3 ⟨rfl, hk3⟩
  have hb3 := Bx.non HB.out hk3
  have HL3 := Lib.hid (HL.out.non hk3)
  have HT3 := Lib.hid (HT4.out.non hk3)
  have kw3 := kV.trans hk3
  have hfz : ∀ (o : Obj), (w3.alloc o).frozen? ⟨w.heap.size + 1 + 1 + 1 + 1 + 1 + 1, 17, none⟩ = false := fun o => Bx.f (Bx.non hb3 ((Kp.refl Non w3).alloc o)) 17
  have hlt3 : w.heap.size + 1 + 1 + 1 + 1 + 1 + 1 < w3.heap.size := hb3.lt
  have hc17 : w3.cell? ⟨w.heap.size + 1 + 1 + 1 + 1 + 1 + 1, 17, none⟩ = some (.slice (some ⟨w.heap.size + 1 + 1 + 1 + 1 + 1, 0, none⟩) 1 1) := hb3.c rfl
  obtain ⟨hb4, hk4⟩ := hb3.set 17 (.slice (some ⟨w3.heap.size, 0, none⟩) 1 1)
  have HB3 := Lib.hid hb3
  have HB4 := Lib.hid hb4
  have HK4 := Lib.hid hk4
  have HK3 := Lib.hid kw3
  have HZ : Hid (w.heap.size + 1 + 1 + 1 + 1 + 1 + 1 < w3.heap.size) := Lib.hid hlt3
  clear HC HL HT4 HB HD hk3 kV hb3 hb4 hk4 kw3
  go_wp2_with fail
  clear hc17 hfz
  obtain ⟨W4, hW4⟩ : ∃ W, w3.setCell ⟨w.heap.size + 1 + 1 + 1 + 1 + 1 + 1, 17, none⟩ (.slice (some ⟨w3.heap.size, 0, none⟩) 1 1) = W := ⟨_, rfl⟩
  have hz4 : W4.heap.size = w3.heap.size := by rw [← hW4]; exact World.size_setCell _ _ _
  rw [hW4] at HB4 HK4 ⊢
  obtain ⟨W5, h5⟩ : ∃ W, W4.alloc (.cells #[.string ⟨#[97]⟩] 9) = W := ⟨_, rfl⟩
  have k45 : Kp Non W4 W5 := h5 ▸ (Kp.refl Non W4).alloc _
  have g5 : W5.heap[w3.heap.size]? = some (.cells #[.string ⟨#[97]⟩] 9) := by rw [← h5, ← hz4]; exact heap_alloc_new W4 _
  rw [h5]
  have HB5 := Bx.non HB4.out k45
  have k35 : Kp (One (w.heap.size + 1 + 1 + 1 + 1 + 1 + 1)) w3 W5 := HK4.out.trans k45.non
  have T5 : Texts W5 (some ⟨w3.heap.size, 0, none⟩) 1 1 [⟨#[97]⟩] := Reads.blk encT_len (by omega) [_] g5 rfl (by decide)
  have kw5 : Kp Non w W5 := HK3.out.newer k35 fun i hi => by have : i = _ := hi; omega
  have HL5 : Lives W5 (some ⟨w.heap.size + 1 + 1 + 1, 0, none⟩) 1 1 [liveL w.heap.size] := HL3.out.far k35 (not_one (by omega)) fun y hy => by
    obtain rfl := List.mem_singleton.1 hy
    refine ⟨?_, fun x hx => ?_⟩
    · exact not_one (by omega)
    · obtain rfl := List.mem_singleton.1 hx
      refine ⟨?_, ?_⟩
      · exact not_one (by omega)
      · intro i hi; obtain ⟨ad, e, rfl⟩ := hi; cases e
  have HD5 : Deeds W5 (some ⟨w.heap.size + 1 + 1 + 1 + 1 + 1 + 1, 0, none⟩) 2 2 [liveD1 w.heap.size, liveD2 w3.heap.size ⟨#[97]⟩] := ⟨Reads.blk encDeed_len (by omega) [_, _] HB5 rfl (show 2 ≤ maxLen by decide), fun x hx => by
    rcases List.mem_cons.1 hx with rfl | hx
    · exact ⟨HT3.out.kp k35 (not_one (by omega)), Tx.nil_there _⟩
    · obtain rfl := List.mem_singleton.1 hx
      exact ⟨Tx.nil_there _, T5⟩⟩
  have HC := Lib.hid (check_calls 2 (some ⟨w.heap.size + 1 + 1 + 1 + 1 + 1 + 1, 0, none⟩) 2 [liveD1 w.heap.size, liveD2 w3.heap.size ⟨#[97]⟩] (some ⟨w.heap.size + 1 + 1 + 1, 0, none⟩) 1 [liveL w.heap.size] W5 HD5 HL5 (show 2 ≤ 20 by decide) (show 1 ≤ 12 by decide) (fun y hy => by obtain rfl := List.mem_singleton.1 hy; exact (show 1 ≤ 1000 by decide)))
  rw [live_two] at HC
  clear HL3 HT3 HB3 HB4 HK4 HK3 HB5 T5 HL5 HD5 g5 k45 k35 hlt3 h5 hz4 hW4
  refine HC.out.mono ?_
  rintro e w6 ⟨rfl, hk6⟩
  have hk6 := kw5.trans hk6
  clear HC
  go_wp2_with fail
  go_ret
  exact ⟨rfl, hk6⟩
end Go.Proofs.Ytpehfnobgdjgcaa
