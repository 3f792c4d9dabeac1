/-
  The law's own write and ran.
-/
import Derived.Test.YtpehfnobgdjgcaaH1
import Derived.Test.YtpehfnobgdjgcaaP1
namespace Go.Proofs.Ytpehfnobgdjgcaa
open Go.RowKit

theorem run_one (W : World) (b : Nat) (hb : b = W.heap.size) (u : UInt8) : (convert 94 9 (.slice (some ⟨b, 0, none⟩) 1 1)).run Try.prog (W.alloc (.cells #[.int .u8 u.toNat] 5)) = .ok (.string ⟨#[u]⟩) (W.alloc (.cells #[.int .u8 u.toNat] 5)) := by
  subst hb
  exact run_string_bytes _ 94 9 5 Try.underlying94 Try.underlying5 Try.underlying9 _ 1 1 [u] ⟨rfl, by omega, by omega, (fun h => by cases h), fun ad j x ha hx => by
    cases ha
    match j, hx with
    | 0, hx => cases hx; exact cell_new rfl 0
    | j + 1, hx => simp at hx⟩
theorem results_cell_deed {fn : Func} {p : Tmp} (h : fn.results = #[.cell p 28]) (tmps : Array Value) (w : World) {x : DeedV} {b : Nat} (ht : tmps.getD p undef = .pointer (some ⟨b, 0, none⟩)) (hc : BxD w b x) :
    (results fn tmps).run Try.prog w = .ok (valDeed x) w := by
  obtain ⟨c0, c1, c2, c3, c4, c5, c6, c7, c8⟩ := hc.cells
  have := Try.sizeOf28
  have ht' : tmps[p]?.getD undef = .pointer (some ⟨b, 0, none⟩) := by simpa using ht
  simp [results, h, ht', go_sem, c0, c1, c2, c3, c4, c5, c6, c7, c8, this, valDeed, Addr.add, Tx.v]
theorem results_cell_ran {fn : Func} {p : Tmp} (h : fn.results = #[.cell p 61]) (tmps : Array Value) (w : World) {x : RanV} {b : Nat} (ht : tmps.getD p undef = .pointer (some ⟨b, 0, none⟩)) (hc : Bx w b 61 (encRan x)) :
    (results fn tmps).run Try.prog w = .ok (valRan x) w := by
  have c0 : w.cell? ⟨b, 0, none⟩ = _ := hc.c rfl
  have c1 : w.cell? ⟨b, 1, none⟩ = _ := hc.c rfl
  have c2 : w.cell? ⟨b, 2, none⟩ = _ := hc.c rfl
  have c3 : w.cell? ⟨b, 3, none⟩ = _ := hc.c rfl
  have c4 : w.cell? ⟨b, 4, none⟩ = _ := hc.c rfl
  have c5 : w.cell? ⟨b, 5, none⟩ = _ := hc.c rfl
  have c6 : w.cell? ⟨b, 6, none⟩ = _ := hc.c rfl
  have c7 : w.cell? ⟨b, 7, none⟩ = _ := hc.c rfl
  have c8 : w.cell? ⟨b, 8, none⟩ = _ := hc.c rfl
  have c9 : w.cell? ⟨b, 9, none⟩ = _ := hc.c rfl
  have := Try.sizeOf61
  have ht' : tmps[p]?.getD undef = .pointer (some ⟨b, 0, none⟩) := by simpa using ht
  simp [results, h, ht', go_sem, c0, c1, c2, c3, c4, c5, c6, c7, c8, c9, this, valRan, Addr.add, Tx.v]
def wtext (u : UInt8) : ByteArray := ⟨#[119, u]⟩
/-- A deed comes out that writes one text. -/
def WriteOut (d : Nat → DeedV) (t : ByteArray) (w : World) (e : Ending) (w' : World) : Prop := ∃ b, w.heap.size ≤ b ∧ b < w'.heap.size ∧ e = .returned (valDeed (d b)) ∧ Texts w' (some ⟨b, 0, none⟩) 1 1 [t] ∧ Kp Non w w'
set_option maxRecDepth 100000 in
set_option maxHeartbeats 1000000 in
theorem awrite_calls (k : Int) (u : UInt8) (hk : k = 1 ∧ u = 49 ∨ k = 2 ∧ u = 50) (b be en : Int) (hb : 0 ≤ b ∧ b ≤ 256) (w : World) : Calls Try.prog 21 #[.int .i64 k, .int .i64 b, .int .i64 be, .int .i64 en] w (WriteOut (fun a => ⟨k, 1, 2, b, b + 1, ⟨some ⟨a, 0, none⟩, 1, 1, [wtext u]⟩, be, en, Tx.nil⟩) (wtext u) w) := by
  have hw : IntKind.i64.wrap (b + 1) = b + 1 := IntWalk.i64_in _ (by omega)
  have hu : 48 + k = (u.toNat : Int) := by rcases hk with ⟨rfl, rfl⟩ | ⟨rfl, rfl⟩ <;> rfl
  have hr := run_one (w.alloc (.cells #[.int .i64 0, .int .i64 0, .int .i64 0, .int .i64 0, .int .i64 0, .slice none 0 0, .int .i64 0, .int .i64 0, .slice none 0 0] 28)) (w.heap.size + 1) (by rw [World.size_alloc]) u
  rw [← hu] at hr
  clear hu
  go_enter Try.func21, Try.ntmps21
  go_wp2_with fail
  have e0 : (⟨#[119]⟩ : ByteArray) ++ ⟨#[u]⟩ = wtext u := by rcases hk with ⟨_, rfl⟩ | ⟨_, rfl⟩ <;> rfl
  rw [e0]
  clear hr e0
  obtain ⟨V, eV, f0, k0⟩ : ∃ V, w.alloc (.cells #[.int .i64 k, .int .i64 1, .int .i64 2, .int .i64 b, .int .i64 (b + 1), .slice (some ⟨w.heap.size + 1 + 1, 0, none⟩) 1 1, .int .i64 be, .int .i64 en, .slice none 0 0] 28) = V ∧ BxD V w.heap.size ⟨k, 1, 2, b, b + 1, ⟨some ⟨w.heap.size + 1 + 1, 0, none⟩, 1, 1, [wtext u]⟩, be, en, Tx.nil⟩ ∧ Kp Non w V := ⟨_, rfl, Bx.new w _ (encDeed ⟨k, 1, 2, b, b + 1, ⟨some ⟨w.heap.size + 1 + 1, 0, none⟩, 1, 1, [wtext u]⟩, be, en, Tx.nil⟩), (Kp.refl Non w).alloc _⟩
  have hz : V.heap.size = w.heap.size + 1 := by rw [← eV, World.size_alloc]
  rw [eV]
  clear eV
  have k2 : Kp Non V ((V.alloc (.cells #[.int .u8 (48 + k)] 5)).alloc (.cells #[.string (wtext u)] 9)) := ((Kp.refl Non V).alloc _).alloc _
  have g2 : ((V.alloc (.cells #[.int .u8 (48 + k)] 5)).alloc (.cells #[.string (wtext u)] 9)).heap[w.heap.size + 1 + 1]? = some (.cells #[.string (wtext u)] 9) := by
    have := heap_alloc_new (V.alloc (.cells #[.int .u8 (48 + k)] 5)) (.cells #[.string (wtext u)] 9)
    rw [World.size_alloc, hz] at this
    exact this
  have f2 := Bx.non f0 k2
  refine ⟨rfl, _, results_cell_deed (b := w.heap.size) rfl _ _ rfl f2, ?_⟩
  exact ⟨w.heap.size + 1 + 1, by omega, heap_lt g2, rfl, Reads.blk encT_len (by omega) [_] g2 rfl (show 1 ≤ maxLen by decide), k0.trans k2⟩
set_option maxRecDepth 100000 in
set_option maxHeartbeats 1000000 in
theorem aran_calls (i : Int) (x : DeedV) (w : World) : Calls Try.prog 22 #[.int .i64 i, valDeed x] w (ValOut (valRan ⟨(0, i), ⟨x.op, x.cl, x.sq, x.fr, x.to, x.da⟩, ⟨true, Tx.nil⟩⟩) w) := by
  show Calls Try.prog 22 #[.int .i64 i, .agg #[.int .i64 x.cl, .int .i64 x.sq, .int .i64 x.op, .int .i64 x.fr, .int .i64 x.to, .slice x.da.a x.da.n x.da.c, .int .i64 x.be, .int .i64 x.en, .slice x.re.a x.re.n x.re.c]] w (ValOut (valRan ⟨(0, i), ⟨x.op, x.cl, x.sq, x.fr, x.to, x.da⟩, ⟨true, Tx.nil⟩⟩) w)
  go_enter Try.func22, Try.ntmps22
  go_wp2_with fail
  obtain ⟨V, eV, k0⟩ : ∃ V, w.alloc (.cells #[.int .i64 x.cl, .int .i64 x.sq, .int .i64 x.op, .int .i64 x.fr, .int .i64 x.to, .slice x.da.a x.da.n x.da.c, .int .i64 x.be, .int .i64 x.en, .slice x.re.a x.re.n x.re.c] 28) = V ∧ Kp Non w V := ⟨_, rfl, (Kp.refl Non w).alloc _⟩
  have hz : V.heap.size = w.heap.size + 1 := by rw [← eV, World.size_alloc]
  rw [eV]
  have f2 : Bx (V.alloc (.cells #[.int .i64 0, .int .i64 i, .int .i64 x.op, .int .i64 x.cl, .int .i64 x.sq, .int .i64 x.fr, .int .i64 x.to, .slice x.da.a x.da.n x.da.c, .bool true, .slice none 0 0] 61)) (w.heap.size + 1) 61 (encRan ⟨(0, i), ⟨x.op, x.cl, x.sq, x.fr, x.to, x.da⟩, ⟨true, Tx.nil⟩⟩) := by
    rw [← hz]
    exact Bx.new V _ (encRan ⟨(0, i), ⟨x.op, x.cl, x.sq, x.fr, x.to, x.da⟩, ⟨true, Tx.nil⟩⟩)
  exact ⟨rfl, _, results_cell_ran rfl _ _ rfl f2, rfl, k0.alloc _⟩
end Go.Proofs.Ytpehfnobgdjgcaa
