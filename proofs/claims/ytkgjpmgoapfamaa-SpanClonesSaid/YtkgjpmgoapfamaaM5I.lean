/-
  (*Map).Len. (Printed by gen_map.py.)
-/
import Derived.Test.YtkgjpmgoapfamaaM4I
namespace Go.Proofs.Ytkgjpmgoapfamaa
open Go.RowKit Go.Shelf
attribute [local go_sem] Oper.semAt_some

def LenOutI (k : Nat) (w : World) (e : Ending) (w' : World) : Prop := e = .returned (.int .i64 k) ∧ Kp Non w w'

set_option maxRecDepth 100000 in
set_option maxHeartbeats 1000000 in
theorem lenI_any (q : Option Addr) (M : List (Sp × Int)) (w : World) (hl : M.length ≤ 1000000000000) (Spp : List (Sp × Int) → Prop) (Kq : World → World → Prop) (hKt : ∀ {A B C : World}, Kq A B → Kq B C → Kq A C)
    (hKb : ∀ (W : World) (l : Nat) (o o' : Obj), w.heap.size + 2 ≤ l → W.heap[l]? = some o → o.isCells = false → o.isWalk = false → Kq W (W.putObj l o')) (hKs : ∀ (W : World) (v : Value), Below w.heap.size w W → Kq W (W.setCell ⟨w.heap.size, 0, none⟩ v))
    (hS : SeqStopsK Fence.wide 2 Try.prog 60 #[.pointer (some ⟨w.heap.size + 1, 0, none⟩)] encsI Kq (fun ys => ys = M) Spp M.length ((w.alloc (.cells #[.int .i64 0] 3)).alloc (.cells #[.pointer q] 61))) :
    Calls Try.prog 36 #[.pointer q] w (LenOutI M.length w) := by
  refine (callsIn_wide (n := 3)).1 ?_
  have h1 : 1 ≤ 3 := by omega
  refine callsIn_of_wp_marks Try.func36 rfl trivial ?_ rfl
  simp only [Try.ntmps36, List.size_toArray, List.length_cons, List.length_nil, Nat.reduceAdd, Nat.reduceSub, Array.replicate_succ, Array.replicate_zero, List.push_toArray, List.append_toArray, List.nil_append, List.cons_append]
  gi_wp2_with (refine ⟨trivial, ?_⟩; gi_at_call 35; refine (callsIn_wide.2 (eachI_calls _ _)).mono ?_; rintro e w' ⟨rfl, rfl⟩)
  have bS := Boxed.new w 3 (.int .i64 0)
  have hB0 : Below w.heap.size w ((w.alloc (.cells #[.int .i64 0] 3)).alloc (.cells #[.pointer q] 61)) := ((Below.refl _ w).alloc (Nat.le_refl _) _).alloc (by simp) _
  refine wpIn_rangeFunc_ownG rfl h1 (gf := 60) (lb := #[.pointer (some ⟨w.heap.size + 1, 0, none⟩)]) rfl trivial (enters_of Try.func60 (by kernel_rfl) rfl)
    hS hKt (fun W l o o' hl => hKb W l o o' (by simp at hl; omega)) (Below.refl _ _) (fun _ => rfl)
    (fun pre W => (W.cell? ⟨w.heap.size, 0, none⟩ = some (.int .i64 pre.length) ∧ W.frozen? ⟨w.heap.size, 0, none⟩ = false) ∧ Below w.heap.size w W)
    (fun _ _ _ => False)
    (OwnFrom.and (Own.from (fun s A B row hs hg hr => ⟨cell_kept hs.1 hg hr, (frozen_kept hs.1 hg hr).trans hs.2⟩) _) (ownFrom_below (Nat.le_refl _) (by simp; omega)))
    (fun _ _ _ _ _ hs _ _ => hs)
    ⟨⟨(bS.alloc _).cell, (bS.alloc _).frozen⟩, hB0⟩
    (fun x => { tmps := #[.pointer q, undef, .int .i64 0, .pointer (some ⟨w.heap.size, 0, none⟩), .pointer q, .func (.func 60) #[] #[.pointer (some ⟨w.heap.size + 1, 0, none⟩)], valS x.1, .int .i64 x.2, undef, undef, undef], defers := [] }) ?assign ?body ?done ?stop
  case assign =>
    intro l x W K hK
    simp [encsI]
    gi_wp2
    exact hK
  case body =>
    rintro l pre x W ⟨⟨hc, hf⟩, hB⟩ hlt
    have e1 : IntKind.i64.wrap ((pre.length : Int) + 1) = ((pre.length + 1 : Nat) : Int) := by rw [IntKind.wrap_i64] <;> omega
    gi_wp2
    refine ⟨(KeepsOthers.setCell _ _ _).from _, hKs _ _ hB, ⟨?_, by rw [World.frozen?_setCell]; exact hf⟩, hB.setCell (p := ⟨w.heap.size, 0, none⟩) (Nat.le_refl _) _⟩
    refine (World.cell?_setCell_same' _ _ _ (by rw [hc]; rfl)).trans ?_
    simp
  case done =>
    rintro D ys W hD rfl ⟨⟨hc, _⟩, hB⟩ hK
    gi_wp2
    refine ⟨by simp, .inl ⟨_, _, rfl, run_takeDeferred hK, ?_⟩⟩
    exact ⟨_, results_tmp rfl _ _ _, rfl, Kp.of_below (hB.trans (belowK_b (w := w) (Nat.le_refl _) W D _ _ (by simp at hD; omega) hK rfl rfl))⟩
  case stop =>
    rintro D c pre W _ _ h _
    exact h.elim

theorem lenI_calls (m : Nat) (M : List (Sp × Int)) (al : Option Addr) (cl : Nat) (av : Option Addr) (cv : Nat) (w : World) (hM : MapI w m M al cl av cv) (hl : M.length ≤ 1000000000000) :
    Calls Try.prog 36 #[.pointer (some ⟨m, 0, none⟩)] w (LenOutI M.length w) := by
  have hm := hM.lt
  have hk : Kp Non w ((w.alloc (.cells #[.int .i64 0] 3)).alloc (.cells #[.pointer (some ⟨m, 0, none⟩)] 61)) := ((Kp.refl _ w).alloc _).alloc _
  have bP := Boxed.new (w.alloc (.cells #[.int .i64 0] 3)) 61 (.pointer (some ⟨m, 0, none⟩))
  rw [World.size_alloc] at bP
  refine lenI_any _ M w hl _ (KG (w.heap.size + 1) m) (fun h k => h.trans k) (fun W l o o' h1 h2 h3 h4 => KG.putObj (w := w) hm W l o o' (by omega) h2 h3 h4) (fun W v hB => ?_)
    (eachItI_stops 2 (by omega) (w.heap.size + 1) _ m M al cl av cv _ (by simp) bP.cell (hM.non hk) hl)
  exact KG.of_kp (S := fun i => i = w.heap.size) ((Kp.refl (fun i => i = w.heap.size) W).setCell (p := ⟨w.heap.size, 0, none⟩) (.inl rfl) v) (Nat.lt_of_lt_of_le hm hB.size) (fun i e => by subst e; omega)

theorem lenI_nil (w : World) : Calls Try.prog 36 #[.pointer none] w (LenOutI 0 w) := by
  have bP := Boxed.new (w.alloc (.cells #[.int .i64 0] 3)) 61 (.pointer none)
  rw [World.size_alloc] at bP
  exact lenI_any _ [] w (by simp) _ (fun _ _ => True) (fun _ _ => trivial) (fun _ _ _ _ _ _ _ _ => trivial) (fun _ _ _ => trivial) (eachItI_nothing 2 (by omega) _ _ _ bP.cell)
end Go.Proofs.Ytkgjpmgoapfamaa
