/-
  The document's Map: Do.
-/
import Derived.Test.YtkgjpmgoapfamaaE12
import Derived.Test.YtkgjpmgoapfamaaA5
namespace Go.Proofs.Ytkgjpmgoapfamaa
open Go.RowKit

/-- The block b is the document's Map to which ops was done. -/
structure RMap (w : World) (b : Nat) (ops : List Done) (al : Option Addr) (cl : Nat) (av : Option Addr) (cv : Nat) (ao : Option Addr) (co : Nat) : Prop where
  box : w.heap[b]? = some (.cells #[.slice al ops.length cl, .slice av ops.length cv, .slice ao ops.length co] 45 (0, 0))
  spans : OwnS w 0 al ops.length cl (ops.map (·.1))
  vals : OwnI w 0 av ops.length cv (ops.map (·.2.1))
  ons : OwnB' w 0 ao ops.length co (ops.map (·.2.2))
/-- The blocks that its calls may change. -/
def RS (b : Nat) (al av ao : Option Addr) (i : Nat) : Prop := i = b ∨ Blk al i ∨ Blk av i ∨ Blk ao i
section
variable {w w' : World} {b : Nat} {ops : List Done} {al : Option Addr} {cl : Nat} {av : Option Addr} {cv : Nat} {ao : Option Addr} {co : Nat}
theorem RMap.c0 (h : RMap w b ops al cl av cv ao co) : w.cell? ⟨b, 0, none⟩ = some (.slice al ops.length cl) := (cell_of_row w b 0 _ _ _ h.box).trans rfl
theorem RMap.c1 (h : RMap w b ops al cl av cv ao co) : w.cell? ⟨b, 1, none⟩ = some (.slice av ops.length cv) := (cell_of_row w b 1 _ _ _ h.box).trans rfl
theorem RMap.c2 (h : RMap w b ops al cl av cv ao co) : w.cell? ⟨b, 2, none⟩ = some (.slice ao ops.length co) := (cell_of_row w b 2 _ _ _ h.box).trans rfl
theorem RMap.lt (h : RMap w b ops al cl av cv ao co) : b < w.heap.size := heap_lt h.box
theorem RMap.old (h : RMap w b ops al cl av cv ao co) : ∀ i, RS b al av ao i → i < w.heap.size := by
  rintro i (rfl | hi | hi | hi)
  · exact h.lt
  · exact (h.spans.blk i hi).2
  · exact (h.vals.blk i hi).2
  · exact (h.ons.blk i hi).2
theorem RMap.kp {S : Nat → Prop} (h : RMap w b ops al cl av cv ao co) (k : Kp S w w') (hn : ∀ i, RS b al av ao i → ¬ S i) : RMap w' b ops al cl av cv ao co :=
  ⟨k.heap h.box (hn b (.inl rfl)), h.spans.kp k (fun i hi => hn i (.inr (.inl hi))), h.vals.kp k (fun i hi => hn i (.inr (.inr (.inl hi)))), h.ons.kp k (fun i hi => hn i (.inr (.inr (.inr hi))))⟩
theorem RMap.non (h : RMap w b ops al cl av cv ao co) (k : Kp Non w w') : RMap w' b ops al cl av cv ao co := h.kp k fun _ _ f => f
end
/-- A row and a block of another type. -/
theorem row_apart {α : Type} {enc : α → List Value} {k : Nat} {w : World} {base : Nat} {e e' : TypeId} {a : Option Addr} {n c : Nat} {l : List α} {b : Nat} {cs : Array Value} {fr : Nat × Nat} (hO : OwnR enc k w base e a n c l) (hb : w.heap[b]? = some (.cells cs e' fr)) (hne : e ≠ e') : ¬ Blk a b := fun q => by
  obtain ⟨cs', h⟩ := hO.tag b q
  rw [hb] at h
  simp at h
  exact hne h.2.1.symm
theorem rows_apart {α β : Type} {enc : α → List Value} {k : Nat} {enc' : β → List Value} {k' : Nat} {w : World} {base base' : Nat} {e e' : TypeId} {a a' : Option Addr} {n c n' c' : Nat} {l : List α} {l' : List β} (hO : OwnR enc k w base e a n c l) (hO' : OwnR enc' k' w base' e' a' n' c' l') (hne : e ≠ e') : ∀ i, Blk a i → ¬ Blk a' i := fun i q q' => by
  obtain ⟨cs, h⟩ := hO'.tag i q'
  exact row_apart hO h hne q
/-- What a call that writes leaves. -/
def RMapOut (b : Nat) (ops : List Done) (al av ao : Option Addr) (w : World) (e : Ending) (w' : World) : Prop :=
  e = .returned (.tuple #[]) ∧ ∃ al' cl' av' cv' ao' co', RMap w' b ops al' cl' av' cv' ao' co' ∧ Kp (RS b al av ao) w w' ∧ ∀ i, RS b al' av' ao' i → RS b al av ao i ∨ w.heap.size ≤ i

theorem grow_field {w7 w8 : World} {b i : Nat} {cs : Array Value} {ax : Option Addr} {e : TypeId} (box7 : w7.heap[b]? = some (.cells cs e (0, 0))) (hk8 : Kp (Blk ax) w7 w8) (hnb : ¬ Blk ax b) (v : Value) :
    w8.heap[b]? = some (.cells cs e (0, 0)) ∧ w8.frozen? ⟨b, i, none⟩ = false ∧ (w8.setCell ⟨b, i, none⟩ v).heap[b]? = some (.cells (cs.setIfInBounds i v) e (0, 0)) ∧ Kp (fun k => k = b ∨ Blk ax k) w7 (w8.setCell ⟨b, i, none⟩ v) := by
  have h1 := hk8.heap box7 hnb
  refine ⟨h1, by simp [World.frozen?, h1], heap_setCell_same w8 b i _ _ v h1, ?_⟩
  exact hk8.comp (Kp.setCell (S := One b) (Kp.refl _ _) (p := ⟨b, i, none⟩) (.inl rfl) v) (fun _ _ q => .inr q) (fun _ _ q => .inl q)

set_option maxRecDepth 100000 in
set_option maxHeartbeats 1000000 in
theorem rDo_calls (b : Nat) (ops : List Done) (al : Option Addr) (cl : Nat) (av : Option Addr) (cv : Nat) (ao : Option Addr) (co : Nat) (s : Sp) (v : Int) (on : Bool) (w : World) (hM : RMap w b ops al cl av cv ao co) (hl : ops.length ≤ 1000000) :
    Calls Try.prog 31 #[.pointer (some ⟨b, 0, none⟩), valS s, .int .i64 v, .bool on] w (RMapOut b (if s.1 < s.2 then ops ++ [(s, v, on)] else ops) al av ao w) := by
  obtain ⟨i0, hi0, hz0, hz1, hz2⟩ := info_parts infoS
  obtain ⟨j0, hj0, hy0, hy1, hy2⟩ := info_parts infoI
  obtain ⟨l0, hl0, hx0, hx1, hx2⟩ := info_parts infoB
  have hkb : Kp Non w (w.alloc (.cells #[.int .i64 s.1, .int .i64 s.2] 30)) := (Kp.refl _ _).alloc _
  have hbx := BoxS.new w s
  have hM1 := hM.non hkb
  have hol := hM.old
  by_cases hs : s.1 < s.2
  · rw [if_pos hs]
    have x0 := hM1.c0
    go_enter Try.func31, Try.ntmps31
    go_wp2_with fail
    have hnb : ¬ Blk al b := row_apart hM1.spans hM1.box (by decide)
    have hnx : ¬ Blk al w.heap.size := fun q => by have := hol _ (.inr (.inl q)); omega
    have y0 := hbx.c0
    have y1 := hbx.c1
    refine wp_region_chain [0,0,0,0,0,0,1,1,0,0,2] (by kernel_rfl) (by kernel_rfl) (fun w' => w'.cell? ⟨b, 0, none⟩ = some (.slice al ops.length cl) ∧ w'.cell? ⟨w.heap.size, 0, none⟩ = some (.int .i64 s.1) ∧ w'.cell? ⟨w.heap.size, 1, none⟩ = some (.int .i64 s.2)) ⟨x0, y0, y1⟩ ?_
    repeat (first | (with_reducible refine pure_skip ?_) | ((with_reducible refine pure_k rfl ?_); intro K hK; apply Exists.intro; refine ⟨fun w' hC => ?_, ?_⟩; (obtain ⟨g1, g2, g3⟩ := hC; go_simp; rfl); go_simp; refine hK _ ?_; clear hK K))
    with_reducible refine pure_nil ?_
    repeat (with_reducible refine chain_skip0 ?_)
    with_reducible refine chain_step rfl fun K hK => ?_
    go_simp
    have hkT : Kp Non (w.alloc (.cells #[.int .i64 s.1, .int .i64 s.2] 30)) ((w.alloc (.cells #[.int .i64 s.1, .int .i64 s.2] 30)).alloc (.cells #[.int .i64 s.1, .int .i64 s.2] 30)).drew := (((Kp.refl _ _).alloc _).drew)
    refine hK _ _ (fun _ => ⟨hkT.cell x0 (fun f => f), hkT.cell y0 (fun f => f), hkT.cell y1 (fun f => f)⟩) ?_
    clear hK K
    repeat (with_reducible refine chain_skip0 ?_)
    with_reducible refine chain_step rfl fun K hK => ?_
    refine wp_append_row _ _ 22 rfl 0 30 i0 _ 16 Try.underlying22 hi0 hz0 hz1 hz2 rfl (by decide) encS_len encS_one al ops.length cl (ops.map (·.1)) rfl (hM1.spans.non hkT) _ 1 1 [s] rfl ((Reads.new (w := w.alloc (.cells #[.int .i64 s.1, .int .i64 s.2] 30)) (cur := #[.int .i64 s.1, .int .i64 s.2]) (e := 30) (fr := (0, 0)) (x := s) (b := w.heap.size + 1) (by simp) rfl).non ((Kp.refl _ _).drew)) (by omega) (by omega) (Nat.zero_le _) ?_
    intro a6 c6 w6 hO6 hk6 hb6
    have q0 := hk6.cell (hkT.cell x0 (fun f => f)) hnb
    have box6 := hk6.heap (hkT.heap hM1.box (fun f => f)) hnb
    have f6 : w6.frozen? ⟨b, 0, none⟩ = false := by simp [World.frozen?, box6]
    refine hK _ _ (fun _ => ⟨q0, hk6.cell (hkT.cell y0 (fun f => f)) hnx, hk6.cell (hkT.cell y1 (fun f => f)) hnx⟩) ?_
    clear hK K
    repeat (with_reducible refine chain_skip0 ?_)
    with_reducible refine chain_step rfl fun K hK => ?_
    go_simp
    refine hK _ _ (fun h => by cases h) ?_
    clear hK K
    with_reducible refine chain_nil ?_
    have hkA : Kp (RS b al av ao) w w6 := (hkb.trans hkT).comp hk6 (fun _ _ f => f.elim) (fun i _ q => .inr (.inl q))
    have hbA : ∀ i, Blk a6 i → RS b al av ao i ∨ w.heap.size ≤ i := fun i q => by
      rcases hb6 with rfl | rfl
      · exact .inl (.inr (.inl q))
      · obtain ⟨ad, z1, rfl⟩ := q
        cases z1
        exact .inr (hkb.trans hkT).size
    have hV6 := (hM1.vals.non hkT).kp hk6 (fun i q q' => rows_apart (hM1.spans.non hkT) (hM1.vals.non hkT) (by decide) i q' q)
    have hB6 := (hM1.ons.non hkT).kp hk6 (fun i q q' => rows_apart (hM1.spans.non hkT) (hM1.ons.non hkT) (by decide) i q' q)
    have box7 := heap_setCell_same w6 b 0 _ _ (.slice a6 (ops.length + 1) c6) box6
    have hks : Kp (One b) w6 (w6.setCell ⟨b, 0, none⟩ (.slice a6 (ops.length + 1) c6)) := Kp.setCell (S := One b) (Kp.refl _ _) (p := ⟨b, 0, none⟩) (.inl rfl) _
    have hap := fun i (q : Blk a6 i) (q' : One b i) => row_apart hO6 box6 (by decide) (show Blk a6 b from by rw [← show i = b from q']; exact q)
    have hS7 := hO6.kp hks hap
    have hV7 := hV6.kp hks (fun i q (q' : i = b) => row_apart hV6 box6 (by decide) (by rw [← q']; exact q))
    have hB7 := hB6.kp hks (fun i q (q' : i = b) => row_apart hB6 box6 (by decide) (by rw [← q']; exact q))
    have hkC : Kp (RS b al av ao) w (w6.setCell ⟨b, 0, none⟩ (.slice a6 (ops.length + 1) c6)) := hkA.comp hks (fun _ _ q => q) (fun i _ q => .inl q)
    clear q0 box6 f6 hks hap hV6 hB6 hO6 hk6 hb6 hkA hkT x0 y0 y1 hnb hnx hM1 hbx hkb
    generalize w6.setCell ⟨b, 0, none⟩ (.slice a6 (ops.length + 1) c6) = w7 at *
    simp [Array.setIfInBounds] at box7
    have hnb7 : ¬ Blk av b := row_apart hV7 box7 (by decide)
    have hnb8 : ¬ Blk ao b := row_apart hB7 box7 (by decide)
    have x1 : w7.cell? ⟨b, 1, none⟩ = some (.slice av ops.length cv) := (cell_of_row w7 b 1 _ _ _ box7).trans rfl
    have hkT : Kp Non w7 (w7.alloc (.cells #[.int .i64 v] 3)) := (Kp.refl _ _).alloc _
    have HS7 := Lib.hid hS7
    have HV7 := Lib.hid hV7
    have HB7 := Lib.hid hB7
    have hvo := rows_apart hB7 hV7 (by decide)
    have hvs := rows_apart hS7 hV7 (by decide)
    have hbo := rows_apart hB7 hS7 (by decide)
    have hov := rows_apart hV7 hB7 (by decide)
    have hso := rows_apart hS7 hB7 (by decide)
    clear hS7 hV7 hB7
    go_wp2_with (first | (at_builtin; refine wpList_append_row rfl _ _ 37 rfl 0 3 j0 _ 8 Try.underlying37 hj0 hy0 hy1 hy2 rfl (by decide) encI_len encI_one av ops.length cv (ops.map (·.2.1)) rfl (HV7.out.non hkT) _ 1 1 [v] rfl (Reads.new rfl rfl) (by omega) (by omega) (Nat.zero_le _) ?_; intro a8 c8 w8 hO8 hk8 hb8; obtain ⟨u1, u2, u3, u4⟩ := grow_field (i := 1) box7 (hkT.comp hk8 (fun _ _ f => f.elim) (fun _ _ q => q)) hnb7 (.slice a8 (ops.length + 1) c8); simp [Array.setIfInBounds] at u3; have x2 := (cell_of_row _ b 2 _ _ _ u3).trans rfl; have x3 : w8.cell? ⟨b, 2, none⟩ = some (.slice ao ops.length co) := (cell_of_row _ b 2 _ _ _ u1).trans rfl; have x4 : w8.cell? ⟨b, 1, none⟩ = some (.slice av ops.length cv) := (cell_of_row _ b 1 _ _ _ u1).trans rfl; have HO8 := Lib.hid hO8; have HB8 := Lib.hid hb8; have HU := Lib.hid u4; clear hO8 hk8 hb8 u4) | (at_builtin; have hkT9 : Kp Non (w8.setCell ⟨b, 1, none⟩ (.slice a8 (ops.length + 1) c8)) ((w8.setCell ⟨b, 1, none⟩ (.slice a8 (ops.length + 1) c8)).alloc (.cells #[.bool on] 4)) := (Kp.refl _ _).alloc _; have hB9 := HB7.out.kp HU.out (fun i q q' => q'.elim (fun q' => hnb8 (q' ▸ q)) (fun q' => hvo i q q')); refine wpList_append_row rfl _ _ 43 rfl 0 4 l0 _ 1 Try.underlying43 hl0 hx0 hx1 hx2 rfl (by decide) encB_len encB_one ao ops.length co (ops.map (·.2.2)) rfl (hB9.non hkT9) _ 1 1 [on] rfl (Reads.new (by simp) rfl) (by omega) (by omega) (Nat.zero_le _) ?_; intro a10 c10 w10 hO10 hk10 hb10; obtain ⟨u5, u6, u7, u8⟩ := grow_field (i := 2) u3 (hkT9.comp hk10 (fun _ _ f => f.elim) (fun _ _ q => q)) hnb8 (.slice a10 (ops.length + 1) c10); simp [Array.setIfInBounds] at u7; have x9 : w10.cell? ⟨b, 2, none⟩ = some (.slice ao ops.length co) := (cell_of_row _ b 2 _ _ _ u5).trans rfl))
    go_end0
    have hk8s : Kp (One b) w8 (w8.setCell ⟨b, 1, none⟩ (.slice a8 (ops.length + 1) c8)) := Kp.setCell (S := One b) (Kp.refl _ _) (p := ⟨b, 1, none⟩) (.inl rfl) _
    have hk10s : Kp (One b) w10 (w10.setCell ⟨b, 2, none⟩ (.slice a10 (ops.length + 1) c10)) := Kp.setCell (S := One b) (Kp.refl _ _) (p := ⟨b, 2, none⟩) (.inl rfl) _
    have hS9 := HS7.out.kp HU.out (fun i q q' => q'.elim (fun q' => row_apart HS7.out box7 (by decide) (q' ▸ q)) (fun q' => hvs i q q'))
    have hV9 := HO8.out.kp hk8s (fun i q q' => row_apart HO8.out u1 (by decide) (show Blk a8 b from (show i = b from q') ▸ q))
    have hS11 := hS9.kp u8 (fun i q q' => q'.elim (fun q' => row_apart hS9 u3 (by decide) (q' ▸ q)) (fun q' => rows_apart hB9 hS9 (by decide) i q' q))
    have hV11 := hV9.kp u8 (fun i q q' => q'.elim (fun q' => row_apart hV9 u3 (by decide) (q' ▸ q)) (fun q' => rows_apart hB9 hV9 (by decide) i q' q))
    have hB11 := hO10.kp hk10s (fun i q q' => row_apart hO10 u5 (by decide) (show Blk a10 b from (show i = b from q') ▸ q))
    have hl1 : (ops ++ [(s, v, on)]).length = ops.length + 1 := by simp
    refine ⟨rfl, a6, c6, a8, c8, a10, c10, ⟨by rw [hl1]; exact u7, by rw [hl1]; simpa using hS11, by rw [hl1]; simpa using hV11, by rw [hl1]; simpa using hB11⟩, (hkC.comp HU.out (fun _ _ q => q) (fun i _ q => q.elim (fun q => .inl q) (fun q => .inr (.inr (.inl q))))).comp u8 (fun _ _ q => q) (fun i _ q => q.elim (fun q => .inl q) (fun q => .inr (.inr (.inr q)))), ?_⟩
    rintro i (q | q | q | q)
    · exact .inl (.inl q)
    · exact hbA i q
    · rcases HB8.out with rfl | rfl
      · exact .inl (.inr (.inr (.inl q)))
      · obtain ⟨ad, z1, rfl⟩ := q
        cases z1
        exact .inr (Nat.le_trans hkC.size hkT.size)
    · rcases hb10 with rfl | rfl
      · exact .inl (.inr (.inr (.inr q)))
      · obtain ⟨ad, z1, rfl⟩ := q
        cases z1
        exact .inr (Nat.le_trans hkC.size (Nat.le_trans HU.out.size hkT9.size))
  · have hd : decide (s.1 < s.2) = false := decide_eq_false hs
    rw [if_neg hs]
    go_enter Try.func31, Try.ntmps31
    go_wp2_with fail
    go_end0
    exact ⟨rfl, al, cl, av, cv, ao, co, hM1, hkb.non, fun i q => .inl q⟩
end Go.Proofs.Ytkgjpmgoapfamaa
