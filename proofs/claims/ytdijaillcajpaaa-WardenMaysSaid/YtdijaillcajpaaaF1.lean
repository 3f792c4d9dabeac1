/-
  Shards: a row of copies.
-/
import Derived.Test.YtdijaillcajpaaaF0
namespace Go.Proofs.Ytdijaillcajpaaa
open Go.RowKit Go.Shelf
attribute [local go_sem] Oper.semAt_some

/-- A row of shards that shares nothing. -/
structure RowOfS (l : List Shd) (B : Nat) (a : Option Addr) (k c : Nat) (L : List ShdV) (w : World) : Prop where
  row : OwnR encShd 5 w B 40 a k c L
  each : ∀ s ∈ L, s.own w B
  pl : L.map ShdV.pl = l
theorem RowOfS.non {l : List Shd} {B : Nat} {a : Option Addr} {k c : Nat} {L : List ShdV} {w w' : World} (h : RowOfS l B a k c L w) (q : Kp Non w w') : RowOfS l B a k c L w' := ⟨h.row.non q, fun s hs => (h.each s hs).non q, h.pl⟩
theorem ShdV.own.nobox {s : ShdV} {W : World} {B b : Nat} {t : TypeId} {vs : List Value} (h : s.own W B) (hb : Bx W b t vs) (h1 : 3 ≠ t) (h2 : 95 ≠ t) : ∀ i, s.blk i → ¬ One b i := by
  rintro i (hi | hi | ⟨o, ho, hi⟩)
  · exact no_one (no_box h.1 hb h1) i hi
  · exact no_one (no_box h.2.1 hb h2) i hi
  · exact no_one (no_box (h.2.2 o ho) hb h1) i hi
theorem RowOfS.kp {S : Nat → Prop} {l : List Shd} {B : Nat} {a : Option Addr} {k c : Nat} {L : List ShdV} {w w' : World} (h : RowOfS l B a k c L w) (q : Kp S w w') (h1 : ∀ i, Blk a i → ¬ S i) (h2 : ∀ s ∈ L, ∀ i, s.blk i → ¬ S i) : RowOfS l B a k c L w' := ⟨h.row.kp q h1, fun s hs => (h.each s hs).kp q (h2 s hs), h.pl⟩
/-- The shard of a number, or none. -/
def shOf (A : Atl) (id : Int) : Shd := (A.sh.find? fun s => decide (s.id = id)).getD zeroS
def ofs (A : Atl) (pre : List (Sp × Int)) : List Shd := pre.map fun p => shOf A p.2
theorem find_id {l : List Shd} (h : (l.map (·.id)).Nodup) {s : Shd} (hs : s ∈ l) : l.find? (fun t => decide (t.id = s.id)) = some s := by
  induction l with
  | nil => cases hs
  | cons t l ih =>
    simp only [List.map_cons, List.nodup_cons] at h
    rw [List.find?_cons]
    rcases List.mem_cons.1 hs with rfl | hs
    · simp
    · have : ¬ t.id = s.id := fun e => h.1 (by rw [e]; exact List.mem_map.2 ⟨s, hs, rfl⟩)
      simp only [this, decide_false]
      exact ih h.2 hs
theorem ofs_all {A : Atl} (h : Good A) : ofs A (A.sh.map pc) = A.sh := by
  unfold ofs
  rw [List.map_map]
  conv => rhs; rw [← List.map_id A.sh]
  refine List.map_congr_left fun s hs => ?_
  show (A.sh.find? fun t => decide (t.id = s.id)).getD zeroS = s
  rw [find_id h.ids hs]
  rfl
/-- What is found at a number. -/
theorem AtlAt.at_ {w : World} {m : Nat} {A : Atl} {G : Geo} (h : AtlAt w m A G) (id : Int) : ∃ s : ShdV, s.own w 0 ∧ s.fit ∧ s.pl = shOf A id ∧ ∀ W, MapIs encK valShd W G.b G.L → (Instr.lookup 89 (.map (some G.b)) (.int .i64 id) false).run Try.prog W = .ok (valShd s) W := by
  have hz : ∀ W, (zeroValue 40).run Try.prog W = .ok (valShd zeroV) W := fun _ => by kernel_rfl
  unfold shOf
  rw [← h.look id]
  cases hm : mget G.L id with
  | none =>
    refine ⟨zeroV, zeroV_own _ _, ⟨by simp [zeroV, Il.nil], by simp [zeroV, Pl.nil], fun o ho => by cases ho⟩, rfl, fun W q => ?_⟩
    rw [run_lookup_is (keys_int Try.underlying3) q Try.underlying89 (hz W) id false, if_neg (by simp), hm]
    rfl
  | some s =>
    obtain ⟨q1, q2, q3, q4, q5⟩ := h.find hm
    refine ⟨s, q1, q5, rfl, fun W q => ?_⟩
    rw [run_lookup_is (keys_int Try.underlying3) q Try.underlying89 (hz W) id false, if_neg (by simp), hm]
    rfl
/-- How far the shards are collected. -/
structure ShSt (w : World) (m : Nat) (A : Atl) (pre : List (Sp × Int)) (W : World) : Prop where
  ex : ∃ a c L, Bx W (w.heap.size + 1) 33 [.slice a pre.length c] ∧ RowOfS (ofs A pre) w.heap.size a pre.length c L W
  b0 : Bx W w.heap.size 25 [.pointer (some ⟨m, 0, none⟩)]
  kp : Kp Non w W
theorem ShdV.own.cellsKept {s : ShdV} {A B : World} {base : Nat} {row : Option Nat} (h : s.own A base) (hg : A.grownBy B row) (hr : ∀ r, row = some r → ∃ o : Obj, A.heap[r]? = some o ∧ o.isCells = false) : s.own B base :=
  ⟨OwnR.cellsKept h.1 hg hr, h.2.1.cellsKept hg hr, fun o ho => OwnR.cellsKept (h.2.2 o ho) hg hr⟩
theorem RowOfS.cellsKept {l : List Shd} {b : Nat} {a : Option Addr} {k c : Nat} {L : List ShdV} {A B : World} {row : Option Nat} (h : RowOfS l b a k c L A) (hg : A.grownBy B row) (hr : ∀ r, row = some r → ∃ o : Obj, A.heap[r]? = some o ∧ o.isCells = false) : RowOfS l b a k c L B :=
  ⟨h.row.cellsKept hg hr, fun s hs => (h.each s hs).cellsKept hg hr, h.pl⟩
theorem ShSt.grow {w : World} {m : Nat} {A : Atl} {k : List (Sp × Int)} {W W' : World} {row : Option Nat} (h : ShSt w m A k W) (hg : W.grownBy W' row) (hr : ∀ r, row = some r → w.heap.size ≤ r ∧ ∃ o : Obj, W.heap[r]? = some o ∧ o.isCells = false) : ShSt w m A k W' := by
  have hr' : ∀ r, row = some r → ∃ o : Obj, W.heap[r]? = some o ∧ o.isCells = false := fun r e => (hr r e).2
  obtain ⟨a, c, L, h1, h2⟩ := h.ex
  exact ⟨⟨a, c, L, cells_kept hg hr' h1, h2.cellsKept hg hr'⟩, cells_kept hg hr' h.b0, h.kp.grown hg (fun k e => .inr (hr k e).1)⟩
theorem ShSt.own {w : World} {m : Nat} {A : Atl} {b : Nat} (hb : w.heap.size ≤ b) : OwnFrom b (ShSt w m A) := fun pre W W' row h hg hr =>
  h.grow hg fun r e => ⟨by have := (hr r e).1; omega, (hr r e).2⟩
/-- One shard more. -/
theorem ShSt.step {w : World} {m : Nat} {A : Atl} {pre : List (Sp × Int)} {x : Sp × Int} {W V w6 : World} {a a6 : Option Addr} {c c6 : Nat} {L : List ShdV} {s : ShdV} (h0 : Bx W w.heap.size 25 [.pointer (some ⟨m, 0, none⟩)]) (hk : Kp Non w W) (hR : RowOfS (ofs A pre) w.heap.size a pre.length c L W) (hB : Bx W (w.heap.size + 1) 33 [.slice a pre.length c])
    (hkV : Kp Non W V) (hs : s.own V w.heap.size) (hk6 : Kp (Blk a) V w6) (hO6 : OwnR encShd 5 w6 w.heap.size 40 a6 (pre.length + 1) c6 (L ++ [s])) (ht : s.pl = shOf A x.2) :
    ShSt w m A (pre ++ [x]) (w6.setCell ⟨w.heap.size + 1, 0, none⟩ (.slice a6 (pre.length + 1) c6)) := by
  have hRV := hR.non hkV
  have hBV := hB.non hkV
  have b6 := hBV.kp hk6 (no_box hRV.row hBV (by decide))
  obtain ⟨g1, k1⟩ := b6.set 0 (.slice a6 (pre.length + 1) c6)
  have e6 : ∀ x ∈ L ++ [s], x.own w6 w.heap.size := fun x hx => by
    have hw : x.own V w.heap.size := by
      rcases List.mem_append.1 hx with hx | hx
      · exact hRV.each x hx
      · simp at hx; subst hx; exact hs
    refine hw.kp hk6 fun i hi => ?_
    rcases hi with hi | hi | ⟨o, ho, hi⟩
    · exact no_row hw.1 hRV.row (by decide) i hi
    · exact no_row hw.2.1 hRV.row (by decide) i hi
    · exact no_row (hw.2.2 o ho) hRV.row (by decide) i hi
  have k6 : Kp Non w w6 := Kp.comp (hk.trans hkV) hk6 (fun _ _ f => f) (fun i hi e => by have := (hRV.row.blk i e).1; omega)
  have el : (pre ++ [x]).length = pre.length + 1 := by simp
  refine ⟨⟨a6, c6, L ++ [s], by rw [el]; exact g1, ⟨by rw [el]; exact hO6.kp k1 (no_one (no_box hO6 b6 (by decide))), fun x hx => (e6 x hx).kp k1 fun i hi => ?_, by rw [List.map_append, hR.pl]; simp [ofs, ht]⟩⟩, ((h0.non hkV).kp hk6 (no_box hRV.row (h0.non hkV) (by decide))).kp k1 (by show ¬ _ = _; omega), Kp.comp k6 k1 (fun _ _ f => f) (fun i hi e => by have e : i = w.heap.size + 1 := e; omega)⟩
  rcases hi with hi | hi | ⟨o, ho, hi⟩
  · exact no_one (no_box (e6 x hx).1 b6 (by decide)) i hi
  · exact no_one (no_box (e6 x hx).2.1 b6 (by decide)) i hi
  · exact no_one (no_box ((e6 x hx).2.2 o ho) b6 (by decide)) i hi
/-- Copies of all shards come out. -/
def ShardsOut (l : List Shd) (w : World) (e : Ending) (w' : World) : Prop := ∃ a c L, e = .returned (.slice a l.length c) ∧ RowOfS l w.heap.size a l.length c L w' ∧ Kp Non w w'

set_option maxRecDepth 100000 in
set_option maxHeartbeats 1000000 in
theorem ashards_calls {m : Nat} {A : Atl} {G : Geo} {w : World} (h : AtlAt w m A G) : Calls Try.prog 15 #[.pointer (some ⟨m, 0, none⟩)] w (ShardsOut A.sh w) := by
  refine (callsIn_wide (n := 3)).1 ?_
  have h1 : 1 ≤ 3 := by omega
  obtain ⟨i0, hi0, hz0, hz1, hz2⟩ := info_parts infoShd
  refine callsIn_of_wp_marks Try.func15 rfl trivial ?_ rfl
  simp only [Try.ntmps15, List.size_toArray, List.length_cons, List.length_nil, Nat.reduceAdd, Nat.reduceSub, Array.replicate_succ, Array.replicate_zero, List.push_toArray, List.append_toArray, List.nil_append, List.cons_append]
  gi_wp2_with (refine ⟨trivial, ?_⟩; gi_at_call 49; refine (callsIn_wide.2 (eachA_calls _ _)).mono ?_; rintro e w' ⟨rfl, rfl⟩)
  obtain ⟨W3, hW3, ⟨hS3, hbx⟩, bP, hkw3⟩ : ∃ W3, ((w.alloc (.cells #[.pointer (some ⟨m, 0, none⟩)] 25)).alloc (.cells #[.slice none 0 0] 33)).alloc (.cells #[.pointer (some ⟨m, 4, none⟩)] 133) = W3 ∧ (ShSt w m A [] W3 ∧ Bx W3 (w.heap.size + 1) 33 [.slice none 0 0]) ∧ W3.cell? ⟨w.heap.size + 1 + 1, 0, none⟩ = some (.pointer (some ⟨m, 4, none⟩)) ∧ W3.heap.size = w.heap.size + 1 + 1 + 1 := by
    have k1 : Kp Non w (w.alloc (.cells #[.pointer (some ⟨m, 0, none⟩)] 25)) := (Kp.refl _ _).alloc _
    have k2 := (Kp.refl Non (w.alloc (.cells #[.pointer (some ⟨m, 0, none⟩)] 25))).alloc (.cells #[.slice none 0 0] 33)
    have k3 := (Kp.refl Non ((w.alloc (.cells #[.pointer (some ⟨m, 0, none⟩)] 25)).alloc (.cells #[.slice none 0 0] 33))).alloc (.cells #[.pointer (some ⟨m, 4, none⟩)] 133)
    have b1 := Bx.new (w.alloc (.cells #[.pointer (some ⟨m, 0, none⟩)] 25)) 33 [.slice none 0 0]
    rw [World.size_alloc] at b1
    refine ⟨_, rfl, ⟨⟨⟨none, 0, [], b1.non k3, OwnR.nil _ _ _, (fun _ h => by cases h), rfl⟩, ((Bx.new w 25 [.pointer (some ⟨m, 0, none⟩)]).non k2).non k3, (k1.trans k2).trans k3⟩, b1.non k3⟩, ?_, by simp⟩
    exact cell_new (by simp) 0
  rw [hW3]
  clear hW3
  have hA3 := h.non hS3.kp
  have hlen := h.good.len
  have hfo : ∀ i, FP (w.heap.size + 1) W3 i → i < W3.heap.size := by
    rintro i (rfl | ⟨j, p, n, c, hp, rfl⟩)
    · omega
    · have e := cell_of_row W3 (w.heap.size + 1) j _ _ _ hbx
      rw [hp] at e
      match j, e with
      | 0, e => simp at e
      | j + 1, e => simp at e
  refine wpIn_rangeFunc_ownG rfl h1 (gf := 73) (lb := #[.pointer (some ⟨w.heap.size + 1 + 1, 0, none⟩)]) rfl trivial (enters_of Try.func73 (by kernel_rfl) rfl)
    (eachItA_stops 2 (by omega) W3.heap.size (w.heap.size + 1 + 1) m (A.sh.map pc) G.al G.cl G.av G.cv W3 (Nat.le_refl _) bP hA3.r.map (w.heap.size + 1) (by omega) hfo (by rw [List.length_map]; omega)) (fun h k => h.trans k) (fun W l o o' hl h2 h3 h4 => KG.putObj (w := W3) (m := w.heap.size + 1) (by omega) W l o o' hl h2 h3 h4) (Below.refl _ _) (fun _ => rfl)
    (ShSt w m A)
    (fun _ _ _ => False)
    (ShSt.own (by omega))
    (fun _ _ _ _ _ hs _ _ => hs)
    hS3
    (fun x => { tmps := #[.pointer (some ⟨m, 0, none⟩), .pointer (some ⟨w.heap.size, 0, none⟩), .pointer (some ⟨w.heap.size + 1, 0, none⟩), undef, .int .i64 x.2, .pointer (some ⟨m, 0, none⟩), .bool false, .pointer (some ⟨m, 0, none⟩), .pointer (some ⟨m, 0, none⟩), .pointer (some ⟨m, 4, none⟩), .func (.func 73) #[] #[.pointer (some ⟨w.heap.size + 1 + 1, 0, none⟩)], valS x.1, .int .i64 x.2, undef, undef, undef, undef, undef, undef, undef, undef, undef, undef, undef], defers := [] }) ?assign ?body ?done ?stop
  case assign =>
    intro l x W K hK
    simp [encsI]
    gi_wp2
    exact hK
  case body =>
    rintro l pre x W hS hlt
    obtain ⟨a, c, L, hB, hR⟩ := hS.ex
    obtain ⟨s, hs, hsf, hsp, hok⟩ := h.at_ x.2
    have hAW := h.non hS.kp
    have y0 : W.cell? ⟨w.heap.size, 0, none⟩ = some (.pointer (some ⟨m, 0, none⟩)) := hS.b0.c rfl
    have y1 : W.cell? ⟨w.heap.size + 1, 0, none⟩ = some (.slice a pre.length c) := hB.c rfl
    have y2 : W.cell? ⟨m, 6, none⟩ = some (.map (some G.b)) := (cell_of_row W m 6 _ _ _ hAW.r.map.box).trans rfl
    have HK := Lib.hid (fun W' (q : Kp Non W W') => (⟨q.cell y0 (fun f => f), q.cell y1 (fun f => f), q.cell y2 (fun f => f), hok W' (hAW.r.tab.non q)⟩ : W'.cell? ⟨w.heap.size, 0, none⟩ = some (.pointer (some ⟨m, 0, none⟩)) ∧ W'.cell? ⟨w.heap.size + 1, 0, none⟩ = some (.slice a pre.length c) ∧ W'.cell? ⟨m, 6, none⟩ = some (.map (some G.b)) ∧ (Instr.lookup 89 (.map (some G.b)) (.int .i64 x.2) false).run Try.prog W' = .ok (valShd s) W'))
    have hO := Lib.hid (fun W' (q : Kp Non w W') => own_calls s W' (hs.non q).there hsf)
    have hwW := hS.kp
    have hb0 := hS.b0
    rw [List.length_map] at hlt
    have hpl : pre.length ≤ 256 := by omega
    have hok' := fun W' q => hok W' q
    clear hok hS hfo bP hA3
    gi_wp2
    refine wpIn_region_chain [0,0,0,0,0,0,0,1,1,1,2] (by kernel_rfl) (fun _ => trivial) (by kernel_rfl) (by kernel_rfl) (fun w' => w'.cell? ⟨w.heap.size, 0, none⟩ = some (.pointer (some ⟨m, 0, none⟩)) ∧ w'.cell? ⟨w.heap.size + 1, 0, none⟩ = some (.slice a pre.length c) ∧ w'.cell? ⟨m, 6, none⟩ = some (.map (some G.b)) ∧ (Instr.lookup 89 (.map (some G.b)) (.int .i64 x.2) false).run Try.prog w' = .ok (valShd s) w') (HK.out _ (Kp.drew (Kp.refl _ _))) ?_
    repeat (first | (with_reducible refine pure_skipI ?_) | ((with_reducible refine pure_kI rfl ?_); intro K hK; apply Exists.intro; refine ⟨fun w' hC => ?_, ?_⟩; (obtain ⟨g1, g2, g3, g4⟩ := hC; go_simp; rfl); go_simp; refine hK _ ?_; clear hK K))
    with_reducible refine pure_nilI ?_
    clear y0 y2
    repeat (with_reducible refine chain_skip0I ?_)
    with_reducible refine chain_stepI rfl fun K hK => ?_
    go_simp
    refine ⟨trivial, ?_⟩
    have kd : Kp Non W W.drew := Kp.drew (Kp.refl _ _)
    refine (callsIn_wide.2 (hO.out _ (hwW.trans kd))).mono ?_
    rintro e W1 ⟨s', rfl, hs', hp1, hk1⟩
    have hk1' := kd.trans hk1
    refine hK _ _ (fun _ => HK.out W1 hk1') ?_
    clear hK K
    repeat (with_reducible refine chain_skip0I ?_)
    with_reducible refine chain_stepI rfl fun K hK => ?_
    go_simp
    have hk2 : Kp Non W1 (W1.alloc (.cells #[.int .i64 s'.id, .int .i64 s'.fr, .int .i64 s'.to, .slice s'.me.a s'.me.n s'.me.c, .slice s'.pa.a s'.pa.n s'.pa.c] 40)) := (Kp.refl _ _).alloc _
    refine hK _ _ (fun _ => HK.out _ (hk1'.trans hk2)) ?_
    clear hK K
    have hR2 := hR.non (hk1'.trans hk2)
    have hX := Reads.new (enc := encShd) (k := 5) (w := W1) (b := W1.heap.size) (cur := #[.int .i64 s'.id, .int .i64 s'.fr, .int .i64 s'.to, .slice s'.me.a s'.me.n s'.me.c, .slice s'.pa.a s'.pa.n s'.pa.c]) (e := 40) (fr := (0, 0)) (x := s') rfl rfl
    have hsz := ((hwW.trans hk1').trans hk2).size
    have hs2 := (hs'.non hk2).lower (show w.heap.size ≤ W.drew.heap.size from (hwW.trans kd).size)
    repeat (with_reducible refine chain_skip0I ?_)
    with_reducible refine chain_stepI rfl fun K hK => ?_
    refine wpIn_append_row _ _ 33 rfl w.heap.size 40 i0 _ 72 Try.underlying33 hi0 hz0 hz1 hz2 rfl (by decide) encShd_len encShd_one a pre.length c L rfl hR2.row _ 1 1 [s'] rfl hX (by omega) (by omega) hsz ?_
    intro a6 c6 w6 hO6 hk6 ha6
    have hBV := hB.non (hk1'.trans hk2)
    have hb0V := hb0.non (hk1'.trans hk2)
    have hk7 := hk1'.trans hk2
    have b6 := hBV.kp hk6 (no_box hR2.row hBV (by decide))
    have hA6 := (hAW.r.non hk7)
    refine hK _ _ (fun _ => ⟨(hb0V.kp hk6 (no_box hR2.row hb0V (by decide))).c rfl, b6.c rfl, (hk6.cell ((cell_of_row _ m 6 _ _ _ hA6.map.box).trans rfl) (fun q => ?_)), hok' w6 (hA6.tab.kp hk6 (fun q => ?_))⟩) ?_
    · obtain ⟨cs, e⟩ := hR2.row.tag m q
      rw [hA6.map.box] at e
      simp at e
    · obtain ⟨cs, e⟩ := hR2.row.tag _ q
      exact hA6.tab.tag e
    clear hK K
    have z1 : w6.cell? ⟨w.heap.size + 1, 0, none⟩ = _ := b6.c rfl
    have zf := b6.f 0
    have hSt := ShSt.step (x := x) hb0 hwW hR hB hk7 hs2 hk6 hO6 (hp1.trans hsp)
    have HS := Lib.hid hSt
    repeat (with_reducible refine chain_skip0I ?_)
    with_reducible refine chain_stepI rfl fun K hK => ?_
    go_simp
    refine hK _ _ (fun h => by cases h) ?_
    clear hK K
    with_reducible refine chain_nilI ?_
    gi_wp2
    obtain ⟨g1, k1⟩ := b6.set 0 (.slice a6 (pre.length + 1) c6)
    have hkk : Kp (fun i => Blk a i ∨ i = w.heap.size + 1) W (w6.setCell ⟨w.heap.size + 1, 0, none⟩ (.slice a6 (pre.length + 1) c6)) := Kp.comp (Kp.comp hk7 hk6 (U := Blk a) (fun _ _ f => f.elim) (fun _ _ q => q)) k1 (fun _ _ q => .inl q) (fun _ _ q => .inr q)
    refine ⟨KeepsFrom.of_kp hkk fun i q => ?_, KG.of_kpF hkk (fun i q => .inl ?_) (fun k q => ?_), HS.out⟩
    · rcases q with q | rfl
      · obtain ⟨cs, e⟩ := hR.row.tag i q
        exact ⟨cs, _, _, e⟩
      · exact ⟨_, _, _, hB⟩
    · rcases q with ⟨ad, rfl, rfl⟩ | rfl
      · exact .inr ⟨0, ad, _, _, y1, rfl⟩
      · exact .inl rfl
    · rcases q with rfl | ⟨j, p, n, c', hp, rfl⟩
      · exact .inl (.inl rfl)
      · have e := cell_of_row _ (w.heap.size + 1) j _ _ _ g1
        rw [hp] at e
        match j, e with
        | 0, e =>
          simp at e
          obtain ⟨e, _⟩ := e
          rcases ha6 with e2 | e2
          · rw [e2] at e
            exact .inl (.inr ⟨0, p, _, _, by rw [e]; exact y1, rfl⟩)
          · rw [e2] at e
            simp at e
            right
            rw [e]
            have := hk7.size
            rw [World.size_alloc] at this
            exact this
        | j + 1, e => simp at e
  case done =>
    rintro D ys W hD rfl hS hK
    obtain ⟨a, c, L, hB, hR⟩ := hS.ex
    rw [List.length_map] at hB
    have y1 : W.cell? ⟨w.heap.size + 1, 0, none⟩ = _ := hB.c rfl
    have yf := hB.f 0
    have hwD : W3.heap.size ≤ D := hD
    obtain ⟨g1, k1⟩ := hB.set 0 (.slice a A.sh.length c)
    have hK' := k1.heap hK (by show ¬ D = _; omega)
    gi_wp2
    refine ⟨by simp, .inl ⟨_, _, rfl, run_takeDeferred hK', ?_⟩⟩
    have hgb := grownBy_putObj' (W.setCell ⟨w.heap.size + 1, 0, none⟩ (.slice a A.sh.length c)) D (.deferred none)
    have hr : ∀ r, some D = some r → ∃ o : Obj, (W.setCell ⟨w.heap.size + 1, 0, none⟩ (.slice a A.sh.length c)).heap[r]? = some o ∧ o.isCells = false := fun r e => by cases e; exact ⟨_, hK', rfl⟩
    have hRow := ((hR.kp k1 (no_one (no_box hR.row hB (by decide))) (fun s hs => (hR.each s hs).nobox hB (by decide) (by decide))).cellsKept hgb hr)
    rw [ofs_all h.good] at hRow
    have hg2 := cells_kept hgb hr g1
    refine ⟨_, results_cell_slice (t := 33) rfl Try.sizeOf33 Try.isAgg33 _ _ ⟨w.heap.size + 1, 0, none⟩ rfl ((cell_of_row _ _ 0 _ _ _ hg2).trans rfl), a, c, L, rfl, ?_, ?_⟩
    · rw [List.length_map] at hRow
      exact hRow
    · refine Kp.grown ?_ hgb (fun k e => by cases e; exact .inr (by have := hS.kp.size; omega))
      exact Kp.comp hS.kp k1 (fun _ _ f => f) (fun i hi e => by have e : i = w.heap.size + 1 := e; omega)
  case stop =>
    rintro D c pre W _ _ h _
    exact h.elim
end Go.Proofs.Ytdijaillcajpaaa
