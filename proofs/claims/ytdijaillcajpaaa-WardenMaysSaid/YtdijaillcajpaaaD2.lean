/-
  The map of shards in memory; a shard laid into it.
-/
import Derived.Test.YtdijaillcajpaaaD1
import Derived.Test.YtdijaillcajpaaaM3A
import Derived.Test.YtdijaillcajpaaaMPD
import Derived.Test.YtdijaillcajpaaaR0
namespace Go.Proofs.Ytdijaillcajpaaa
open Go.RowKit

abbrev encK (x : Int) : Value := .int .i64 x
/-- Where a map's parts lie. -/
structure Geo where
  al : Option Addr
  cl : Nat
  av : Option Addr
  cv : Nat
  b : Nat
  op : Il
  L : List (Int × ShdV)
/-- The other cells of the block. -/
abbrev cellsU (bl ep nx : Int) (G : Geo) : MapU := ⟨.int .i64 bl, .int .i64 ep, .int .i64 nx, .slice G.op.a G.op.n G.op.c, .map (some G.b)⟩
/-- The blocks that its calls may change. -/
def AS (G : Geo) (m : Nat) (i : Nat) : Prop := MSA m G.al G.av i ∨ i = G.b
/-- The block m is a map with the pieces M, and the shards of the table L. -/
structure AtlR (w : World) (m : Nat) (bl ep nx : Int) (M : List (Sp × Int)) (G : Geo) : Prop where
  map : MapA (cellsU bl ep nx G) w m M G.al G.cl G.av G.cv
  tab : MapIs encK valShd w G.b G.L
  keys : (G.L.map (·.1)).Nodup
  each : ∀ p ∈ G.L, p.2.own w 0 ∧ ∀ i, p.2.blk i → ¬ Blk G.av i
  op : G.op.own w 0 ∧ ∀ i, Blk G.op.a i → ¬ Blk G.av i
theorem MapIs.tag {K V : Type} {enc : K → Value} {encV : V → Value} {w : World} {b : Nat} {L : List (K × V)} (h : MapIs enc encV w b L) {cs : Array Value} {t : TypeId} {f : Nat × Nat} : w.heap[b]? ≠ some (.cells cs t f) := fun e => by
  obtain ⟨es, cl, h1, _⟩ := h
  rw [h1] at e
  cases e
section
variable {w w' : World} {m : Nat} {bl ep nx : Int} {M : List (Sp × Int)} {G : Geo}
theorem AtlR.lt (h : AtlR w m bl ep nx M G) : ∀ i, AS G m i → i < w.heap.size := by
  rintro i (hi | rfl)
  · exact h.map.old i hi
  · exact h.tab.lt
theorem AtlR.mb (h : AtlR w m bl ep nx M G) : ¬ MSA m G.al G.av G.b := by
  rintro (hi | hi | hi)
  · exact h.tab.tag (by rw [hi]; exact h.map.box)
  · obtain ⟨cs, e⟩ := h.map.spans.tag _ hi
    exact h.tab.tag e
  · obtain ⟨cs, e⟩ := h.map.vals.tag _ hi
    exact h.tab.tag e
/-- A row with a fence lies apart from what its calls change. -/
theorem AtlR.row {α : Type} {enc : α → List Value} {k B n c : Nat} {t : TypeId} {a : Option Addr} {l : List α} (h : AtlR w m bl ep nx M G) (hr : OwnR enc k w B t a n c l) (h1 : t ≠ 91) (h2 : t ≠ 36) (hn : ∀ i, Blk a i → ¬ Blk G.av i) : ∀ i, Blk a i → ¬ AS G m i := by
  rintro i hi ((e | e | e) | e)
  · obtain ⟨cs, q⟩ := hr.tag i hi
    rw [e, h.map.box] at q
    simp at q
    exact h1 q.2.symm
  · obtain ⟨cs, q⟩ := hr.tag i hi
    obtain ⟨cs', q'⟩ := h.map.spans.tag i e
    rw [q'] at q
    simp at q
    exact h2 q.2.symm
  · exact hn i hi e
  · obtain ⟨cs, q⟩ := hr.tag i hi
    rw [e] at q
    exact h.tab.tag q
theorem AtlR.shd {s : ShdV} {B : Nat} (h : AtlR w m bl ep nx M G) (hs : s.own w B) (hn : ∀ i, s.blk i → ¬ Blk G.av i) : ∀ i, s.blk i → ¬ AS G m i := by
  rintro i (hi | hi | ⟨o, ho, hi⟩)
  · exact h.row hs.1 (by decide) (by decide) (fun i hi => hn i (.inl hi)) i hi
  · exact h.row hs.2.1 (by decide) (by decide) (fun i hi => hn i (.inr (.inl hi))) i hi
  · exact h.row (hs.2.2 o ho) (by decide) (by decide) (fun i hi => hn i (.inr (.inr ⟨o, ho, hi⟩))) i hi
theorem AtlR.non (h : AtlR w m bl ep nx M G) (k : Kp Non w w') : AtlR w' m bl ep nx M G :=
  ⟨h.map.non k, h.tab.non k, h.keys, fun p hp => ⟨(h.each p hp).1.non k, (h.each p hp).2⟩, h.op.1.non k, h.op.2⟩
/-- All blocks that it lies in. -/
def AB (G : Geo) (m : Nat) (i : Nat) : Prop := AS G m i ∨ (∃ p ∈ G.L, p.2.blk i) ∨ Blk G.op.a i
theorem AtlR.old (h : AtlR w m bl ep nx M G) : ∀ i, AB G m i → i < w.heap.size := by
  rintro i (hi | ⟨p, hp, hi⟩ | hi)
  · exact h.lt i hi
  · exact ((h.each p hp).1.blk i hi).2
  · exact (h.op.1.blk i hi).2
theorem AtlR.kp {S : Nat → Prop} (h : AtlR w m bl ep nx M G) (k : Kp S w w') (hn : ∀ i, AB G m i → ¬ S i) : AtlR w' m bl ep nx M G :=
  ⟨h.map.kp k fun i hi => hn i (.inl (.inl hi)), h.tab.kp k (hn G.b (.inl (.inr rfl))), h.keys, fun p hp => ⟨(h.each p hp).1.kp k fun i hi => hn i (.inr (.inl ⟨p, hp, hi⟩)), (h.each p hp).2⟩, h.op.1.kp k fun i hi => hn i (.inr (.inr hi)), h.op.2⟩
end

/-- A shard put into the table. -/
theorem AtlR.upd {w w' : World} {m : Nat} {bl ep nx : Int} {M : List (Sp × Int)} {G : Geo} (h : AtlR w m bl ep nx M G) (hk : Kp (One G.b) w w') {L : List (Int × ShdV)} (ht : MapIs encK valShd w' G.b L) (hkeys : (L.map (·.1)).Nodup)
    (hL : ∀ p ∈ L, p ∈ G.L ∨ p.2.own w 0 ∧ ∀ i, p.2.blk i → ¬ Blk G.av i) : AtlR w' m bl ep nx M { G with L := L } := by
  have hb : ∀ {i cs t f}, w.heap[i]? = some (.cells cs t f) → ¬ One G.b i := fun e q => by
    have q : _ = G.b := q
    rw [q] at e
    exact h.tab.tag e
  have he : ∀ p ∈ L, p.2.own w 0 ∧ ∀ i, p.2.blk i → ¬ Blk G.av i := fun p hp => by
    rcases hL p hp with q | q
    · exact h.each p q
    · exact q
  refine ⟨h.map.kp hk fun i hi q => h.mb (show MSA m G.al G.av G.b from (show i = G.b from q) ▸ hi), ht, hkeys, fun p hp => ⟨(he p hp).1.kp hk fun i hi => ?_, (he p hp).2⟩, ⟨h.op.1.kp hk fun i hi => ?_, h.op.2⟩⟩
  · obtain ⟨cs, e | e⟩ := (he p hp).1.tag i hi
    · exact hb e
    · exact hb e
  · obtain ⟨cs, e⟩ := OwnR.tag h.op.1 i hi
    exact hb e
/-- The pieces changed. -/
theorem AtlR.pieces {w w' : World} {m : Nat} {bl ep nx : Int} {M M' : List (Sp × Int)} {G : Geo} (h : AtlR w m bl ep nx M G) {al av : Option Addr} {cl cv : Nat} (hM : MapA (cellsU bl ep nx G) w' m M' al cl av cv) (hk : Kp (MSA m G.al G.av) w w')
    (hg : ∀ i, MSA m al av i → MSA m G.al G.av i ∨ w.heap.size ≤ i) : AtlR w' m bl ep nx M' { G with al := al, cl := cl, av := av, cv := cv } := by
  refine ⟨hM, h.tab.kp hk h.mb, h.keys, fun p hp => ⟨(h.each p hp).1.kp hk fun i hi q => h.shd (h.each p hp).1 (h.each p hp).2 i hi (.inl q), fun i hi q => ?_⟩, ⟨h.op.1.kp hk fun i hi q => h.row h.op.1 (by decide) (by decide) h.op.2 i hi (.inl q), fun i hi q => ?_⟩⟩
  · rcases hg i (.inr (.inr q)) with q | q
    · exact h.shd (h.each p hp).1 (h.each p hp).2 i hi (.inl q)
    · have := ((h.each p hp).1.blk i hi).2; omega
  · rcases hg i (.inr (.inr q)) with q | q
    · exact h.row h.op.1 (by decide) (by decide) h.op.2 i hi (.inl q)
    · have := (h.op.1.blk i hi).2; omega
/-- What a shard that is laid leaves. -/
def LayOut (m : Nat) (bl ep nx : Int) (M : List (Sp × Int)) (G : Geo) (s : ShdV) (w : World) (e : Ending) (w' : World) : Prop :=
  e = .returned (.tuple #[]) ∧ ∃ G' s', AtlR w' m bl ep nx (putC M (s.fr, s.to) s.id) G' ∧ G'.L = mput G.L s.id s' ∧ s'.pl = s.pl ∧ G'.op = G.op ∧ G'.b = G.b ∧ Kp (AS G m) w w' ∧ (∀ i, AS G' m i → AS G m i ∨ w.heap.size ≤ i) ∧ ∀ i, s'.blk i → w.heap.size ≤ i
set_option maxRecDepth 100000 in
set_option maxHeartbeats 1000000 in
theorem lay_calls (m : Nat) (bl ep nx : Int) (M : List (Sp × Int)) (G : Geo) (s : ShdV) (w : World) (h : AtlR w m bl ep nx M G) (hs : s.there w) (hf : s.fit) (hlt : s.fr < s.to) (hl : M.length ≤ 1000000) :
    Calls Try.prog 48 #[.pointer (some ⟨m, 0, none⟩), valShd s] w (LayOut m bl ep nx M G s w) := by
  have HO := Lib.hid (fun (W : World) (q : Kp Non w W) => own_calls s W (hs.non q) hf)
  go_enter Try.func48, Try.ntmps48
  go_wp2_with fail
  obtain ⟨V, hV, hB, hkV⟩ : ∃ V, w.alloc (.cells #[.int .i64 s.id, .int .i64 s.fr, .int .i64 s.to, .slice s.me.a s.me.n s.me.c, .slice s.pa.a s.pa.n s.pa.c] 40) = V ∧ Bx V w.heap.size 40 [.int .i64 s.id, .int .i64 s.fr, .int .i64 s.to, .slice s.me.a s.me.n s.me.c, .slice s.pa.a s.pa.n s.pa.c] ∧ Kp Non w V := ⟨_, rfl, Bx.new w _ [.int .i64 s.id, .int .i64 s.fr, .int .i64 s.to, .slice s.me.a s.me.n s.me.c, .slice s.pa.a s.pa.n s.pa.c], (Kp.refl _ _).alloc _⟩
  rw [hV]
  clear hV
  obtain ⟨x0, x1, x2, x3, x4⟩ := hB.shd
  have hA := h.non hkV
  have x6 : V.cell? ⟨m, 6, none⟩ = some (.map (some G.b)) := (cell_of_row V m 6 _ _ _ hA.map.box).trans rfl
  refine wp_region_chain [0,0,0,0,0,0,0,1,2] (by kernel_rfl) (by kernel_rfl) (fun w' => w'.cell? ⟨m, 6, none⟩ = some (.map (some G.b)) ∧ w'.cell? ⟨w.heap.size, 0, none⟩ = some (.int .i64 s.id) ∧ w'.cell? ⟨w.heap.size, 1, none⟩ = some (.int .i64 s.fr) ∧ w'.cell? ⟨w.heap.size, 2, none⟩ = some (.int .i64 s.to) ∧ w'.cell? ⟨w.heap.size, 3, none⟩ = some (.slice s.me.a s.me.n s.me.c) ∧ w'.cell? ⟨w.heap.size, 4, none⟩ = some (.slice s.pa.a s.pa.n s.pa.c)) ⟨x6, x0, x1, x2, x3, x4⟩ ?_
  repeat (first | (with_reducible refine pure_skip ?_) | ((with_reducible refine pure_k rfl ?_); intro K hK; apply Exists.intro; refine ⟨fun w' hC => ?_, ?_⟩; (obtain ⟨g1, g2, g3, g4, g5, g6⟩ := hC; go_simp; rfl); go_simp; refine hK _ ?_; clear hK K))
  with_reducible refine pure_nil ?_
  repeat (with_reducible refine chain_skip0 ?_)
  with_reducible refine chain_step rfl fun K hK => ?_
  go_simp
  refine (HO.out _ hkV.drew).mono ?_
  rintro e W1 ⟨s', rfl, hs', hpl, hk1⟩
  have hkd : Kp Non V V.drew := Kp.drew (Kp.refl _ _)
  have hk1' := hkd.trans hk1
  have hA1 := hA.non hk1'
  have hB1 := hB.non hk1'
  obtain ⟨y0, y1, y2, y3, y4⟩ := hB1.shd
  refine hK _ _ (fun _ => ⟨(cell_of_row W1 m 6 _ _ _ hA1.map.box).trans rfl, y0, y1, y2, y3, y4⟩) ?_
  clear hK K
  obtain ⟨W2, hU, hM2, hk2⟩ := run_update_is (keys_int Try.underlying3) hA1.tab Try.underlying89 s.id s'
  have hA2 := hA1.upd hk2 hM2 (mput_keys hA1.keys _ _) (fun p hp => by
    rcases mput_mem p hp with q | q
    · rw [q]
      exact .inr ⟨hs'.lower (Nat.zero_le _), fun i hi hi2 => by
        have q1 := (hs'.blk i hi).1
        have q2 := (hA.map.vals.blk i hi2).2
        have q3 := hkd.size
        omega⟩
    · exact .inl q)
  have hb2 : Bx W2 w.heap.size 40 _ := hB1.kp hk2 (fun e => by
    have e : w.heap.size = G.b := e
    have := h.tab.lt
    omega)
  obtain ⟨z0, z1, z2, z3, z4⟩ := hb2.shd
  have hP := Lib.hid (fun W (q : AtlR W m bl ep nx M { G with L := mput G.L s.id s' }) => putA_calls m M G.al G.cl G.av G.cv (s.fr, s.to) s.id W q.map hlt hl)
  have HU := Lib.hid hU
  clear x0 x1 x2 x3 x4 x6 y0 y1 y2 y3 y4 HO hU
  repeat (with_reducible refine chain_skip0 ?_)
  with_reducible refine chain_step rfl fun K hK => ?_
  have hU := HU.out
  go_simp
  clear hU
  refine hK _ _ (fun h => by cases h) ?_
  clear hK K
  with_reducible refine chain_nil ?_
  go_wp2_with fail
  refine wp_region_chain [0,0,0,0,0,0,0,2] (by kernel_rfl) (by kernel_rfl) (fun w' => w'.cell? ⟨w.heap.size, 0, none⟩ = some (.int .i64 s.id) ∧ w'.cell? ⟨w.heap.size, 1, none⟩ = some (.int .i64 s.fr) ∧ w'.cell? ⟨w.heap.size, 2, none⟩ = some (.int .i64 s.to)) ⟨z0, z1, z2⟩ ?_
  repeat (first | (with_reducible refine pure_skip ?_) | ((with_reducible refine pure_k rfl ?_); intro K hK; apply Exists.intro; refine ⟨fun w' hC => ?_, ?_⟩; (obtain ⟨g1, g2, g3⟩ := hC; go_simp; rfl); go_simp; refine hK _ ?_; clear hK K))
  with_reducible refine pure_nil ?_
  repeat (with_reducible refine chain_skip0 ?_)
  with_reducible refine chain_step rfl fun K hK => ?_
  go_simp
  have hA3 := hA2.non (Kp.drew (Kp.refl _ W2))
  refine (hP.out _ hA3).mono ?_
  rintro e W4 ⟨rfl, al, cl, av, cv, hM4, hk4, hg4⟩
  refine hK _ _ (fun h => by cases h) ?_
  clear hK K
  with_reducible refine chain_nil ?_
  go_wp2_with fail
  go_end0
  have hA4 := hA3.pieces hM4 hk4 hg4
  have hw1 : Kp Non w W1 := hkV.trans hk1'
  refine ⟨rfl, _, s', hA4, rfl, hpl, rfl, rfl, ?_, fun i hi => ?_, fun i hi => by have := (hs'.blk i hi).1; have := (hkV.trans hkd).size; omega⟩
  · refine Kp.comp (Kp.comp hw1 hk2 (U := AS G m) (fun _ _ f => f.elim) (fun i _ q => .inr q)).drew hk4 (fun _ _ q => q) (fun i _ q => .inl q)
  · rcases hi with hi | hi
    · rcases hg4 i hi with q | q
      · exact .inl (.inl q)
      · right
        have q : W2.heap.size ≤ i := q
        have := hk2.size
        have := hw1.size
        omega
    · exact .inl (.inr hi)
end Go.Proofs.Ytdijaillcajpaaa
