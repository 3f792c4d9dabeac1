/-
  New: a map of one shard.
-/
import Derived.Test.YtdijaillcajpaaaE0
import Derived.Test.YtdijaillcajpaaaF1
namespace Go.Proofs.Ytdijaillcajpaaa
open Go.RowKit

/-- A new map comes out. -/
def NewOut (bl : Int) (l : List Int) (w : World) (e : Ending) (w' : World) : Prop := ∃ m G, e = .returned (.tuple #[.pointer (some ⟨m, 0, none⟩), .int .i64 0]) ∧ AtlAt w' m (newA bl l) G ∧ Kp Non w w' ∧ ∀ i, AB G m i → w.heap.size ≤ i
theorem new_at {W : World} {m : Nat} {bl : Int} {l : List Int} {G G' : Geo} {s s' : ShdV} (h1 : 1 ≤ bl) (h2 : bl ≤ 256) (hm : Mems l) (hr : AtlR W m bl 1 2 (putC [] (s.fr, s.to) s.id) G') (hL : G'.L = mput G.L s.id s') (hG : G.L = []) (hop : G'.op = Il.nil) (hs : s = ⟨1, 0, bl, ⟨none, 0, 0, l⟩, Pl.nil⟩ ∨ s.pl = ⟨1, 0, bl, l, []⟩) (hp : s'.pl = s.pl) : AtlAt W m (newA bl l) G' := by
  have hpl : s.pl = ⟨1, 0, bl, l, []⟩ := by rcases hs with rfl | hs; rfl; exact hs
  have e1 : s.id = 1 := congrArg Shd.id hpl
  have e2 : s.fr = 0 := congrArg Shd.fr hpl
  have e3 : s.to = bl := congrArg Shd.to hpl
  have hg := newA_good h1 h2 hm
  have hput : putC [] (s.fr, s.to) s.id = (newA bl l).sh.map pc := by
    have := put_one (pre := []) (post := []) (s := ⟨1, 0, bl, l, []⟩) hg.rowD
    rw [e1, e2, e3]
    exact this
  rw [hput] at hr
  refine ⟨hr, hg, fun id => ?_, by rw [hop]; rfl, fun _ => hop⟩
  rw [hL, hG, mget_put, e1]
  show _ = List.find? _ [_]
  rw [List.find?_cons]
  by_cases hid : (1 : Int) = id
  · rw [if_pos hid]
    simp [hid, hp, hpl]
  · rw [if_neg hid]
    simp [hid, mget_nil]
theorem raw_mk {W : World} {m b : Nat} {bl ep nx : Int} {op : Il} (hbox : W.heap[m]? = some (.cells #[.int .i64 bl, .int .i64 ep, .int .i64 nx, .slice op.a op.n op.c, .slice none 0 0, .slice none 0 0, .map (some b)] 91 (0, 0))) (hmap : MapIs encK valShd W b []) (hop : op.own W 0) :
    AtlR W m bl ep nx [] ⟨none, 0, none, 0, b, op, []⟩ :=
  ⟨⟨hbox, OwnR.nil _ _ _, OwnR.nil _ _ _⟩, hmap, List.nodup_nil, (fun _ h => by cases h), hop, fun i _ q => by obtain ⟨_, q, _⟩ := q; cases q⟩
set_option maxRecDepth 100000 in
set_option maxHeartbeats 1000000 in
theorem anew_yes (bl : Int) (a : Option Addr) (n c : Nat) (l : List Int) (w : World) (h : Ints w a n c l) (h1 : 1 ≤ bl) (h2 : bl ≤ 256) (hm : Mems l) : Calls Try.prog 24 #[.int .i64 bl, .slice a n c] w (NewOut bl l w) := by
  have d1 : decide (bl < 1) = false := by simp; omega
  have d2 : decide (256 < bl) = false := by simp; omega
  have hb : memsB l = true := decide_eq_true hm
  have HI := Lib.hid (aIsMembers_calls a n c l w h)
  rw [hb] at HI
  have hn : n ≤ 7 := by have := hm.len; have := h.len; omega
  obtain rfl := h.len
  clear hb
  have hMk : ∀ w, (Instr.makeMap 89 none).run Try.prog w = .ok (.map (some w.heap.size)) (w.alloc (.map #[] 0)) := fun _ => rfl
  go_enter Try.func24, Try.ntmps24
  go_wp2_with (go_at_call 20; refine HI.out.mono ?_; rintro e W0 ⟨rfl, hk0⟩)
  obtain ⟨W, hW, hR, hkW⟩ : ∃ W, (W0.alloc (.map #[] 0)).alloc (.cells #[.int .i64 bl, .int .i64 1, .int .i64 2, .slice none 0 0, .slice none 0 0, .slice none 0 0, .map (some W0.heap.size)] 91) = W ∧ AtlR W (W0.heap.size + 1) bl 1 2 [] ⟨none, 0, none, 0, W0.heap.size, Il.nil, []⟩ ∧ Kp Non W0 W := by
    have k1 : Kp Non W0 (W0.alloc (.map #[] 0)) := (Kp.refl _ _).alloc _
    have k2 := (Kp.refl Non (W0.alloc (.map #[] 0))).alloc (.cells #[.int .i64 bl, .int .i64 1, .int .i64 2, .slice none 0 0, .slice none 0 0, .slice none 0 0, .map (some W0.heap.size)] 91)
    refine ⟨_, rfl, raw_mk ?_ ((MapIs.new W0 encK valShd).non k2) (Il.nil_own _ _), k1.trans k2⟩
    have := heap_alloc_new (W0.alloc (.map #[] 0)) (.cells #[.int .i64 bl, .int .i64 1, .int .i64 2, .slice none 0 0, .slice none 0 0, .slice none 0 0, .map (some W0.heap.size)] 91)
    rw [World.size_alloc] at this
    exact this
  rw [hW]
  clear hW
  have hs : (⟨1, 0, bl, ⟨a, l.length, c, l⟩, Pl.nil⟩ : ShdV).there W := ⟨(h.non hk0).non hkW, (Pl.nil_own W 0).there⟩
  refine (lay_calls (W0.heap.size + 1) bl 1 2 [] _ ⟨1, 0, bl, ⟨a, l.length, c, l⟩, Pl.nil⟩ W hR hs ⟨by show l.length ≤ _; omega, by simp [Pl.nil], fun o ho => by cases ho⟩ (by show (0 : Int) < bl; omega) (by simp)).mono ?_
  rintro e W2 ⟨rfl, G', s', hR', hL', hp', hop', hb', hk2, hg2, hsb⟩
  have hA := new_at h1 h2 hm hR' hL' rfl hop' (.inr rfl) hp'
  have hAS : ∀ i, AS ⟨none, 0, none, 0, W0.heap.size, Il.nil, []⟩ (W0.heap.size + 1) i → W0.heap.size ≤ i := by
    rintro i ((e | ⟨_, e, _⟩ | ⟨_, e, _⟩) | e)
    · omega
    · cases e
    · cases e
    · have e : i = W0.heap.size := e
      omega
  go_wp2_with fail
  go_ret2
  refine ⟨W0.heap.size + 1, G', rfl, hA, Kp.comp (hk0.trans hkW) hk2 (fun _ _ f => f) (fun i hi q => by have := hAS i q; have := hk0.size; omega), ?_⟩
  rintro i (q | ⟨p, hp, q⟩ | q)
  · rcases hg2 i q with q | q
    · have := hAS i q; have := hk0.size; omega
    · have := (hk0.trans hkW).size; omega
  · rw [hL'] at hp
    rcases mput_mem p hp with e | e
    · rw [e] at q
      have := hsb i q
      have := (hk0.trans hkW).size
      omega
    · cases e
  · rw [hop'] at q
    obtain ⟨_, q, _⟩ := q
    cases q
set_option maxRecDepth 100000 in
set_option maxHeartbeats 1000000 in
theorem anew_no1 (bl : Int) (a : Option Addr) (n c : Nat) (l : List Int) (w : World) (h : Ints w a n c l) (h1 : bl < 1) : Calls Try.prog 24 #[.int .i64 bl, .slice a n c] w (ValOut (.tuple #[.pointer none, .int .i64 1]) w) := by
  have d1 : decide (bl < 1) = true := by simpa using h1
  have HI := Lib.hid (aIsMembers_calls a n c l w h)
  clear HI h
  go_enter Try.func24, Try.ntmps24
  go_wp2_with fail
  go_ret2
  exact ⟨rfl, Kp.refl _ _⟩
set_option maxRecDepth 100000 in
set_option maxHeartbeats 1000000 in
theorem anew_no2 (bl : Int) (a : Option Addr) (n c : Nat) (l : List Int) (w : World) (h : Ints w a n c l) (h1 : 256 < bl) : Calls Try.prog 24 #[.int .i64 bl, .slice a n c] w (ValOut (.tuple #[.pointer none, .int .i64 1]) w) := by
  have d1 : decide (256 < bl) = true := by simpa using h1
  have HI := Lib.hid (aIsMembers_calls a n c l w h)
  have d2 : decide (bl < 1) = false := (by simp; omega); clear HI h
  go_enter Try.func24, Try.ntmps24
  go_wp2_with fail
  go_ret2
  exact ⟨rfl, Kp.refl _ _⟩
set_option maxRecDepth 100000 in
set_option maxHeartbeats 1000000 in
theorem anew_no3 (bl : Int) (a : Option Addr) (n c : Nat) (l : List Int) (w : World) (h : Ints w a n c l) (h1 : 1 ≤ bl) (h2 : bl ≤ 256) (hm : ¬ Mems l) : Calls Try.prog 24 #[.int .i64 bl, .slice a n c] w (ValOut (.tuple #[.pointer none, .int .i64 1]) w) := by
  have d1 : decide (bl < 1) = false := (by simp; omega); have d2 : decide (256 < bl) = false := (by simp; omega); have hb : memsB l = false := decide_eq_false hm
  have HI := Lib.hid (aIsMembers_calls a n c l w h)
  rw [hb] at HI; clear hb h
  go_enter Try.func24, Try.ntmps24
  go_wp2_with (go_at_call 20; refine HI.out.mono ?_; rintro e W0 ⟨rfl, hk0⟩)
  go_ret2
  exact ⟨rfl, hk0⟩
end Go.Proofs.Ytdijaillcajpaaa
