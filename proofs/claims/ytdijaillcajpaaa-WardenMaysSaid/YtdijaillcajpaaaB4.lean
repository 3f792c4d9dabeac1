/-
  slices.SortFunc of a row of spans of the call's own, by the shelf's contract.
-/
import Derived.Test.YtdijaillcajpaaaB3
import Derived.Test.YtdijaillcajpaaaLay
namespace Go.Proofs.Ytdijaillcajpaaa
open Go.RowKit Go.Shelf Go.Sort

def cmpS (x y : Sp) : Int := if x.1 < y.1 then -1 else if y.1 < x.1 then 1 else 0
theorem ltS (x y : Sp) : ltOf cmpS x y = decide (x.1 < y.1) := by
  unfold ltOf cmpS
  by_cases h1 : x.1 < y.1
  · simp [h1]
  · by_cases h2 : y.1 < x.1 <;> simp [h1, h2]
theorem swoS : SWO (ltOf cmpS) where
  irrefl x := by rw [ltS]; simp
  trans x y z h1 h2 := by rw [ltS] at *; simp at *; omega
  ntrans x y z h1 h2 := by rw [ltS] at *; simp at *; omega

set_option maxHeartbeats 400000 in
theorem cmp_calls (x y : Sp) (W : World) : Calls Try.prog 102 #[valS x, valS y] W fun e w' => e = .returned (.int .i64 (cmpS x y)) ∧ ∃ q os', w' = grow (W.drewN q) os' := by
  unfold cmpS
  by_cases h1 : x.1 < y.1
  · rw [if_pos h1]
    go_enter Try.func102, Try.ntmps102
    go_wp2
    go_ret
    exact ⟨rfl, 0, _, by rw [alloc_eq_grow, alloc_eq_grow, grow_grow]; rfl⟩
  · rw [if_neg h1]
    by_cases h2 : y.1 < x.1
    · rw [if_pos h2]
      go_enter Try.func102, Try.ntmps102
      go_wp2
      go_ret
      exact ⟨rfl, 0, _, by rw [alloc_eq_grow, alloc_eq_grow, grow_grow]; rfl⟩
    · rw [if_neg h2]
      go_enter Try.func102, Try.ntmps102
      go_wp2
      go_ret
      exact ⟨rfl, 0, _, by rw [alloc_eq_grow, alloc_eq_grow, grow_grow]; rfl⟩

theorem flatK_list (d : Array Sp) {t : Nat} (ht : t < d.size * 2) : (d.toList.flatMap encS)[t]? = some (flatK encS 2 d)[t]! := by
  rw [get_flatK encS 2 d t ht]
  have hd : t / 2 < d.size := by omega
  have h1 := flat_at encS 2 encS_len (l := d.toList) (j := t / 2) (x := d[t / 2]!) (by simp [hd]) (i := t % 2) (by omega)
  have e : t / 2 * 2 + t % 2 = t := by omega
  rw [e] at h1
  rw [h1]
  rcases Nat.mod_two_eq_zero_or_one t with h0 | h0 <;> rw [h0] <;> rfl

theorem heap_putRow (w : World) (blk off : Nat) (F cur : Array Value) (e : TypeId) (fr : Nat × Nat) (h : w.heap[blk]? = some (.cells cur e fr)) : (putRow id w blk off F).heap[blk]? = some (.cells (putCells id off F cur) e fr) := by
  simp [putRow, mapBlock, Array.getElem?_modify, h, onCells]
theorem heap_putRow_other (w : World) (blk off : Nat) (F : Array Value) {k : Nat} (h : k ≠ blk) : (putRow id w blk off F).heap[k]? = w.heap[k]? := by
  simp [putRow, mapBlock, Array.getElem?_modify, Ne.symm h]

theorem kp_sortWorld (w : World) (blk off n : Nat) (d : Array Sp) (os : Array Obj) : Kp (One blk) w (sortWorldK encS 2 w blk off n d os) := by
  have hs : (putRowK encS 2 (Sort.ahead w n) blk off d).heap.size = w.heap.size := by simp [putRowK]
  refine ⟨rfl, rfl, rfl, ?_, fun k hk hn => ?_⟩
  · show w.heap.size ≤ (grow (putRowK encS 2 (Sort.ahead w n) blk off d) os).heap.size
    rw [size_grow, hs]; omega
  · show (grow (putRowK encS 2 (Sort.ahead w n) blk off d) os).heap[k]? = _
    rw [heap_grow_old _ _ (by rw [hs]; exact hk)]
    exact heap_putRow_other _ _ _ _ hn

theorem own_sortWorld {w : World} {base g c n : Nat} {l : List Sp} {d : Array Sp} (h : OwnS w base (some ⟨g, 0, none⟩) n c l) (hd : d.size = n) (m : Nat) (os : Array Obj) : OwnS (sortWorldK encS 2 w g 0 m d os) base (some ⟨g, 0, none⟩) n c d.toList := by
  obtain ⟨cur, hb, hg, hnc, hm, hs, ht, hl⟩ := h.cur
  have hsz : (putRowK encS 2 (Sort.ahead w m) g 0 d).heap.size = w.heap.size := by simp [putRowK]
  have h1 : (sortWorldK encS 2 w g 0 m d os).heap[g]? = some (.cells (putCells id 0 (flatK encS 2 d) cur) 36 (0, 0)) := by
    show (grow (putRowK encS 2 (Sort.ahead w m) g 0 d) os).heap[g]? = _
    rw [heap_grow_old _ _ (by rw [hsz]; exact heap_lt hg)]
    exact heap_putRow _ _ _ _ _ _ _ hg
  refine OwnR.mk hb h1 hnc hm (by simpa [putCells] using hs) ?_ (by rw [flat_len encS 2 encS_len]; simp [hd])
  apply List.ext_getElem?
  intro t
  rw [List.getElem?_take]
  split
  · rename_i hlt
    rw [flatK_list d (by omega)]
    have hcs : t < cur.size := by
      have : n * 2 ≤ c * 2 := Nat.mul_le_mul_right 2 hnc
      omega
    simp only [putCells, Array.getElem?_toList, Array.getElem?_mapIdx, Array.getElem?_eq_getElem hcs, Option.map_some, size_flatK]
    rw [if_pos (by omega)]
    rfl
  · rw [List.getElem?_eq_none]
    rw [flat_len encS 2 encS_len]; simp; omega

/-- What a sort leaves: the row, rising. -/
def SortOut (base : Nat) (a : Option Addr) (n c : Nat) (l : List Sp) (w : World) (r : Ending) (w' : World) : Prop :=
  r = .returned (.tuple #[]) ∧ ∃ d, OwnS w' base a n c d ∧ d.Perm l ∧ Up d ∧ Kp (Blk a) w w'

theorem up_of_sorted {d : Array Sp} (h : SortedIn (ltOf cmpS) 0 d.size d) : Up d.toList := by
  have key : ∀ l : List Sp, (∀ i j (hi : i < l.length) (hj : j < l.length), i < j → l[i].1 ≤ l[j].1) → Up l := by
    intro l
    induction l with
    | nil => intro _; trivial
    | cons s l ih =>
      intro h
      refine ⟨fun t ht => ?_, ih fun i j hi hj hij => ?_⟩
      · obtain ⟨j, hj, rfl⟩ := List.mem_iff_getElem.1 ht
        exact h 0 (j + 1) (by simp) (by simp; omega) (by omega)
      · exact h (i + 1) (j + 1) (by simp; omega) (by simp; omega) (by omega)
  refine key _ fun i j hi hj hij => ?_
  have := h i j (Nat.zero_le _) hij (by simpa using hj)
  rw [ltS] at this
  simp at hi hj
  rw [getElem!_pos d i hi, getElem!_pos d j hj] at this
  simp at this ⊢
  exact this

theorem sort_calls (a : Option Addr) (n c : Nat) (l : List Sp) (base : Nat) (w : World) (h : OwnS w base a n c l) (hn : n < 4611686018427387904) : Calls Try.prog 101 #[.slice a n c, .func (.func 102) #[] #[]] w (SortOut base a n c l w) := by
  have hl := h.len encS_len (by omega)
  rcases h.lie with ⟨rfl, rfl, rfl, _⟩ | ⟨g, cur, rfl, _⟩
  · have hcon := AnyF.slices_SortFunc_none sortSpan none 0 (.func (.func 102) #[] #[]) w
    refine Calls.mono (R := fun e w' => e = .returned (.tuple #[]) ∧ w' = w) hcon ?_
    rintro e w' ⟨rfl, rfl⟩
    obtain rfl : l = [] := List.eq_nil_of_length_eq_zero hl.symm
    exact ⟨rfl, [], h, List.Perm.refl _, trivial, Kp.refl _ _⟩
  · have hR := h.reads encS_len (by omega)
    obtain ⟨d, hd⟩ : ∃ d : Array Sp, d.toList = l := ⟨l.toArray, by simp⟩
    subst hd
    have hds : d.size = n := by simpa using hl.symm
    subst hds
    have hH : HoldsK encS 2 w g 0 d := fun j hj => by
      rw [size_flatK] at hj
      refine ⟨?_, h.fz rfl _⟩
      have := hR.flat encS_len (by omega) (flatK_list d hj)
      exact this
    have hcon := AnyQ.slices_SortFunc sortSpan 2 Try.isAgg36 Try.sizeOf36 encS encS_len encS_one cmpS swoS 102 #[] g 0 c d w (enters_of Try.func102 (by kernel_rfl) rfl) (fun _ _ _ _ x y => cmp_calls x y _) hH (h.blk g ⟨_, rfl, rfl⟩).2 hn
    refine hcon.mono ?_
    rintro e w' ⟨rfl, d', m, os, hp, hs, rfl⟩
    have hsz : d'.size = d.size := hp.1
    refine ⟨rfl, d'.toList, own_sortWorld h hsz m os, ?_, ?_, (kp_sortWorld w g 0 m d' os).mono fun i _ q => ⟨_, rfl, q.symm⟩⟩
    · have := hp.2.2
      have e1 : d'.extract 0 d.size = d' := by rw [← hsz]; simp
      have e2 : d.extract 0 d.size = d := by simp
      rw [e1, e2] at this
      exact this
    · rw [← hsz] at hs
      exact up_of_sorted hs
end Go.Proofs.Ytdijaillcajpaaa
