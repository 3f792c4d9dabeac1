/-
  A journal as data, and what keeps it.
-/
import Derived.Test.YtclbapmjhchokaaJ5
import Derived.Test.YtclbapmjhchokaaG1
namespace Go.Proofs.Ytclbapmjhchokaa
open Go.RowKit
variable {F : Nat → Prop}

/-- A journal, as data. -/
structure JSt where
  image : List UInt8
  recs : List (List UInt8)
  down : Bool

/-- The values v are the rows of bytes rs. -/
structure Recs (F : Nat → Prop) (w : World) (vs : List Value) (rs : List (List UInt8)) : Prop where
  len : vs.length = rs.length
  at_ : ∀ (i : Nat) (r : List UInt8), rs[i]? = some r → ∃ b k, vs[i]? = some (Value.slice b r.length k) ∧ Bytes w b r.length k r ∧ Away F b r

theorem Recs.nil (w : World) : Recs F w [] [] := ⟨rfl, fun i r h => by simp at h⟩
theorem Recs.add {w : World} {vs : List Value} {rs : List (List UInt8)} (h : Recs F w vs rs) {b : Option Addr} {k : Nat} {r : List UInt8} (hb : Bytes w b r.length k r) (ha : Away F b r) : Recs F w (vs ++ [Value.slice b r.length k]) (rs ++ [r]) := by
  refine ⟨by simp [h.len], fun i x hx => ?_⟩
  by_cases hi : i < rs.length
  · rw [List.getElem?_append_left hi] at hx
    obtain ⟨b', k', h1, h2⟩ := h.at_ i x hx
    exact ⟨b', k', by rw [List.getElem?_append_left (by rw [h.len]; exact hi)]; exact h1, h2⟩
  · have hl := (List.getElem?_eq_some_iff.1 hx).1
    simp at hl
    obtain rfl : i = rs.length := by omega
    simp at hx
    subst hx
    exact ⟨b, k, by rw [List.getElem?_append_right (by rw [h.len]; exact Nat.le_refl _)]; simp [h.len], hb, ha⟩

/-- Bytes stay where no byte may change. -/
theorem Bytes.nob {S : Nat → Prop} {w w' : World} {a : Option Addr} {n c : Nat} {l : List UInt8} (h : Bytes w a n c l) (k : Kp S w w') (hs : NoB S w) : Bytes w' a n c l :=
  h.kp k fun ad b _ hc => hs ad b hc
theorem Bytes.fenced {w w' : World} {a : Option Addr} {n c : Nat} {l : List UInt8} (h : Bytes w a n c l) (k : Kp F w w') (ha : Away F a l) : Bytes w' a n c l :=
  ⟨h.len, h.cap, h.max, h.nil, fun ad j b had hj => k.cell (h.cells ad j b had hj) (by
    rw [Addr.add_block]
    exact ha (fun e => by rw [e] at hj; cases hj) ad had)⟩
theorem Bytes.away_more {G : Nat → Prop} {w : World} {a : Option Addr} {n c : Nat} {l : List UInt8} (h : Bytes w a n c l) (ha : Away F a l) (hG : ∀ j, G j → F j ∨ w.heap.size ≤ j) : Away G a l := by
  intro hl ad had hj
  rcases hG _ hj with h1 | h1
  · exact ha hl ad had h1
  · obtain ⟨x, r, rfl⟩ := List.exists_cons_of_ne_nil hl
    have := World.block_lt_of_cell? w _ (h.cells ad 0 x had rfl)
    rw [Addr.add_block] at this
    omega
theorem Dev.kp {S : Nat → Prop} {w w' : World} {d : Nat} {s : St} (h : Dev F w d s) (k : Kp S w w') (hd : ¬ S d) (hs : NoB S w) : Dev F w' d s := by
  obtain ⟨ia, ic, sa, sc, la, lc, h⟩ := h
  exact ⟨_, _, _, _, _, _, h.kp k hd hs⟩
theorem Dev.noB {w : World} {d : Nat} {s : St} (h : Dev F w d s) : NoB (One d) w := by
  obtain ⟨ia, ic, sa, sc, la, lc, h⟩ := h
  exact fun ad b hc => h.apart (some ad) ad b rfl hc
theorem Dev.tag {w : World} {d : Nat} {s : St} (h : Dev F w d s) : ∃ cs fr, w.heap[d]? = some (.cells cs 86 fr) := by
  obtain ⟨ia, ic, sa, sc, la, lc, h⟩ := h
  exact ⟨_, _, h.row⟩
theorem Recs.kp {S : Nat → Prop} {w w' : World} {vs : List Value} {rs : List (List UInt8)} (h : Recs F w vs rs) (k : Kp S w w') (hs : NoB S w) : Recs F w' vs rs :=
  ⟨h.len, fun i r hr => let ⟨b, c, h1, h2, h3⟩ := h.at_ i r hr; ⟨b, c, h1, h2.nob k hs, h3⟩⟩

def JRow (d : Nat) (J : JSt) (ia : Option Addr) (ic : Nat) (ra : Option Addr) (rc : Nat) : Array Value :=
  #[.pointer (some ⟨d, 0, none⟩), .slice ia J.image.length ic, .slice ra J.recs.length rc, .int .i64 (sizes J.recs : Nat), .bool J.down]

structure JouAt (F : Nat → Prop) (b0 : Nat) (w : World) (j d : Nat) (s : St) (J : JSt) (ra : Option Addr) (rc : Nat) (ia : Option Addr) (ic : Nat) (vs : List Value) : Prop where
  row : w.heap[j]? = some (.cells (JRow d J ia ic ra rc) 96 (0, 0))
  dev : Dev F w d s
  image : Bytes w ia J.image.length ic J.image
  ai : Away F ia J.image
  rows : SRow w 22 ra J.recs.length rc vs
  recs : Recs F w vs J.recs
  fd : ¬ F d
  fj : ¬ F j
  fr : ∀ k, Blk ra k → ¬ F k
  bd : b0 ≤ d
  bj : b0 ≤ j
  br : ∀ k, Blk ra k → b0 ≤ k

/-- The block j is a journal that holds J, on the device d that holds s; its row of records lies at ra; nothing of it ahead of b0, nothing in F. -/
def Jou (F : Nat → Prop) (b0 : Nat) (w : World) (j d : Nat) (s : St) (J : JSt) (ra : Option Addr) : Prop := ∃ rc ia ic vs, JouAt F b0 w j d s J ra rc ia ic vs
/-- The blocks that a journal's call may change. -/
def JS (d j : Nat) (ra : Option Addr) (k : Nat) : Prop := k = d ∨ k = j ∨ Blk ra k

section
variable {b0 : Nat} {w : World} {j d : Nat} {s : St} {J : JSt} {ra : Option Addr} {rc : Nat} {ia : Option Addr} {ic : Nat} {vs : List Value}
theorem JouAt.lt (h : JouAt F b0 w j d s J ra rc ia ic vs) : j < w.heap.size := heap_lt h.row
theorem JouAt.c (h : JouAt F b0 w j d s J ra rc ia ic vs) (i : Nat) : w.cell? ⟨j, i, none⟩ = (JRow d J ia ic ra rc)[i]? := cell_of_row w j i _ _ _ h.row
theorem JouAt.c0 (h : JouAt F b0 w j d s J ra rc ia ic vs) : w.cell? ⟨j, 0, none⟩ = some (.pointer (some ⟨d, 0, none⟩)) := h.c 0
theorem JouAt.c1 (h : JouAt F b0 w j d s J ra rc ia ic vs) : w.cell? ⟨j, 1, none⟩ = some (.slice ia J.image.length ic) := h.c 1
theorem JouAt.c2 (h : JouAt F b0 w j d s J ra rc ia ic vs) : w.cell? ⟨j, 2, none⟩ = some (.slice ra J.recs.length rc) := h.c 2
theorem JouAt.c3 (h : JouAt F b0 w j d s J ra rc ia ic vs) : w.cell? ⟨j, 3, none⟩ = some (.int .i64 (sizes J.recs : Nat)) := h.c 3
theorem JouAt.c4 (h : JouAt F b0 w j d s J ra rc ia ic vs) : w.cell? ⟨j, 4, none⟩ = some (.bool J.down) := h.c 4
theorem JouAt.f (h : JouAt F b0 w j d s J ra rc ia ic vs) (i : Nat) : w.frozen? ⟨j, i, none⟩ = false := by
  simp only [World.frozen?, h.row]
  simp
theorem JouAt.jnoB (h : JouAt F b0 w j d s J ra rc ia ic vs) : NoB (One j) w := by
  rintro ⟨k, o, sp⟩ b hc rfl
  obtain rfl : sp = none := World.cell?_spot hc
  have hc : w.cell? ⟨k, o, none⟩ = some (byteV b) := hc
  rw [h.c] at hc
  unfold JRow at hc
  match o with
  | 0 => cases hc
  | 1 => cases hc
  | 2 => cases hc
  | 3 => cases hc
  | 4 => cases hc
  | o + 5 => simp at hc
theorem JouAt.noB (h : JouAt F b0 w j d s J ra rc ia ic vs) : NoB (JS d j ra) w := by
  rintro ad b hc (h1 | h1 | h1)
  · exact h.dev.noB ad b hc h1
  · exact h.jnoB ad b hc h1
  · exact h.rows.noB ad b hc h1
theorem JouAt.jd (h : JouAt F b0 w j d s J ra rc ia ic vs) : j ≠ d := by
  rintro rfl
  obtain ⟨cs, fr, h1⟩ := h.dev.tag
  rw [h.row] at h1
  cases h1
theorem JouAt.rj (h : JouAt F b0 w j d s J ra rc ia ic vs) : ¬ Blk ra j := by
  intro hb
  obtain ⟨cs, fr, h1⟩ := h.rows.tag j hb
  rw [h.row] at h1
  cases h1
theorem JouAt.rd (h : JouAt F b0 w j d s J ra rc ia ic vs) : ¬ Blk ra d := by
  intro hb
  obtain ⟨cs, fr, h1⟩ := h.rows.tag d hb
  obtain ⟨cs', fr', h2⟩ := h.dev.tag
  rw [h2] at h1
  cases h1
theorem JouAt.jou (h : JouAt F b0 w j d s J ra rc ia ic vs) : Jou F b0 w j d s J ra := ⟨_, _, _, _, h⟩
theorem JouAt.kp {S : Nat → Prop} {w' : World} (h : JouAt F b0 w j d s J ra rc ia ic vs) (k : Kp S w w') (hd : ¬ S d) (hj : ¬ S j) (hr : ∀ i, Blk ra i → ¬ S i) (hs : NoB S w) : JouAt F b0 w' j d s J ra rc ia ic vs :=
  ⟨k.heap h.row hj, h.dev.kp k hd hs, h.image.nob k hs, h.ai, h.rows.kp k hr, h.recs.kp k hs, h.fd, h.fj, h.fr, h.bd, h.bj, h.br⟩
theorem JouAt.non {w' : World} (h : JouAt F b0 w j d s J ra rc ia ic vs) (k : Kp Non w w') : JouAt F b0 w' j d s J ra rc ia ic vs :=
  h.kp k (fun f => f) (fun f => f) (fun _ _ f => f) (fun _ _ _ f => f)
/-- The device went on. -/
theorem JouAt.step {w' : World} {s' : St} (h : JouAt F b0 w j d s J ra rc ia ic vs) (k : Kp (One d) w w') (hd : Dev F w' d s') : JouAt F b0 w' j d s' J ra rc ia ic vs :=
  ⟨k.heap h.row h.jd, hd, h.image.nob k h.dev.noB, h.ai, h.rows.kp k (fun i hb e => h.rd ((show i = d from e) ▸ hb)), h.recs.kp k h.dev.noB, h.fd, h.fj, h.fr, h.bd, h.bj, h.br⟩
/-- Fields of the journal are written. -/
theorem JouAt.set {w' : World} {J' : JSt} {ra' : Option Addr} {rc' : Nat} {ia' : Option Addr} {ic' : Nat} {vs' : List Value} (h : JouAt F b0 w j d s J ra rc ia ic vs) (k : Kp (JS j j ra) w w')
    (hrow : w'.heap[j]? = some (.cells (JRow d J' ia' ic' ra' rc') 96 (0, 0))) (hi : Bytes w' ia' J'.image.length ic' J'.image) (ha : Away F ia' J'.image) (hr : SRow w' 22 ra' J'.recs.length rc' vs') (hrs : Recs F w' vs' J'.recs)
    (hf : ∀ k, Blk ra' k → ¬ F k) (hb : ∀ k, Blk ra' k → b0 ≤ k) : JouAt F b0 w' j d s J' ra' rc' ia' ic' vs' := by
  refine ⟨hrow, h.dev.kp k ?_ ?_, hi, ha, hr, hrs, h.fd, h.fj, hf, h.bd, h.bj, hb⟩
  · rintro (h1 | h1 | h1)
    · exact h.jd h1.symm
    · exact h.jd h1.symm
    · exact h.rd h1
  · rintro ad b hc (h1 | h1 | h1)
    · exact h.jnoB ad b hc h1
    · exact h.jnoB ad b hc h1
    · exact h.rows.noB ad b hc h1
end
section
variable {b0 : Nat} {w w' : World} {j d : Nat} {s s' : St} {J : JSt} {ra : Option Addr}
theorem Jou.non (h : Jou F b0 w j d s J ra) (k : Kp Non w w') : Jou F b0 w' j d s J ra := by
  obtain ⟨_, _, _, _, h⟩ := h
  exact ⟨_, _, _, _, h.non k⟩
theorem Jou.kp {S : Nat → Prop} (h : Jou F b0 w j d s J ra) (k : Kp S w w') (hd : ¬ S d) (hj : ¬ S j) (hr : ∀ i, Blk ra i → ¬ S i) (hs : NoB S w) : Jou F b0 w' j d s J ra := by
  obtain ⟨_, _, _, _, h⟩ := h
  exact ⟨_, _, _, _, h.kp k hd hj hr hs⟩
theorem Jou.step (h : Jou F b0 w j d s J ra) (k : Kp (One d) w w') (hd : Dev F w' d s') : Jou F b0 w' j d s' J ra := by
  obtain ⟨_, _, _, _, h⟩ := h
  exact ⟨_, _, _, _, h.step k hd⟩
theorem Jou.dev (h : Jou F b0 w j d s J ra) : Dev F w d s := by
  obtain ⟨_, _, _, _, h⟩ := h
  exact h.dev
theorem Jou.noB (h : Jou F b0 w j d s J ra) : NoB (JS d j ra) w := by
  obtain ⟨_, _, _, _, h⟩ := h
  exact h.noB
theorem Jou.old (h : Jou F b0 w j d s J ra) : ∀ k, JS d j ra k → b0 ≤ k ∧ k < w.heap.size := by
  obtain ⟨_, _, _, _, h⟩ := h
  rintro k (rfl | rfl | hk)
  · exact ⟨h.bd, h.dev.lt⟩
  · exact ⟨h.bj, h.lt⟩
  · exact ⟨h.br k hk, h.rows.lt k hk⟩
theorem Jou.nf (h : Jou F b0 w j d s J ra) : ∀ k, JS d j ra k → ¬ F k := by
  obtain ⟨_, _, _, _, h⟩ := h
  rintro k (rfl | rfl | hk)
  · exact h.fd
  · exact h.fj
  · exact h.fr k hk
/-- What stood ahead of a journal's blocks stands still. -/
theorem Jou.kpt {w0 : World} (h : Jou F w0.heap.size w j d s J ra) (h0 : Kp Non w0 w) (k : Kp (JS d j ra) w w') : Kp Non w0 w' :=
  h0.comp k (fun _ _ f => f) (fun i hi hs => by have := (h.old i hs).1; omega)
/-- A write into blocks of the fence. -/
theorem Jou.fenced (h : Jou F b0 w j d s J ra) (k : Kp F w w') : Jou F b0 w' j d s J ra := by
  obtain ⟨rc, ia, ic, vs, h⟩ := h
  exact ⟨rc, ia, ic, vs, k.heap h.row h.fj, h.dev.fenced k h.fd, h.image.fenced k h.ai, h.ai, h.rows.kp k h.fr, ⟨h.recs.len, fun i r hr => let ⟨b, c, h1, h2, h3⟩ := h.recs.at_ i r hr; ⟨b, c, h1, h2.fenced k h3, h3⟩⟩, h.fd, h.fj, h.fr, h.bd, h.bj, h.br⟩
/-- Blocks that came since are of the fence too. -/
theorem Jou.more {G : Nat → Prop} (h : Jou F b0 w j d s J ra) (k : Kp Non w w') (hG : ∀ i, G i → F i ∨ (w.heap.size ≤ i ∧ i < w'.heap.size)) : Jou G b0 w' j d s J ra := by
  have hold := h.old
  have hnf := h.nf
  obtain ⟨rc, ia, ic, vs, h⟩ := h
  have hG' : ∀ i, G i → F i ∨ w.heap.size ≤ i := fun i hi => (hG i hi).imp_right fun h => h.1
  have hn : ∀ i, JS d j ra i → ¬ G i := fun i hi hg => by
    rcases hG' i hg with h1 | h1
    · exact hnf i hi h1
    · have := (hold i hi).2; omega
  exact ⟨rc, ia, ic, vs, k.heap h.row (fun f => f), h.dev.more k hG, h.image.non k, h.image.away_more h.ai hG', h.rows.non k, ⟨h.recs.len, fun i r hr => let ⟨b, c, h1, h2, h3⟩ := h.recs.at_ i r hr; ⟨b, c, h1, h2.non k, h2.away_more h3 hG'⟩⟩, hn _ (.inl rfl), hn _ (.inr (.inl rfl)), fun i hi => hn i (.inr (.inr hi)), h.bd, h.bj, h.br⟩
end
end Go.Proofs.Ytclbapmjhchokaa
