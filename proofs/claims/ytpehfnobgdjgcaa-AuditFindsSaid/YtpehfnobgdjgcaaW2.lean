/-
  What one client does alone: the walk.
-/
import Derived.Test.YtpehfnobgdjgcaaW1
import Derived.Test.YtpehfnobgdjgcaaQ1
namespace Go.Proofs.Ytpehfnobgdjgcaa
open Go.RowKit

theorem infoT : (Try.prog.info? 9).map (fun i => (i.zero, i.size, i.bytes)) = some (some (.string ByteArray.empty), 1, 16) := by kernel_rfl
theorem infoRan : (Try.prog.info? 61).map (fun i => (i.zero, i.size, i.bytes)) = some (some (.agg #[.int .i64 0, .int .i64 0, .int .i64 0, .int .i64 0, .int .i64 0, .int .i64 0, .int .i64 0, .slice none 0 0, .bool false, .slice none 0 0]), 10, 112) := by kernel_rfl
theorem empties_flat : ∀ m, (List.replicate m ByteArray.empty).flatMap encT = List.replicate m (Value.string ByteArray.empty) := fun m => by
  induction m with
  | zero => rfl
  | succ m ih => rw [List.replicate_succ, List.replicate_succ, List.flatMap_cons, ih]; rfl
/-- make([]string, n). -/
theorem run_mk_texts (w : World) (n : Nat) (hn : n ≤ 1000000) : ∃ w', (Instr.makeSlice 26 (.int .i64 (n : Int)) (.int .i64 (n : Int))).run Try.prog w = .ok (.slice (some ⟨w.heap.size, 0, none⟩) n n) w' ∧ OwnT w' w.heap.size (some ⟨w.heap.size, 0, none⟩) n n (List.replicate n ByteArray.empty) ∧ Kp Non w w' := by
  obtain ⟨i0, hi0, hz0, hz1, hz2⟩ := info_parts infoT
  obtain ⟨w', h1, h2, h3⟩ := run_makeSlice_full (P := Try.prog) w w.heap.size 26 9 i0 (.string ByteArray.empty) 1 Try.underlying26 hi0 hz0 hz1 .i64 .i64 n (by omega) (by rw [hz2]; omega) (by unfold maxLen; omega) (Nat.le_refl _)
  refine ⟨w', h1, ?_, (Kp.refl Non w).grown h3 (fun _ h => by cases h)⟩
  have e : (madeCells (Value.string ByteArray.empty).cells (n * 1)).toList = (List.replicate n ByteArray.empty).flatMap encT := by
    rw [empties_flat]
    apply List.ext_getElem
    · simp [madeCells]
    · intro k h1 h2
      simp only [madeCells, Value.cells, List.getElem_replicate, Array.getElem_toList, Array.getElem_map]
      simp [Nat.mod_one]
  show w'.ownsRow w.heap.size _ 1 _ n ((List.replicate n ByteArray.empty).flatMap encT)
  rw [← e]
  exact h2
theorem OwnT.set1 {w : World} {base g n c : Nat} {l : List ByteArray} (h : OwnT w base (some ⟨g, 0, none⟩) n c l) (i : Nat) (x : ByteArray) : OwnT (w.setCell ⟨g, i, none⟩ (.string x)) base (some ⟨g, 0, none⟩) n c (l.set i x) :=
  OwnR.set h i (.string x) (by
    have : ∀ l : List ByteArray, l.flatMap encT = l.map Value.string := fun l => by induction l with | nil => rfl | cons y l ih => simp [encT] at ih ⊢; exact ih
    rw [this, this, List.map_set])
theorem OwnT.at_ {w : World} {base g n c : Nat} {l : List ByteArray} (h : OwnT w base (some ⟨g, 0, none⟩) n c l) {i : Nat} {x : ByteArray} (hx : l[i]? = some x) : w.cell? ⟨g, i, none⟩ = some (.string x) := by
  have := (h.reads encT_len (by omega)).get (i := 0) hx rfl
  rw [Nat.mul_one, Nat.add_zero, Nat.zero_add] at this
  exact this
theorem OwnT.addr {w : World} {base n c : Nat} {a : Option Addr} {l : List ByteArray} (h : OwnT w base a n c l) (hn : 0 < n) : ∃ g, a = some ⟨g, 0, none⟩ ∧ base ≤ g := by
  rcases OwnR.lie h with ⟨_, h0, _⟩ | ⟨g, cur, e, hb, _⟩
  · omega
  · exact ⟨g, e, hb⟩
/-- The texts of a deed, in rows of their own. -/
def OwnD (W : World) (base : Nat) (d : DeedV) : Prop := OwnT W base d.da.a d.da.n d.da.c d.da.l ∧ OwnT W base d.re.a d.re.n d.re.c d.re.l
abbrev OwnDs (w : World) (base : Nat) := OwnR encDeed 9 w base 28
abbrev OwnRs (w : World) (base : Nat) := OwnR encRan 10 w base 61
abbrev OwnLs (w : World) (base : Nat) := OwnR encLife 3 w base 48
/-- What alone leaves: the deeds, the log, each row its own. -/
structure AloneSt (W : World) (base n : Nat) (ds : List DeedV) (da : Option Addr) (dc : Nat) (lb : Nat) (la : Option Addr) (lc : Nat) : Prop where
  al : Al n ds
  deeds : OwnDs W base da ds.length dc ds
  lives : OwnLs W base (some ⟨lb, 0, none⟩) 1 1 [⟨0, 1, ⟨la, ds.length, lc, ds.map ranD⟩⟩]
  log : OwnRs W base la ds.length lc (ds.map ranD)
  texts : ∀ d ∈ ds, OwnD W base d
def AloneOut (n N : Nat) (w : World) (e : Ending) (w' : World) : Prop := ∃ ds da dc lb la lc, e = .returned (.tuple #[.slice da ds.length dc, .slice (some ⟨lb, 0, none⟩) 1 1]) ∧ ds.length = N ∧ AloneSt w' w.heap.size n ds da dc lb la lc ∧ Kp Non w w'
/-- Between two deeds. -/
structure AloneW (W : World) (base b8 n k : Nat) (ds : List DeedV) (A : List ByteArray) (da : Option Addr) (dc : Nat) (la : Option Addr) (lc : Nat) : Prop where
  al : Al n ds
  arrOf : ArrOf n A ds
  len : ds.length = k
  arr : OwnT W base (some ⟨base, 0, none⟩) n n A
  deeds : OwnDs W (b8 + 1) da k dc ds
  box : Bx W b8 48 [.int .i64 0, .int .i64 1, .slice la k lc]
  log : OwnRs W (b8 + 1) la k lc (ds.map ranD)
  texts : ∀ d ∈ ds, OwnD W (b8 + 1) d
theorem AloneW.far {W W' : World} {base b8 n k : Nat} {ds : List DeedV} {A : List ByteArray} {da : Option Addr} {dc : Nat} {la : Option Addr} {lc : Nat} (h : AloneW W base b8 n k ds A da dc la lc) (r : Kp (One base) W W') (hb : base < b8) :
    OwnDs W' (b8 + 1) da k dc ds ∧ Bx W' b8 48 [.int .i64 0, .int .i64 1, .slice la k lc] ∧ OwnRs W' (b8 + 1) la k lc (ds.map ranD) ∧ ∀ d ∈ ds, OwnD W' (b8 + 1) d := by
  have no : ∀ {i : Nat}, b8 + 1 ≤ i → ¬ One base i := fun h e => by have : _ = base := e; omega
  refine ⟨OwnR.kp h.deeds r fun i hi => no (h.deeds.blk i hi).1, Bx.kp h.box r fun e => by have : b8 = base := e; omega, OwnR.kp h.log r fun i hi => no (h.log.blk i hi).1, fun d hd => ?_⟩
  obtain ⟨h1, h2⟩ := h.texts d hd
  exact ⟨OwnR.kp h1 r fun i hi => no (h1.blk i hi).1, OwnR.kp h2 r fun i hi => no (h2.blk i hi).1⟩
theorem run_txb (W : World) (b : Nat) (hb : b = W.heap.size) (k j : Nat) (hk : k < 256) (hj : j < 256) : (convert 94 9 (.slice (some ⟨b, 0, none⟩) 3 3)).run Try.prog (W.alloc (.cells #[.int .u8 k, .int .u8 j, .int .u8 122] 5)) = .ok (.string (txb k j)) (W.alloc (.cells #[.int .u8 k, .int .u8 j, .int .u8 122] 5)) := by
  have e1 : byteV (UInt8.ofNat k) = .int .u8 k := by
    unfold byteV
    congr 1
    simp
    omega
  have e2 : byteV (UInt8.ofNat j) = .int .u8 j := by
    unfold byteV
    congr 1
    simp
    omega
  subst hb
  exact run_string_bytes _ 94 9 5 Try.underlying94 Try.underlying5 Try.underlying9 _ 3 3 [UInt8.ofNat k, UInt8.ofNat j, 122] ⟨rfl, by omega, by omega, (fun h => by cases h), fun ad i x ha hx => by
    cases ha
    match i, hx with
    | 0, hx => cases hx; rw [e1]; exact cell_new rfl 0
    | 1, hx => cases hx; rw [e2]; exact cell_new rfl 1
    | 2, hx => cases hx; exact cell_new rfl 2
    | i + 3, hx => simp at hx⟩
theorem AloneW.non {W W' : World} {base b8 n k : Nat} {ds : List DeedV} {A : List ByteArray} {da : Option Addr} {dc : Nat} {la : Option Addr} {lc : Nat} (h : AloneW W base b8 n k ds A da dc la lc) (r : Kp Non W W') : AloneW W' base b8 n k ds A da dc la lc :=
  ⟨h.al, h.arrOf, h.len, OwnR.non h.arr r, OwnR.non h.deeds r, Bx.non h.box r, OwnR.non h.log r, fun d hd => ⟨OwnR.non (h.texts d hd).1 r, OwnR.non (h.texts d hd).2 r⟩⟩
/-- Within a deed, behind m of its blocks. -/
structure AIn (W0 W : World) (base b11 b12 n k : Nat) (op : Int) (f t : Nat) (A : List ByteArray) (m : Nat) (x y : Tx) : Prop where
  box : BxD W b11 ⟨1, (k : Int) + 1, op, f, t, x, 2 * (k : Int) + 1, 2 * (k : Int) + 2, y⟩
  rep : Bx W b12 59 [.bool true, .slice none 0 0]
  da : OwnT W (b12 + 1) x.a x.n x.c x.l
  re : OwnT W (b12 + 1) y.a y.n y.c y.l
  arr : OwnT W base (some ⟨base, 0, none⟩) n n (arrAt op k A f m)
  xl : x.l = daAt op k f m
  yl : y.l = reAt op A f m
  xz : op ≠ 2 → x = ⟨none, 0, 0, []⟩
  yz : op ≠ 1 → y = ⟨none, 0, 0, []⟩
  kp : Kp (One base) W0 W
theorem reAt_succ {op : Int} (h : op = 1) (A : List ByteArray) (f m : Nat) : reAt op A f (m + 1) = reAt op A f m ++ [textAt A (f + m)] := by simp [reAt, h, List.range_succ]
theorem daAt_succ {op : Int} (h : op = 2) (k f m : Nat) : daAt op k f (m + 1) = daAt op k f m ++ [txb k (f + m)] := by simp [daAt, h, List.range_succ]
/-- What region 16 reads. -/
structure C16 (b11 base b : Nat) (y : Tx) (n : Nat) (s : ByteArray) (W : World) : Prop where
  d8 : W.cell? ⟨b11, 8, none⟩ = some (.slice y.a y.n y.c)
  a0 : W.cell? ⟨base, b, none⟩ = some (.string s)
theorem no_row {α β : Type} {W : World} {encA : α → List Value} {ka : Nat} {ba : Nat} {ea : TypeId} {a : Option Addr} {n c : Nat} {l : List α} {encB : β → List Value} {kb : Nat} {bb : Nat} {eb : TypeId} {a' : Option Addr} {n' c' : Nat} {l' : List β}
    (h : OwnR encA ka W ba ea a n c l) (h' : OwnR encB kb W bb eb a' n' c' l') (ht : ea ≠ eb) : ∀ i, Blk a i → ¬ Blk a' i := fun i hi hi' => by
  obtain ⟨cs, e1⟩ := h.tag i hi
  obtain ⟨cs', e2⟩ := h'.tag i hi'
  rw [e1] at e2
  simp at e2
  exact ht e2.2
theorem no_box {α : Type} {W : World} {encA : α → List Value} {ka : Nat} {ba : Nat} {ea : TypeId} {a : Option Addr} {n c : Nat} {l : List α} {b : Nat} {t : TypeId} {vs : List Value} (h : OwnR encA ka W ba ea a n c l) (h' : Bx W b t vs) (ht : ea ≠ t) : ¬ Blk a b := fun hi => by
  obtain ⟨cs, e1⟩ := h.tag b hi
  have e2 : W.heap[b]? = some (.cells vs.toArray t (0, 0)) := h'
  rw [e1] at e2
  simp at e2
  exact ht e2.2
/-- What region 26 reads. -/
structure C26 (b8 : Nat) (la : Option Addr) (k lc : Nat) (W : World) : Prop where
  l0 : W.cell? ⟨b8, 0, none⟩ = some (.int .i64 0)
  l1 : W.cell? ⟨b8, 1, none⟩ = some (.int .i64 1)
  l2 : W.cell? ⟨b8, 2, none⟩ = some (.slice la k lc)
theorem no_one {b : Nat} {a : Option Addr} (h : ¬ Blk a b) : ∀ i, Blk a i → ¬ One b i := fun i hi e => by
  have : i = b := e
  exact h (this ▸ hi)
/-- What region 9 reads. -/
structure C9 (b b' : Nat) (z : Int) (f : Nat) (W : World) : Prop where
  x2 : W.cell? ⟨b, 2, none⟩ = some (.int .i64 z)
  d3 : W.cell? ⟨b', 3, none⟩ = some (.int .i64 f)
/-- What region 8 reads. -/
structure C8 (b : Nat) (x : DoV) (W : World) : Prop where
  x0 : W.cell? ⟨b, 0, none⟩ = some (.int .i64 x.op)
  x1 : W.cell? ⟨b, 1, none⟩ = some (.int .i64 x.fr)
  x2 : W.cell? ⟨b, 2, none⟩ = some (.int .i64 x.tt)
  x3 : W.cell? ⟨b, 3, none⟩ = some (.int .i64 x.nn)
theorem do_new (w : World) (x : DoV) : ∃ V, w.alloc (.cells #[.int .i64 x.op, .int .i64 x.fr, .int .i64 x.tt, .int .i64 x.nn] 93) = V ∧ Bx V w.heap.size 93 (encDo x) ∧ Kp Non w V := ⟨_, rfl, Bx.new w _ (encDo x), (Kp.refl Non w).alloc _⟩
theorem C8.of {W : World} {b : Nat} {x : DoV} (h : Bx W b 93 (encDo x)) : C8 b x W := ⟨h.c rfl, h.c rfl, h.c rfl, h.c rfl⟩

theorem u64_nn (x : Int) : 0 ≤ IntKind.u64.wrap x := by simp only [IntKind.wrap, IntKind.signed, IntKind.bits]; exact Int.emod_nonneg _ (by decide)
/-- The numbers of one deed. -/
structure Nums (x : DoV) (n k q f r : Nat) : Prop where
  q3 : q ≤ 3
  fn : f < n
  rn : r < n - f
  e1 : IntKind.i64.wrap ((IntKind.u64.wrap x.op).tmod 4) = (q : Int)
  e2 : IntKind.i64.wrap ((IntKind.u64.wrap x.fr).tmod (n : Int)) = (f : Int)
  e3 : IntKind.i64.wrap ((IntKind.u64.wrap x.tt).tmod ((n : Int) - (f : Int))) = (r : Int)
theorem tm_nat {a m : Int} (ha : 0 ≤ a) (hm : 0 < m) (h : m ≤ 1000) : ∃ q : Nat, (q : Int) < m ∧ IntKind.i64.wrap (a.tmod m) = (q : Int) := by
  have h1 := Int.tmod_eq_emod_of_nonneg ha (b := m)
  have h2 := Int.emod_nonneg a (show m ≠ 0 by omega)
  have h3 := Int.emod_lt_of_pos a hm
  obtain ⟨q, hq⟩ := Int.eq_ofNat_of_zero_le h2
  refine ⟨q, by omega, ?_⟩
  rw [h1, hq]
  exact IntWalk.i64_in _ (by omega)
theorem nums (x : DoV) (n k : Nat) (hn : 1 ≤ n ∧ n ≤ 12) : ∃ q f r, Nums x n k q f r := by
  obtain ⟨q, q1, q2⟩ := tm_nat (u64_nn x.op) (show (0 : Int) < 4 by omega) (by omega)
  obtain ⟨f, f1, f2⟩ := tm_nat (u64_nn x.fr) (show (0 : Int) < n by omega) (by omega)
  obtain ⟨r, r1, r2⟩ := tm_nat (u64_nn x.tt) (show (0 : Int) < (n : Int) - f by omega) (by omega)
  exact ⟨q, f, r, by omega, by omega, by omega, q2, f2, r2⟩

set_option maxRecDepth 100000 in
set_option maxHeartbeats 1000000 in
theorem aalone_calls (a : Option Addr) (c : Nat) (l : List DoV) (n : Nat) (hn : 1 ≤ n ∧ n ≤ 12) (w : World) (hl : Reads encDo 4 w a l.length c l) : Calls Try.prog 20 #[.slice a l.length c, .int .i64 n] w (AloneOut n (min l.length 20) w) := by
  have hcl := hl.cap
  have hml := hl.max
  obtain ⟨iD, hiD, hzD, hsD, hbD⟩ := info_parts infoDeed
  obtain ⟨iR, hiR, hzR, hsR, hbR⟩ := info_parts infoRan
  obtain ⟨iT, hiT, hzT, hsT, hbT⟩ := info_parts infoT
  obtain ⟨W1, hMk, hO1, hk1⟩ := run_mk_texts w n (by omega)
  go_enter Try.func20, Try.ntmps20
  go_wp2_with fail
  obtain ⟨b8, hb8⟩ : ∃ b, W1.heap.size = b := ⟨_, rfl⟩
  obtain ⟨V1, eV1, hB1, kV1⟩ : ∃ V, W1.alloc (.cells #[.int .i64 0, .int .i64 1, .slice none 0 0] 48) = V ∧ Bx V W1.heap.size 48 [.int .i64 0, .int .i64 1, .slice none 0 0] ∧ Kp Non W1 V := ⟨_, rfl, Bx.new W1 _ [.int .i64 0, .int .i64 1, .slice none 0 0], (Kp.refl Non W1).alloc _⟩
  rw [eV1]
  rw [hb8] at hB1 ⊢
  have HB8 : Hid (w.heap.size < b8) := Lib.hid (by have := (hO1.blk w.heap.size ⟨_, rfl, rfl⟩).2; omega)
  have hkv := hk1.trans kV1
  have hW0 : AloneW V1 w.heap.size b8 n 0 [] (List.replicate n ByteArray.empty) none 0 none 0 := ⟨Al.nil n, ⟨by simp, fun b hb => by rw [List.getElem?_replicate, if_pos hb]; rfl⟩, rfl, hO1.non kV1, OwnR.nil _ _ _, hB1, OwnR.nil _ _ _, fun d hd => by cases hd⟩
  clear eV1 hB1 kV1 hO1 hMk hk1 hb8
  go_loopw [7, 19] (fun v7 v19 wr => ∃ k : Nat, k ≤ l.length ∧ k ≤ 20 ∧ v19 = .int .i64 k ∧ (∃ da dc, v7 = .slice da k dc ∧ Hid (∃ ds A la lc, AloneW wr w.heap.size b8 n k ds A da dc la lc)) ∧ Kp Non w wr) (fun _ v19 _ => l.length - (intOf v19).toNat)
  case atStart => exact ⟨0, by omega, by omega, rfl, ⟨none, 0, rfl, Lib.hid ⟨_, _, _, _, hW0⟩⟩, hkv⟩
  case round =>
    clear hkv hW0
    obtain ⟨k, hk1, hk2, rfl, ⟨da, dc, rfl, hA⟩, hkr⟩ := hrel
    by_cases hlt : k < l.length
    · have g : (k : Int) < (l.length : Nat) := by omega
      obtain ⟨lb, lo, rfl⟩ := hl.there (by omega)
      have c0 : wr.cell? ⟨lb, lo + k * 4, none⟩ = some (.int .i64 l[k].op) := (hl.non hkr).get (i := 0) (List.getElem?_eq_getElem hlt) rfl
      have c1 : wr.cell? ⟨lb, lo + k * 4 + 1, none⟩ = some (.int .i64 l[k].fr) := (hl.non hkr).get (i := 1) (List.getElem?_eq_getElem hlt) rfl
      have c2 : wr.cell? ⟨lb, lo + k * 4 + 2, none⟩ = some (.int .i64 l[k].tt) := (hl.non hkr).get (i := 2) (List.getElem?_eq_getElem hlt) rfl
      have c3 : wr.cell? ⟨lb, lo + k * 4 + 3, none⟩ = some (.int .i64 l[k].nn) := (hl.non hkr).get (i := 3) (List.getElem?_eq_getElem hlt) rfl
      have HN := Lib.hid (do_new wr l[k])
      generalize l[k] = x at *
      by_cases h20 : k < 20
      · have g20 : decide ((20 : Int) ≤ k) = false := decide_eq_false (by omega)
        clear h20
        go_upto_region 8 with (fail)
        obtain ⟨V, eV, hN, kV⟩ := HN.out
        rw [eV]
        have HC8 := Lib.hid fun W (r : Kp Non V W) => C8.of (Bx.non hN r)
        have hkV := hkr.trans kV
        have HZ : Hid (wr.heap.size < V.heap.size) := Lib.hid hN.lt
        clear eV HN hN c0 c1 c2 c3
        generalize hb10 : wr.heap.size = b10 at *
        obtain ⟨q, f, r, hq⟩ := nums x n k hn
        have w1 : IntKind.i64.wrap ((k : Int) + 1) = k + 1 := IntWalk.i64_in _ (by omega)
        have w2 : IntKind.u64.wrap (n : Int) = n := IntWalk.u64_in _ (by omega)
        have w3 := hq.e1
        have w4 : IntKind.i64.wrap (1 + (q : Int)) = 1 + q := IntWalk.i64_in _ (by have := hq.q3; omega)
        have w5 : ¬ (n : Int) = 0 := by omega
        have w5' : ¬ n = 0 := by omega
        have w6 := hq.e2
        have w7 : IntKind.i64.wrap (2 * (k : Int)) = 2 * k := IntWalk.i64_in _ (by omega)
        have w8 : IntKind.i64.wrap (2 * (k : Int) + 1) = 2 * k + 1 := IntWalk.i64_in _ (by omega)
        have w9 : IntKind.i64.wrap (2 * (k : Int) + 2) = 2 * k + 2 := IntWalk.i64_in _ (by omega)
        refine wp_region_pieces [(24, [0,0,0,0,0,0,0,0,0,0,0,0,0,0,0,0,0,0,0,0,0,0,1,2], C8 b10 x)] (by kernel_rfl) (by kernel_rfl) ?_
        refine (And.intro ?_ ?_ : _ ∧ _)
        · exact HC8.out _ (Kp.refl _ _).drew
        refine PB.out ?_
        repeat (first | (with_reducible refine pb_skip ?_) | ((first | (with_reducible refine pb_k rfl ?_) | ((with_reducible refine pb_ky ?hg ?_); (case hg => simp [Region.wanted, yielded]; done))); intro K hK; apply Exists.intro; refine ⟨fun w' hC => ?_, ?_⟩; (obtain ⟨x0, x1, x2, x3⟩ := hC; go_simp; rfl); go_simp; refine hK _ ?_; clear hK K) | ((with_reducible refine pb_kn ?hg ?_); (case hg => simp [Region.wanted, yielded]; done); intro K hK; go_simp; refine hK _ ?_; clear hK K))
        with_reducible refine pb_nil ?_
        simp only [List.take_succ_cons, List.take_zero, List.drop_zero]
        refine CB.out ?_
        repeat (with_reducible refine cb_skip ?_)
        with_reducible refine cb_step rfl fun K hK => ?_
        go_simp
        refine hK _ _ (fun _ => HC8.out _ (by first | exact ((Kp.refl Non V).drew).alloc _ | exact ((Kp.refl Non V).alloc _).drew)) ?_
        clear hK K
        repeat (with_reducible refine cb_skip ?_)
        with_reducible refine cb_step rfl fun K hK => ?_
        go_simp
        refine hK _ _ (fun h => by cases h) ?_
        clear hK K
        repeat (with_reducible refine cb_skip ?_)
        with_reducible refine cb_nil ?_
        simp only [Then, wpPieces]
        obtain ⟨W2, eW2, hB11, kW2⟩ : ∃ W, (V.alloc (.cells #[.int .i64 1, .int .i64 ((k : Int) + 1), .int .i64 (1 + (q : Int)), .int .i64 (f : Int), .int .i64 0, .slice none 0 0, .int .i64 (2 * (k : Int) + 1), .int .i64 (2 * (k : Int) + 2), .slice none 0 0] 28)).drew = W ∧ BxD W V.heap.size ⟨1, (k : Int) + 1, 1 + (q : Int), f, 0, ⟨none, 0, 0, []⟩, 2 * (k : Int) + 1, 2 * (k : Int) + 2, ⟨none, 0, 0, []⟩⟩ ∧ Kp Non V W :=
          ⟨_, rfl, Bx.non (Bx.new V _ (encDeed ⟨1, (k : Int) + 1, 1 + (q : Int), f, 0, ⟨none, 0, 0, []⟩, 2 * (k : Int) + 1, 2 * (k : Int) + 2, ⟨none, 0, 0, []⟩⟩)) (Kp.refl _ _).drew, ((Kp.refl Non V).alloc _).drew⟩
        rw [eW2]
        have kr2 := kV.trans kW2
        have HC9 := Lib.hid fun W (r : Kp Non W2 W) => (⟨(HC8.out W (kW2.trans r)).x2, (BxD.cells (Bx.non hB11 r)).2.2.2.1⟩ : C9 b10 V.heap.size x.tt f W)
        have HB11 := Lib.hid hB11
        have HZ11 : Hid (b10 < V.heap.size ∧ V.heap.size < W2.heap.size) := Lib.hid ⟨HZ.out, Bx.lt hB11⟩
        clear eW2 kW2 hB11 HC8 w1 w2 w3 w4 w5 w5' w6 w7 w8 w9 HZ hkV
        generalize V.heap.size = b11 at *
        obtain ⟨t, ht⟩ : ∃ t, f + 1 + r = t := ⟨_, rfl⟩
        have w1 : IntKind.i64.wrap ((f : Int) + 1) = f + 1 := IntWalk.i64_in _ (by have := hq.fn; omega)
        have w2 : IntKind.i64.wrap ((n : Int) - f) = n - f := IntWalk.i64_in _ (by have := hq.fn; omega)
        have w3 : IntKind.u64.wrap ((n : Int) - f) = n - f := IntWalk.u64_in _ (by have := hq.fn; omega)
        have w4 : ¬ (n : Int) - f = 0 := by have := hq.fn; omega
        have w5 := hq.e3
        have w6 : IntKind.i64.wrap ((f : Int) + 1 + (r : Int)) = t := by rw [show (f : Int) + 1 + (r : Int) = ((f + 1 + r : Nat) : Int) by omega, ht]; exact IntWalk.i64_in _ (by have := hq.rn; omega)
        go_upto_region 9 with (fail)
        refine wp_region_pieces [(16, [0,0,0,0,0,0,0,0,0,0,0,0,0,0,0,2], C9 b10 b11 x.tt f)] (by kernel_rfl) (by kernel_rfl) ?_
        refine (And.intro ?_ ?_ : _ ∧ _)
        · exact HC9.out _ (Kp.refl _ _).drew
        refine PB.out ?_
        repeat (first | (with_reducible refine pb_skip ?_) | ((first | (with_reducible refine pb_k rfl ?_) | ((with_reducible refine pb_ky ?hg ?_); (case hg => simp [Region.wanted, yielded]; done))); intro K hK; apply Exists.intro; refine ⟨fun w' hC => ?_, ?_⟩; (obtain ⟨x2, d3⟩ := hC; go_simp; rfl); go_simp; refine hK _ ?_; clear hK K) | ((with_reducible refine pb_kn ?hg ?_); (case hg => simp [Region.wanted, yielded]; done); intro K hK; go_simp; refine hK _ ?_; clear hK K))
        with_reducible refine pb_nil ?_
        simp only [List.take_succ_cons, List.take_zero, List.drop_zero]
        refine CB.out ?_
        obtain ⟨hB11', k11⟩ := Bx.set (Bx.non HB11.out (Kp.refl _ _).drew) 4 (.int .i64 (t : Int))
        have hc4 : (W2.drew).cell? ⟨b11, 4, none⟩ = _ := (BxD.cells (Bx.non HB11.out (Kp.refl _ _).drew)).2.2.2.2.1
        have hf4 := Bx.f (Bx.non HB11.out (Kp.refl _ _).drew) 4
        repeat (with_reducible refine cb_skip ?_)
        with_reducible refine cb_step rfl fun K hK => ?_
        go_simp
        refine hK _ _ (fun h => by cases h) ?_
        clear hK K
        repeat (with_reducible refine cb_skip ?_)
        with_reducible refine cb_nil ?_
        simp only [Then, wpPieces]
        obtain ⟨W3, eW3, hB3, kW3⟩ : ∃ W, (W2.setCell ⟨b11, 4, none⟩ (.int .i64 (t : Int))).drew = W ∧ BxD W b11 ⟨1, (k : Int) + 1, 1 + (q : Int), f, t, ⟨none, 0, 0, []⟩, 2 * (k : Int) + 1, 2 * (k : Int) + 2, ⟨none, 0, 0, []⟩⟩ ∧ Kp (One b11) W2 W := ⟨_, rfl, hB11', (Kp.refl _ W2).drew.trans k11⟩
        rw [eW3]
        have hk3 : Kp Non wr W3 := kr2.newer kW3 fun i hi => by have : i = b11 := hi; have := HZ11.out; omega
        clear eW3 hB11' k11 hc4 hf4 HC9 HB11 w1 w2 w3 w4 w5 w6
        have HN := Lib.hid (show ∃ V, W3.alloc (.cells #[.bool true, .slice none 0 0] 59) = V ∧ Bx V W3.heap.size 59 [.bool true, .slice none 0 0] ∧ Kp Non W3 V from ⟨_, rfl, Bx.new W3 _ [.bool true, .slice none 0 0], (Kp.refl Non W3).alloc _⟩)
        have c3 : W3.cell? ⟨b11, 3, none⟩ = _ := (BxD.cells hB3).2.2.2.1
        have hz3 : b11 < W3.heap.size := Bx.lt hB3
        go_upto_region 11 with (fail)
        obtain ⟨V4, eV4, hB12, k34⟩ := HN.out
        rw [eV4]
        have HZ12 : Hid (b10 < b11 ∧ b11 < W3.heap.size ∧ wr.heap.size = b10) := Lib.hid ⟨HZ11.out.1, hz3, hb10⟩
        have c3 : V4.cell? ⟨b11, 3, none⟩ = _ := (BxD.cells (Bx.non hB3 k34)).2.2.2.1
        obtain ⟨ds, A, la, lc, hA⟩ := hA.out
        have hlr : b8 < wr.heap.size := hA.box.lt
        have hIn : AIn wr V4 w.heap.size b11 W3.heap.size n k (1 + (q : Int)) f t A 0 ⟨none, 0, 0, []⟩ ⟨none, 0, 0, []⟩ :=
          ⟨Bx.non hB3 k34, hB12, OwnR.nil _ _ _, OwnR.nil _ _ _, OwnR.non hA.arr (hk3.trans k34), by simp [daAt], by simp [reAt], fun _ => rfl, fun _ => rfl, (hk3.trans k34).non⟩
        clear eV4 HN hB3 hB12 k34 hk3 kW3 hz3 hb10 kr2 HZ11
        generalize W3.heap.size = b12 at *
        clear kV
        have HIn := Lib.hid hIn
        have HAW := Lib.hid hA
        have HQ := Lib.hid hq
        have HR := Lib.hid (show f < t ∧ t ≤ n from by have := hq.rn; have := hq.fn; omega)
        clear hIn hA hq ht
        obtain ⟨op, hop⟩ : ∃ op : Int, 1 + (q : Int) = op := ⟨_, rfl⟩
        have HO : Hid (1 ≤ op ∧ op ≤ 4) := Lib.hid (by have := HQ.out.q3; omega)
        rw [hop] at HIn
        clear HQ
        go_wp2_with fail
        clear hop
        obtain ⟨w0, rfl⟩ : ∃ w0, w0 = wr := ⟨_, rfl⟩
        go_loopw [13] (fun v13 W => ∃ b m : Nat, Hid (f + m = b) ∧ b ≤ t ∧ v13 = .int .i64 (b : Int) ∧ Hid (∃ x y, AIn w0 W w.heap.size b11 b12 n k op f t A m x y)) (fun v13 _ => t - (intOf v13).toNat)
        case atStart => exact ⟨f, 0, Lib.hid rfl, by have := HR.out; omega, rfl, Lib.hid ⟨_, _, HIn.out⟩⟩
        case round =>
          clear c3 HIn
          obtain ⟨b, m, hbm, hm, rfl, hI⟩ := hrel
          obtain ⟨x, y, hI⟩ := hI.out
          obtain ⟨n0, n1, n2, n3, n4, n5, n6, n7, n8⟩ := BxD.cells hI.box
          have HBo : Hid (∀ j : Nat, j < n → ∃ s, (arrAt op k A f m)[j]? = some s) := Lib.hid fun j hj => ⟨_, List.getElem?_eq_getElem (by rw [arrAt_len, HAW.out.arrOf.1]; exact hj)⟩
          have hz : b12 < wr.heap.size := hI.rep.lt
          have hbs : w.heap.size < wr.heap.size := (hI.arr.blk _ ⟨_, rfl, rfl⟩).2
          by_cases hlt : b < t
          · have g0 : (b : Int) < (t : Int) := by omega
            have gn : b < n := by have := HR.out; omega
            have gn' : (b : Int) < (n : Int) := by omega
            have gi : IntKind.i64.wrap ((b : Int) + 1) = b + 1 := IntWalk.i64_in _ (by omega)
            by_cases h1 : op = 1
            · have e1 : (op == 1) = true := by simp [h1]
              have hy := hI.re.len encT_len (by omega)
              have hym : y.l.length = m := by rw [hI.yl, reAt, if_pos h1]; simp
              have HYn := Lib.hid (hy.trans hym)
              clear hy hym
              have hst : arrAt op k A f m = A := arrAt_same (by omega) (by omega) k A f m
              have hst' : arrAt op k A f (m + 1) = A := arrAt_same (by omega) (by omega) k A f (m + 1)
              have hA0 : wr.cell? ⟨w.heap.size, b, none⟩ = some (.string (textAt A b)) := by
                have hl : b < A.length := by rw [HAW.out.arrOf.1]; exact gn
                have := Texts.c (hI.arr.reads encT_len (by omega)) (j := b) (by rw [arrAt_len]; exact hl)
                rw [Nat.zero_add] at this
                rw [this]
                simp only [hst]
                simp [textAt, List.getElem?_eq_getElem hl]
              have HYs := Lib.hid (reAt_succ h1 A f m)
              rw [hbm.out] at HYs
              have HX : Hid (x = ⟨none, 0, 0, []⟩) := Lib.hid (hI.xz (by omega))
              have HXl : Hid (x.l = daAt op k f (m + 1)) := Lib.hid (by rw [HX.out, daAt, if_neg (by omega)])
              have HC16 := Lib.hid fun W (r : Kp (Blk y.a) wr W) => (⟨(BxD.cells (Bx.kp hI.box r fun hb => by have := (hI.re.blk _ hb).1; have := HZ12.out; omega)).2.2.2.2.2.2.2.2, by
                refine r.cell hA0 fun hb => ?_
                have : b12 + 1 ≤ w.heap.size := (hI.re.blk _ hb).1
                have := HZ12.out
                have := hlr
                have := HB8.out
                show False
                omega⟩ : C16 b11 w.heap.size b y n (textAt A b) W)
              have HS := Lib.hid (And.intro hst hst')
              clear h1 hst hst' hA0
              go_upto_region 16 with (fail)
              refine wp_region_pieces [(10, [0,0,0,0,0,0,1,1,0,2], C16 b11 w.heap.size b y n (textAt A b))] (by kernel_rfl) (by kernel_rfl) ?_
              refine (And.intro ?_ ?_ : _ ∧ _)
              · exact HC16.out _ (Kp.refl _ _).drew
              refine PB.out ?_
              repeat (first | (with_reducible refine pb_skip ?_) | ((first | (with_reducible refine pb_k rfl ?_) | ((with_reducible refine pb_ky ?hg ?_); (case hg => simp [Region.wanted, yielded]; done))); intro K hK; apply Exists.intro; refine ⟨fun w' hC => ?_, ?_⟩; (obtain ⟨d8, a0⟩ := hC; go_simp; rfl); go_simp; refine hK _ ?_; clear hK K) | ((with_reducible refine pb_kn ?hg ?_); (case hg => simp [Region.wanted, yielded]; done); intro K hK; go_simp; refine hK _ ?_; clear hK K))
              with_reducible refine pb_nil ?_
              simp only [List.take_succ_cons, List.take_zero, List.drop_zero]
              refine CB.out ?_
              repeat (with_reducible refine cb_skip ?_)
              with_reducible refine cb_step rfl fun K hK => ?_
              go_simp
              have k5 : Kp Non wr (wr.drew.alloc (.cells #[.string (textAt A b)] 9)) := ((Kp.refl Non wr).drew).alloc _
              refine hK _ _ (fun _ => HC16.out _ k5.non) ?_
              clear hK K
              repeat (with_reducible refine cb_skip ?_)
              with_reducible refine cb_step rfl fun K hK => ?_
              refine wp_append_row (P := Try.prog) (enc := encT) _ _ 26 rfl (b12 + 1) 9 iT _ 16 Try.underlying26 hiT hzT hsT hbT rfl (by decide) encT_len encT_one y.a y.n y.c y.l rfl (OwnR.non hI.re (((Kp.refl Non wr).alloc _).drew)) _ 1 1 [textAt A b] rfl (Reads.non (Reads.new (w := wr) (x := textAt A b) rfl rfl) ((Kp.refl Non _).drew)) ?h1 ?h2 ?h3 ?_
              case h1 => have := HYn.out; have := hbm.out; omega
              case h2 => have := HYn.out; have := hbm.out; omega
              case h3 => exact Nat.le_trans (show b12 + 1 ≤ wr.heap.size from hz) ((((Kp.refl Non wr).alloc _).drew).size)
              intro a6 c6 w6 hO6 hk6 _
              have hk6 : Kp (Blk y.a) wr w6 := ((((Kp.refl Non wr).alloc _).drew).non).trans hk6
              refine hK _ _ (fun _ => HC16.out _ hk6) ?_
              clear hK K
              have no6 : ∀ {i : Nat}, i ≤ b12 → ¬ Blk y.a i := fun h hb => by have := (hI.re.blk _ hb).1; omega
              have hB6 := Bx.kp hI.box hk6 (no6 (by have := HZ12.out; omega))
              have hc8 : w6.cell? ⟨b11, 8, none⟩ = _ := (BxD.cells hB6).2.2.2.2.2.2.2.2
              have hf8 := Bx.f hB6 8
              obtain ⟨hB7, k7⟩ := Bx.set hB6 8 (.slice a6 (y.n + 1) c6)
              have HE : Hid (AIn w0 (w6.setCell ⟨b11, 8, none⟩ (.slice a6 (y.n + 1) c6)) w.heap.size b11 b12 n k op f t A (m + 1) x ⟨a6, y.n + 1, c6, y.l ++ [textAt A b]⟩) := Lib.hid (by
                have z := HZ12.out
                have z8 := HB8.out
                refine ⟨hB7, Bx.kp (Bx.kp hI.rep hk6 (no6 (Nat.le_refl _))) k7 (by show _ ≠ _; omega), by rw [HX.out]; exact OwnR.nil _ _ _, OwnR.kp hO6 k7 (fun i hi hb => by have := (hO6.blk i hi).1; have : i = b11 := hb; omega), ?_, HXl.out, by rw [HYs.out]; show y.l ++ _ = _; rw [hI.yl], hI.xz, fun h => absurd h (by have := eq_of_beq e1; omega), ?_⟩
                · rw [HS.out.2, ← HS.out.1]
                  exact OwnR.kp (OwnR.kp hI.arr hk6 (fun i hi hb => by obtain ⟨ad, e, rfl⟩ := hi; cases e; exact no6 (by show w.heap.size ≤ b12; omega) hb)) k7 (fun i hi hb => by obtain ⟨ad, e, rfl⟩ := hi; cases e; have : w.heap.size = b11 := hb; omega)
                · exact (hI.kp.comp hk6 (fun _ _ h => h) (fun i hi hb => absurd hb (no6 (by omega)))).comp k7 (fun _ _ h => h) (fun i hi hb => by have : i = b11 := hb; omega))
              clear HYs HX HXl HS HC16 no6 hB6 hB7 k7 hO6 hk6 k5
              repeat (with_reducible refine cb_skip ?_)
              with_reducible refine cb_step rfl fun K hK => ?_
              go_simp
              refine hK _ _ (fun h => by cases h) ?_
              clear hK K
              repeat (with_reducible refine cb_skip ?_)
              with_reducible refine cb_nil ?_
              simp only [Then, wpPieces]
              go_wp2_with fail
              go_roundw
              case rel => exact ⟨b + 1, m + 1, Lib.hid (by have := hbm.out; omega), by omega, by go_num, Lib.hid ⟨_, _, HE.out⟩⟩
              case measure => simp [intOf]; omega
            · by_cases h2 : op = 2
              · have e1 : (op == 1) = false := by simp [h1]
                have e2 : (op == 2) = true := by simp [h2]
                have HX1 := Lib.hid (hI.da.len encT_len (by omega))
                have HXn : Hid (x.n = m) := Lib.hid (by rw [HX1.out, hI.xl, daAt, if_pos h2]; simp)
                have HYs := Lib.hid (daAt_succ h2 k f m)
                rw [hbm.out] at HYs
                have HS : Hid (arrAt op k A f (m + 1) = (arrAt op k A f m).set b (txb k b)) := Lib.hid (by rw [arrAt, if_pos h2, hbm.out])
                have HX : Hid (y = ⟨none, 0, 0, []⟩) := Lib.hid (hI.yz (by omega))
                have HXl : Hid (y.l = reAt op A f (m + 1)) := Lib.hid (by rw [HX.out, reAt, if_neg (by omega)])
                have hr3 := run_txb wr wr.heap.size rfl k b (by omega) (by omega)
                have w1 : IntKind.u8.wrap (k : Int) = k := IntWalk.u8_in _ (by omega)
                have w2 : IntKind.u8.wrap (b : Int) = b := IntWalk.u8_in _ (by omega)
                have hz11 : b11 < wr.heap.size := by have := HZ12.out; omega
                have w3 : IntKind.i64.wrap ((b : Int) - (f : Int)) = m := by have := hbm.out; rw [show (b : Int) - (f : Int) = (m : Int) by omega]; exact IntWalk.i64_in _ (by omega)
                have HL : Hid (x.l.length = m) := Lib.hid (HX1.out.symm.trans HXn.out)
                obtain ⟨xa, xn, xc, xl⟩ := x
                obtain rfl : xn = m := HXn.out
                have HX2 : Hid (op ≠ 2 → False) := Lib.hid fun h => h h2
                clear h1 h2 HXn HX1
                go_upto_region 19 with (at_builtin; refine wpList_append_row (P := Try.prog) (enc := encT) rfl _ _ 26 rfl (b12 + 1) 9 iT _ 16 Try.underlying26 hiT hzT hsT hbT rfl (by decide) encT_len encT_one xa xn xc xl rfl (OwnR.non hI.da (((Kp.refl Non wr).alloc _).alloc _)) _ 1 1 [txb k b] rfl (Reads.new (x := txb k b) (by rw [World.size_alloc]) rfl) (by have := hbm.out; omega) (by have := hbm.out; omega) (Nat.le_trans (show b12 + 1 ≤ wr.heap.size from hz) ((((Kp.refl Non wr).alloc _).alloc _).size)) ?_; intro a6 c6 w6 hO6 hk6 _; have hk6 : Kp (Blk xa) wr w6 := ((((Kp.refl Non wr).alloc _).alloc _).non).trans hk6; have no6 : ∀ {i : Nat}, i ≤ b12 → ¬ Blk xa i := (fun h hb => by have := (hI.da.blk _ hb).1; omega); have hB6 := Bx.kp hI.box hk6 (no6 (by have := HZ12.out; omega)); have hc5 : w6.cell? ⟨b11, 5, none⟩ = _ := (BxD.cells hB6).2.2.2.2.2.1; have hf5 := Bx.f hB6 5; obtain ⟨hB7, k7⟩ := Bx.set hB6 5 (.slice a6 (xn + 1) c6))
                obtain ⟨W7, hW7⟩ : ∃ W, w6.setCell ⟨b11, 5, none⟩ (.slice a6 (xn + 1) c6) = W := ⟨_, rfl⟩
                rw [hW7] at hB7 k7 ⊢
                have hB7 : BxD W7 b11 ⟨1, (k : Int) + 1, op, f, t, ⟨a6, xn + 1, c6, xl ++ [txb k b]⟩, 2 * (k : Int) + 1, 2 * (k : Int) + 2, y⟩ := hB7
                have HZZ : Hid (w.heap.size < b8 ∧ b8 < b10 ∧ b10 < b11 ∧ b11 < b12 ∧ w0.heap.size = b10) := Lib.hid (by have := HZ12.out; have := HB8.out; omega)
                have hO7 : OwnT W7 (b12 + 1) a6 (xn + 1) c6 (xl ++ [txb k b]) := OwnR.kp hO6 k7 (fun i hi hb => by have := (hO6.blk i hi).1; have : i = b11 := hb; have := HZZ.out; omega)
                have hR7 := Bx.kp (Bx.kp hI.rep hk6 (no6 (Nat.le_refl _))) k7 (by show _ ≠ _; have := HZZ.out; omega)
                obtain ⟨g, rfl, hg⟩ := hO7.addr (by omega)
                have ha7 : OwnT W7 w.heap.size (some ⟨w.heap.size, 0, none⟩) n n (arrAt op k A f xn) := OwnR.kp (OwnR.kp hI.arr hk6 (fun i hi hb => by obtain ⟨ad, e, rfl⟩ := hi; cases e; exact no6 (by show w.heap.size ≤ b12; have := HZZ.out; omega) hb)) k7 (fun i hi hb => by obtain ⟨ad, e, rfl⟩ := hi; cases e; have : w.heap.size = b11 := hb; have := HZZ.out; omega)
                have kw7 : Kp (One w.heap.size) w0 W7 := (hI.kp.comp hk6 (fun _ _ h => h) (fun i hi hb => absurd hb (no6 (by have := HZZ.out; omega)))).comp k7 (fun _ _ h => h) (fun i hi hb => by have : i = b11 := hb; have := HZZ.out; omega)
                have is1 : W7.cell? ⟨g, xn, none⟩ = some (.string (txb k b)) := hO7.at_ (by rw [List.getElem?_append_right (by rw [HL.out]; exact Nat.le_refl _), HL.out, Nat.sub_self]; rfl)
                obtain ⟨s0, hs0⟩ := HBo.out b gn
                have is2 : W7.cell? ⟨w.heap.size, b, none⟩ = some (.string s0) := ha7.at_ hs0
                have fz2 := ha7.fz rfl b
                have HA2 := Lib.hid (ha7.set1 b (txb k b))
                rw [← HS.out] at HA2
                obtain ⟨n0, n1, n2, n3, n4, n5, n6, n7, n8⟩ := BxD.cells hB7
                have gm : (xn : Int) < (xn + 1 : Nat) := by omega
                have k9 : Kp (One w.heap.size) W7 (W7.setCell ⟨w.heap.size, b, none⟩ (.string (txb k b))) := Kp.setCell (S := One w.heap.size) (Kp.refl _ W7) (p := ⟨w.heap.size, b, none⟩) (.inl rfl) _
                have HE : Hid (AIn w0 (W7.setCell ⟨w.heap.size, b, none⟩ (.string (txb k b))) w.heap.size b11 b12 n k op f t A (xn + 1) ⟨some ⟨g, 0, none⟩, xn + 1, c6, xl ++ [txb k b]⟩ y) := Lib.hid (by
                  have z := HZZ.out
                  refine ⟨Bx.kp hB7 k9 (by show _ ≠ _; omega), Bx.kp hR7 k9 (by show _ ≠ _; omega), OwnR.kp hO7 k9 (fun i hi hb => by have := (hO7.blk i hi).1; have : i = w.heap.size := hb; omega), by rw [HX.out]; exact OwnR.nil _ _ _, HA2.out, ?_, HXl.out, fun h => (HX2.out h).elim, fun _ => HX.out, kw7.trans k9⟩
                  rw [HYs.out]
                  show xl ++ _ = _
                  rw [show xl = _ from hI.xl])
                clear HYs HX HXl HS no6 hB7 k7 hO6 hk6 hO7 hR7 ha7 HA2 kw7 k9 hB6 hc5 hf5
                go_wp2_with fail
                go_roundw
                case rel => exact ⟨b + 1, xn + 1, Lib.hid (by have := hbm.out; omega), by omega, by go_num, Lib.hid ⟨_, _, HE.out⟩⟩
                case measure => simp [intOf]; omega
              · have HXx : Hid (x = ⟨none, 0, 0, []⟩ ∧ y = ⟨none, 0, 0, []⟩) := Lib.hid ⟨hI.xz h2, hI.yz h1⟩
                have HXl : Hid (x.l = daAt op k f (m + 1) ∧ y.l = reAt op A f (m + 1)) := Lib.hid ⟨by rw [HXx.out.1, daAt, if_neg h2], by rw [HXx.out.2, reAt, if_neg h1]⟩
                have HZZ : Hid (w.heap.size < b8 ∧ b8 < b10 ∧ b10 < b11 ∧ b11 < b12 ∧ w0.heap.size = b10) := Lib.hid (by have := HZ12.out; have := HB8.out; omega)
                have e1 : (op == 1) = false := by simp [h1]
                have e2 : (op == 2) = false := by simp [h2]
                by_cases h3 : op = 3
                · have e3 : (op == 3) = true := by simp [h3]
                  have HS : Hid (arrAt op k A f (m + 1) = (arrAt op k A f m).set b ByteArray.empty) := Lib.hid (by rw [arrAt, if_neg h2, if_pos h3, hbm.out])
                  obtain ⟨s0, hs0⟩ := HBo.out b gn
                  have is2 : wr.cell? ⟨w.heap.size, b, none⟩ = some (.string s0) := hI.arr.at_ hs0
                  have fz2 := hI.arr.fz rfl b
                  have HA2 := Lib.hid (hI.arr.set1 b ByteArray.empty)
                  rw [← HS.out] at HA2
                  have k9 : Kp (One w.heap.size) wr (wr.setCell ⟨w.heap.size, b, none⟩ (.string ByteArray.empty)) := Kp.setCell (S := One w.heap.size) (Kp.refl _ wr) (p := ⟨w.heap.size, b, none⟩) (.inl rfl) _
                  have HE : Hid (AIn w0 (wr.setCell ⟨w.heap.size, b, none⟩ (.string ByteArray.empty)) w.heap.size b11 b12 n k op f t A (m + 1) x y) := Lib.hid (by
                    have z := HZZ.out
                    exact ⟨Bx.kp hI.box k9 (by show _ ≠ _; omega), Bx.kp hI.rep k9 (by show _ ≠ _; omega), by rw [HXx.out.1]; exact OwnR.nil _ _ _, by rw [HXx.out.2]; exact OwnR.nil _ _ _, HA2.out, HXl.out.1, HXl.out.2, fun _ => HXx.out.1, fun _ => HXx.out.2, hI.kp.trans k9⟩)
                  clear h1 h2 h3 HXx HXl HS HA2 k9
                  go_wp2_with fail
                  go_roundw
                  case rel => exact ⟨b + 1, m + 1, Lib.hid (by have := hbm.out; omega), by omega, by go_num, Lib.hid ⟨_, _, HE.out⟩⟩
                  case measure => simp [intOf]; omega
                · have e3 : (op == 3) = false := by simp [h3]
                  have HE : Hid (AIn w0 wr w.heap.size b11 b12 n k op f t A (m + 1) x y) := Lib.hid ⟨hI.box, hI.rep, hI.da, hI.re, by rw [arrAt_same h2 h3]; have := hI.arr; rwa [arrAt_same h2 h3] at this, HXl.out.1, HXl.out.2, fun _ => HXx.out.1, fun _ => HXx.out.2, hI.kp⟩
                  clear h1 h2 h3 HXx HXl
                  go_wp2_with fail
                  go_roundw
                  case rel => exact ⟨b + 1, m + 1, Lib.hid (by have := hbm.out; omega), by omega, by go_num, Lib.hid ⟨_, _, HE.out⟩⟩
                  case measure => simp [intOf]; omega
          · obtain rfl : b = t := by omega
            have HZZ : Hid (w.heap.size < b8 ∧ b8 < b10 ∧ b10 < b11 ∧ b11 < b12 ∧ w0.heap.size = b10) := Lib.hid (by have := HZ12.out; have := HB8.out; omega)
            obtain ⟨hs1, hs2, hs3, hs4⟩ := HAW.out.far hI.kp HB8.out
            have hNx := Al.next (x := x) (y := y) HAW.out.al HAW.out.arrOf HO.out HR.out.1 HR.out.2 (by omega) (by rw [hI.xl, HAW.out.len, ← hbm.out]; congr 1; omega) (by rw [hI.yl, ← hbm.out]; congr 1; omega)
            rw [HAW.out.len, show b - f = m by have := hbm.out; omega] at hNx
            have HNx := Lib.hid hNx
            have HLn : Hid (ds.length = k) := Lib.hid HAW.out.len
            have HDb : Hid (∀ i, Blk da i → b8 < i ∧ i < b10) := Lib.hid fun i hi => by have := HAW.out.deeds.blk i hi; have := HZZ.out; omega
            have HLb : Hid (∀ i, Blk la i → b8 < i ∧ i < b10) := Lib.hid fun i hi => by have := HAW.out.log.blk i hi; have := HZZ.out; omega
            have hKI := hI.kp
            clear hNx HAW
            have c1 : wr.cell? ⟨b12, 1, none⟩ = _ := hI.rep.c (i := 1) rfl
            have f1 := Bx.f hI.rep 1
            obtain ⟨hR2, k2⟩ := hI.rep.set 1 (.slice y.a y.n y.c)
            go_upto_region 23 with (fail)
            obtain ⟨W2, hW2⟩ : ∃ W, wr.setCell ⟨b12, 1, none⟩ (.slice y.a y.n y.c) = W := ⟨_, rfl⟩
            rw [hW2] at hR2 k2 ⊢
            have hR2 : Bx W2 b12 59 [.bool true, .slice y.a y.n y.c] := hR2
            have no2 : ∀ {i : Nat}, i ≠ b12 → ¬ One b12 i := fun h e => h e
            have hB2 := Bx.kp hI.box k2 (no2 (by have := HZZ.out; omega))
            have hE2 := Bx.kp hs2 k2 (no2 (by have := HZZ.out; omega))
            have hD2 := OwnR.kp hs1 k2 (fun i hi => no2 (by have := HDb.out i hi; have := HZZ.out; omega))
            have hL2 := OwnR.kp hs3 k2 (fun i hi => no2 (by have := HLb.out i hi; have := HZZ.out; omega))
            have hT2 : ∀ d ∈ ds, OwnD W2 (b8 + 1) d := fun d hd => ⟨OwnR.kp (hs4 d hd).1 k2 (no_one (no_box (hs4 d hd).1 hI.rep (by decide))), OwnR.kp (hs4 d hd).2 k2 (no_one (no_box (hs4 d hd).2 hI.rep (by decide)))⟩
            have hx2 : OwnT W2 (b8 + 1) x.a x.n x.c x.l := OwnR.lower (OwnR.kp hI.da k2 (fun i hi => no2 (by have := (hI.da.blk i hi).1; omega))) (by have := HZZ.out; omega)
            have hy2 : OwnT W2 (b8 + 1) y.a y.n y.c y.l := OwnR.lower (OwnR.kp hI.re k2 (fun i hi => no2 (by have := (hI.re.blk i hi).1; omega))) (by have := HZZ.out; omega)
            have ha2 : OwnT W2 w.heap.size (some ⟨w.heap.size, 0, none⟩) n n (arrAt op k A f m) := OwnR.kp hI.arr k2 (fun i hi => no2 (by obtain ⟨ad, e, rfl⟩ := hi; cases e; show w.heap.size ≠ b12; have := HZZ.out; omega))
            have kw2 : Kp (One w.heap.size) w0 W2 := hKI.comp k2 (fun _ _ h => h) (fun i hi hb => by have : i = b12 := hb; have := HZZ.out; omega)
            clear hI hs1 hs2 hs3 hs4 k2 c1 f1 hKI
            have hkl : k < 20 := by have := of_decide_eq_false g20; omega
            have w1 : IntKind.i64.wrap ((k : Int) + 1) = k + 1 := IntWalk.i64_in _ (by omega)
            have HD : Hid (∃ D : DeedV, D = ⟨1, (k : Int) + 1, op, f, b, x, 2 * (k : Int) + 1, 2 * (k : Int) + 2, y⟩) := Lib.hid ⟨_, rfl⟩
            obtain ⟨n0, n1, n2, n3, n4, n5, n6, n7, n8⟩ := BxD.cells hB2
            have hzb : b8 + 1 ≤ W2.heap.size := hE2.lt
            go_upto_region 24 with (at_builtin; refine wpList_append_row (P := Try.prog) (enc := encDeed) rfl _ _ 22 rfl (b8 + 1) 28 iD _ 104 Try.underlying22 hiD hzD hsD hbD rfl (by decide) encDeed_len encDeed_one da k dc ds rfl (OwnR.non hD2 ((Kp.refl Non W2).alloc _)) _ 1 1 [⟨1, (k : Int) + 1, op, f, b, x, 2 * (k : Int) + 1, 2 * (k : Int) + 2, y⟩] rfl (Reads.new (x := (⟨1, (k : Int) + 1, op, f, b, x, 2 * (k : Int) + 1, 2 * (k : Int) + 2, y⟩ : DeedV)) rfl rfl) (by omega) (by omega) (Nat.le_trans hzb ((Kp.refl Non W2).alloc _).size) ?_; intro a3 c3 w3 hO3 hk3 _)
            have hk3 : Kp (Blk da) W2 w3 := ((Kp.refl Non W2).alloc _).non.trans hk3
            have noD : ∀ {i : Nat}, (i ≤ b8 ∨ b10 ≤ i) → ¬ Blk da i := fun h hb => by have := HDb.out _ hb; omega
            have hB3 := Bx.kp hB2 hk3 (noD (by have := HZZ.out; omega))
            have hR3 := Bx.kp hR2 hk3 (noD (by have := HZZ.out; omega))
            have hE3 := Bx.kp hE2 hk3 (noD (by omega))
            have hL3 := OwnR.kp hL2 hk3 (no_row hL2 hD2 (by decide))
            have hT3 : ∀ d ∈ ds, OwnD w3 (b8 + 1) d := fun d hd => ⟨OwnR.kp (hT2 d hd).1 hk3 (no_row (hT2 d hd).1 hD2 (by decide)), OwnR.kp (hT2 d hd).2 hk3 (no_row (hT2 d hd).2 hD2 (by decide))⟩
            have hx3 : OwnT w3 (b8 + 1) x.a x.n x.c x.l := OwnR.kp hx2 hk3 (no_row hx2 hD2 (by decide))
            have hy3 : OwnT w3 (b8 + 1) y.a y.n y.c y.l := OwnR.kp hy2 hk3 (no_row hy2 hD2 (by decide))
            have ha3 : OwnT w3 w.heap.size (some ⟨w.heap.size, 0, none⟩) n n (arrAt op k A f m) := OwnR.kp ha2 hk3 (fun i hi => noD (by obtain ⟨ad, e, rfl⟩ := hi; cases e; left; show w.heap.size ≤ b8; have := HZZ.out; omega))
            have kw3 : Kp (One w.heap.size) w0 w3 ∨ True := .inr trivial
            have kN3 : Kp Non w w3 := ((hkr.newer kw2 fun i hi => by have : i = w.heap.size := hi; omega)).newer hk3 fun i hi => by have := (HDb.out i hi).1; have := HZZ.out; omega
            clear hB2 hR2 hE2 hL2 hD2 hT2 hx2 hy2 ha2 kw2 hk3 kw3 n0 n1 n2 n3 n4 n5 n6 n7 n8
            obtain ⟨n0, n1, n2, n3, n4, n5, n6, n7, n8⟩ := BxD.cells hB3
            have r0 : w3.cell? ⟨b12, 0, none⟩ = _ := hR3.c (i := 0) rfl
            have r1 : w3.cell? ⟨b12, 1, none⟩ = _ := hR3.c (i := 1) rfl
            have l2 : w3.cell? ⟨b8, 2, none⟩ = _ := hE3.c (i := 2) rfl
            have hzb : b8 + 1 ≤ w3.heap.size := hE3.lt
            have noL : ∀ {i : Nat}, (i ≤ b8 ∨ b10 ≤ i) → ¬ Blk la i := fun h hb => by have := HLb.out _ hb; omega
            clear HD
            go_upto_region 25 with (at_builtin; refine wpList_append_row (P := Try.prog) (enc := encRan) rfl _ _ 46 rfl (b8 + 1) 61 iR _ 112 Try.underlying46 hiR hzR hsR hbR rfl (by decide) encRan_len encRan_one la k lc (ds.map ranD) rfl (OwnR.non hL3 ((Kp.refl Non w3).alloc _)) _ 1 1 [⟨(0, (k : Int) + 1), ⟨op, 1, (k : Int) + 1, f, b, x⟩, ⟨true, y⟩⟩] rfl (Reads.new (x := (⟨(0, (k : Int) + 1), ⟨op, 1, (k : Int) + 1, f, b, x⟩, ⟨true, y⟩⟩ : RanV)) rfl rfl) (by omega) (by omega) (Nat.le_trans hzb ((Kp.refl Non w3).alloc _).size) ?_; intro a4 c4 w4 hO4 hk4 _; have hk4 : Kp (Blk la) w3 w4 := ((Kp.refl Non w3).alloc _).non.trans hk4; have hE4 := Bx.kp hE3 hk4 (noL (by omega)); have hc2 : w4.cell? ⟨b8, 2, none⟩ = _ := hE4.c (i := 2) rfl; have hf2 := Bx.f hE4 2)
            obtain ⟨hE5, k5⟩ := hE4.set 2 (.slice a4 (k + 1) c4)
            obtain ⟨W5, hW5⟩ : ∃ W, w4.setCell ⟨b8, 2, none⟩ (.slice a4 (k + 1) c4) = W := ⟨_, rfl⟩
            rw [hW5] at hE5 k5 ⊢
            have hO3' := OwnR.kp (OwnR.kp hO3 hk4 (no_row hO3 hL3 (by decide))) k5 (no_one (no_box (OwnR.kp hO3 hk4 (no_row hO3 hL3 (by decide))) hE4 (by decide)))
            have hO5 := OwnR.kp hO4 k5 (no_one (no_box hO4 hE4 (by decide)))
            have tx5 : ∀ {z : Tx}, OwnT w3 (b8 + 1) z.a z.n z.c z.l → OwnT W5 (b8 + 1) z.a z.n z.c z.l := fun h => OwnR.kp (OwnR.kp h hk4 (no_row h hL3 (by decide))) k5 (no_one (no_box (OwnR.kp h hk4 (no_row h hL3 (by decide))) hE4 (by decide)))
            have ha5 : OwnT W5 w.heap.size (some ⟨w.heap.size, 0, none⟩) n n (arrAt op k A f m) := OwnR.kp (OwnR.kp ha3 hk4 (fun i hi => noL (by obtain ⟨ad, e, rfl⟩ := hi; cases e; left; show w.heap.size ≤ b8; have := HZZ.out; omega))) k5 (fun i hi hb => by obtain ⟨ad, e, rfl⟩ := hi; cases e; have : w.heap.size = b8 := hb; have := HZZ.out; omega)
            have kN5 : Kp Non w W5 := (kN3.newer hk4 fun i hi => by have := (HLb.out i hi).1; have := HZZ.out; omega).newer k5 fun i hi => by have : i = b8 := hi; have := HZZ.out; omega
            have HE : Hid (∃ ds A la lc, AloneW W5 w.heap.size b8 n (k + 1) ds A a3 c3 la lc) := Lib.hid ⟨ds ++ [⟨1, (k : Int) + 1, op, f, b, x, 2 * (k : Int) + 1, 2 * (k : Int) + 2, y⟩], arrAt op k A f m, a4, c4,
              HNx.out.1, HNx.out.2, by rw [List.length_append, HLn.out]; rfl, ha5, hO3', hE5, by rw [List.map_append]; exact hO5, fun d hd => by
                rcases List.mem_append.1 hd with hd | hd
                · exact ⟨tx5 (hT3 d hd).1, tx5 (hT3 d hd).2⟩
                · obtain rfl := List.mem_singleton.1 hd
                  exact ⟨tx5 hx3, tx5 hy3⟩⟩
            clear hO3' hO5 tx5 ha5 hE5 k5 hk4 hE4 hO4 hE3 hL3 hO3 hT3 hx3 hy3 ha3 hB3 hR3 n0 n1 n2 n3 n4 n5 n6 n7 n8 r0 r1 l2 hc2 hf2 HNx
            go_wp2_with fail
            go_roundw
            case rel => exact ⟨k + 1, by omega, by omega, by go_num, ⟨a3, c3, rfl, HE⟩, kN5⟩
            case measure => simp [intOf]; omega
      · have g20 : decide ((20 : Int) ≤ k) = true := decide_eq_true (by omega)
        have HkN : Hid (k = min l.length 20) := Lib.hid (by omega)
        go_upto_region 26 with (fail)
        obtain ⟨V, eV, hN, kV⟩ := HN.out
        rw [eV]
        obtain ⟨ds, A, la, lc, hA⟩ := hA.out
        have hA := hA.non kV
        have hkr := hkr.trans kV
        clear HN eV hN
        have HC26 := Lib.hid fun W (r : Kp Non V W) => (⟨(Bx.non hA.box r).c rfl, (Bx.non hA.box r).c rfl, (Bx.non hA.box r).c rfl⟩ : C26 b8 la k lc W)
        have HAW := Lib.hid hA
        clear hA
        refine wp_region_pieces [(5, [0,0,1,0,2], C26 b8 la k lc)] (by kernel_rfl) (by kernel_rfl) ?_
        refine (And.intro ?_ ?_ : _ ∧ _)
        · exact HC26.out _ (Kp.refl _ _).drew
        refine PB.out ?_
        repeat (first | (with_reducible refine pb_skip ?_) | ((first | (with_reducible refine pb_k rfl ?_) | ((with_reducible refine pb_ky ?hg ?_); (case hg => simp [Region.wanted, yielded]; done))); intro K hK; apply Exists.intro; refine ⟨fun w' hC => ?_, ?_⟩; (obtain ⟨l0, l1, l2⟩ := hC; go_simp; rfl); go_simp; refine hK _ ?_; clear hK K) | ((with_reducible refine pb_kn ?hg ?_); (case hg => simp [Region.wanted, yielded]; done); intro K hK; go_simp; refine hK _ ?_; clear hK K))
        with_reducible refine pb_nil ?_
        simp only [List.take_succ_cons, List.take_zero, List.drop_zero]
        refine CB.out ?_
        repeat (with_reducible refine cb_skip ?_)
        with_reducible refine cb_step rfl fun K hK => ?_
        go_simp
        refine hK _ _ (fun _ => HC26.out _ (by first | exact ((Kp.refl Non V).drew).alloc _ | exact ((Kp.refl Non V).alloc _).drew)) ?_
        clear hK K
        repeat (with_reducible refine cb_skip ?_)
        with_reducible refine cb_step rfl fun K hK => ?_
        go_simp
        refine hK _ _ (fun h => by cases h) ?_
        clear hK K
        repeat (with_reducible refine cb_skip ?_)
        with_reducible refine cb_nil ?_
        simp only [Then, wpPieces]
        have g : ((V.alloc (.cells #[.int .i64 0, .int .i64 1, .slice la k lc] 48)).drew).heap[V.heap.size]? = some (.cells #[.int .i64 0, .int .i64 1, .slice la k lc] 48) := heap_alloc_new V _
        have kN : Kp Non V ((V.alloc (.cells #[.int .i64 0, .int .i64 1, .slice la k lc] 48)).drew) := ((Kp.refl Non V).alloc _).drew
        have HF : Hid (AloneSt ((V.alloc (.cells #[.int .i64 0, .int .i64 1, .slice la k lc] 48)).drew) w.heap.size n ds da dc V.heap.size la lc) := Lib.hid (by
          have hlen := HAW.out.len
          have z := HB8.out
          refine ⟨HAW.out.al, by rw [hlen]; exact (OwnR.non HAW.out.deeds kN).lower (by omega), ?_, by rw [hlen]; exact (OwnR.non HAW.out.log kN).lower (by omega), fun d hd => ⟨(OwnR.non (HAW.out.texts d hd).1 kN).lower (by omega), (OwnR.non (HAW.out.texts d hd).2 kN).lower (by omega)⟩⟩
          rw [hlen]
          exact OwnR.mk hkr.size g (by omega) (show 1 ≤ maxLen by decide) rfl rfl rfl)
        have HLn : Hid (ds.length = k) := Lib.hid HAW.out.len
        have hkw := hkr.trans kN
        generalize (V.alloc (.cells #[.int .i64 0, .int .i64 1, .slice la k lc] 48)).drew = WF at *
        go_wp2_with fail
        go_ret2
        exact ⟨ds, da, dc, V.heap.size, la, lc, by rw [HLn.out]; rfl, HLn.out.trans HkN.out, HF.out, hkw⟩
    · have g : ¬ (k : Int) < (l.length : Nat) := by omega
      have HkN : Hid (k = min l.length 20) := Lib.hid (by omega)
      obtain ⟨ds, A, la, lc, hA⟩ := hA.out
      go_upto_region 26 with (fail)
      have HC26 := Lib.hid fun W (r : Kp Non wr W) => (⟨(Bx.non hA.box r).c rfl, (Bx.non hA.box r).c rfl, (Bx.non hA.box r).c rfl⟩ : C26 b8 la k lc W)
      have HAW := Lib.hid hA
      clear hA
      refine wp_region_pieces [(5, [0,0,1,0,2], C26 b8 la k lc)] (by kernel_rfl) (by kernel_rfl) ?_
      refine (And.intro ?_ ?_ : _ ∧ _)
      · exact HC26.out _ (Kp.refl _ _).drew
      refine PB.out ?_
      repeat (first | (with_reducible refine pb_skip ?_) | ((first | (with_reducible refine pb_k rfl ?_) | ((with_reducible refine pb_ky ?hg ?_); (case hg => simp [Region.wanted, yielded]; done))); intro K hK; apply Exists.intro; refine ⟨fun w' hC => ?_, ?_⟩; (obtain ⟨l0, l1, l2⟩ := hC; go_simp; rfl); go_simp; refine hK _ ?_; clear hK K) | ((with_reducible refine pb_kn ?hg ?_); (case hg => simp [Region.wanted, yielded]; done); intro K hK; go_simp; refine hK _ ?_; clear hK K))
      with_reducible refine pb_nil ?_
      simp only [List.take_succ_cons, List.take_zero, List.drop_zero]
      refine CB.out ?_
      repeat (with_reducible refine cb_skip ?_)
      with_reducible refine cb_step rfl fun K hK => ?_
      go_simp
      refine hK _ _ (fun _ => HC26.out _ (by first | exact ((Kp.refl Non wr).drew).alloc _ | exact ((Kp.refl Non wr).alloc _).drew)) ?_
      clear hK K
      repeat (with_reducible refine cb_skip ?_)
      with_reducible refine cb_step rfl fun K hK => ?_
      go_simp
      refine hK _ _ (fun h => by cases h) ?_
      clear hK K
      repeat (with_reducible refine cb_skip ?_)
      with_reducible refine cb_nil ?_
      simp only [Then, wpPieces]
      have g : ((wr.alloc (.cells #[.int .i64 0, .int .i64 1, .slice la k lc] 48)).drew).heap[wr.heap.size]? = some (.cells #[.int .i64 0, .int .i64 1, .slice la k lc] 48) := heap_alloc_new wr _
      have kN : Kp Non wr ((wr.alloc (.cells #[.int .i64 0, .int .i64 1, .slice la k lc] 48)).drew) := ((Kp.refl Non wr).alloc _).drew
      have HF : Hid (AloneSt ((wr.alloc (.cells #[.int .i64 0, .int .i64 1, .slice la k lc] 48)).drew) w.heap.size n ds da dc wr.heap.size la lc) := Lib.hid (by
        have hlen := HAW.out.len
        have z := HB8.out
        refine ⟨HAW.out.al, by rw [hlen]; exact (OwnR.non HAW.out.deeds kN).lower (by omega), ?_, by rw [hlen]; exact (OwnR.non HAW.out.log kN).lower (by omega), fun d hd => ⟨(OwnR.non (HAW.out.texts d hd).1 kN).lower (by omega), (OwnR.non (HAW.out.texts d hd).2 kN).lower (by omega)⟩⟩
        rw [hlen]
        exact OwnR.mk hkr.size g (by omega) (show 1 ≤ maxLen by decide) rfl rfl rfl)
      have HLn : Hid (ds.length = k) := Lib.hid HAW.out.len
      have hkw := hkr.trans kN
      generalize (wr.alloc (.cells #[.int .i64 0, .int .i64 1, .slice la k lc] 48)).drew = WF at *
      go_wp2_with fail
      go_ret2
      exact ⟨ds, da, dc, wr.heap.size, la, lc, by rw [HLn.out]; rfl, HLn.out.trans HkN.out, HF.out, hkw⟩
end Go.Proofs.Ytpehfnobgdjgcaa
