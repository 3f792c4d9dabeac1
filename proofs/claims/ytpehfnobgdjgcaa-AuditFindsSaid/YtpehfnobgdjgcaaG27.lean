/-
  The places of the reads: what is said.
-/
import Derived.Test.YtpehfnobgdjgcaaS3
namespace Go.Proofs.Ytpehfnobgdjgcaa
open Go.RowKit

/-- The places of the first k deeds that are done and of the block. -/
def inB (d : DeedV) (block : Int) : Bool := !decide (block < d.fr) && !decide (d.to ≤ block)
def doneP (ds : List DeedV) (block : Int) : Nat → List Int
  | 0 => []
  | k + 1 => match ds[k]? with
    | some d => if decide (0 < d.en) && inB d block then doneP ds block k ++ [(k : Int)] else doneP ds block k
    | none => doneP ds block k
theorem doneP_in (ds : List DeedV) (block : Int) : ∀ k, ∀ i ∈ doneP ds block k, 0 ≤ i ∧ i < ds.length ∧ i < k
  | 0 => by simp [doneP]
  | k + 1 => by
    intro i hi
    have ih := doneP_in ds block k
    unfold doneP at hi
    split at hi
    · rename_i d hd
      have hk := (List.getElem?_eq_some_iff.1 hd).1
      split at hi
      · rcases List.mem_append.1 hi with h | h
        · have := ih i h; omega
        · simp at h; omega
      · have := ih i hi; omega
    · have := ih i hi; omega
theorem doneP_len (ds : List DeedV) (block : Int) : ∀ k, (doneP ds block k).length ≤ k
  | 0 => by simp [doneP]
  | k + 1 => by
    have ih := doneP_len ds block k
    unfold doneP
    split
    · split
      · simp; omega
      · omega
    · omega
/-- How many puts a deed has. -/
def cntT (l : List PutV) (d : DeedV) : Nat → Nat
  | 0 => 0
  | k + 1 => match l[k]? with
    | some p => if deedIs p d then cntT l d k + 1 else cntT l d k
    | none => cntT l d k
def cntOf (l : List PutV) (d : DeedV) : Nat := cntT l d l.length
theorem cntT_le (l : List PutV) (d : DeedV) : ∀ k, cntT l d k ≤ k
  | 0 => Nat.le_refl _
  | k + 1 => by
    have := cntT_le l d k
    unfold cntT
    split
    · split <;> omega
    · omega
/-- One deed that is done. -/
def plStep (ds : List DeedV) (l : List PutV) (block : Int) (st : List Int) (i : Int) : Option (List Int) :=
  if (ds.getD i.toNat default).op = 2 ∨ (ds.getD i.toNat default).op = 3 then (if cntOf l (ds.getD i.toNat default) = 1 then some st else none)
  else if (ds.getD i.toNat default).op = 1 then (match readB (byL ds l) ds l st block (ds.getD i.toNat default) with | some n => some (st.set i.toNat (n : Int)) | none => none)
  else some st
def plT (ds : List DeedV) (l : List PutV) (block : Int) (idx : List Int) : Nat → Option (List Int)
  | 0 => some (List.replicate ds.length 0)
  | k + 1 => match plT ds l block idx k, idx[k]? with
    | some st, some i => plStep ds l block st i
    | r, _ => r
def placesB (ds : List DeedV) (l : List PutV) (block : Int) : Option (List Int) :=
  if askedAllB ds l block then plT ds l block (sortS (ltE ds) (doneP ds block ds.length)) (doneP ds block ds.length).length else none
theorem plT_none {ds : List DeedV} {l : List PutV} {block : Int} {idx : List Int} {k : Nat} (h : plT ds l block idx k = none) : ∀ m, plT ds l block idx (k + m) = none
  | 0 => h
  | m + 1 => by
    have ih := plT_none h m
    show plT ds l block idx (k + m + 1) = none
    unfold plT
    rw [ih]
theorem plT_out {ds : List DeedV} {l : List PutV} {block : Int} {idx : List Int} {k n : Nat} (h : plT ds l block idx k = none) (hk : k ≤ n) : plT ds l block idx n = none := by
  have := plT_none h (n - k)
  rwa [show k + (n - k) = n by omega] at this
theorem plT_step {ds : List DeedV} {l : List PutV} {block : Int} {idx : List Int} {k : Nat} {st : List Int} {i : Int} (h : plT ds l block idx k = some st) (hi : idx[k]? = some i) : plT ds l block idx (k + 1) = plStep ds l block st i := by
  show (match plT ds l block idx k, idx[k]? with
    | some st, some i => plStep ds l block st i
    | r, _ => r) = _
  rw [h, hi]
theorem readB_le {ys ds : List DeedV} {l : List PutV} {at_ : List Int} {block : Int} {d : DeedV} {n : Nat} (h : readB ys ds l at_ block d = some n) : n ≤ l.length := by
  unfold readB at h
  split at h
  · cases h
  · split at h
    · cases h
    · split at h
      · cases h
      · cases h; omega
/-- Places are in range. -/
def StOk (ds : List DeedV) (l : List PutV) (st : List Int) : Prop := st.length = ds.length ∧ ∀ z ∈ st, 0 ≤ z ∧ z ≤ l.length
theorem StOk.start (ds : List DeedV) (l : List PutV) : StOk ds l (List.replicate ds.length 0) := ⟨by simp, fun z hz => by rw [List.eq_of_mem_replicate hz]; omega⟩
theorem StOk.set {ds : List DeedV} {l : List PutV} {st : List Int} (h : StOk ds l st) (i n : Nat) (hn : n ≤ l.length) : StOk ds l (st.set i (n : Int)) :=
  ⟨by rw [List.length_set, h.1], fun z hz => by
    rcases List.mem_or_eq_of_mem_set hz with hz | rfl
    · exact h.2 z hz
    · omega⟩
theorem byL_len (ds : List DeedV) (l : List PutV) : (byL ds l).length = l.length := by simp [byL]
def PlacesRes (r : Option (List Int)) (w : World) (e : Ending) (w' : World) : Prop := ∃ a n c, e = .returned (.tuple #[.slice a n c, .bool r.isSome]) ∧ OwnI w' w.heap.size a n c (r.getD []) ∧ Kp Non w w'
theorem zeros_flat : ∀ m, (List.replicate m (0 : Int)).flatMap encI = List.replicate m (Value.int .i64 0) := fun m => by
  induction m with
  | zero => rfl
  | succ m ih => rw [List.replicate_succ, List.replicate_succ, List.flatMap_cons, ih]; rfl
/-- make([]int, n). -/
theorem run_mk_ints (w : World) (n : Nat) (hn : n ≤ 1000000) : ∃ w', (Instr.makeSlice 66 (.int .i64 (n : Int)) (.int .i64 (n : Int))).run Try.prog w = .ok (.slice (some ⟨w.heap.size, 0, none⟩) n n) w' ∧ OwnI w' w.heap.size (some ⟨w.heap.size, 0, none⟩) n n (List.replicate n 0) ∧ Kp Non w w' := by
  obtain ⟨i0, hi0, hz0, hz1, hz2⟩ := info_parts infoI
  obtain ⟨w', h1, h2, h3⟩ := run_makeSlice_full (P := Try.prog) w w.heap.size 66 3 i0 (.int .i64 0) 1 Try.underlying66 hi0 hz0 hz1 .i64 .i64 n (by omega) (by rw [hz2]; omega) (by unfold maxLen; omega) (Nat.le_refl _)
  refine ⟨w', h1, ?_, (Kp.refl Non w).grown h3 (fun _ h => by cases h)⟩
  have e : (madeCells (Value.int .i64 0).cells (n * 1)).toList = (List.replicate n (0 : Int)).flatMap encI := by
    rw [zeros_flat]
    apply List.ext_getElem
    · simp [madeCells]
    · intro k h1 h2
      simp only [madeCells, Value.cells, List.getElem_replicate, Array.getElem_toList, Array.getElem_map]
      simp [Nat.mod_one]
  show w'.ownsRow w.heap.size _ 1 _ n ((List.replicate n (0 : Int)).flatMap encI)
  rw [← e]
  exact h2

set_option maxRecDepth 100000 in
set_option maxHeartbeats 2000000 in
theorem places17_calls (da : Option Addr) (dc : Nat) (ds : List DeedV) (la : Option Addr) (lc : Nat) (l : List PutV) (block : Int) (w : World) (hd : Deeds w da ds.length dc ds) (hl : Puts_ w la l.length lc l) (hdn : ds.length ≤ 20) (hll : l.length ≤ 1000000) : Calls Try.prog 24 #[.slice da ds.length dc, .slice la l.length lc, .int .i64 block] w (PlacesRes (placesB ds l block) w) := by
  have hcl := hl.cap
  have hml := hl.max
  have hcd := hd.reads.cap
  have hmd := hd.reads.max
  obtain ⟨i0, hi0, hz0, hz1, hz2⟩ := info_parts infoI
  have hmf : ∀ (fn : Fn) (first cap : Array Value) (w : World), (Instr.makeFunc fn first cap).run Try.prog w = .ok (.func fn first cap) w := fun _ _ _ _ => rfl
  obtain ⟨V, eV, h3, kV⟩ : ∃ V, w.alloc (.cells #[.slice da ds.length dc] 22) = V ∧ V.cell? ⟨w.heap.size, 0, none⟩ = some (.slice da ds.length dc) ∧ Kp Non w V := ⟨_, rfl, cell_new rfl 0, (Kp.refl Non w).alloc _⟩
  have HV := Lib.hid eV
  have HBV : Hid (w.heap.size < V.heap.size) := Lib.hid (by rw [← eV, World.size_alloc]; omega)
  clear eV
  go_enter Try.func24, Try.ntmps24
  go_upto_region 1 with (fail)
  rw [HV.out]
  obtain ⟨b3, hb3⟩ : ∃ b, w.heap.size = b := ⟨_, rfl⟩
  rw [hb3] at h3 HBV ⊢
  have HB3 := Lib.hid hb3
  clear hb3
  refine wp_region_pieces [(9, [0,0,0,0,0,1,2,2,2], fun W => W.cell? ⟨b3, 0, none⟩ = some (.slice da ds.length dc) ∧ True)] (by kernel_rfl) (by kernel_rfl) ?_
  refine (And.intro ?_ ?_ : _ ∧ _)
  · exact ⟨h3, trivial⟩
  refine PB.out ?_
  repeat (first | (with_reducible refine pb_skip ?_) | ((first | (with_reducible refine pb_k rfl ?_) | ((with_reducible refine pb_ky ?hg ?_); (case hg => simp [Region.wanted, yielded]; done))); intro K hK; apply Exists.intro; refine ⟨fun w' hC => ?_, ?_⟩; (obtain ⟨d0, dt⟩ := hC; go_simp; rfl); go_simp; refine hK _ ?_; clear hK K) | ((with_reducible refine pb_kn ?hg ?_); (case hg => simp [Region.wanted, yielded]; done); intro K hK; go_simp; refine hK _ ?_; clear hK K))
  with_reducible refine pb_nil ?_
  simp only [List.take_succ_cons, List.take_zero, List.drop_zero]
  refine CB.out ?_
  obtain ⟨W5, hMk, hO5, hk5⟩ := run_mk_ints V.drew ds.length (by omega)
  repeat (with_reducible refine cb_skip ?_)
  with_reducible refine cb_step rfl fun K hK => ?_
  go_simp
  have k5 : Kp Non V W5 := (Kp.refl Non V).drew.trans hk5
  refine hK _ _ (fun _ => ⟨k5.cell h3 (fun f => f), trivial⟩) ?_
  clear hK K
  repeat (with_reducible refine cb_skip ?_)
  with_reducible refine cb_step rfl fun K hK => ?_
  go_simp
  refine hK _ _ (fun h => by cases h) ?_
  clear hK K
  obtain ⟨W6, eW6, hJ6, k6⟩ : ∃ W6, W5.alloc (.cells #[.int .i64 block, .slice la l.length lc, .slice none 0 0, .slice da ds.length dc, .slice (some ⟨V.heap.size, 0, none⟩) ds.length ds.length] 101) = W6 ∧ BxJ W6 W5.heap.size block (.slice la l.length lc) (.slice none 0 0) (.slice da ds.length dc) (.slice (some ⟨V.heap.size, 0, none⟩) ds.length ds.length) ∧ Kp Non W5 W6 := ⟨_, rfl, Bx.new W5 _ (jCells block _ _ _ _), (Kp.refl Non W5).alloc _⟩
  have HW6 := Lib.hid eW6
  clear eW6
  repeat (with_reducible refine cb_skip ?_)
  with_reducible refine cb_step rfl fun K hK => ?_
  go_simp
  refine hK _ _ (fun h => by cases h) ?_
  clear hK K
  repeat (with_reducible refine cb_skip ?_)
  with_reducible refine cb_step rfl fun K hK => ?_
  go_simp
  refine hK _ _ (fun h => by cases h) ?_
  clear hK K
  repeat (with_reducible refine cb_skip ?_)
  with_reducible refine cb_nil ?_
  simp only [Then, wpPieces]
  rw [HW6.out]
  have k6 := k5.trans k6
  have kw6 := kV.trans k6
  have HBV5 : Hid (V.heap.size ≤ W5.heap.size) := Lib.hid k5.size
  obtain ⟨bj, hbj⟩ : ∃ b, W5.heap.size = b := ⟨_, rfl⟩
  obtain ⟨ba, hba⟩ : ∃ b, V.heap.size = b := ⟨_, rfl⟩
  have hO6 := hO5.non ((Kp.refl Non W5).trans (by rw [← HW6.out]; exact (Kp.refl Non W5).alloc _) : Kp Non W5 W6)
  have HBs : Hid (w.heap.size < ba ∧ ba < bj) := Lib.hid (by
    have := HBV.out
    have := HB3.out
    have h1 := (hO5.blk ba ⟨_, by rw [show (V.drew).heap.size = ba from hba], rfl⟩).2
    omega)
  rw [show (V.drew).heap.size = ba from hba] at hO6
  rw [hbj, hba] at hJ6 ⊢
  have h36 := k6.cell h3 (fun f => f)
  have HB3 : Hid (b3 < ba ∧ w.heap.size = b3) := Lib.hid (by have := HBV.out; have := HB3.out; omega)
  clear hbj hba hO5 hMk hk5 k5 h3 HW6 HV HBV HBV5
  have HAs := Lib.hid (askedAll_calls bj block la lc l da dc ds (.slice (some ⟨ba, 0, none⟩) ds.length ds.length) w W6 hl hd kw6 (by have := HBs.out; omega) hJ6 hll)
  have HPB : Hid (placesB ds l block = if askedAllB ds l block then plT ds l block (sortS (ltE ds) (doneP ds block ds.length)) (doneP ds block ds.length).length else none) := Lib.hid rfl
  go_wp2_with fail
  refine HAs.out.mono ?_
  rintro e w7 ⟨rfl, hk7, hyes⟩
  generalize askedAllB ds l block = ab at *
  have kw7 : Kp Non w w7 := kw6.newer hk7 fun i hi => by have : i = bj := hi; have := HBs.out; omega
  rcases ab with _ | _
  · have HN : Hid (none = placesB ds l block) := Lib.hid (by rw [HPB.out]; rfl)
    go_wp2_with fail
    go_ret2
    exact ⟨none, 0, 0, by rw [← HN.out]; rfl, by rw [← HN.out]; exact OwnR.nil _ _ _, kw7⟩
  obtain ⟨ya, yc, hJ7, hY7⟩ := hyes rfl
  have HPB : Hid (placesB ds l block = plT ds l block (sortS (ltE ds) (doneP ds block ds.length)) (doneP ds block ds.length).length) := Lib.hid (by rw [HPB.out]; rfl)
  have hO7 := hO6.kp hk7 (fun i hi hb => by obtain ⟨ad, e1, e2⟩ := hi; cases e1; have : ba = bj := e2.trans hb; have := HBs.out; omega)
  have h37 : w7.cell? ⟨b3, 0, none⟩ = some (.slice da ds.length dc) := hk7.cell h36 (fun hb => by have : b3 = bj := hb; have := HBs.out; have := HB3.out; omega)
  have HD7 := Lib.hid fun W (r : Kp Non w7 W) => (⟨r.cell h37 (fun f => f), hd.non (kw7.trans r)⟩ : BxDs W b3 da dc ds)
  have HY6 : Hid (∀ i, Blk ya i → ba < i) := Lib.hid fun i hi => by
    have h1 := (hY7.blk i hi).1
    have h2 := (hO6.blk ba ⟨_, rfl, rfl⟩).2
    omega
  clear hyes HAs hJ6 hk7 h36 hO6
  go_wp2_with fail
  go_loopw [9, 33] (fun v9 v33 wr => ∃ k : Nat, k ≤ ds.length ∧ v33 = .int .i64 k ∧ (∃ n ax cx, v9 = .slice ax n cx ∧ n ≤ k ∧ OwnI wr w7.heap.size ax n cx (doneP ds block k)) ∧ Kp Non w7 wr) (fun _ v33 _ => ds.length - (intOf v33).toNat)
  case atStart => exact ⟨0, by omega, rfl, ⟨0, none, 0, rfl, by omega, OwnR.nil _ _ _⟩, Kp.refl _ _⟩
  case round =>
    obtain ⟨k, hk', rfl, ⟨n, ax, cx, rfl, hnk, hO⟩, hkr⟩ := hrel
    by_cases hlt : k < ds.length
    · have g : (k : Int) < (ds.length : Nat) := by omega
      obtain ⟨db, dof, rfl⟩ := hd.reads.there (by omega)
      obtain ⟨c0, c1, c2, c3, c4, c5, c6, c7, c8⟩ := (HD7.out _ hkr).2.cells hlt
      have HY : Hid ((decide (0 < ds[k].en) && inB ds[k] block) = true → doneP ds block (k + 1) = doneP ds block k ++ [(k : Int)]) := Lib.hid fun e => by rw [doneP, List.getElem?_eq_getElem hlt]; simp only [e, if_true]
      have HNo : Hid ((decide (0 < ds[k].en) && inB ds[k] block) = false → doneP ds block (k + 1) = doneP ds block k) := Lib.hid fun e => by rw [doneP, List.getElem?_eq_getElem hlt]; simp only [e, Bool.false_eq_true, if_false]
      have HN := Lib.hid (BxD.new2 wr ds[k])
      generalize ds[k] = x at *
      go_upto_region 8 with (fail)
      obtain ⟨U, eU, hN, kU⟩ := HN.out
      rw [eU]
      obtain ⟨n0, n1, n2, n3, n4, n5, n6, n7, n8⟩ := hN.cells
      have hkU := hkr.trans kU
      have hO := hO.non kU
      clear eU HN hN c0 c1 c2 c3 c4 c5 c6 c7 c8
      generalize wr.heap.size = b11 at *
      rcases Bool.eq_false_or_eq_true (decide (0 < x.en)) with f0 | f0
      · rcases Bool.eq_false_or_eq_true (decide (x.fr ≤ block)) with f1 | f1
        · rcases Bool.eq_false_or_eq_true (decide (block < x.to)) with f2 | f2
          · have HE := Lib.hid (HY.out (by have a := of_decide_eq_true f1; have b := of_decide_eq_true f2; rw [f0, inB, decide_eq_false (by omega), decide_eq_false (by omega)]; rfl))
            clear HY HNo
            go_wp2_with (at_builtin; refine wpList_append_row rfl _ _ 66 rfl w7.heap.size 3 i0 _ 8 Try.underlying66 hi0 hz0 hz1 hz2 rfl (by decide) encI_len encI_one ax n cx _ rfl (hO.non ((Kp.refl _ _).alloc _)) _ 1 1 [(k : Int)] rfl (Reads.new rfl rfl) (by omega) (by omega) ?_ ?_; exact ((hkU.alloc _).size); intro a3 c3 w3 hO3 hk3 _)
            have hk3 : Kp Non w7 w3 := (hkU.alloc _).newer hk3 fun i hi => (hO.blk i hi).1
            go_roundw
            case rel => exact ⟨k + 1, by omega, by go_num, ⟨n + 1, a3, c3, rfl, by omega, by rw [HE.out]; exact hO3⟩, hk3⟩
            case measure => simp [intOf]; omega
          · have HE := Lib.hid (HNo.out (by have b := of_decide_eq_false f2; rw [f0, inB, decide_eq_true (p := x.to ≤ block) (by omega)]; simp))
            clear HY HNo
            go_wp2_with fail
            go_roundw
            case rel => exact ⟨k + 1, by omega, by go_num, ⟨n, ax, cx, rfl, by omega, by rw [HE.out]; exact hO⟩, hkU⟩
            case measure => simp [intOf]; omega
        · have HE := Lib.hid (HNo.out (by have b := of_decide_eq_false f1; rw [f0, inB, decide_eq_true (p := block < x.fr) (by omega)]; simp))
          clear HY HNo
          go_wp2_with fail
          go_roundw
          case rel => exact ⟨k + 1, by omega, by go_num, ⟨n, ax, cx, rfl, by omega, by rw [HE.out]; exact hO⟩, hkU⟩
          case measure => simp [intOf]; omega
      · have HE := Lib.hid (HNo.out (by rw [f0]; rfl))
        clear HY HNo
        go_wp2_with fail
        go_roundw
        case rel => exact ⟨k + 1, by omega, by go_num, ⟨n, ax, cx, rfl, by omega, by rw [HE.out]; exact hO⟩, hkU⟩
        case measure => simp [intOf]; omega
    · obtain rfl : k = ds.length := by omega
      have hb3 := HD7.out _ hkr
      have HIn := Lib.hid (doneP_in ds block ds.length)
      have hlen := hO.len encI_len (by omega)
      have hdl := doneP_len ds block ds.length
      have HSt := Lib.hid (sortStable_calls b3 da dc ds w7.heap.size ax n cx (doneP ds block ds.length) w7 wr (HD7.out _ (Kp.refl _ _)) hkr (Nat.le_refl _) (fun z hz => ⟨(HIn.out z hz).1, (HIn.out z hz).2.1⟩) hO (by omega))
      rw [← hlen] at HPB
      have HLn : Hid (n = (sortS (ltE ds) (doneP ds block ds.length)).length) := Lib.hid (by rw [sortS_len]; exact hlen)
      have HIn : Hid (∀ z ∈ sortS (ltE ds) (doneP ds block ds.length), 0 ≤ z ∧ z < ds.length) := Lib.hid fun z hz => by
        have := HIn.out z ((sortS_perm _ _).mem_iff.1 hz)
        omega
      have HAx := Lib.hid hO.blk
      clear hlen hdl hO hnk
      go_wp2_with fail
      refine HSt.out.mono ?_
      rintro e w8 ⟨rfl, hO8, hk8⟩
      have k78 : Kp Non w7 w8 := hkr.newer hk8 fun i hi => (HAx.out i hi).1
      have kw8 := kw7.trans k78
      have hJ8 := Bx.non hJ7 k78
      have hY8 := hY7.non k78
      have hA8 := hO7.non k78
      have hD8 := HD7.out _ k78
      have HAx : Hid (∀ i, Blk ax i → ba < i) := Lib.hid fun i hi => by have := (HAx.out i hi).1; have := (hO7.blk ba ⟨_, rfl, rfl⟩).2; omega
      have hRI := hO8.reads encI_len (by omega)
      have hci := hRI.cap
      have hmi := hRI.max
      clear hk8 HSt hb3 hkr HD7 hJ7 hY7 hO7 h37
      generalize sortS (ltE ds) (doneP ds block ds.length) = idx at *
      have HKa : Hid (∀ W, Kp (One ba) w8 W → Kp Non w W) := Lib.hid fun W r => kw8.newer r fun i hi => by have : i = ba := hi; have := HBs.out; omega
      have HJ : Hid (∀ W, Kp (One ba) w8 W → BxJ W bj block (.slice la l.length lc) (.slice ya l.length yc) (.slice da ds.length dc) (.slice (some ⟨ba, 0, none⟩) ds.length ds.length)) := Lib.hid fun W r => Bx.kp hJ8 r fun hb => by have : bj = ba := hb; have := HBs.out; omega
      have HYr : Hid (∀ W, Kp (One ba) w8 W → Reads encDeed 9 W ya l.length yc (byL ds l)) := Lib.hid fun W r => (hY8.kp r fun i hi hb => by have := HY6.out i hi; have : i = ba := hb; omega).reads encDeed_len (by omega)
      have HIr : Hid (∀ W, Kp (One ba) w8 W → Ints W ax n cx idx) := Lib.hid fun W r => (hO8.kp r fun i hi hb => by have := HAx.out i hi; have : i = ba := hb; omega).reads encI_len (by omega)
      have HBx3 : Hid (∀ W, Kp (One ba) w8 W → W.cell? ⟨b3, 0, none⟩ = some (.slice da ds.length dc)) := Lib.hid fun W r => r.cell hD8.1 fun hb => by have : b3 = ba := hb; have := HB3.out; omega
      have HDr := Lib.hid fun W (r : Kp (One ba) w8 W) => hd.non (HKa.out W r)
      have HLr := Lib.hid fun W (r : Kp (One ba) w8 W) => hl.non (HKa.out W r)
      have HOut : Hid (∀ k, k ≤ n → plT ds l block idx k = none → placesB ds l block = none) := Lib.hid fun k hk h => by rw [HPB.out]; exact plT_out h hk
      clear hJ8 hY8 hD8 HAx HY6
      go_wp2_with fail
      go_loopw [63] (fun v63 wr => ∃ k : Nat, k ≤ n ∧ v63 = .int .i64 k ∧ Hid (∃ st, plT ds l block idx k = some st ∧ StOk ds l st ∧ OwnI wr ba (some ⟨ba, 0, none⟩) ds.length ds.length st) ∧ Kp (One ba) w8 wr) (fun v63 _ => n - (intOf v63).toNat)
      case atStart => exact ⟨0, by omega, rfl, Lib.hid ⟨_, rfl, StOk.start ds l, hA8⟩, Kp.refl _ _⟩
      case round =>
        obtain ⟨k, hk', rfl, hSt, hkr⟩ := hrel
        obtain ⟨st, hst, hok, hAr⟩ := hSt.out
        by_cases hlt : k < n
        · have g : (k : Int) < (n : Nat) := by omega
          have hki : k < idx.length := by have := HLn.out; omega
          obtain ⟨gi, gio, rfl⟩ := hRI.there (by omega)
          have i0' := Ints.c (HIr.out _ hkr) hki
          obtain ⟨i, hi⟩ : ∃ i : Nat, idx[k] = i := ⟨_, (Int.toNat_of_nonneg (HIn.out _ (List.getElem_mem hki)).1).symm⟩
          have hid : i < ds.length := by have := HIn.out _ (List.getElem_mem hki); omega
          have HStp : Hid (plT ds l block idx (k + 1) = plStep ds l block st i) := Lib.hid (plT_step hst (by rw [List.getElem?_eq_getElem hki, hi]))
          rw [hi] at i0'
          have gi' : (i : Int) < (ds.length : Nat) := by omega
          have hb3 := HBx3.out _ hkr
          obtain ⟨db, dof, rfl⟩ := hd.reads.there (by omega)
          obtain ⟨c0, c1, c2, c3, c4, c5, c6, c7, c8⟩ := (HDr.out _ hkr).cells hid
          have HDt := Lib.hid fun W (r : Kp (One ba) w8 W) => (HDr.out W r).there_of hid
          have HGd : Hid (ds.getD (i : Int).toNat default = ds[i]) := Lib.hid (by simp [List.getD, List.getElem?_eq_getElem hid])
          have HN := Lib.hid (BxD.new2 wr ds[i])
          have HSd : Hid (plStep ds l block st i = if ds[i].op = 2 ∨ ds[i].op = 3 then (if cntOf l ds[i] = 1 then some st else none)
              else if ds[i].op = 1 then (match readB (byL ds l) ds l st block ds[i] with | some n => some (st.set i (n : Int)) | none => none) else some st) := Lib.hid (by unfold plStep; rw [HGd.out]; rfl)
          clear hi hSt HGd
          generalize ds[i] = d at *
          go_upto_region 16 with (fail)
          obtain ⟨U, eU, hN, kU⟩ := HN.out
          rw [eU]
          have HC14 := Lib.hid fun W (r : Kp Non U W) => BxD.cells (Bx.non hN r)
          obtain ⟨n0, n1, n2, n3, n4, n5, n6, n7, n8⟩ := hN.cells
          have hkU := hkr.trans kU.non
          have hAU := hAr.non kU
          clear eU HN hN c0 c1 c2 c3 c4 c5 c6 c7 c8 hb3
          generalize wr.heap.size = b14 at *
          by_cases h23 : d.op = 2 ∨ d.op = 3
          · have HSd : Hid (plT ds l block idx (k + 1) = if cntOf l d = 1 then some st else none) := Lib.hid (by rw [HStp.out, HSd.out, if_pos h23])
            rcases h23 with h2 | h3
            · have e2 : (d.op == 2) = true := by simp [h2]
              clear h2
              go_wp2_with fail
              go_loopw [15, 78] (fun v15 v78 wj => ∃ j : Nat, j ≤ l.length ∧ v78 = .int .i64 j ∧ (∃ z : Nat, v15 = .int .i64 z ∧ Hid (z = cntT l d j)) ∧ Kp Non U wj) (fun _ v78 _ => l.length - (intOf v78).toNat)
              case atStart => exact ⟨0, by omega, rfl, ⟨0, rfl, Lib.hid rfl⟩, Kp.refl _ _⟩
              case round =>
                obtain ⟨j, hj', rfl, ⟨z, rfl, hz⟩, hkj⟩ := hrel
                by_cases hjt : j < l.length
                · have gj : (j : Int) < (l.length : Nat) := by omega
                  obtain ⟨lb, lo, rfl⟩ := hl.there (by omega)
                  obtain ⟨p0, p1, p2, p3, p4, p5⟩ := Puts_.cells (HLr.out _ (hkU.trans hkj.non)) hjt
                  have HP := Lib.hid (List.getElem?_eq_getElem hjt)
                  have HN := Lib.hid (BxP.new2 wr l[j])
                  have hzj := cntT_le l d j
                  rw [← hz.out] at hzj
                  generalize l[j] = p at *
                  go_upto_region 23 with (fail)
                  obtain ⟨Z, eZ, hNZ, kZ⟩ := HN.out
                  rw [eZ]
                  obtain ⟨q0, q1, q2, q3, q4, q5⟩ := hNZ.cells
                  have hkZ := hkj.trans kZ
                  obtain ⟨n0, n1, n2, n3, n4, n5, n6, n7, n8⟩ := HC14.out Z hkZ
                  clear eZ HN hNZ p0 p1 p2 p3 p4 p5
                  generalize wr.heap.size = b17 at *
                  have HYc : Hid (deedIs p d = true → z + 1 = cntT l d (j + 1)) := Lib.hid fun e => by rw [cntT, HP.out]; simp only [e, if_true, hz.out]
                  have HNc : Hid (deedIs p d = false → z = cntT l d (j + 1)) := Lib.hid fun e => by rw [cntT, HP.out]; simp only [e, Bool.false_eq_true, if_false, hz.out]
                  by_cases h1 : p.cl = d.cl
                  · have g1 : (p.cl == d.cl) = true := by simp [h1]
                    by_cases h2 : p.sq = d.sq
                    · have g2 : (p.sq == d.sq) = true := by simp [h2]
                      have HE := Lib.hid (HYc.out (by simp [deedIs, h1, h2]))
                      clear HYc HNc h1 h2
                      go_wp2_with fail
                      go_roundw
                      case rel => exact ⟨j + 1, by omega, by go_num, ⟨z + 1, by go_num, HE⟩, hkZ⟩
                      case measure => simp [intOf]; omega
                    · have g2 : (p.sq == d.sq) = false := by simp [h2]
                      have HE := Lib.hid (HNc.out (by have : ¬ d.sq = p.sq := fun e => h2 e.symm; simp [deedIs, this]))
                      clear HYc HNc h1 h2
                      go_wp2_with fail
                      go_roundw
                      case rel => exact ⟨j + 1, by omega, by go_num, ⟨z, rfl, HE⟩, hkZ⟩
                      case measure => simp [intOf]; omega
                  · have g1 : (p.cl == d.cl) = false := by simp [h1]
                    have HE := Lib.hid (HNc.out (by have : ¬ d.cl = p.cl := fun e => h1 e.symm; simp [deedIs, this]))
                    clear HYc HNc h1
                    go_wp2_with fail
                    go_roundw
                    case rel => exact ⟨j + 1, by omega, by go_num, ⟨z, rfl, HE⟩, hkZ⟩
                    case measure => simp [intOf]; omega
                · obtain rfl : j = l.length := by omega
                  have hkJ := hkU.trans hkj.non
                  have hAJ := hAU.non hkj
                  by_cases hz1 : z = 1
                  · have ez : ((z : Int) != 1) = false := by simp; omega
                    have HE : Hid (plT ds l block idx (k + 1) = some st) := Lib.hid (by rw [HSd.out, if_pos (by unfold cntOf; rw [← hz.out, hz1])])
                    clear hz1 HSd
                    go_wp2_with fail
                    go_roundw
                    case rel => exact ⟨k + 1, by omega, by go_num, Lib.hid ⟨_, HE.out, hok, hAJ⟩, hkJ⟩
                    case measure => simp [intOf]; omega
                  · have ez : ((z : Int) != 1) = true := by simp; omega
                    have HF : Hid (none = placesB ds l block) := Lib.hid (HOut.out (k + 1) (by omega) (by rw [HSd.out, if_neg (by unfold cntOf; rw [← hz.out]; exact hz1)])).symm
                    clear hz1 HSd
                    go_wp2_with fail
                    go_ret2
                    exact ⟨none, 0, 0, by rw [← HF.out]; rfl, by rw [← HF.out]; exact OwnR.nil _ _ _, HKa.out _ hkJ⟩
            · have e2 : (d.op == 2) = false := by simp [h3]
              have e3 : (d.op == 3) = true := by simp [h3]
              clear h3
              go_wp2_with fail
              go_loopw [15, 78] (fun v15 v78 wj => ∃ j : Nat, j ≤ l.length ∧ v78 = .int .i64 j ∧ (∃ z : Nat, v15 = .int .i64 z ∧ Hid (z = cntT l d j)) ∧ Kp Non U wj) (fun _ v78 _ => l.length - (intOf v78).toNat)
              case atStart => exact ⟨0, by omega, rfl, ⟨0, rfl, Lib.hid rfl⟩, Kp.refl _ _⟩
              case round =>
                obtain ⟨j, hj', rfl, ⟨z, rfl, hz⟩, hkj⟩ := hrel
                by_cases hjt : j < l.length
                · have gj : (j : Int) < (l.length : Nat) := by omega
                  obtain ⟨lb, lo, rfl⟩ := hl.there (by omega)
                  obtain ⟨p0, p1, p2, p3, p4, p5⟩ := Puts_.cells (HLr.out _ (hkU.trans hkj.non)) hjt
                  have HP := Lib.hid (List.getElem?_eq_getElem hjt)
                  have HN := Lib.hid (BxP.new2 wr l[j])
                  have hzj := cntT_le l d j
                  rw [← hz.out] at hzj
                  generalize l[j] = p at *
                  go_upto_region 23 with (fail)
                  obtain ⟨Z, eZ, hNZ, kZ⟩ := HN.out
                  rw [eZ]
                  obtain ⟨q0, q1, q2, q3, q4, q5⟩ := hNZ.cells
                  have hkZ := hkj.trans kZ
                  obtain ⟨n0, n1, n2, n3, n4, n5, n6, n7, n8⟩ := HC14.out Z hkZ
                  clear eZ HN hNZ p0 p1 p2 p3 p4 p5
                  generalize wr.heap.size = b17 at *
                  have HYc : Hid (deedIs p d = true → z + 1 = cntT l d (j + 1)) := Lib.hid fun e => by rw [cntT, HP.out]; simp only [e, if_true, hz.out]
                  have HNc : Hid (deedIs p d = false → z = cntT l d (j + 1)) := Lib.hid fun e => by rw [cntT, HP.out]; simp only [e, Bool.false_eq_true, if_false, hz.out]
                  by_cases h1 : p.cl = d.cl
                  · have g1 : (p.cl == d.cl) = true := by simp [h1]
                    by_cases h2 : p.sq = d.sq
                    · have g2 : (p.sq == d.sq) = true := by simp [h2]
                      have HE := Lib.hid (HYc.out (by simp [deedIs, h1, h2]))
                      clear HYc HNc h1 h2
                      go_wp2_with fail
                      go_roundw
                      case rel => exact ⟨j + 1, by omega, by go_num, ⟨z + 1, by go_num, HE⟩, hkZ⟩
                      case measure => simp [intOf]; omega
                    · have g2 : (p.sq == d.sq) = false := by simp [h2]
                      have HE := Lib.hid (HNc.out (by have : ¬ d.sq = p.sq := fun e => h2 e.symm; simp [deedIs, this]))
                      clear HYc HNc h1 h2
                      go_wp2_with fail
                      go_roundw
                      case rel => exact ⟨j + 1, by omega, by go_num, ⟨z, rfl, HE⟩, hkZ⟩
                      case measure => simp [intOf]; omega
                  · have g1 : (p.cl == d.cl) = false := by simp [h1]
                    have HE := Lib.hid (HNc.out (by have : ¬ d.cl = p.cl := fun e => h1 e.symm; simp [deedIs, this]))
                    clear HYc HNc h1
                    go_wp2_with fail
                    go_roundw
                    case rel => exact ⟨j + 1, by omega, by go_num, ⟨z, rfl, HE⟩, hkZ⟩
                    case measure => simp [intOf]; omega
                · obtain rfl : j = l.length := by omega
                  have hkJ := hkU.trans hkj.non
                  have hAJ := hAU.non hkj
                  by_cases hz1 : z = 1
                  · have ez : ((z : Int) != 1) = false := by simp; omega
                    have HE : Hid (plT ds l block idx (k + 1) = some st) := Lib.hid (by rw [HSd.out, if_pos (by unfold cntOf; rw [← hz.out, hz1])])
                    clear hz1 HSd
                    go_wp2_with fail
                    go_roundw
                    case rel => exact ⟨k + 1, by omega, by go_num, Lib.hid ⟨_, HE.out, hok, hAJ⟩, hkJ⟩
                    case measure => simp [intOf]; omega
                  · have ez : ((z : Int) != 1) = true := by simp; omega
                    have HF : Hid (none = placesB ds l block) := Lib.hid (HOut.out (k + 1) (by omega) (by rw [HSd.out, if_neg (by unfold cntOf; rw [← hz.out]; exact hz1)])).symm
                    clear hz1 HSd
                    go_wp2_with fail
                    go_ret2
                    exact ⟨none, 0, 0, by rw [← HF.out]; rfl, by rw [← HF.out]; exact OwnR.nil _ _ _, HKa.out _ hkJ⟩
          · have e2 : (d.op == 2) = false := by simp; omega
            have e3 : (d.op == 3) = false := by simp; omega
            by_cases h1 : d.op = 1
            · have e1 : (d.op == 1) = true := by simp [h1]
              have HSd : Hid (plT ds l block idx (k + 1) = (match readB (byL ds l) ds l st block d with | some n => some (st.set i (n : Int)) | none => none)) := Lib.hid (by rw [HStp.out, HSd.out, if_neg h23, if_pos h1])
              have HRd := Lib.hid (jread_calls (W := U) (ys := byL ds l) (at_ := st) ⟨by rw [byL_len, hok.1]; exact HJ.out U hkU, HLr.out U hkU, by rw [byL_len]; exact HYr.out U hkU, HDr.out U hkU, by rw [hok.1]; exact hAU.reads encI_len (by omega)⟩ d (HDt.out U hkU) hok.1 (byL_len ds l) hll hok.2)
              simp only [valDeed] at HRd
              clear h1 h23 n0 n1 n2 n3 n4 n5 n6 n7 n8
              obtain ⟨n0, n1, n2, n3, n4, n5, n6, n7, n8⟩ := HC14.out U (Kp.refl _ _)
              go_wp2_with fail
              refine HRd.out.mono ?_
              rintro e wx ⟨rfl, hkx⟩
              have HLe := Lib.hid (fun n (h : readB (byL ds l) ds l st block d = some n) => readB_le h)
              generalize readB (byL ds l) ds l st block d = r at *
              have hkX := hkU.trans hkx.non
              have hAX := hAU.non hkx
              rcases r with _ | nn
              · have HF : Hid (none = placesB ds l block) := Lib.hid (HOut.out (k + 1) (by omega) (by rw [HSd.out])).symm
                go_wp2_with fail
                go_ret2
                exact ⟨none, 0, 0, by rw [← HF.out]; rfl, by rw [← HF.out]; exact OwnR.nil _ _ _, HKa.out _ hkX⟩
              · have hnn := HLe.out nn rfl
                obtain ⟨j0, j1, j2, j3, j4⟩ := BxJ.cells (HJ.out wx hkX)
                have is1 := OwnI.at_ hAX (i := i) (x := st[i]'(by rw [hok.1]; exact hid)) (List.getElem?_eq_getElem _)
                have fz1 := hAX.fz rfl i
                have hA2 := OwnI.set1 hAX i (nn : Int)
                have k2 : Kp (One ba) w8 (wx.setCell ⟨ba, i, none⟩ (.int .i64 nn)) := hkX.setCell (p := ⟨ba, i, none⟩) (.inl rfl) _
                have HE : Hid (plT ds l block idx (k + 1) = some (st.set i (nn : Int))) := Lib.hid (by rw [HSd.out])
                have hok2 := hok.set i nn hnn
                clear HLe HSd HRd hnn
                go_wp2_with fail
                go_roundw
                case rel => exact ⟨k + 1, by omega, by go_num, Lib.hid ⟨_, HE.out, hok2, hA2⟩, k2⟩
                case measure => simp [intOf]; omega
            · have e1 : (d.op == 1) = false := by simp [h1]
              have HE : Hid (plT ds l block idx (k + 1) = some st) := Lib.hid (by rw [HStp.out, HSd.out, if_neg h23, if_neg h1])
              clear h1 h23 HSd HStp
              go_wp2_with fail
              go_roundw
              case rel => exact ⟨k + 1, by omega, by go_num, Lib.hid ⟨_, HE.out, hok, hAU⟩, hkU⟩
              case measure => simp [intOf]; omega
        · obtain rfl : k = n := by omega
          have HF : Hid (some st = placesB ds l block) := Lib.hid (by rw [HPB.out, hst]; try simp)
          obtain ⟨j0, j1, j2, j3, j4⟩ := BxJ.cells (HJ.out _ hkr)
          go_wp2_with fail
          go_ret2
          exact ⟨some ⟨ba, 0, none⟩, ds.length, ds.length, by rw [← HF.out]; rfl, by rw [← HF.out]; exact hAr.lower (by have := HBs.out; omega), HKa.out _ hkr⟩
end Go.Proofs.Ytpehfnobgdjgcaa
