/-
  Maps that a call makes: what lies in them, look-up, update. For any key type whose keys are told apart.
-/
import Derived.WalkKit
import Derived.MapKept
import Derived.Test.YtdijaillcajpaaaK0
namespace Go.Proofs.Ytdijaillcajpaaa
open Go.RowKit

section
variable {K : Type} [DecidableEq K]
/-- The value at a key. -/
def mget {V : Type} (L : List (K × V)) (x : K) : Option V := (L.find? fun p => decide (p.1 = x)).map (·.2)
/-- A value put at a key. -/
def mput {V : Type} : List (K × V) → K → V → List (K × V)
  | [], x, v => [(x, v)]
  | p :: L, x, v => if p.1 = x then (x, v) :: L else p :: mput L x v
theorem mget_nil {V : Type} (x : K) : mget ([] : List (K × V)) x = none := rfl
theorem mget_cons {V : Type} (p : K × V) (L : List (K × V)) (x : K) : mget (p :: L) x = if p.1 = x then some p.2 else mget L x := by
  unfold mget
  rw [List.find?_cons]
  by_cases h : p.1 = x <;> simp [h]
theorem mget_put {V : Type} (L : List (K × V)) (x : K) (v : V) (y : K) : mget (mput L x v) y = if x = y then some v else mget L y := by
  induction L with
  | nil => rw [show mput ([] : List (K × V)) x v = [(x, v)] from rfl, mget_cons]
  | cons p L ih =>
    unfold mput
    by_cases h : p.1 = x
    · rw [if_pos h, mget_cons, mget_cons]
      by_cases hy : x = y
      · simp [hy]
      · rw [if_neg hy, if_neg hy, if_neg (fun e => hy (h ▸ e))]
    · rw [if_neg h, mget_cons, mget_cons, ih]
      by_cases hp : p.1 = y
      · rw [if_pos hp, if_pos hp, if_neg (fun e => h (hp.trans e.symm))]
      · rw [if_neg hp, if_neg hp]

/-- Where a key stands. -/
def mat {V : Type} (L : List (K × V)) (x : K) : Option Nat := L.findIdx? fun p => decide (p.1 = x)
theorem mat_cons {V : Type} (p : K × V) (L : List (K × V)) (x : K) : mat (p :: L) x = if p.1 = x then some 0 else (mat L x).map (· + 1) := by
  unfold mat
  rw [List.findIdx?_cons]
  by_cases h : p.1 = x <;> simp [h]
theorem mat_none {V : Type} {L : List (K × V)} {x : K} : mat L x = none ↔ mget L x = none := by
  induction L with
  | nil => simp [mat, mget]
  | cons p L ih =>
    rw [mat_cons, mget_cons]
    by_cases h : p.1 = x <;> simp [h, ih]
theorem mat_some {V : Type} {L : List (K × V)} {x : K} {i : Nat} (h : mat L x = some i) : ∃ hi : i < L.length, L[i].1 = x ∧ mget L x = some L[i].2 := by
  induction L generalizing i with
  | nil => cases h
  | cons p L ih =>
    rw [mat_cons] at h
    by_cases hp : p.1 = x
    · rw [if_pos hp] at h
      cases h
      exact ⟨by simp, hp, by rw [mget_cons, if_pos hp]; rfl⟩
    · rw [if_neg hp] at h
      cases hm : mat L x with
      | none => rw [hm] at h; cases h
      | some j =>
        rw [hm] at h
        cases h
        obtain ⟨h1, h2, h3⟩ := ih hm
        exact ⟨by simp; omega, by simpa using h2, by rw [mget_cons, if_neg hp, h3]; simp⟩
theorem mput_none {V : Type} {L : List (K × V)} {x : K} (h : mat L x = none) (v : V) : mput L x v = L ++ [(x, v)] := by
  induction L with
  | nil => rfl
  | cons p L ih =>
    rw [mat_cons] at h
    by_cases hp : p.1 = x
    · rw [if_pos hp] at h; cases h
    · rw [if_neg hp] at h
      unfold mput
      rw [if_neg hp, ih (by cases hm : mat L x with | none => rfl | some j => rw [hm] at h; cases h)]
      rfl
theorem mput_some {V : Type} {L : List (K × V)} {x : K} {i : Nat} (h : mat L x = some i) (v : V) : mput L x v = L.set i (x, v) := by
  induction L generalizing i with
  | nil => cases h
  | cons p L ih =>
    rw [mat_cons] at h
    by_cases hp : p.1 = x
    · rw [if_pos hp] at h
      cases h
      unfold mput
      rw [if_pos hp]; rfl
    · rw [if_neg hp] at h
      cases hm : mat L x with
      | none => rw [hm] at h; cases h
      | some j =>
        rw [hm] at h
        cases h
        unfold mput
        rw [if_neg hp, ih hm]; rfl

/-- Keys of a type are told apart. -/
structure Keys (P : Program) (kt : TypeId) (enc : K → Value) : Prop where
  check : ∀ e x w, (Instr.checkKey e 10000 kt (enc x)).run P w = .ok () w
  find : ∀ {V : Type} (l : List MapEntry) (L : List (K × V)) x w, l.map (·.key) = L.map (fun p => enc p.1) → (Instr.findKey kt (enc x) l).run P w = .ok ((mat L x).bind fun i => l[i]?.map fun e => (i, e.val)) w
  bits : ∀ x, Instr.sameBits 10000 (enc x) (enc x) = true

theorem findNow_mat {V : Type} {d : TypeDesc} {enc : K → Value} (hs : ∀ x y, Instr.sameNow d (enc x) (enc y) = some (decide (y = x))) (x : K) : ∀ (l : List MapEntry) (L : List (K × V)) (i : Nat), l.map (·.key) = L.map (fun p => enc p.1) →
    Instr.findNow d (enc x) l i = some ((mat L x).bind fun j => l[j]?.map fun e => (i + j, e.val))
  | [], L, i, h => by
    have : L = [] := by cases L with | nil => rfl | cons p L => simp at h
    subst this
    rfl
  | e :: l, L, i, h => by
    cases L with
    | nil => simp at h
    | cons p L =>
      simp only [List.map_cons, List.cons.injEq] at h
      unfold Instr.findNow
      rw [h.1, hs, mat_cons]
      by_cases hp : p.1 = x
      · simp [hp]
      · rw [if_neg hp]
        simp only [hp, decide_false]
        rw [findNow_mat hs x l L (i + 1) h.2]
        cases hm : mat L x with
        | none => simp
        | some j => simp; congr 1; funext e; congr 1; omega
theorem keys_int {P : Program} {kt : TypeId} (hd : P.underlying kt = some (.int .i64)) : Keys P kt (fun x : Int => Value.int .i64 x) where
  check := fun e x w => by
    have := MapKept.run_checkKey (P := P) (w := w) hd (k := .int .i64 x) (by simp [MapKept.IsKey]) e 9999
    exact this
  find := fun l L x w h => MapKept.run_findKey hd (by
    rw [findNow_mat (enc := fun x : Int => Value.int .i64 x) (fun x y => by simp [Instr.sameNow, Bool.beq_eq_decide_eq, eq_comm]) x l L 0 h]
    simp)
  bits := fun x => by simp [Instr.sameBits]

/-- The block b is a map that holds L. -/
def MapIs {V : Type} (enc : K → Value) (encV : V → Value) (w : World) (b : Nat) (L : List (K × V)) : Prop :=
  ∃ es clock, w.heap[b]? = some (.map es clock) ∧ es.toList.map (·.key) = L.map (fun p => enc p.1) ∧ es.toList.map (·.val) = L.map (fun p => encV p.2)

section
variable {P : Program} {kt et t : TypeId} {V : Type} {enc : K → Value} {encV : V → Value} {w : World} {b : Nat} {L : List (K × V)}
omit [DecidableEq K] in
theorem MapIs.new (w : World) (enc : K → Value) (encV : V → Value) : MapIs enc encV (w.alloc (.map #[] 0)) w.heap.size ([] : List (K × V)) := ⟨#[], 0, heap_alloc_new w _, rfl, rfl⟩
omit [DecidableEq K] in
theorem MapIs.lt (h : MapIs enc encV w b L) : b < w.heap.size := by obtain ⟨es, cl, h, _⟩ := h; exact heap_lt h
omit [DecidableEq K] in
theorem MapIs.kp {S : Nat → Prop} {w' : World} (h : MapIs enc encV w b L) (k : Kp S w w') (hn : ¬ S b) : MapIs enc encV w' b L := by
  obtain ⟨es, cl, h, h2⟩ := h
  exact ⟨es, cl, k.heap h hn, h2⟩
omit [DecidableEq K] in
theorem MapIs.non {w' : World} (h : MapIs enc encV w b L) (k : Kp Non w w') : MapIs enc encV w' b L := h.kp k fun f => f
theorem MapIs.at_ (h : MapIs enc encV w b L) : ∃ es clock, w.heap[b]? = some (.map es clock) ∧ es.toList.map (·.key) = L.map (fun p => enc p.1) ∧ ∀ x : K, ((mat L x).bind fun i => es.toList[i]?.map fun e => (i, e.val)) = (mat L x).bind fun i => L[i]?.map fun p => (i, encV p.2) := by
  obtain ⟨es, cl, h1, h2, h3⟩ := h
  refine ⟨es, cl, h1, h2, fun x => ?_⟩
  cases mat L x with
  | none => rfl
  | some i =>
    have := congrArg (fun l => l[i]?) h3
    simp only [List.getElem?_map] at this
    simp only [Option.bind_some]
    cases he : es.toList[i]? with
    | none => rw [he] at this; cases hL : L[i]? with
      | none => rfl
      | some p => rw [hL] at this; simp at this
    | some e => rw [he] at this; cases hL : L[i]? with
      | none => rw [hL] at this; simp at this
      | some p => rw [hL] at this; simp at this; simp [this]
theorem mat_get (L : List (K × V)) (x : K) : ((mat L x).bind fun i => L[i]?.map fun p => (i, encV p.2)) = (mat L x).bind fun i => (mget L x).map fun v => (i, encV v) := by
  cases hm : mat L x with
  | none => rfl
  | some i =>
    obtain ⟨hi, h1, h2⟩ := mat_some hm
    simp [h2, List.getElem?_eq_getElem hi]
/-- A look-up. -/
theorem run_lookup_is (KK : Keys P kt enc) (h : MapIs enc encV w b L) (ht : P.underlying t = some (.map kt et)) {z : Value} (hz : (zeroValue et).run P w = .ok z w) (x : K) (ok : Bool) :
    (Instr.lookup t (.map (some b)) (enc x) ok).run P w = .ok (if ok then .tuple #[((mget L x).map encV).getD z, .bool (mget L x).isSome] else ((mget L x).map encV).getD z) w := by
  obtain ⟨es, cl, h1, h2, h3⟩ := h.at_
  have hf := KK.find es.toList L x w h2
  rw [h3 x, mat_get] at hf
  have hc := KK.check es.isEmpty x w
  cases hm : mat L x with
  | none =>
    have h4 := mat_none.1 hm
    rw [hm] at hf
    simp [Instr.lookup, run_underlying ht, MapKept.run_getObj_map h1, hc, hf, hz, h4, Result.andThen]
  | some i =>
    obtain ⟨hi, h4, h5⟩ := mat_some hm
    rw [hm] at hf
    simp [h5] at hf
    simp [Instr.lookup, run_underlying ht, MapKept.run_getObj_map h1, hc, hf, h5, Result.andThen]
/-- A look-up in the nil map. -/
theorem run_lookup_nil (KK : Keys P kt enc) (ht : P.underlying t = some (.map kt et)) {z : Value} (hz : (zeroValue et).run P w = .ok z w) (x : K) (ok : Bool) :
    (Instr.lookup t (.map none) (enc x) ok).run P w = .ok (if ok then .tuple #[z, .bool false] else z) w := by
  have hf := KK.find [] ([] : List (K × Unit)) x w rfl
  have hc := KK.check true x w
  simp [mat] at hf
  simp [Instr.lookup, run_underlying ht, hc, hf, hz, Result.andThen]
/-- An update. -/
theorem run_update_is (KK : Keys P kt enc) (h : MapIs enc encV w b L) (ht : P.underlying t = some (.map kt et)) (x : K) (v : V) :
    ∃ w', (Instr.mapUpdate t (.map (some b)) (enc x) (encV v)).run P w = .ok () w' ∧ MapIs enc encV w' b (mput L x v) ∧ Kp (One b) w w' := by
  have hat := h.at_
  obtain ⟨es, cl, h1, h2, h3⟩ := hat
  obtain ⟨es', cl', h1', _, hv⟩ := h
  rw [h1] at h1'
  simp only [Option.some.injEq, Obj.map.injEq] at h1'
  obtain ⟨rfl, rfl⟩ := h1'
  have hb := heap_lt h1
  have hkp : ∀ o, Kp (One b) w { w with heap := w.heap.setIfInBounds b o } := fun o => ⟨rfl, rfl, rfl, by simp, fun k _ hk => by
    have hk : k ≠ b := hk
    simp [Array.getElem?_setIfInBounds_ne (Ne.symm hk)]⟩
  have hf := KK.find es.toList L x w h2
  rw [h3 x, mat_get] at hf
  have hc := KK.check false x w
  cases hm : mat L x with
  | none =>
    rw [hm] at hf
    simp only [Option.bind_none] at hf
    have hs := fun o => MapKept.run_setObj_map (P := P) o h1
    refine ⟨_, by simp [Instr.mapUpdate, run_underlying ht, MapKept.run_getObj_map h1, hc, hf, hs, Result.andThen]; rfl, ⟨es.push { key := enc x, val := encV v, born := cl }, cl + 1, by simp [hb], ?_, ?_⟩, hkp _⟩
    · rw [mput_none hm]; simp [h2]
    · rw [mput_none hm]; simp [hv]
  | some i =>
    obtain ⟨hi, h4, h5⟩ := mat_some hm
    have hei : i < es.toList.length := by
      have := congrArg List.length h2
      simp only [List.length_map] at this
      omega
    have hkey : es.toList[i].key = enc x := by
      have := congrArg (fun l => l[i]?) h2
      simp only [List.getElem?_map, List.getElem?_eq_getElem hei, List.getElem?_eq_getElem hi, Option.map_some, Option.some.injEq] at this
      rw [this, h4]
    have hek : (es[i]?.map (·.key)).getD (enc x) = enc x := by
      rw [← Array.getElem?_toList, List.getElem?_eq_getElem hei]
      exact hkey
    rw [hm] at hf
    simp [h5] at hf
    have hs := fun o => MapKept.run_setObj_map (P := P) o h1
    have hkk : ∀ w, (Instr.keyThatStays (enc x) (enc x)).run P w = .ok (enc x) w := fun w => by
      unfold Instr.keyThatStays
      rw [if_pos (KK.bits x)]
      simp
    refine ⟨_, by simp only [Instr.mapUpdate, Sem.run_bind, run_underlying ht, MapKept.run_getObj_map h1, hc, hf, hs, Result.andThen, hek, hkk]; rfl, ⟨es.modify i fun e => { e with key := enc x, val := encV v }, cl, by simp [hb], ?_, ?_⟩, hkp _⟩
    · rw [mput_some hm, List.map_set, ← h2]
      apply List.ext_getElem?
      intro j
      simp only [List.getElem?_map, Array.getElem?_toList, Array.getElem?_modify, List.getElem?_set]
      by_cases hij : i = j
      · subst hij
        have : es[i]? = some es.toList[i] := by rw [← Array.getElem?_toList, List.getElem?_eq_getElem hei]
        simp [this]
        omega
      · simp [hij]
    · rw [mput_some hm, List.map_set, ← hv]
      apply List.ext_getElem?
      intro j
      simp only [List.getElem?_map, Array.getElem?_toList, Array.getElem?_modify, List.getElem?_set]
      by_cases hij : i = j
      · subst hij
        have : es[i]? = some es.toList[i] := by rw [← Array.getElem?_toList, List.getElem?_eq_getElem hei]
        simp [this]
        omega
      · simp [hij]
end
end
end Go.Proofs.Ytdijaillcajpaaa
