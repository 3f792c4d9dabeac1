/-
  A Map of numbers and a Map of texts, side by side.
-/
import Derived.Test.YtkgjpmgoapfamaaE18
import Derived.Test.YtkgjpmgoapfamaaM5T
import Derived.Test.YtkgjpmgoapfamaaA6
import Derived.Laws.BitsLemmas
namespace Go.Proofs.Ytkgjpmgoapfamaa
open Go.RowKit

theorem i64_and65535 (n : Int) : bits .and .i64 n 65535 = n % 65536 := by
  have h127 : (BitVec.ofInt 64 65535).toNat = 2 ^ 16 - 1 := by decide
  have key : (BitVec.ofInt 64 n &&& BitVec.ofInt 64 65535).toNat = (n % ((2 ^ 64 : Nat) : Int)).toNat % 2 ^ 16 := by
    rw [BitVec.toNat_and, BitVec.toNat_ofInt, h127, Nat.and_two_pow_sub_one_eq_mod]
  show IntKind.i64.wrap ((BitVec.ofInt 64 n &&& BitVec.ofInt 64 65535).toNat : Nat) = n % 65536
  rw [key, IntKind.wrap_i64]
  omega

/-- A Map m of numbers and a Map t of texts, in blocks of the call's own. -/
structure Both (w : World) (m t : Nat) (M : List (Sp × Int)) (T : List (Sp × ByteArray)) (W : World) : Prop where
  ex : ∃ al cl av cv bl dl bv dv, MapI W m M al cl av cv ∧ MapT W t T bl dl bv dv ∧ (∀ i, MSI m al av i → w.heap.size < i ∧ ¬ MST t bl bv i) ∧ (∀ i, MST t bl bv i → w.heap.size < i)
  kp : Kp (One w.heap.size) w W
theorem Both.non {w W W' : World} {m t : Nat} {M : List (Sp × Int)} {T : List (Sp × ByteArray)} (h : Both w m t M T W) (k : Kp Non W W') : Both w m t M T W' := by
  obtain ⟨al, cl, av, cv, bl, dl, bv, dv, h1, h2, h3, h4⟩ := h.ex
  exact ⟨⟨al, cl, av, cv, bl, dl, bv, dv, h1.non k, h2.non k, h3, h4⟩, h.kp.comp k (fun _ _ q => q) (fun _ _ f => f.elim)⟩
theorem Both.numCall {w W : World} {m t : Nat} {M M' : List (Sp × Int)} {T : List (Sp × ByteArray)} {f : FuncId} {args : Array Value} (h : Both w m t M T W) (hc : ∀ al cl av cv, MapI W m M al cl av cv → Calls Try.prog f args W (MapOutI m M' al av W)) :
    Calls Try.prog f args W fun e W' => e = .returned (.tuple #[]) ∧ Both w m t M' T W' ∧ Kp (fun i => w.heap.size < i) W W' ∧ ∀ (b : Nat) cs fr, W.heap[b]? = some (Obj.cells cs 47 fr) → W'.heap[b]? = some (Obj.cells cs 47 fr) := by
  obtain ⟨al, cl, av, cv, bl, dl, bv, dv, h1, h2, h3, h4⟩ := h.ex
  refine (hc al cl av cv h1).mono ?_
  rintro e W' ⟨he, al', cl', av', cv', q1, q2, q3⟩
  have hw := h.kp.size
  refine ⟨he, ⟨⟨al', cl', av', cv', bl, dl, bv, dv, q1, h2.kp q2 (fun i hi hm => (h3 i hm).2 hi), fun i hi => ?_, h4⟩, h.kp.comp q2 (fun _ _ q => q) (fun i hi q => by have := (h3 i q).1; omega)⟩, q2.mono fun i _ q => (h3 i q).1, fun b cs fr hb => q2.heap hb fun q => ?_⟩
  · rcases q3 i hi with q | q
    · exact h3 i q
    · have hx := h2.lt
      refine ⟨?_, fun hr => by have := h2.old i hr; omega⟩
      have := (h4 t (.inl rfl)); omega
  · rcases q with rfl | q | q
    · rw [h1.box] at hb; simp at hb
    · exact row_apart h1.spans hb (by decide) q
    · exact row_apart h1.vals hb (by decide) q
theorem Both.txtCall {w W : World} {m t : Nat} {M : List (Sp × Int)} {T T' : List (Sp × ByteArray)} {f : FuncId} {args : Array Value} (h : Both w m t M T W) (hc : ∀ al cl av cv, MapT W t T al cl av cv → Calls Try.prog f args W (MapOutT t T' al av W)) :
    Calls Try.prog f args W fun e W' => e = .returned (.tuple #[]) ∧ Both w m t M T' W' ∧ Kp (fun i => w.heap.size < i) W W' ∧ ∀ (b : Nat) cs fr, W.heap[b]? = some (Obj.cells cs 47 fr) → W'.heap[b]? = some (Obj.cells cs 47 fr) := by
  obtain ⟨al, cl, av, cv, bl, dl, bv, dv, h1, h2, h3, h4⟩ := h.ex
  refine (hc bl dl bv dv h2).mono ?_
  rintro e W' ⟨he, al', cl', av', cv', q1, q2, q3⟩
  have hw := h.kp.size
  refine ⟨he, ⟨⟨al, cl, av, cv, al', cl', av', cv', h1.kp q2 (fun i hi hr => (h3 i hi).2 hr), q1, fun i hi => ⟨(h3 i hi).1, fun hr => ?_⟩, fun i hi => ?_⟩, h.kp.comp q2 (fun _ _ q => q) (fun i hi q => by have := h4 i q; omega)⟩, q2.mono fun i _ q => h4 i q, fun b cs fr hb => q2.heap hb fun q => ?_⟩
  · rcases q3 i hr with q | q
    · exact (h3 i hi).2 q
    · have := h1.old i hi; omega
  · rcases q3 i hi with q | q
    · exact h4 i q
    · have := h1.lt; have := (h3 m (.inl rfl)).1; omega
  · rcases q with rfl | q | q
    · rw [h2.box] at hb; simp at hb
    · exact row_apart h2.spans hb (by decide) q
    · exact row_apart h2.vals hb (by decide) q
theorem dropI_gen (m : Nat) (M : List (Sp × Int)) (s : Sp) (v : Int) (W : World) (hl : M.length ≤ 1000) (al : Option Addr) (cl : Nat) (av : Option Addr) (cv : Nat) (hM : MapI W m M al cl av cv) : Calls Try.prog 29 #[.pointer (some ⟨m, 0, none⟩), valS s] W (MapOutI m (gstep M s v false) al av W) := by
  by_cases hs : s.1 < s.2
  · rw [show gstep M s v false = drp M s by unfold gstep; rw [if_pos hs, if_neg (by simp)]]
    exact dropI_calls m M al cl av cv s W hM hs (by omega)
  · rw [show gstep M s v false = M by unfold gstep; rw [if_neg hs]]
    refine (dropI_none m s (by omega) W).mono ?_
    rintro e W' ⟨he, hk⟩
    exact ⟨he, al, cl, av, cv, hM.non hk, hk.non, fun i q => .inl q⟩
theorem putI_gen (m : Nat) (M : List (Sp × Int)) (s : Sp) (v : Int) (W : World) (hl : M.length ≤ 1000) (al : Option Addr) (cl : Nat) (av : Option Addr) (cv : Nat) (hM : MapI W m M al cl av cv) : Calls Try.prog 30 #[.pointer (some ⟨m, 0, none⟩), valS s, .int .i64 v] W (MapOutI m (gstep M s v true) al av W) := by
  by_cases hs : s.1 < s.2
  · rw [show gstep M s v true = putC M s v by unfold gstep; rw [if_pos hs, if_pos rfl]]
    exact putI_calls m M al cl av cv s v W hM hs (by omega)
  · rw [show gstep M s v true = M by unfold gstep; rw [if_neg hs]]
    refine (putI_none m s v (by omega) W).mono ?_
    rintro e W' ⟨he, hk⟩
    exact ⟨he, al, cl, av, cv, hM.non hk, hk.non, fun i q => .inl q⟩
theorem dropT_gen (m : Nat) (M : List (Sp × ByteArray)) (s : Sp) (v : ByteArray) (W : World) (hl : M.length ≤ 1000) (al : Option Addr) (cl : Nat) (av : Option Addr) (cv : Nat) (hM : MapT W m M al cl av cv) : Calls Try.prog 38 #[.pointer (some ⟨m, 0, none⟩), valS s] W (MapOutT m (gstep M s v false) al av W) := by
  by_cases hs : s.1 < s.2
  · rw [show gstep M s v false = drp M s by unfold gstep; rw [if_pos hs, if_neg (by simp)]]
    exact dropT_calls m M al cl av cv s W hM hs (by omega)
  · rw [show gstep M s v false = M by unfold gstep; rw [if_neg hs]]
    refine (dropT_none m s (by omega) W).mono ?_
    rintro e W' ⟨he, hk⟩
    exact ⟨he, al, cl, av, cv, hM.non hk, hk.non, fun i q => .inl q⟩
theorem putT_gen (m : Nat) (M : List (Sp × ByteArray)) (s : Sp) (v : ByteArray) (W : World) (hl : M.length ≤ 1000) (al : Option Addr) (cl : Nat) (av : Option Addr) (cv : Nat) (hM : MapT W m M al cl av cv) : Calls Try.prog 39 #[.pointer (some ⟨m, 0, none⟩), valS s, .string v] W (MapOutT m (gstep M s v true) al av W) := by
  by_cases hs : s.1 < s.2
  · rw [show gstep M s v true = putC M s v by unfold gstep; rw [if_pos hs, if_pos rfl]]
    exact putT_calls m M al cl av cv s v W hM hs (by omega)
  · rw [show gstep M s v true = M by unfold gstep; rw [if_neg hs]]
    refine (putT_none m s v (by omega) W).mono ?_
    rintro e W' ⟨he, hk⟩
    exact ⟨he, al, cl, av, cv, hM.non hk, hk.non, fun i q => .inl q⟩
end Go.Proofs.Ytkgjpmgoapfamaa
