/-
  Keys that are instances' names.
-/
import Derived.Test.YtpehfnobgdjgcaaMP0
import Derived.Test.YtpehfnobgdjgcaaB0
import Derived.Test.YtpehfnobgdjgcaaProg
import Derived.Laws.StructEq
import Derived.DeepKeys3
import Derived.WideKeyRuns
namespace Go.Proofs.Ytpehfnobgdjgcaa
open Go.RowKit

abbrev Rf := Int × Int
def encRef (r : Rf) : Value := .agg #[.int .i64 r.1, .int .i64 r.2]
theorem eq_ref (a b c d : Int) (w : World) : (Op.equal 39 (.agg #[.int .i64 a, .int .i64 b]) (.agg #[.int .i64 c, .int .i64 d])).run Try.prog w = .ok (a == c && b == d) w := by
  have u3 := Try.underlying3
  have hS : Try.prog.underlying 39 = some (.struct (Try.prog.fieldsOf 39)) := by kernel_rfl
  have hp : Try.prog.stoodInHeld 39 = false := by kernel_rfl
  show (Op.equalIn 10000 39 _ _).run Try.prog w = _
  rw [show (10000 : Nat) = 9999 + 1 from rfl, run_equalIn_agg w 9999 39 _ _ hS hp]
  simp only [Program.fieldsOf, Try.underlying39]
  go_simp
  by_cases h1 : a = c <;> by_cases h2 : b = d <;> simp [h1, h2]
theorem check_ref (e : Bool) (a b : Int) (w : World) : (Instr.checkKey e 10000 39 (.agg #[.int .i64 a, .int .i64 b])).run Try.prog w = .ok () w := by
  have hI : ∀ x w, (Instr.checkKey e 9999 3 (.int .i64 x)).run Try.prog w = .ok () w := fun x w => MapKept.run_checkKey Try.underlying3 (by simp [MapKept.IsKey]) e 9998
  rw [show (10000 : Nat) = 9999 + 1 from rfl]
  unfold Instr.checkKey
  simp only [Sem.run_bind, run_underlying Try.underlying39, Result.andThen]
  have hp0 : ∀ w, (part 3 #[.int .i64 a, .int .i64 b] 0).run Try.prog w = .ok (.int .i64 a) w := fun w => run_part_plain w (by kernel_rfl) rfl
  have hp1 : ∀ w, (part 3 #[.int .i64 a, .int .i64 b] 1).run Try.prog w = .ok (.int .i64 b) w := fun w => run_part_plain w (by kernel_rfl) rfl
  simp [hp0, hp1, hI, Result.andThen]

set_option maxRecDepth 100000 in
theorem find_ref {V : Type} (x : Rf) (w : World) : ∀ (l : List MapEntry) (L : List (Rf × V)) (i : Nat), l.map (·.key) = L.map (fun p => encRef p.1) → (Instr.findAsking 39 (encRef x) l i).run Try.prog w = .ok ((mat L x).bind fun j => l[j]?.map fun e => (i + j, e.val)) w
  | [], L, i, h => by
    have : L = [] := by cases L with | nil => rfl | cons p L => simp at h
    subst this
    simp [Instr.findAsking, mat]
  | e :: l, L, i, h => by
    cases L with
    | nil => simp at h
    | cons p L =>
      simp only [List.map_cons, List.cons.injEq] at h
      have ih := find_ref x w l L (i + 1) h.2
      unfold Instr.findAsking
      rw [h.1]
      have he := eq_ref x.1 x.2 p.1.1 p.1.2 w
      rw [mat_cons]
      by_cases hp : p.1 = x
      · have hb : (x.1 == p.1.1 && x.2 == p.1.2) = true := by rw [hp]; simp
        rw [hb] at he
        rw [if_pos hp]
        simp only [encRef, Sem.run_bind]
        rw [he]
        simp [Result.andThen]
      · have hb : (x.1 == p.1.1 && x.2 == p.1.2) = false := by
          rw [Bool.eq_false_iff]
          intro q
          simp at q
          exact hp (Prod.ext q.1.symm q.2.symm)
        rw [hb] at he
        rw [if_neg hp]
        simp only [encRef, Sem.run_bind] at ih ⊢
        rw [he]
        simp only [Result.andThen, Bool.false_eq_true, if_false]
        rw [ih]
        cases hm : mat L x with
        | none => rfl
        | some j =>
          simp only [Option.bind_some, Option.map_some, List.getElem?_cons_succ]
          rw [show i + 1 + j = i + (j + 1) by omega]
theorem keys_ref : Keys Try.prog 39 encRef where
  check := fun e x w => check_ref e x.1 x.2 w
  find := fun l L x w h => by
    rw [run_findKey_eq w (by kernel_rfl)]
    have := find_ref x w l L 0 h
    simpa using this
  bits := fun x => by simp [Instr.sameBits, encRef]
end Go.Proofs.Ytpehfnobgdjgcaa
