/-
  No cell of these rows narrows 'for every input' (looked for: loops, veiled, ifaces, maps, wideKeys, modest, calm, conditions, laid).
  DERIVED. THE GIVEN ROWS OF THIS SEAT. 7 by the template 'for every input the law returns true; each argument reads behind the call as it read before'; 0 by the template 'total and deterministic' (their statements: YtpehfnobgdjgcaaTotals.lean).
  GIVEN WITH THE SEED: the statements are not yours to turn. If you find one false, say at which input.
  Laid BY PROGRAM, IN A SANDBOX (cutbox-rows.mjs): the forced cells as the released guide's own fill.sh prints them over the translation d03afc69bc094ba6… (all of the seat's roots in one cut). By AI agents, Wed Nov 11 2026. No macro, syntax, notation, axiom, sorry.
-/
import Derived.Test.YtpehfnobgdjgcaaChecked
import GoSem.Claim
import GoSem.ClaimJoined
import GoSem.ClaimMapViews
import Derived.JoinedTies
import Derived.KernelRfl
namespace Go.Proofs.Ytpehfnobgdjgcaa
/- THE CELL 'sum', in the pinned program and in every row, IS THE sha256 OF THE DUMP (.gsa) THAT YtpehfnobgdjgcaaProg.lean LOADS. Nothing in Lean hashes anything: it is a label: what it is worth is what the hold of that sum in a sandbox is worth. -/
noncomputable def Try.pinned : Pinned := { name := "ytpehfnobgdjgcaa", sum := "d03afc69bc094ba62a1ee6de6f668598df09855088900548ef855cbd0e313660", checked := Try.checked }
namespace Rows
def none {H : Type} : Left H := { results := [], args := [] }

/-- 'lamellalaw17.AuditChecks': WHATEVER THE INPUT: true; the input reads as it did. -/
def auditChecksSpec : ChangeSpec := { name := "auditChecks", fn := fun _ => fun
  | [d1, d2, d3] => { results := [.lit (.bool true)], args := [d1, d2, d3] }
  | _ => none }
def auditChecksRow : OpenClaim := { program := "ytpehfnobgdjgcaa", sum := "d03afc69bc094ba62a1ee6de6f668598df09855088900548ef855cbd0e313660", func := "lamella/lamellalaw17.AuditChecks", spec := "auditChecks", unfollowed := true, recurses := true, plainKeys := false, apart := false }
def AuditChecksSaid : Prop := auditChecksRow.holds Try.pinned (OpenSpec.ofChange auditChecksSpec)

/-- ITS FALSE NEIGHBOUR: 'it returns false'. Refute it at one input. -/
def auditChecksWrong : ChangeSpec := { name := "auditChecks", fn := fun _ => fun
  | [d1, d2, d3] => { results := [.lit (.bool false)], args := [d1, d2, d3] }
  | _ => none }
def AuditChecksWrongFalsely : Prop := auditChecksRow.holds Try.pinned (OpenSpec.ofChange auditChecksWrong)

/-- 'lamellalaw17.AuditHistories': WHATEVER THE INPUT: true; the input reads as it did. -/
def auditHistoriesSpec : ChangeSpec := { name := "auditHistories", fn := fun _ => fun
  | [d1, d2] => { results := [.lit (.bool true)], args := [d1, d2] }
  | _ => none }
def auditHistoriesRow : OpenClaim := { program := "ytpehfnobgdjgcaa", sum := "d03afc69bc094ba62a1ee6de6f668598df09855088900548ef855cbd0e313660", func := "lamella/lamellalaw17.AuditHistories", spec := "auditHistories", unfollowed := true, recurses := true, plainKeys := false, apart := false }
def AuditHistoriesSaid : Prop := auditHistoriesRow.holds Try.pinned (OpenSpec.ofChange auditHistoriesSpec)

/-- ITS FALSE NEIGHBOUR: 'it returns false'. Refute it at one input. -/
def auditHistoriesWrong : ChangeSpec := { name := "auditHistories", fn := fun _ => fun
  | [d1, d2] => { results := [.lit (.bool false)], args := [d1, d2] }
  | _ => none }
def AuditHistoriesWrongFalsely : Prop := auditHistoriesRow.holds Try.pinned (OpenSpec.ofChange auditHistoriesWrong)

/-- 'lamellalaw17.AuditAgrees': WHATEVER THE INPUT: true; the input reads as it did. -/
def auditAgreesSpec : ChangeSpec := { name := "auditAgrees", fn := fun _ => fun
  | [d1, d2] => { results := [.lit (.bool true)], args := [d1, d2] }
  | _ => none }
def auditAgreesRow : OpenClaim := { program := "ytpehfnobgdjgcaa", sum := "d03afc69bc094ba62a1ee6de6f668598df09855088900548ef855cbd0e313660", func := "lamella/lamellalaw17.AuditAgrees", spec := "auditAgrees", unfollowed := true, recurses := true, plainKeys := false, apart := false }
def AuditAgreesSaid : Prop := auditAgreesRow.holds Try.pinned (OpenSpec.ofChange auditAgreesSpec)

/-- ITS FALSE NEIGHBOUR: 'it returns false'. Refute it at one input. -/
def auditAgreesWrong : ChangeSpec := { name := "auditAgrees", fn := fun _ => fun
  | [d1, d2] => { results := [.lit (.bool false)], args := [d1, d2] }
  | _ => none }
def AuditAgreesWrongFalsely : Prop := auditAgreesRow.holds Try.pinned (OpenSpec.ofChange auditAgreesWrong)

/-- 'lamellalaw17.AuditAlone': WHATEVER THE INPUT: true; the input reads as it did. -/
def auditAloneSpec : ChangeSpec := { name := "auditAlone", fn := fun _ => fun
  | [d1, d2, d3] => { results := [.lit (.bool true)], args := [d1, d2, d3] }
  | _ => none }
def auditAloneRow : OpenClaim := { program := "ytpehfnobgdjgcaa", sum := "d03afc69bc094ba62a1ee6de6f668598df09855088900548ef855cbd0e313660", func := "lamella/lamellalaw17.AuditAlone", spec := "auditAlone", unfollowed := true, recurses := true, plainKeys := false, apart := false }
def AuditAloneSaid : Prop := auditAloneRow.holds Try.pinned (OpenSpec.ofChange auditAloneSpec)

/-- ITS FALSE NEIGHBOUR: 'it returns false'. Refute it at one input. -/
def auditAloneWrong : ChangeSpec := { name := "auditAlone", fn := fun _ => fun
  | [d1, d2, d3] => { results := [.lit (.bool false)], args := [d1, d2, d3] }
  | _ => none }
def AuditAloneWrongFalsely : Prop := auditAloneRow.holds Try.pinned (OpenSpec.ofChange auditAloneWrong)

/-- 'lamellalaw17.AuditFinds': WHATEVER THE INPUT: true; the input reads as it did. -/
def auditFindsSpec : ChangeSpec := { name := "auditFinds", fn := fun _ => fun
  | [d1, d2, d3] => { results := [.lit (.bool true)], args := [d1, d2, d3] }
  | _ => none }
def auditFindsRow : OpenClaim := { program := "ytpehfnobgdjgcaa", sum := "d03afc69bc094ba62a1ee6de6f668598df09855088900548ef855cbd0e313660", func := "lamella/lamellalaw17.AuditFinds", spec := "auditFinds", unfollowed := true, recurses := true, plainKeys := false, apart := false }
def AuditFindsSaid : Prop := auditFindsRow.holds Try.pinned (OpenSpec.ofChange auditFindsSpec)

/-- ITS FALSE NEIGHBOUR: 'it returns false'. Refute it at one input. -/
def auditFindsWrong : ChangeSpec := { name := "auditFinds", fn := fun _ => fun
  | [d1, d2, d3] => { results := [.lit (.bool false)], args := [d1, d2, d3] }
  | _ => none }
def AuditFindsWrongFalsely : Prop := auditFindsRow.holds Try.pinned (OpenSpec.ofChange auditFindsWrong)

/-- 'lamellalaw17.AuditOrders': WHATEVER THE INPUT: true; the input reads as it did. -/
def auditOrdersSpec : ChangeSpec := { name := "auditOrders", fn := fun _ => fun
  | [d1, d2] => { results := [.lit (.bool true)], args := [d1, d2] }
  | _ => none }
def auditOrdersRow : OpenClaim := { program := "ytpehfnobgdjgcaa", sum := "d03afc69bc094ba62a1ee6de6f668598df09855088900548ef855cbd0e313660", func := "lamella/lamellalaw17.AuditOrders", spec := "auditOrders", unfollowed := true, recurses := true, plainKeys := false, apart := false }
def AuditOrdersSaid : Prop := auditOrdersRow.holds Try.pinned (OpenSpec.ofChange auditOrdersSpec)

/-- ITS FALSE NEIGHBOUR: 'it returns false'. Refute it at one input. -/
def auditOrdersWrong : ChangeSpec := { name := "auditOrders", fn := fun _ => fun
  | [d1, d2] => { results := [.lit (.bool false)], args := [d1, d2] }
  | _ => none }
def AuditOrdersWrongFalsely : Prop := auditOrdersRow.holds Try.pinned (OpenSpec.ofChange auditOrdersWrong)

/-- 'lamellalaw17.AuditPlaces': WHATEVER THE INPUT: true; the input reads as it did. -/
def auditPlacesSpec : ChangeSpec := { name := "auditPlaces", fn := fun _ => fun
  | [d1, d2, d3] => { results := [.lit (.bool true)], args := [d1, d2, d3] }
  | _ => none }
def auditPlacesRow : OpenClaim := { program := "ytpehfnobgdjgcaa", sum := "d03afc69bc094ba62a1ee6de6f668598df09855088900548ef855cbd0e313660", func := "lamella/lamellalaw17.AuditPlaces", spec := "auditPlaces", unfollowed := true, recurses := true, plainKeys := false, apart := false }
def AuditPlacesSaid : Prop := auditPlacesRow.holds Try.pinned (OpenSpec.ofChange auditPlacesSpec)

/-- ITS FALSE NEIGHBOUR: 'it returns false'. Refute it at one input. -/
def auditPlacesWrong : ChangeSpec := { name := "auditPlaces", fn := fun _ => fun
  | [d1, d2, d3] => { results := [.lit (.bool false)], args := [d1, d2, d3] }
  | _ => none }
def AuditPlacesWrongFalsely : Prop := auditPlacesRow.holds Try.pinned (OpenSpec.ofChange auditPlacesWrong)

/- THE SECOND FORM. 'bulk': how many values and letters a reading holds, each counted each time it is reached (what is shared counts as often as it is met; a slice's spare places count too). A statement '..UptoSaid' is the law's where the arguments, and the package variables that the reading takes, are together of bulk at most 1048576: NARROWER than '..Said'. Prove '..Said' where nothing that the law and all that it calls make is longer than what came in: it says more and counts as full. Else prove '..UptoSaid'. A law counts once. -/
mutual
def uptoBulk {H : Type} : DataW H → Nat
  | .lit (.string bytes) => bytes.length + 1
  | .lit _ => 1
  | .nil => 1
  | .ptr d => uptoBulk d + 1
  | .slice elems spare => uptoBulkAll elems + uptoBulkAll spare + 1
  | .agg parts => uptoBulkAll parts + 1
  | .iface _ d => uptoBulk d + 1
  | .map entries => uptoBulkEntries entries + 1
  | .held _ => 1
def uptoBulkAll {H : Type} : List (DataW H) → Nat
  | [] => 0
  | d :: r => uptoBulk d + uptoBulkAll r
def uptoBulkEntries {H : Type} : List (Lit × DataW H) → Nat
  | [] => 0
  | x :: r => uptoBulkEntry x + uptoBulkEntries r
def uptoBulkEntry {H : Type} : Lit × DataW H → Nat
  | (.string bytes, d) => bytes.length + uptoBulk d + 1
  | (_, d) => uptoBulk d + 1
 end
def uptoSmall : (H : Type) → List (DataW H) → Bool := fun _ ds => decide (uptoBulkAll ds ≤ 1048576)
def OpenSpec.upto (s : _root_.Go.ChangeSpec) : _root_.Go.OpenSpec := { _root_.Go.OpenSpec.ofChange s with cond := some uptoSmall }

/-- 'lamellalaw17.AuditChecks', WHERE WHAT IT READS IS OF BULK AT MOST 1048576: true; the input reads as it did. -/
def auditChecksUptoRow : OpenClaim := { program := "ytpehfnobgdjgcaa", sum := "d03afc69bc094ba62a1ee6de6f668598df09855088900548ef855cbd0e313660", func := "lamella/lamellalaw17.AuditChecks", spec := "auditChecks", unfollowed := true, recurses := true, plainKeys := false, apart := false, narrowed := true }
def AuditChecksUptoSaid : Prop := auditChecksUptoRow.holds Try.pinned (OpenSpec.upto auditChecksSpec)

/-- 'lamellalaw17.AuditHistories', WHERE WHAT IT READS IS OF BULK AT MOST 1048576: true; the input reads as it did. -/
def auditHistoriesUptoRow : OpenClaim := { program := "ytpehfnobgdjgcaa", sum := "d03afc69bc094ba62a1ee6de6f668598df09855088900548ef855cbd0e313660", func := "lamella/lamellalaw17.AuditHistories", spec := "auditHistories", unfollowed := true, recurses := true, plainKeys := false, apart := false, narrowed := true }
def AuditHistoriesUptoSaid : Prop := auditHistoriesUptoRow.holds Try.pinned (OpenSpec.upto auditHistoriesSpec)

/-- 'lamellalaw17.AuditAgrees', WHERE WHAT IT READS IS OF BULK AT MOST 1048576: true; the input reads as it did. -/
def auditAgreesUptoRow : OpenClaim := { program := "ytpehfnobgdjgcaa", sum := "d03afc69bc094ba62a1ee6de6f668598df09855088900548ef855cbd0e313660", func := "lamella/lamellalaw17.AuditAgrees", spec := "auditAgrees", unfollowed := true, recurses := true, plainKeys := false, apart := false, narrowed := true }
def AuditAgreesUptoSaid : Prop := auditAgreesUptoRow.holds Try.pinned (OpenSpec.upto auditAgreesSpec)

/-- 'lamellalaw17.AuditAlone', WHERE WHAT IT READS IS OF BULK AT MOST 1048576: true; the input reads as it did. -/
def auditAloneUptoRow : OpenClaim := { program := "ytpehfnobgdjgcaa", sum := "d03afc69bc094ba62a1ee6de6f668598df09855088900548ef855cbd0e313660", func := "lamella/lamellalaw17.AuditAlone", spec := "auditAlone", unfollowed := true, recurses := true, plainKeys := false, apart := false, narrowed := true }
def AuditAloneUptoSaid : Prop := auditAloneUptoRow.holds Try.pinned (OpenSpec.upto auditAloneSpec)

/-- 'lamellalaw17.AuditFinds', WHERE WHAT IT READS IS OF BULK AT MOST 1048576: true; the input reads as it did. -/
def auditFindsUptoRow : OpenClaim := { program := "ytpehfnobgdjgcaa", sum := "d03afc69bc094ba62a1ee6de6f668598df09855088900548ef855cbd0e313660", func := "lamella/lamellalaw17.AuditFinds", spec := "auditFinds", unfollowed := true, recurses := true, plainKeys := false, apart := false, narrowed := true }
def AuditFindsUptoSaid : Prop := auditFindsUptoRow.holds Try.pinned (OpenSpec.upto auditFindsSpec)

/-- 'lamellalaw17.AuditOrders', WHERE WHAT IT READS IS OF BULK AT MOST 1048576: true; the input reads as it did. -/
def auditOrdersUptoRow : OpenClaim := { program := "ytpehfnobgdjgcaa", sum := "d03afc69bc094ba62a1ee6de6f668598df09855088900548ef855cbd0e313660", func := "lamella/lamellalaw17.AuditOrders", spec := "auditOrders", unfollowed := true, recurses := true, plainKeys := false, apart := false, narrowed := true }
def AuditOrdersUptoSaid : Prop := auditOrdersUptoRow.holds Try.pinned (OpenSpec.upto auditOrdersSpec)

/-- 'lamellalaw17.AuditPlaces', WHERE WHAT IT READS IS OF BULK AT MOST 1048576: true; the input reads as it did. -/
def auditPlacesUptoRow : OpenClaim := { program := "ytpehfnobgdjgcaa", sum := "d03afc69bc094ba62a1ee6de6f668598df09855088900548ef855cbd0e313660", func := "lamella/lamellalaw17.AuditPlaces", spec := "auditPlaces", unfollowed := true, recurses := true, plainKeys := false, apart := false, narrowed := true }
def AuditPlacesUptoSaid : Prop := auditPlacesUptoRow.holds Try.pinned (OpenSpec.upto auditPlacesSpec)

end Rows
end Go.Proofs.Ytpehfnobgdjgcaa
