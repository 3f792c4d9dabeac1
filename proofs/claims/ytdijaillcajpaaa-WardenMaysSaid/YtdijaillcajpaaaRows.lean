/-
  No cell of these rows narrows 'for every input' (looked for: loops, veiled, ifaces, maps, wideKeys, modest, calm, conditions, laid).
  DERIVED. THE GIVEN ROWS OF THIS SEAT. 10 by the template 'for every input the law returns true; each argument reads behind the call as it read before'; 0 by the template 'total and deterministic' (their statements: YtdijaillcajpaaaTotals.lean).
  GIVEN WITH THE SEED: the statements are not yours to turn. If you find one false, say at which input.
  Laid BY PROGRAM, IN A SANDBOX (cutbox-rows.mjs): the forced cells as the released guide's own fill.sh prints them over the translation 110971f8a5c8882e… (all of the seat's roots in one cut). By AI agents, Wed Nov 11 2026. No macro, syntax, notation, axiom, sorry.
-/
import Derived.Test.YtdijaillcajpaaaChecked
import GoSem.Claim
import GoSem.ClaimJoined
import GoSem.ClaimMapViews
import Derived.JoinedTies
import Derived.KernelRfl
namespace Go.Proofs.Ytdijaillcajpaaa
/- THE CELL 'sum', in the pinned program and in every row, IS THE sha256 OF THE DUMP (.gsa) THAT YtdijaillcajpaaaProg.lean LOADS. Nothing in Lean hashes anything: it is a label: what it is worth is what the hold of that sum in a sandbox is worth. -/
noncomputable def Try.pinned : Pinned := { name := "ytdijaillcajpaaa", sum := "110971f8a5c8882e64916070bdb4db0da8367e71e9cb5c8c290f436d96d33d65", checked := Try.checked }
namespace Rows
def none {H : Type} : Left H := { results := [], args := [] }

/-- 'lamellalaw11.AtlasUndone': WHATEVER THE INPUT: true; the input reads as it did. -/
def atlasUndoneSpec : ChangeSpec := { name := "atlasUndone", fn := fun _ => fun
  | [d1, d2, d3] => { results := [.lit (.bool true)], args := [d1, d2, d3] }
  | _ => none }
def atlasUndoneRow : OpenClaim := { program := "ytdijaillcajpaaa", sum := "110971f8a5c8882e64916070bdb4db0da8367e71e9cb5c8c290f436d96d33d65", func := "lamella/lamellalaw11.AtlasUndone", spec := "atlasUndone", inPlace := ["slices.overlaps[lamella/api.Span]", "slices.overlaps[int]"], unfollowed := true, recurses := true, apart := false }
def AtlasUndoneSaid : Prop := atlasUndoneRow.holds Try.pinned (OpenSpec.ofChange atlasUndoneSpec)

/-- ITS FALSE NEIGHBOUR: 'it returns false'. Refute it at one input. -/
def atlasUndoneWrong : ChangeSpec := { name := "atlasUndone", fn := fun _ => fun
  | [d1, d2, d3] => { results := [.lit (.bool false)], args := [d1, d2, d3] }
  | _ => none }
def AtlasUndoneWrongFalsely : Prop := atlasUndoneRow.holds Try.pinned (OpenSpec.ofChange atlasUndoneWrong)

/-- 'lamellalaw11.AtlasWhole': WHATEVER THE INPUT: true; the input reads as it did. -/
def atlasWholeSpec : ChangeSpec := { name := "atlasWhole", fn := fun _ => fun
  | [d1, d2] => { results := [.lit (.bool true)], args := [d1, d2] }
  | _ => none }
def atlasWholeRow : OpenClaim := { program := "ytdijaillcajpaaa", sum := "110971f8a5c8882e64916070bdb4db0da8367e71e9cb5c8c290f436d96d33d65", func := "lamella/lamellalaw11.AtlasWhole", spec := "atlasWhole", inPlace := ["slices.overlaps[lamella/api.Span]", "slices.overlaps[int]"], unfollowed := true, recurses := true, apart := false }
def AtlasWholeSaid : Prop := atlasWholeRow.holds Try.pinned (OpenSpec.ofChange atlasWholeSpec)

/-- ITS FALSE NEIGHBOUR: 'it returns false'. Refute it at one input. -/
def atlasWholeWrong : ChangeSpec := { name := "atlasWhole", fn := fun _ => fun
  | [d1, d2] => { results := [.lit (.bool false)], args := [d1, d2] }
  | _ => none }
def AtlasWholeWrongFalsely : Prop := atlasWholeRow.holds Try.pinned (OpenSpec.ofChange atlasWholeWrong)

/-- 'lamellalaw11.AtlasApplies': WHATEVER THE INPUT: true; the input reads as it did. -/
def atlasAppliesSpec : ChangeSpec := { name := "atlasApplies", fn := fun _ => fun
  | [d1, d2] => { results := [.lit (.bool true)], args := [d1, d2] }
  | _ => none }
def atlasAppliesRow : OpenClaim := { program := "ytdijaillcajpaaa", sum := "110971f8a5c8882e64916070bdb4db0da8367e71e9cb5c8c290f436d96d33d65", func := "lamella/lamellalaw11.AtlasApplies", spec := "atlasApplies", inPlace := ["slices.overlaps[lamella/api.Span]", "slices.overlaps[int]"], unfollowed := true, recurses := true, apart := false }
def AtlasAppliesSaid : Prop := atlasAppliesRow.holds Try.pinned (OpenSpec.ofChange atlasAppliesSpec)

/-- ITS FALSE NEIGHBOUR: 'it returns false'. Refute it at one input. -/
def atlasAppliesWrong : ChangeSpec := { name := "atlasApplies", fn := fun _ => fun
  | [d1, d2] => { results := [.lit (.bool false)], args := [d1, d2] }
  | _ => none }
def AtlasAppliesWrongFalsely : Prop := atlasAppliesRow.holds Try.pinned (OpenSpec.ofChange atlasAppliesWrong)

/-- 'lamellalaw11.AtlasNews': WHATEVER THE INPUT: true; the input reads as it did. -/
def atlasNewsSpec : ChangeSpec := { name := "atlasNews", fn := fun _ => fun
  | [d1, d2] => { results := [.lit (.bool true)], args := [d1, d2] }
  | _ => none }
def atlasNewsRow : OpenClaim := { program := "ytdijaillcajpaaa", sum := "110971f8a5c8882e64916070bdb4db0da8367e71e9cb5c8c290f436d96d33d65", func := "lamella/lamellalaw11.AtlasNews", spec := "atlasNews", inPlace := ["slices.overlaps[lamella/api.Span]", "slices.overlaps[int]"], unfollowed := true, recurses := true, apart := false }
def AtlasNewsSaid : Prop := atlasNewsRow.holds Try.pinned (OpenSpec.ofChange atlasNewsSpec)

/-- ITS FALSE NEIGHBOUR: 'it returns false'. Refute it at one input. -/
def atlasNewsWrong : ChangeSpec := { name := "atlasNews", fn := fun _ => fun
  | [d1, d2] => { results := [.lit (.bool false)], args := [d1, d2] }
  | _ => none }
def AtlasNewsWrongFalsely : Prop := atlasNewsRow.holds Try.pinned (OpenSpec.ofChange atlasNewsWrong)

/-- 'lamellalaw11.AtlasPieces': WHATEVER THE INPUT: true; the input reads as it did. -/
def atlasPiecesSpec : ChangeSpec := { name := "atlasPieces", fn := fun _ => fun
  | [d1, d2, d3] => { results := [.lit (.bool true)], args := [d1, d2, d3] }
  | _ => none }
def atlasPiecesRow : OpenClaim := { program := "ytdijaillcajpaaa", sum := "110971f8a5c8882e64916070bdb4db0da8367e71e9cb5c8c290f436d96d33d65", func := "lamella/lamellalaw11.AtlasPieces", spec := "atlasPieces", inPlace := ["slices.overlaps[lamella/api.Span]", "slices.overlaps[int]"], unfollowed := true, recurses := true, apart := false }
def AtlasPiecesSaid : Prop := atlasPiecesRow.holds Try.pinned (OpenSpec.ofChange atlasPiecesSpec)

/-- ITS FALSE NEIGHBOUR: 'it returns false'. Refute it at one input. -/
def atlasPiecesWrong : ChangeSpec := { name := "atlasPieces", fn := fun _ => fun
  | [d1, d2, d3] => { results := [.lit (.bool false)], args := [d1, d2, d3] }
  | _ => none }
def AtlasPiecesWrongFalsely : Prop := atlasPiecesRow.holds Try.pinned (OpenSpec.ofChange atlasPiecesWrong)

/-- 'lamellalaw11.AtlasLays': WHATEVER THE INPUT: true; the input reads as it did. -/
def atlasLaysSpec : ChangeSpec := { name := "atlasLays", fn := fun _ => fun
  | [d1, d2] => { results := [.lit (.bool true)], args := [d1, d2] }
  | _ => none }
def atlasLaysRow : OpenClaim := { program := "ytdijaillcajpaaa", sum := "110971f8a5c8882e64916070bdb4db0da8367e71e9cb5c8c290f436d96d33d65", func := "lamella/lamellalaw11.AtlasLays", spec := "atlasLays", inPlace := ["slices.overlaps[lamella/api.Span]", "slices.overlaps[int]"], unfollowed := true, recurses := true, apart := false }
def AtlasLaysSaid : Prop := atlasLaysRow.holds Try.pinned (OpenSpec.ofChange atlasLaysSpec)

/-- ITS FALSE NEIGHBOUR: 'it returns false'. Refute it at one input. -/
def atlasLaysWrong : ChangeSpec := { name := "atlasLays", fn := fun _ => fun
  | [d1, d2] => { results := [.lit (.bool false)], args := [d1, d2] }
  | _ => none }
def AtlasLaysWrongFalsely : Prop := atlasLaysRow.holds Try.pinned (OpenSpec.ofChange atlasLaysWrong)

/-- 'lamellalaw12.WardenMays': WHATEVER THE INPUT: true; the input reads as it did. -/
def wardenMaysSpec : ChangeSpec := { name := "wardenMays", fn := fun _ => fun
  | [d] => { results := [.lit (.bool true)], args := [d] }
  | _ => none }
def wardenMaysRow : OpenClaim := { program := "ytdijaillcajpaaa", sum := "110971f8a5c8882e64916070bdb4db0da8367e71e9cb5c8c290f436d96d33d65", func := "lamella/lamellalaw12.WardenMays", spec := "wardenMays", inPlace := ["slices.overlaps[lamella/api.Span]", "slices.overlaps[int]"], unfollowed := true, recurses := true, apart := false }
def WardenMaysSaid : Prop := wardenMaysRow.holds Try.pinned (OpenSpec.ofChange wardenMaysSpec)

/-- ITS FALSE NEIGHBOUR: 'it returns false'. Refute it at one input. -/
def wardenMaysWrong : ChangeSpec := { name := "wardenMays", fn := fun _ => fun
  | [d] => { results := [.lit (.bool false)], args := [d] }
  | _ => none }
def WardenMaysWrongFalsely : Prop := wardenMaysRow.holds Try.pinned (OpenSpec.ofChange wardenMaysWrong)

/-- 'lamellalaw12.WardenHalves': WHATEVER THE INPUT: true; the input reads as it did. -/
def wardenHalvesSpec : ChangeSpec := { name := "wardenHalves", fn := fun _ => fun
  | [d] => { results := [.lit (.bool true)], args := [d] }
  | _ => none }
def wardenHalvesRow : OpenClaim := { program := "ytdijaillcajpaaa", sum := "110971f8a5c8882e64916070bdb4db0da8367e71e9cb5c8c290f436d96d33d65", func := "lamella/lamellalaw12.WardenHalves", spec := "wardenHalves", inPlace := ["slices.overlaps[lamella/api.Span]", "slices.overlaps[int]"], unfollowed := true, recurses := true, apart := false }
def WardenHalvesSaid : Prop := wardenHalvesRow.holds Try.pinned (OpenSpec.ofChange wardenHalvesSpec)

/-- ITS FALSE NEIGHBOUR: 'it returns false'. Refute it at one input. -/
def wardenHalvesWrong : ChangeSpec := { name := "wardenHalves", fn := fun _ => fun
  | [d] => { results := [.lit (.bool false)], args := [d] }
  | _ => none }
def WardenHalvesWrongFalsely : Prop := wardenHalvesRow.holds Try.pinned (OpenSpec.ofChange wardenHalvesWrong)

/-- 'lamellalaw12.WardenCounts': WHATEVER THE INPUT: true; the input reads as it did. -/
def wardenCountsSpec : ChangeSpec := { name := "wardenCounts", fn := fun _ => fun
  | [d1, d2] => { results := [.lit (.bool true)], args := [d1, d2] }
  | _ => none }
def wardenCountsRow : OpenClaim := { program := "ytdijaillcajpaaa", sum := "110971f8a5c8882e64916070bdb4db0da8367e71e9cb5c8c290f436d96d33d65", func := "lamella/lamellalaw12.WardenCounts", spec := "wardenCounts", inPlace := ["slices.overlaps[lamella/api.Span]", "slices.overlaps[int]"], unfollowed := true, recurses := true, apart := false }
def WardenCountsSaid : Prop := wardenCountsRow.holds Try.pinned (OpenSpec.ofChange wardenCountsSpec)

/-- ITS FALSE NEIGHBOUR: 'it returns false'. Refute it at one input. -/
def wardenCountsWrong : ChangeSpec := { name := "wardenCounts", fn := fun _ => fun
  | [d1, d2] => { results := [.lit (.bool false)], args := [d1, d2] }
  | _ => none }
def WardenCountsWrongFalsely : Prop := wardenCountsRow.holds Try.pinned (OpenSpec.ofChange wardenCountsWrong)

/-- 'lamellalaw12.WardenEnds': WHATEVER THE INPUT: true; the input reads as it did. -/
def wardenEndsSpec : ChangeSpec := { name := "wardenEnds", fn := fun _ => fun
  | [d1, d2, d3] => { results := [.lit (.bool true)], args := [d1, d2, d3] }
  | _ => none }
def wardenEndsRow : OpenClaim := { program := "ytdijaillcajpaaa", sum := "110971f8a5c8882e64916070bdb4db0da8367e71e9cb5c8c290f436d96d33d65", func := "lamella/lamellalaw12.WardenEnds", spec := "wardenEnds", inPlace := ["slices.overlaps[lamella/api.Span]", "slices.overlaps[int]"], unfollowed := true, recurses := true, apart := false }
def WardenEndsSaid : Prop := wardenEndsRow.holds Try.pinned (OpenSpec.ofChange wardenEndsSpec)

/-- ITS FALSE NEIGHBOUR: 'it returns false'. Refute it at one input. -/
def wardenEndsWrong : ChangeSpec := { name := "wardenEnds", fn := fun _ => fun
  | [d1, d2, d3] => { results := [.lit (.bool false)], args := [d1, d2, d3] }
  | _ => none }
def WardenEndsWrongFalsely : Prop := wardenEndsRow.holds Try.pinned (OpenSpec.ofChange wardenEndsWrong)

/- THE SECOND FORM. 'bulk': how many values and letters a reading holds, each counted each time it is reached (what is shared counts as often as it is met; a slice's spare places count too). A statement '..UptoSaid' is the law's where the arguments, and the package variables that the reading takes, are together of bulk at most 1048576: NARROWER than '..Said'. Prove '..Said' where nothing that the law and all that it calls make is longer than what came in: it says more and counts as full. Else prove '..UptoSaid'. A law counts once. -/
mutual
def uptoBulk {H : Type} : DataW H → Nat
  | .lit (.string bytes) => bytes.length + 1
  | .lit _ => 1
  | .nil => 1
  | .ptr d => uptoBulk d + 1
  | .slice elems spare => uptoBulkAll elems + uptoBulkAll spare + 1
  | .agg parts => uptoBulkAll parts + 1
  | .iface _ d => uptoBulk d + 1
  | .map entries => uptoBulkEntries entries + 1
  | .held _ => 1
def uptoBulkAll {H : Type} : List (DataW H) → Nat
  | [] => 0
  | d :: r => uptoBulk d + uptoBulkAll r
def uptoBulkEntries {H : Type} : List (Lit × DataW H) → Nat
  | [] => 0
  | x :: r => uptoBulkEntry x + uptoBulkEntries r
def uptoBulkEntry {H : Type} : Lit × DataW H → Nat
  | (.string bytes, d) => bytes.length + uptoBulk d + 1
  | (_, d) => uptoBulk d + 1
 end
def uptoSmall : (H : Type) → List (DataW H) → Bool := fun _ ds => decide (uptoBulkAll ds ≤ 1048576)
def OpenSpec.upto (s : _root_.Go.ChangeSpec) : _root_.Go.OpenSpec := { _root_.Go.OpenSpec.ofChange s with cond := some uptoSmall }

/-- 'lamellalaw11.AtlasUndone', WHERE WHAT IT READS IS OF BULK AT MOST 1048576: true; the input reads as it did. -/
def atlasUndoneUptoRow : OpenClaim := { program := "ytdijaillcajpaaa", sum := "110971f8a5c8882e64916070bdb4db0da8367e71e9cb5c8c290f436d96d33d65", func := "lamella/lamellalaw11.AtlasUndone", spec := "atlasUndone", inPlace := ["slices.overlaps[lamella/api.Span]", "slices.overlaps[int]"], unfollowed := true, recurses := true, apart := false, narrowed := true }
def AtlasUndoneUptoSaid : Prop := atlasUndoneUptoRow.holds Try.pinned (OpenSpec.upto atlasUndoneSpec)

/-- 'lamellalaw11.AtlasWhole', WHERE WHAT IT READS IS OF BULK AT MOST 1048576: true; the input reads as it did. -/
def atlasWholeUptoRow : OpenClaim := { program := "ytdijaillcajpaaa", sum := "110971f8a5c8882e64916070bdb4db0da8367e71e9cb5c8c290f436d96d33d65", func := "lamella/lamellalaw11.AtlasWhole", spec := "atlasWhole", inPlace := ["slices.overlaps[lamella/api.Span]", "slices.overlaps[int]"], unfollowed := true, recurses := true, apart := false, narrowed := true }
def AtlasWholeUptoSaid : Prop := atlasWholeUptoRow.holds Try.pinned (OpenSpec.upto atlasWholeSpec)

/-- 'lamellalaw11.AtlasApplies', WHERE WHAT IT READS IS OF BULK AT MOST 1048576: true; the input reads as it did. -/
def atlasAppliesUptoRow : OpenClaim := { program := "ytdijaillcajpaaa", sum := "110971f8a5c8882e64916070bdb4db0da8367e71e9cb5c8c290f436d96d33d65", func := "lamella/lamellalaw11.AtlasApplies", spec := "atlasApplies", inPlace := ["slices.overlaps[lamella/api.Span]", "slices.overlaps[int]"], unfollowed := true, recurses := true, apart := false, narrowed := true }
def AtlasAppliesUptoSaid : Prop := atlasAppliesUptoRow.holds Try.pinned (OpenSpec.upto atlasAppliesSpec)

/-- 'lamellalaw11.AtlasNews', WHERE WHAT IT READS IS OF BULK AT MOST 1048576: true; the input reads as it did. -/
def atlasNewsUptoRow : OpenClaim := { program := "ytdijaillcajpaaa", sum := "110971f8a5c8882e64916070bdb4db0da8367e71e9cb5c8c290f436d96d33d65", func := "lamella/lamellalaw11.AtlasNews", spec := "atlasNews", inPlace := ["slices.overlaps[lamella/api.Span]", "slices.overlaps[int]"], unfollowed := true, recurses := true, apart := false, narrowed := true }
def AtlasNewsUptoSaid : Prop := atlasNewsUptoRow.holds Try.pinned (OpenSpec.upto atlasNewsSpec)

/-- 'lamellalaw11.AtlasPieces', WHERE WHAT IT READS IS OF BULK AT MOST 1048576: true; the input reads as it did. -/
def atlasPiecesUptoRow : OpenClaim := { program := "ytdijaillcajpaaa", sum := "110971f8a5c8882e64916070bdb4db0da8367e71e9cb5c8c290f436d96d33d65", func := "lamella/lamellalaw11.AtlasPieces", spec := "atlasPieces", inPlace := ["slices.overlaps[lamella/api.Span]", "slices.overlaps[int]"], unfollowed := true, recurses := true, apart := false, narrowed := true }
def AtlasPiecesUptoSaid : Prop := atlasPiecesUptoRow.holds Try.pinned (OpenSpec.upto atlasPiecesSpec)

/-- 'lamellalaw11.AtlasLays', WHERE WHAT IT READS IS OF BULK AT MOST 1048576: true; the input reads as it did. -/
def atlasLaysUptoRow : OpenClaim := { program := "ytdijaillcajpaaa", sum := "110971f8a5c8882e64916070bdb4db0da8367e71e9cb5c8c290f436d96d33d65", func := "lamella/lamellalaw11.AtlasLays", spec := "atlasLays", inPlace := ["slices.overlaps[lamella/api.Span]", "slices.overlaps[int]"], unfollowed := true, recurses := true, apart := false, narrowed := true }
def AtlasLaysUptoSaid : Prop := atlasLaysUptoRow.holds Try.pinned (OpenSpec.upto atlasLaysSpec)

/-- 'lamellalaw12.WardenMays', WHERE WHAT IT READS IS OF BULK AT MOST 1048576: true; the input reads as it did. -/
def wardenMaysUptoRow : OpenClaim := { program := "ytdijaillcajpaaa", sum := "110971f8a5c8882e64916070bdb4db0da8367e71e9cb5c8c290f436d96d33d65", func := "lamella/lamellalaw12.WardenMays", spec := "wardenMays", inPlace := ["slices.overlaps[lamella/api.Span]", "slices.overlaps[int]"], unfollowed := true, recurses := true, apart := false, narrowed := true }
def WardenMaysUptoSaid : Prop := wardenMaysUptoRow.holds Try.pinned (OpenSpec.upto wardenMaysSpec)

/-- 'lamellalaw12.WardenHalves', WHERE WHAT IT READS IS OF BULK AT MOST 1048576: true; the input reads as it did. -/
def wardenHalvesUptoRow : OpenClaim := { program := "ytdijaillcajpaaa", sum := "110971f8a5c8882e64916070bdb4db0da8367e71e9cb5c8c290f436d96d33d65", func := "lamella/lamellalaw12.WardenHalves", spec := "wardenHalves", inPlace := ["slices.overlaps[lamella/api.Span]", "slices.overlaps[int]"], unfollowed := true, recurses := true, apart := false, narrowed := true }
def WardenHalvesUptoSaid : Prop := wardenHalvesUptoRow.holds Try.pinned (OpenSpec.upto wardenHalvesSpec)

/-- 'lamellalaw12.WardenCounts', WHERE WHAT IT READS IS OF BULK AT MOST 1048576: true; the input reads as it did. -/
def wardenCountsUptoRow : OpenClaim := { program := "ytdijaillcajpaaa", sum := "110971f8a5c8882e64916070bdb4db0da8367e71e9cb5c8c290f436d96d33d65", func := "lamella/lamellalaw12.WardenCounts", spec := "wardenCounts", inPlace := ["slices.overlaps[lamella/api.Span]", "slices.overlaps[int]"], unfollowed := true, recurses := true, apart := false, narrowed := true }
def WardenCountsUptoSaid : Prop := wardenCountsUptoRow.holds Try.pinned (OpenSpec.upto wardenCountsSpec)

/-- 'lamellalaw12.WardenEnds', WHERE WHAT IT READS IS OF BULK AT MOST 1048576: true; the input reads as it did. -/
def wardenEndsUptoRow : OpenClaim := { program := "ytdijaillcajpaaa", sum := "110971f8a5c8882e64916070bdb4db0da8367e71e9cb5c8c290f436d96d33d65", func := "lamella/lamellalaw12.WardenEnds", spec := "wardenEnds", inPlace := ["slices.overlaps[lamella/api.Span]", "slices.overlaps[int]"], unfollowed := true, recurses := true, apart := false, narrowed := true }
def WardenEndsUptoSaid : Prop := wardenEndsUptoRow.holds Try.pinned (OpenSpec.upto wardenEndsSpec)

end Rows
end Go.Proofs.Ytdijaillcajpaaa
