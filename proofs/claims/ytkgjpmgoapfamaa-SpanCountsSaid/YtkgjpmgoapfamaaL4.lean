/-
  What the laws share, with Count.
-/
import Derived.Test.YtkgjpmgoapfamaaL3
import Derived.Test.YtkgjpmgoapfamaaE10
