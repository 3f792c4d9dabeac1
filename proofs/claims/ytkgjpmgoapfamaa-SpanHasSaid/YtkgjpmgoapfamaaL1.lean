/-
  What the laws share, with Meet.
-/
import Derived.Test.YtkgjpmgoapfamaaL0
import Derived.Test.YtkgjpmgoapfamaaE8
