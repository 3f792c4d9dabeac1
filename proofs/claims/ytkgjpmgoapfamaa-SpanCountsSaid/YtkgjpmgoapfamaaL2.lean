/-
  What the laws share, with Meet and Join.
-/
import Derived.Test.YtkgjpmgoapfamaaL0
import Derived.Test.YtkgjpmgoapfamaaE9
