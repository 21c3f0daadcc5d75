/-
  What the library's splitting of a string into at most some parts comes to.
-/
import Derived.Test.YtlbbcehlhbaggaaGreatDoorExSplit
set_option linter.unusedSimpArgs false
set_option linter.unusedVariables false
namespace Go.DB
open Go Go.RowKit

def splitNB (s sep : Str) (n : Nat) : List ByteArray := Go.Lib.splitB (ByteArray.mk sep.b.toArray) 0 (min n (s.b.length + 1) - 1) (ByteArray.mk s.b.toArray)
def splitNS (s sep : Str) (n : Int) : List Str := (splitNB s sep n.toNat).map ofBytes
end Go.DB
