/-
  Lemmas of this claim, text behind text: UtfRef2. Each states its own conditions.
-/
import Derived.Test.YtgmemdedpklnhaaPart10

/-
  THE WALKS of boathouseref1.First, Valid, PutRune.
-/

namespace Go.Proofs.Ytgmemdedpklnhaa.Utf
open Go.RowKit UtfMath

end Go.Proofs.Ytgmemdedpklnhaa.Utf
