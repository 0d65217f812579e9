/-
  THE WALK of boathouselaw0.Num.
-/
import Derived.Test.YtmoabfaimcafjaaFacts
import Derived.WalkKit
import Derived.WalkSpells
import Derived.WalkLawsBesides
import Derived.Below
namespace Go.Proofs.Ytmoabfaimcafjaa.Nums
open Go.RowKit

theorem num_any (n : Int) (w : World) : Calls Try.prog 16 #[.int .i64 n] w fun e w' => e = .returned (.int .i64 n) ∧ w = w' := by
  go_enter Try.func16, Try.ntmps16
  go_wp2
  go_ret
  exact ⟨rfl, rfl⟩
end Go.Proofs.Ytmoabfaimcafjaa.Nums
