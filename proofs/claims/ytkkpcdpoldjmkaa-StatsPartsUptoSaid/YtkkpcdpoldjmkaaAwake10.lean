/-
  THE WALK of boathouselaw10.awake.
-/
import Derived.Test.YtkkpcdpoldjmkaaStatEq
import Derived.Test.YtkkpcdpoldjmkaaStatOf
import Derived.Test.YtkkpcdpoldjmkaaStatJoin
import Derived.Test.YtkkpcdpoldjmkaaNamesWalks
import Derived.Test.YtkkpcdpoldjmkaaPush
namespace Go.Proofs.Ytkkpcdpoldjmkaa.Stats
open Go.RowKit ValMath Vals Sl
abbrev five : Val := ⟨1, 5, false, ⟨#[]⟩⟩
abbrev two : Val := ⟨1, 2, false, ⟨#[]⟩⟩
abbrev nought : Val := ⟨0, 0, false, ⟨#[]⟩⟩
theorem stat_awake : stat [five, nought, two] = ⟨1, two, five⟩ := by rfl
set_option maxHeartbeats 2000000 in
theorem awake_any (w : World) : Calls Try.prog 77 #[] w fun e w' => e = .returned (.bool true) ∧ Below w.heap.size w w' := by
  have hO : ∀ (A : Option Addr) (cap : Nat) (w : World), VSl w A 3 [five, nought, two] → Calls Try.prog 73 #[.int .i64 3, .slice A 3 cap] w fun e w' => e = .returned (sagg 3 1 two five) ∧ Below w.heap.size w w' := fun A cap w h => by
    have := of_any 3 A 3 cap _ w h (by decide)
    rw [stat_awake] at this
    exact this
  have hJ : ∀ w, Calls Try.prog 75 #[sagg 3 1 two five, sagg 0 2 nought nought] w fun e w' => e = .returned (sagg 3 3 two five) ∧ Below w.heap.size w w' := fun w => by
    exact join_any 3 1 0 2 3 two five nought nought w (by rfl)
  have HO := Lib.hid hO; clear hO
  have HJ := Lib.hid hJ; clear hJ
  go_enter Try.func77, Try.ntmps77
  go_wp2_with fail
  refine (HO.out _ _ _ (VSl.at3 _ _ (by simp) five nought two _)).mono ?_
  rintro e w1 ⟨rfl, hb1⟩
  have hbt := bthen (Vals.one_new _) hb1 (Nat.le_refl _)
  have HBT := Lib.hid hbt; clear hbt hb1
  have hq := eql_stat 3 1 two five
  have hf := field_n 3 3 two five
  simp only [two, five] at hq hf
  go_wp2_with fail
  refine (HJ.out _).mono ?_
  rintro e w2 ⟨rfl, hb2⟩
  have hbt := bthen (HBT.out.alloc HBT.out.size _) hb2 (Nat.le_refl _)
  clear hb2 HBT
  go_wp2_with (go_at_call 56; refine (boathouseNames.num_any _ _).mono ?_; rintro e w' ⟨rfl, rfl⟩)
  go_ret
  exact ⟨rfl, hbt⟩
end Go.Proofs.Ytkkpcdpoldjmkaa.Stats
