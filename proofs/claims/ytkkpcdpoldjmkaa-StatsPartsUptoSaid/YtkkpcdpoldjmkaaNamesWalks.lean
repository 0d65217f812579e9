/-
  THE WALKS of 'boathouselaw0.BoathouseNames' and of the functions that it calls: closed sentences.
-/
import Derived.Test.YtkkpcdpoldjmkaaRows
import Derived.WalkKit
import Derived.WalkSpells
import Derived.WalkLawsBesides
import Derived.Below
namespace Go.Proofs.Ytkkpcdpoldjmkaa.boathouseNames
open Go.RowKit

theorem num_any (n : Int) (w : World) : Calls Try.prog 56 #[.int .i64 n] w fun e w' => e = .returned (.int .i64 n) ∧ w = w' := by
  go_enter Try.func56, Try.ntmps56
  go_wp2
  go_ret
  exact ⟨rfl, rfl⟩

theorem errors1_true (w : World) : Calls Try.prog 38 #[] w fun e w' => e = .returned (.bool true) ∧ w = w' := by
  go_enter Try.func38, Try.ntmps38
  go_wp2_with (go_at_call 56; refine (num_any _ _).mono ?_; rintro e w' ⟨rfl, rfl⟩)
  go_ret
  exact ⟨rfl, rfl⟩

theorem errors2_true (w : World) : Calls Try.prog 39 #[] w fun e w' => e = .returned (.bool true) ∧ w = w' := by
  go_enter Try.func39, Try.ntmps39
  go_wp2_with (go_at_call 56; refine (num_any _ _).mono ?_; rintro e w' ⟨rfl, rfl⟩)
  go_ret
  exact ⟨rfl, rfl⟩

theorem errors3_true (w : World) : Calls Try.prog 40 #[] w fun e w' => e = .returned (.bool true) ∧ w = w' := by
  go_enter Try.func40, Try.ntmps40
  go_wp2_with (go_at_call 56; refine (num_any _ _).mono ?_; rintro e w' ⟨rfl, rfl⟩)
  go_ret
  exact ⟨rfl, rfl⟩

theorem errors4_true (w : World) : Calls Try.prog 41 #[] w fun e w' => e = .returned (.bool true) ∧ w = w' := by
  go_enter Try.func41, Try.ntmps41
  go_wp2_with (go_at_call 56; refine (num_any _ _).mono ?_; rintro e w' ⟨rfl, rfl⟩)
  go_ret
  exact ⟨rfl, rfl⟩

theorem errors5_true (w : World) : Calls Try.prog 42 #[] w fun e w' => e = .returned (.bool true) ∧ w = w' := by
  go_enter Try.func42, Try.ntmps42
  go_wp2_with (go_at_call 56; refine (num_any _ _).mono ?_; rintro e w' ⟨rfl, rfl⟩)
  go_ret
  exact ⟨rfl, rfl⟩

theorem numbers1_true (w : World) : Calls Try.prog 43 #[] w fun e w' => e = .returned (.bool true) ∧ w = w' := by
  go_enter Try.func43, Try.ntmps43
  go_wp2
  go_ret
  exact ⟨rfl, rfl⟩

theorem numbers2_true (w : World) : Calls Try.prog 44 #[] w fun e w' => e = .returned (.bool true) ∧ w = w' := by
  go_enter Try.func44, Try.ntmps44
  go_wp2
  go_ret
  exact ⟨rfl, rfl⟩

theorem numbers3_true (w : World) : Calls Try.prog 45 #[] w fun e w' => e = .returned (.bool true) ∧ w = w' := by
  go_enter Try.func45, Try.ntmps45
  go_wp2
  go_ret
  exact ⟨rfl, rfl⟩

theorem numbers4_true (w : World) : Calls Try.prog 46 #[] w fun e w' => e = .returned (.bool true) ∧ w = w' := by
  go_enter Try.func46, Try.ntmps46
  go_wp2
  go_ret
  exact ⟨rfl, rfl⟩

theorem numbers5_true (w : World) : Calls Try.prog 47 #[] w fun e w' => e = .returned (.bool true) ∧ w = w' := by
  go_enter Try.func47, Try.ntmps47
  go_wp2
  go_ret
  exact ⟨rfl, rfl⟩

theorem numbers6_true (w : World) : Calls Try.prog 48 #[] w fun e w' => e = .returned (.bool true) ∧ w = w' := by
  go_enter Try.func48, Try.ntmps48
  go_wp2
  go_ret
  exact ⟨rfl, rfl⟩

theorem numbers7_true (w : World) : Calls Try.prog 49 #[] w fun e w' => e = .returned (.bool true) ∧ w = w' := by
  go_enter Try.func49, Try.ntmps49
  go_wp2
  go_ret
  exact ⟨rfl, rfl⟩

theorem walk (w : World) : Calls Try.prog 3 #[] w fun e w' => e = .returned (.bool true) ∧ Below w.heap.size w w' := by
  go_enter Try.func3, Try.ntmps3
  go_wp2_with (first
    | (go_at_call 38; refine (errors1_true _).mono ?_; rintro e w' ⟨rfl, rfl⟩)
    | (go_at_call 39; refine (errors2_true _).mono ?_; rintro e w' ⟨rfl, rfl⟩)
    | (go_at_call 40; refine (errors3_true _).mono ?_; rintro e w' ⟨rfl, rfl⟩)
    | (go_at_call 41; refine (errors4_true _).mono ?_; rintro e w' ⟨rfl, rfl⟩)
    | (go_at_call 42; refine (errors5_true _).mono ?_; rintro e w' ⟨rfl, rfl⟩)
    | (go_at_call 43; refine (numbers1_true _).mono ?_; rintro e w' ⟨rfl, rfl⟩)
    | (go_at_call 44; refine (numbers2_true _).mono ?_; rintro e w' ⟨rfl, rfl⟩)
    | (go_at_call 45; refine (numbers3_true _).mono ?_; rintro e w' ⟨rfl, rfl⟩)
    | (go_at_call 46; refine (numbers4_true _).mono ?_; rintro e w' ⟨rfl, rfl⟩)
    | (go_at_call 47; refine (numbers5_true _).mono ?_; rintro e w' ⟨rfl, rfl⟩)
    | (go_at_call 48; refine (numbers6_true _).mono ?_; rintro e w' ⟨rfl, rfl⟩)
    | (go_at_call 49; refine (numbers7_true _).mono ?_; rintro e w' ⟨rfl, rfl⟩))
  go_ret
  exact ⟨rfl, Below.refl _ _⟩
end Go.Proofs.Ytkkpcdpoldjmkaa.boathouseNames
