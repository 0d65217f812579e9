/-
  Lemmas of this claim, text behind text: UtfRef. Each states its own conditions.
-/
import Derived.Test.YtgmemdedpklnhaaPart04

/-
  THE WALKS of the document's own runes: boathouseref1.next, Rune, First, Valid, PutRune.
-/

namespace Go.Proofs.Ytgmemdedpklnhaa.Utf
open Go.RowKit UtfMath

def nextI (l : List UInt8) (i : Nat) : Int := if goes l i then (at_ l i : Int) - 128 else -1
theorem next_yes {l : List UInt8} {i : Nat} (h : goes l i) : nextI l i = (at_ l i : Int) - 128 ∧ 0 ≤ (at_ l i : Int) - 128 ∧ (at_ l i : Int) - 128 < 64 := by
  unfold nextI; rw [if_pos h]; have := h.2; exact ⟨rfl, by omega, by omega⟩
theorem next_no {l : List UInt8} {i : Nat} (h : ¬ goes l i) : nextI l i = -1 := by unfold nextI; rw [if_neg h]

end Go.Proofs.Ytgmemdedpklnhaa.Utf
