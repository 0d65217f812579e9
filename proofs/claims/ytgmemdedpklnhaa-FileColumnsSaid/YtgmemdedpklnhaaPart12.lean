/-
  Lemmas of this claim, text behind text: VecVec. Each states its own conditions.
-/
import Derived.Test.YtgmemdedpklnhaaPart04
import Derived.Test.YtgmemdedpklnhaaPart09
import Derived.Test.YtgmemdedpklnhaaPart11

/-
  THE WALK of the document's own Vec.
-/




namespace Go.Proofs.Ytgmemdedpklnhaa.Vec
open Go.RowKit ValMath Vals Sl VecMath Words

theorem fits_null {k : Int} {v : Val} (h : isNull v = true) : fits k v = true := by
  unfold isNull at h
  have := of_decide_eq_true h
  unfold fits; simp [this]
theorem fits_some {k : Int} {v : Val} (hk : k = 1 ∨ k = 2 ∨ k = 3) (h : isNull v = false) : fits k v = (decide (v.k = k) && (decide (k ≠ 3) || (decide (v.s.size ≤ 64) && UtfMath.valid v.s.data.toList))) := by
  unfold isNull at h
  have h0 := of_decide_eq_false h
  obtain ⟨vk, vi, vb, vs⟩ := v
  have hv0 : UtfMath.valid [] = true := by decide
  by_cases h1 : vk = 1
  · subst h1
    unfold fits
    rcases hk with rfl | rfl | rfl <;> simp [clean, hv0]
  · by_cases h2 : vk = 2
    · subst h2
      unfold fits
      rcases hk with rfl | rfl | rfl <;> simp [clean, hv0]
    · by_cases h3 : vk = 3
      · subst h3
        unfold fits
        rcases hk with rfl | rfl | rfl <;> simp [clean]
      · exfalso
        apply h0
        simp [clean, h1, h2, h3, nul]

theorem ret_sii {s t : ByteArray} {a b c d : Int} (h1 : s = t) (h2 : a = b) (h3 : c = d) : Ending.returned (.tuple #[.string s, .int .i64 a, .int .i64 c]) = .returned (.tuple #[.string t, .int .i64 b, .int .i64 d]) := by rw [h1, h2, h3]
theorem put_bad {k : Int} {vs : List Val} (h : mayErr k vs ≠ 0) : put k vs = [] ∧ encOf k vs = 0 := by unfold put encOf; rw [if_neg h, if_neg h]; exact ⟨rfl, rfl⟩
theorem all_ok {k : Int} {vs : List Val} (h1 : ¬ (k < 1 ∨ 3 < k)) (h2 : ¬ 4096 < vs.length) (h3 : vs.all (fits k) = true) : mayErr k vs = 0 := by unfold mayErr; rw [if_neg h1, if_neg h2, if_pos h3]
theorem best3_first (p r s : List UInt8) : (best3 p r s).1 = if r.length < p.length then (if s.length < r.length then 2 else 1) else (if s.length < p.length then 2 else 0) := by
  unfold best3; split <;> split <;> rfl
theorem best3_le (p r s : List UInt8) : (best3 p r s).1 ≤ 2 := by
  rcases best_cases p r s with e | e | e <;> rw [e] <;> simp
end Go.Proofs.Ytgmemdedpklnhaa.Vec
