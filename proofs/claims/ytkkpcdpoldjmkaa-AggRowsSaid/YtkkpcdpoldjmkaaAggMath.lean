/-
  PLAIN ARITHMETIC OF CHAPTER 17: a sum in two words.
-/
import Derived.Test.YtkkpcdpoldjmkaaStatMath
namespace Go.Proofs.Ytkkpcdpoldjmkaa.ValMath

def lowW (t : Int) : Int := t % 18446744073709551616
def highW (t : Int) : Int := t / 18446744073709551616
theorem lowW_range (t : Int) : 0 ≤ lowW t ∧ lowW t < 18446744073709551616 := by unfold lowW; omega
/-- The low word and the carry. -/
theorem low_step (t x : Int) (h1 : -9223372036854775808 ≤ x) (h2 : x < 9223372036854775808) :
    (lowW t + x % 18446744073709551616) % 18446744073709551616 = lowW (t + x) ∧
    highW (t + x) = highW t + (lowW t + x % 18446744073709551616) / 18446744073709551616 + (if x < 0 then -1 else 0) := by
  unfold lowW highW
  split <;> omega
/-- Does the sum fit? by the two words. -/
theorem fits_words (t : Int) (h1 : -170141183460469231731687303715884105728 ≤ t) (h2 : t < 170141183460469231731687303715884105728) :
    (highW t = if 9223372036854775808 ≤ lowW t then -1 else 0) ↔ -9223372036854775808 ≤ t ∧ t < 9223372036854775808 := by
  unfold lowW highW
  split <;> omega
theorem i64_low {t : Int} (h1 : -9223372036854775808 ≤ t) (h2 : t < 9223372036854775808) : (if 9223372036854775808 ≤ lowW t then lowW t - 18446744073709551616 else lowW t) = t := by
  unfold lowW; split <;> omega
/-- How great a sum may be. -/
theorem total_bounds (vs : List Val) (h : ∀ v ∈ vs, -9223372036854775808 ≤ v.i ∧ v.i < 9223372036854775808) : -9223372036854775808 * (vs.length : Int) ≤ total vs ∧ total vs ≤ 9223372036854775808 * (vs.length : Int) := by
  induction vs with
  | nil => simp [total]
  | cons v vs ih =>
    have h1 := ih fun u hu => h u (by simp [hu])
    have h2 := h v (by simp)
    have e : total (v :: vs) = (if null v then 0 else v.i) + total vs := by simp [total]
    rw [e, List.length_cons]
    split <;> omega
end Go.Proofs.Ytkkpcdpoldjmkaa.ValMath
