/-
  VALUES (api.Value) IN MEMORY: how a plain value stands in cells; the walks of runs.Plain, boathouseref7.kind, Clean, Cmp, Below and vec.Less.
-/
import Derived.Test.YtmoabfaimcafjaaBytes
import Derived.Test.YtmoabfaimcafjaaValMath
namespace Go.Proofs.Ytmoabfaimcafjaa
open Go.RowKit ValMath

/-- A value's cells. -/
def vcells (v : Val) : List Value := [.int .i64 v.k, .int .i64 v.i, .bool v.b, .string v.s]
/-- A value as it is handed on. -/
abbrev vagg (v : Val) : Value := .agg #[.int .i64 v.k, .int .i64 v.i, .bool v.b, .string v.s]

namespace Vals
theorem two_new {w : World} (o p : Obj) : Below w.heap.size w ((w.alloc o).alloc p) := ((Below.refl _ _).alloc (Nat.le_refl _) _).alloc (by simp) _
theorem one_new {w : World} (o : Obj) : Below w.heap.size w (w.alloc o) := (Below.refl _ _).alloc (Nat.le_refl _) _

set_option maxHeartbeats 1000000 in
theorem plain_any (v : Val) (w : World) :
    Calls Try.prog 63 #[vagg v] w fun e w' => e = .returned (vagg (clean v)) ∧ Below w.heap.size w w' := by
  obtain ⟨k, i, b, s⟩ := v
  by_cases h1 : k = 1
  · subst h1
    go_enter Try.func63, Try.ntmps63
    go_wp2
    go_returns
    exact ⟨rfl, two_new _ _⟩
  by_cases h2 : k = 2
  · subst h2
    go_enter Try.func63, Try.ntmps63
    go_wp2
    go_returns
    exact ⟨rfl, two_new _ _⟩
  by_cases h3 : k = 3
  · subst h3
    go_enter Try.func63, Try.ntmps63
    go_wp2
    go_returns
    exact ⟨rfl, two_new _ _⟩
  · have e : clean ⟨k, i, b, s⟩ = nul := by unfold clean; simp only [if_neg h1, if_neg h2, if_neg h3]
    rw [e]
    go_enter Try.func63, Try.ntmps63
    go_wp2
    go_returns
    exact ⟨rfl, two_new _ _⟩

/-- A value's kind; of none that there is: 0. -/
def kindOf (v : Val) : Int := if v.k < 0 ∨ 3 < v.k then 0 else v.k
theorem kindOf_clean (v : Val) : kindOf v = (clean v).k := by
  rw [clean_kind]; unfold kindOf
  by_cases h : v.k < 0 ∨ 3 < v.k
  · rw [if_pos h, if_neg (by omega)]
  · rw [if_neg h]
    by_cases h0 : v.k = 0
    · rw [if_neg (by omega), h0]
    · rw [if_pos (by omega)]

set_option maxHeartbeats 1000000 in
theorem kind_exact (v : Val) (w : World) :
    Calls Try.prog 64 #[vagg v] w fun e w' => e = .returned (.int .i64 (kindOf v)) ∧ w' = w.alloc (.cells #[.int .i64 v.k, .int .i64 v.i, .bool v.b, .string v.s] 38) := by
  obtain ⟨k, i, b, s⟩ := v
  unfold kindOf
  by_cases h1 : k < 0
  · rw [if_pos (.inl h1)]
    have hd : decide (k < 0) = true := decide_eq_true h1
    go_enter Try.func64, Try.ntmps64
    go_wp2
    go_ret
    exact ⟨rfl, rfl⟩
  · have hd : decide (k < 0) = false := decide_eq_false h1
    by_cases h2 : 3 < k
    · rw [if_pos (.inr h2)]
      go_enter Try.func64, Try.ntmps64
      go_wp2
      go_ret
      exact ⟨rfl, rfl⟩
    · rw [if_neg (by simp only []; omega)]
      go_enter Try.func64, Try.ntmps64
      go_wp2
      go_ret
      exact ⟨rfl, rfl⟩

theorem kind_any (v : Val) (w : World) :
    Calls Try.prog 64 #[vagg v] w fun e w' => e = .returned (.int .i64 (kindOf v)) ∧ Below w.heap.size w w' :=
  (kind_exact v w).mono fun _ _ ⟨he, hw⟩ => ⟨he, by rw [hw]; exact one_new _⟩

theorem three_new {w : World} (o p q : Obj) : Below w.heap.size w (((w.alloc o).alloc p).alloc q) := (two_new o p).alloc (by simp; omega) _

set_option maxHeartbeats 1000000 in
theorem clean_any (v : Val) (w : World) :
    Calls Try.prog 35 #[vagg v] w fun e w' => e = .returned (vagg (clean v)) ∧ Below w.heap.size w w' := by
  have hK := kind_exact v
  have hkc := kindOf_clean v
  rw [clean_kind] at hkc
  obtain ⟨k, i, b, s⟩ := v
  generalize kindOf ⟨k, i, b, s⟩ = q at hK hkc
  simp only [] at hkc hK
  by_cases h1 : k = 1
  · subst h1
    obtain rfl : q = 1 := by simpa using hkc
    have HK := Lib.hid hK; clear hK hkc
    go_enter Try.func35, Try.ntmps35
    go_wp2_with (go_at_call 64; with_reducible refine (HK.out _).mono ?_; rintro e w1 ⟨rfl, rfl⟩)
    go_returns
    exact ⟨rfl, three_new _ _ _⟩
  by_cases h2 : k = 2
  · subst h2
    obtain rfl : q = 2 := by simpa using hkc
    have HK := Lib.hid hK; clear hK hkc
    go_enter Try.func35, Try.ntmps35
    go_wp2_with (go_at_call 64; with_reducible refine (HK.out _).mono ?_; rintro e w1 ⟨rfl, rfl⟩)
    go_returns
    exact ⟨rfl, three_new _ _ _⟩
  by_cases h3 : k = 3
  · subst h3
    obtain rfl : q = 3 := by simpa using hkc
    have HK := Lib.hid hK; clear hK hkc
    go_enter Try.func35, Try.ntmps35
    go_wp2_with (go_at_call 64; with_reducible refine (HK.out _).mono ?_; rintro e w1 ⟨rfl, rfl⟩)
    go_returns
    exact ⟨rfl, three_new _ _ _⟩
  · have e : clean ⟨k, i, b, s⟩ = nul := by unfold clean; simp only [if_neg h1, if_neg h2, if_neg h3]
    rw [e]
    obtain rfl : q = 0 := by rw [hkc, if_neg (by omega)]
    have HK := Lib.hid hK; clear hK hkc
    go_enter Try.func35, Try.ntmps35
    go_wp2_with (go_at_call 64; with_reducible refine (HK.out _).mono ?_; rintro e w1 ⟨rfl, rfl⟩)
    go_returns
    exact ⟨rfl, three_new _ _ _⟩
end Vals
end Go.Proofs.Ytmoabfaimcafjaa
