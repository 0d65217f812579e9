/-
  PLAIN LAW OF STATISTICS AND AGGREGATES, chapters 10 and 17, over lists. No program in sight.
-/
import Derived.Test.YtkkpcdpoldjmkaaRunMath
namespace Go.Proofs.Ytkkpcdpoldjmkaa.ValMath

def null (v : Val) : Bool := decide ((clean v).k = 0)
theorem null_iff (v : Val) : null v = true ↔ clean v = nul := by
  unfold null
  rw [decide_eq_true_eq]
  constructor
  · intro h
    rcases clean_form v with ⟨n, e⟩ | ⟨t, e⟩ | ⟨t, e⟩ | e
    · rw [e] at h; exact absurd (show (1 : Int) = 0 from h) (by decide)
    · rw [e] at h; exact absurd (show (2 : Int) = 0 from h) (by decide)
    · rw [e] at h; exact absurd (show (3 : Int) = 0 from h) (by decide)
    · exact e
  · intro h; rw [h]; rfl
theorem null_clean (v : Val) : null (clean v) = null v := by unfold null; rw [clean_clean]

/-- The lesser, the greater of two; a null one counts for nothing. -/
def lesser (a b : Val) : Val := if null a || (!null b && less b a) then clean b else clean a
def greater (a b : Val) : Val := if null a || (!null b && less a b) then clean b else clean a

/-! One law for both: any order that is total on clean values. -/
section
variable (lt : Val → Val → Bool) (hc1 : ∀ x y, lt (clean x) y = lt x y) (hc2 : ∀ x y, lt x (clean y) = lt x y)
  (hover : ∀ {x y z}, lt x y = true → lt y z = true → lt x z = true) (hnone : ∀ {x y}, lt x y = false → lt y x = false → clean x = clean y)
def best (a b : Val) : Val := if null a || (!null b && lt b a) then clean b else clean a
include hc2 in
theorem best_clean_left (a b : Val) : best lt (clean a) b = best lt a b := by unfold best; rw [null_clean, clean_clean, hc2]
include hc1 in
theorem best_clean_right (a b : Val) : best lt a (clean b) = best lt a b := by unfold best; rw [null_clean, clean_clean, hc1]
theorem best_clean (a b : Val) : clean (best lt a b) = best lt a b := by unfold best; split <;> rw [clean_clean]
theorem best_null_left {a : Val} (h : null a = true) (b : Val) : best lt a b = clean b := by unfold best; rw [h]; rfl
theorem best_null_right {b : Val} (a : Val) (h : null b = true) : best lt a b = clean a := by
  unfold best
  by_cases ha : null a = true
  · rw [ha]; simp only [Bool.true_or, if_true]; rw [(null_iff a).1 ha, (null_iff b).1 h]
  · have : null a = false := by simpa using ha
    rw [this, h]; rfl
theorem best_some {a b : Val} (ha : null a = false) (hb : null b = false) : best lt a b = if lt b a then clean b else clean a := by
  unfold best; rw [ha, hb]; rfl
theorem best_null (a b : Val) : null (best lt a b) = (null a && null b) := by
  unfold best
  by_cases ha : null a = true
  · rw [ha]; simp only [Bool.true_or, if_true, Bool.true_and]; rw [null_clean]
  · have ha' : null a = false := by simpa using ha
    rw [ha']; simp only [Bool.false_or, Bool.false_and]
    by_cases hb : null b = true
    · rw [hb]; simp only [Bool.not_true, Bool.false_and]; simpa [null_clean] using ha'
    · have hb' : null b = false := by simpa using hb
      split <;> rw [null_clean] <;> assumption
include hc1 hc2 hover hnone in
theorem best_assoc (a b c : Val) : best lt (best lt a b) c = best lt a (best lt b c) := by
  by_cases ha : null a = true
  · rw [best_null_left lt ha, best_clean_left lt hc2, best_null_left lt ha, best_clean]
  have ha' : null a = false := by simpa using ha
  by_cases hb : null b = true
  · rw [best_null_right lt a hb, best_clean_left lt hc2, best_null_left lt hb, best_clean_right lt hc1]
  have hb' : null b = false := by simpa using hb
  by_cases hc : null c = true
  · rw [best_null_right lt _ hc, best_clean, best_null_right lt b hc, best_clean_right lt hc1]
  have hc' : null c = false := by simpa using hc
  have h1 : null (best lt a b) = false := by rw [best_null, ha']; rfl
  have h2 : null (best lt b c) = false := by rw [best_null, hb']; rfl
  rw [best_some lt h1 hc', best_some lt ha' h2, best_some lt ha' hb', best_some lt hb' hc']
  by_cases x : lt b a = true
  · simp only [x, if_true]
    rw [hc2]
    by_cases y : lt c b = true
    · simp only [y, if_true]
      rw [hc1, hover y x]; simp [clean_clean]
    · simp only [y]
      simp only [Bool.false_eq_true, if_false]
      rw [hc1, x]; simp [clean_clean]
  · simp only [x]
    simp only [Bool.false_eq_true, if_false]
    rw [hc2]
    by_cases y : lt c b = true
    · simp only [y, if_true]
      rw [hc1]; simp [clean_clean]
    · simp only [y]
      simp only [Bool.false_eq_true, if_false]
      rw [hc1]
      have x' : lt b a = false := by simpa using x
      simp only [x']
      by_cases z : lt c a = true
      · -- c < a, not b < a, not c < b
        exfalso
        by_cases u : lt a b = true
        · exact y (hover z u)
        · have := hnone (by simpa using u) x'
          rw [← hc2, ← this, hc2] at y
          exact y z
      · simp [z, clean_clean]
end

theorem less_gt_over {x y z : Val} (h1 : less y x = true) (h2 : less z y = true) : less z x = true := less_over h2 h1
theorem lesser_best (a b : Val) : lesser a b = best less a b := rfl
theorem greater_best (a b : Val) : greater a b = best (fun x y => less y x) a b := rfl
theorem lesser_assoc (a b c : Val) : lesser (lesser a b) c = lesser a (lesser b c) := by
  simp only [lesser_best]
  exact best_assoc less less_clean_left less_clean_right less_over less_neither a b c
theorem greater_assoc (a b c : Val) : greater (greater a b) c = greater a (greater b c) := by
  simp only [greater_best]
  exact best_assoc (fun x y => less y x) (fun x y => less_clean_right y x) (fun x y => less_clean_left y x) (fun h1 h2 => less_over h2 h1) (fun h1 h2 => less_neither h2 h1) a b c

/-- Statistics: how many nulls, the least, the greatest. -/
structure St where
  nulls : Nat
  mn : Val
  mx : Val
def addS (s : St) (v : Val) : St := ⟨if null v then s.nulls + 1 else s.nulls, lesser s.mn v, greater s.mx v⟩
def stat (vs : List Val) : St := vs.foldl addS ⟨0, nul, nul⟩
theorem stat_nil : stat [] = ⟨0, nul, nul⟩ := rfl
theorem stat_snoc (vs : List Val) (v : Val) : stat (vs ++ [v]) = addS (stat vs) v := by simp [stat, List.foldl_append]
theorem stat_nulls_le (vs : List Val) : (stat vs).nulls ≤ vs.length := by
  induction vs using snoc_ind with
  | h0 => simp [stat]
  | h1 vs v ih => rw [stat_snoc, List.length_append]; simp only [addS]; split <;> simp <;> omega
theorem stat_clean (vs : List Val) : clean (stat vs).mn = (stat vs).mn ∧ clean (stat vs).mx = (stat vs).mx := by
  induction vs using snoc_ind with
  | h0 => exact ⟨clean_nul, clean_nul⟩
  | h1 vs v ih => rw [stat_snoc]; exact ⟨best_clean less _ _, best_clean (fun x y => less y x) _ _⟩

def both (a b : St) : St := ⟨a.nulls + b.nulls, lesser a.mn b.mn, greater a.mx b.mx⟩
theorem null_nul : null nul = true := rfl
theorem lesser_nul_right (a : Val) : lesser a nul = clean a := best_null_right less a null_nul
theorem greater_nul_right (a : Val) : greater a nul = clean a := best_null_right (fun x y => less y x) a null_nul
theorem lesser_nul_left (a : Val) : lesser nul a = clean a := best_null_left less null_nul a
theorem greater_nul_left (a : Val) : greater nul a = clean a := best_null_left (fun x y => less y x) null_nul a

theorem stat_append (a b : List Val) : stat (a ++ b) = both (stat a) (stat b) := by
  induction b using snoc_ind with
  | h0 =>
    have h := stat_clean a
    rw [List.append_nil, stat_nil]; unfold both
    simp only [lesser_nul_right, greater_nul_right, h.1, h.2, Nat.add_zero]
  | h1 b v ih =>
    rw [← List.append_assoc, stat_snoc, ih, stat_snoc]
    unfold both addS
    simp only [lesser_assoc, greater_assoc]
    congr 1
    split <;> omega

/-- Each value that is not null lies between the bounds. -/
theorem lesser_not_over (a b : Val) : null b = false → less b (lesser a b) = false := by
  intro hb
  unfold lesser
  by_cases h : (null a || (!null b && less b a)) = true
  · rw [if_pos h, less_clean_right]; exact less_self b
  · rw [if_neg h, less_clean_right]
    rw [hb] at h
    simp at h
    exact h.2
theorem less_of_lesser {x a b : Val} (ha : null a = false) (h : less x (lesser a b) = true) : less x a = true := by
  unfold lesser at h
  rw [ha] at h
  by_cases hb : (!null b && less b a) = true
  · simp only [Bool.false_or, hb, if_true] at h
    rw [less_clean_right] at h
    simp at hb
    exact less_over h hb.2
  · simp only [Bool.false_or, hb] at h
    simp only [Bool.false_eq_true, if_false] at h
    rw [less_clean_right] at h
    exact h
theorem greater_not_over (a b : Val) : null b = false → less (greater a b) b = false := by
  intro hb
  unfold greater
  by_cases h : (null a || (!null b && less a b)) = true
  · rw [if_pos h, less_clean_left]; exact less_self b
  · rw [if_neg h, less_clean_left]
    rw [hb] at h
    simp at h
    exact h.2
theorem less_of_greater {x a b : Val} (ha : null a = false) (h : less (greater a b) x = true) : less a x = true := by
  unfold greater at h
  rw [ha] at h
  by_cases hb : (!null b && less a b) = true
  · simp only [Bool.false_or, hb, if_true] at h
    rw [less_clean_left] at h
    simp at hb
    exact less_over hb.2 h
  · simp only [Bool.false_or, hb] at h
    simp only [Bool.false_eq_true, if_false] at h
    rw [less_clean_left] at h
    exact h
theorem stat_bounds (vs : List Val) : ∀ v ∈ vs, null v = false → less v (stat vs).mn = false ∧ less (stat vs).mx v = false ∧ null (stat vs).mn = false ∧ null (stat vs).mx = false := by
  induction vs using snoc_ind with
  | h0 => simp
  | h1 vs u ih =>
    intro v hv hn
    rw [stat_snoc]
    simp only [addS]
    rw [List.mem_append] at hv
    rcases hv with hv | hv
    · obtain ⟨h1, h2, h3, h4⟩ := ih v hv hn
      refine ⟨?_, ?_, ?_, ?_⟩
      · cases h : less v (lesser (stat vs).mn u) with
        | false => rfl
        | true => rw [less_of_lesser h3 h] at h1; cases h1
      · cases h : less (greater (stat vs).mx u) v with
        | false => rfl
        | true => rw [less_of_greater h4 h] at h2; cases h2
      · rw [lesser_best, best_null, h3]; rfl
      · rw [greater_best, best_null, h4]; rfl
    · simp at hv; subst hv
      refine ⟨lesser_not_over _ _ hn, greater_not_over _ _ hn, ?_, ?_⟩
      · rw [lesser_best, best_null, hn, Bool.and_false]
      · rw [greater_best, best_null, hn, Bool.and_false]

theorem stat_count (vs : List Val) : (stat vs).nulls + (vs.filter fun v => !null v).length = vs.length := by
  induction vs using snoc_ind with
  | h0 => rfl
  | h1 vs v ih =>
    rw [stat_snoc, List.filter_append, List.length_append, List.length_append]
    simp only [addS]
    by_cases h : null v = true
    · simp [h]; omega
    · simp [h]; omega

/-- Of nulls alone there are no bounds. -/
theorem stat_nuls (k : Nat) : stat (List.replicate k nul) = ⟨k, nul, nul⟩ := by
  induction k with
  | zero => rfl
  | succ k ih =>
    rw [List.replicate_succ', stat_snoc, ih]
    simp [addS, null_nul, lesser_nul_right, greater_nul_right, clean_nul]

/-! ### Aggregates -/
/-- The whole sum of the numbers. -/
def total (vs : List Val) : Int := (vs.map fun v => if null v then 0 else v.i).sum
def some_ (vs : List Val) : Nat := (vs.filter fun v => !null v).length
def odd_ (vs : List Val) : Bool := vs.any fun v => !null v && decide (v.k ≠ 1)
def number (x : Int) : Val := ⟨1, x, false, ByteArray.empty⟩
/-- An aggregate: the value, the error's number. -/
def agg (kind : Int) (vs : List Val) : Val × Nat :=
  if kind < 0 ∨ 4 < kind then (nul, 1700)
  else if kind = 0 then (nul, 0)
  else if kind = 1 then (number (some_ vs), 0)
  else if kind = 3 then ((stat vs).mn, 0)
  else if kind = 4 then ((stat vs).mx, 0)
  else if odd_ vs then (nul, 1701)
  else if some_ vs = 0 then (nul, 0)
  else if total vs < -9223372036854775808 ∨ 9223372036854775807 < total vs then (nul, 1702)
  else (number (total vs), 0)
/-! ### An aggregate does not hang on the row of its values -/
theorem best_comm {lt : Val → Val → Bool} (hboth : ∀ {x y}, lt x y = true → lt y x = true → False) (hnone : ∀ {x y}, lt x y = false → lt y x = false → clean x = clean y) (a b : Val) : best lt a b = best lt b a := by
  by_cases ha : null a = true
  · rw [best_null_left lt ha, best_null_right lt b ha]
  have ha' : null a = false := by simpa using ha
  by_cases hb : null b = true
  · rw [best_null_left lt hb, best_null_right lt a hb]
  have hb' : null b = false := by simpa using hb
  rw [best_some lt ha' hb', best_some lt hb' ha']
  cases h1 : lt a b <;> cases h2 : lt b a
  · simp only [Bool.false_eq_true, if_false]; exact hnone h1 h2
  · simp
  · simp
  · exact (hboth h1 h2).elim
theorem both_comm (a b : St) : both a b = both b a := by
  unfold both
  simp only [lesser_best, greater_best]
  rw [best_comm (fun h1 h2 => less_both h1 h2) less_neither a.mn b.mn, best_comm (fun h1 h2 => less_both h2 h1) (fun h1 h2 => less_neither h2 h1) a.mx b.mx, Nat.add_comm]
theorem total_append (a b : List Val) : total (a ++ b) = total a + total b := by unfold total; rw [List.map_append, List.sum_append]
theorem some_append (a b : List Val) : some_ (a ++ b) = some_ a + some_ b := by unfold some_; rw [List.filter_append, List.length_append]
theorem odd_append (a b : List Val) : odd_ (a ++ b) = (odd_ a || odd_ b) := by unfold odd_; rw [List.any_append]
theorem agg_turn (kind : Int) (a b : List Val) : agg kind (a ++ b) = agg kind (b ++ a) := by
  unfold agg
  rw [stat_append, stat_append, both_comm, total_append, total_append, Int.add_comm, some_append, some_append, Nat.add_comm, odd_append, odd_append, Bool.or_comm]
theorem total_snoc (vs : List Val) (v : Val) : total (vs ++ [v]) = total vs + if null v then 0 else v.i := by rw [total_append]; simp [total]
theorem some_snoc (vs : List Val) (v : Val) : some_ (vs ++ [v]) = some_ vs + if null v then 0 else 1 := by
  rw [some_append]; unfold some_
  by_cases h : null v = true
  · simp [h]
  · simp [h]
theorem odd_snoc (vs : List Val) (v : Val) : odd_ (vs ++ [v]) = (odd_ vs || (!null v && decide (v.k ≠ 1))) := by rw [odd_append]; simp [odd_]
theorem some_stat (vs : List Val) : some_ vs + (stat vs).nulls = vs.length := by have := stat_count vs; unfold some_; omega
end Go.Proofs.Ytkkpcdpoldjmkaa.ValMath
