/-
  PLAIN LAW OF RUNS, the way back: runs joined, over lists; runs that were cut join to what it was. No program in sight.
-/
import Derived.Test.YtmoabfaimcafjaaRunMath
namespace Go.Proofs.Ytmoabfaimcafjaa.ValMath

/-- May run number k not stand, so many values being there? -/
def joinBad (many : List Int) (vs : List Val) (k have_ : Nat) : Prop :=
  many.getD k 0 < 1 ∨ 4096 - (have_ : Int) < many.getD k 0 ∨ (0 < k ∧ clean (vs.getD (k - 1) nul) = clean (vs.getD k nul))
instance (many : List Int) (vs : List Val) (k h : Nat) : Decidable (joinBad many vs k h) := by unfold joinBad; infer_instance

/-- The first k runs joined. -/
def joinK (many : List Int) (vs : List Val) : Nat → Option (List Val)
  | 0 => some []
  | k + 1 => match joinK many vs k with
    | none => none
    | some out => if joinBad many vs k out.length then none else some (out ++ List.replicate (many.getD k 0).toNat (clean (vs.getD k nul)))

def join (many : List Int) (vs : List Val) : Option (List Val) := if many.length = vs.length then joinK many vs vs.length else none

theorem joinK_bad {many : List Int} {vs : List Val} {k : Nat} {out : List Val} (h : joinK many vs k = some out) (hb : joinBad many vs k out.length) : joinK many vs (k + 1) = none := by
  simp only [joinK, h, if_pos hb]
theorem joinK_good {many : List Int} {vs : List Val} {k : Nat} {out : List Val} (h : joinK many vs k = some out) (hb : ¬ joinBad many vs k out.length) :
    joinK many vs (k + 1) = some (out ++ List.replicate (many.getD k 0).toNat (clean (vs.getD k nul))) := by
  simp only [joinK, h, if_neg hb]
theorem joinK_none {many : List Int} {vs : List Val} {k n : Nat} (h : joinK many vs k = none) (hn : k ≤ n) : joinK many vs n = none := by
  induction n with
  | zero => obtain rfl : k = 0 := by omega
            exact h
  | succ n ih =>
    by_cases hk : k = n + 1
    · subst hk; exact h
    · simp only [joinK, ih (by omega)]
theorem join_stop {many : List Int} {vs : List Val} {k : Nat} {out : List Val} (hl : many.length = vs.length) (h : joinK many vs k = some out) (hb : joinBad many vs k out.length) (hk : k < vs.length) : join many vs = none := by
  unfold join; rw [if_pos hl]; exact joinK_none (joinK_bad h hb) hk
theorem join_end {many : List Int} {vs : List Val} {out : List Val} (hl : many.length = vs.length) (h : joinK many vs vs.length = some out) : join many vs = some out := by
  unfold join; rw [if_pos hl]; exact h
theorem join_unlike {many : List Int} {vs : List Val} (hl : ¬ many.length = vs.length) : join many vs = none := by unfold join; rw [if_neg hl]

theorem joinK_len {many : List Int} {vs : List Val} {k : Nat} {out : List Val} (h : joinK many vs k = some out) : out.length ≤ 4096 := by
  induction k generalizing out with
  | zero => simp [joinK] at h; subst h; simp
  | succ k ih =>
    cases hk : joinK many vs k with
    | none => simp [joinK, hk] at h
    | some o =>
      by_cases hb : joinBad many vs k o.length
      · rw [joinK_bad hk hb] at h; cases h
      · rw [joinK_good hk hb] at h
        injection h with h; subst h
        have := ih hk
        unfold joinBad at hb
        rw [List.length_append, List.length_replicate]; omega

/-! ### There and back -/
theorem joinK_take {many many' : List Int} {vs vs' : List Val} {k : Nat} (h1 : ∀ i, i < k → many.getD i 0 = many'.getD i 0) (h2 : ∀ i, i < k → vs.getD i nul = vs'.getD i nul) : joinK many vs k = joinK many' vs' k := by
  induction k with
  | zero => rfl
  | succ k ih =>
    simp only [joinK]
    rw [ih (fun i hi => h1 i (by omega)) (fun i hi => h2 i (by omega))]
    cases joinK many' vs' k with
    | none => rfl
    | some out =>
      simp only []
      rw [h1 k (by omega), h2 k (by omega)]
      have hb : joinBad many vs k out.length ↔ joinBad many' vs' k out.length := by
        unfold joinBad
        rw [h1 k (by omega), h2 k (by omega)]
        by_cases h0 : 0 < k
        · rw [h2 (k - 1) (by omega)]
        · simp [h0]
      by_cases h : joinBad many' vs' k out.length
      · rw [if_pos h, if_pos (hb.2 h)]
      · rw [if_neg h, if_neg (fun e => h (hb.1 e))]

theorem cut_clean (vs : List Val) : ∀ p ∈ cut vs, clean p.2 = p.2 := by
  induction vs using snoc_ind with
  | h0 => simp [cut]
  | h1 vs v ih =>
    rw [cut_snoc]
    intro p hp
    unfold push at hp
    split at hp
    · rw [List.mem_append] at hp
      rcases hp with hp | hp
      · exact ih p (List.dropLast_subset _ hp)
      · simp at hp; subst hp; exact clean_clean v
    · rw [List.mem_append] at hp
      rcases hp with hp | hp
      · exact ih p hp
      · simp at hp; subst hp; exact clean_clean v

def cmany (acc : List (Nat × Val)) : List Int := acc.map fun p => (p.1 : Int)
def cvals (acc : List (Nat × Val)) : List Val := acc.map (·.2)

/-- The values that runs stand for. -/
def spread (acc : List (Nat × Val)) : List Val := acc.flatMap fun p => List.replicate p.1 p.2

theorem spread_append (a b : List (Nat × Val)) : spread (a ++ b) = spread a ++ spread b := by simp [spread]
theorem spread_one (p : Nat × Val) : spread [p] = List.replicate p.1 p.2 := by simp [spread]
theorem spread_push (acc : List (Nat × Val)) (v : Val) : spread (push acc v) = spread acc ++ [clean v] := by
  rcases List.eq_nil_or_concat acc with rfl | ⟨acc', ⟨m, x⟩, rfl⟩
  · simp [push, lastIs, spread]
  · rw [List.concat_eq_append]
    by_cases h : x = clean v
    · rw [push_same h]
      unfold spread
      rw [List.flatMap_append, List.flatMap_append]
      simp [List.replicate_succ', h]
    · rw [push_other (by rw [lastIs_snoc]; simpa using h)]
      unfold spread
      rw [List.flatMap_append (xs := acc' ++ [(m, x)])]
      simp
theorem spread_cut (vs : List Val) : spread (cut vs) = vs.map clean := by
  induction vs using snoc_ind with
  | h0 => rfl
  | h1 vs v ih => rw [cut_snoc, spread_push, ih, List.map_append]; rfl

/-- Neighbours are unlike. -/
def Unlike : List (Nat × Val) → Prop
  | [] => True
  | [_] => True
  | p :: q :: l => p.2 ≠ q.2 ∧ Unlike (q :: l)
theorem Unlike.snoc {acc : List (Nat × Val)} {p q : Nat × Val} (h : Unlike (acc ++ [p])) (hne : p.2 ≠ q.2) : Unlike (acc ++ [p] ++ [q]) := by
  induction acc with
  | nil => exact ⟨hne, trivial⟩
  | cons a acc ih =>
    cases acc with
    | nil => exact ⟨h.1, hne, trivial⟩
    | cons b acc => exact ⟨h.1, ih h.2⟩
theorem Unlike.swap {acc : List (Nat × Val)} {p q : Nat × Val} (h : Unlike (acc ++ [p])) (he : p.2 = q.2) : Unlike (acc ++ [q]) := by
  induction acc with
  | nil => trivial
  | cons a acc ih =>
    cases acc with
    | nil => exact ⟨by rw [← he]; exact h.1, trivial⟩
    | cons b acc => exact ⟨h.1, ih h.2⟩
theorem unlike_cut (vs : List Val) : Unlike (cut vs) := by
  induction vs using snoc_ind with
  | h0 => exact trivial
  | h1 vs v ih =>
    rw [cut_snoc]
    rcases List.eq_nil_or_concat (cut vs) with h | ⟨acc', ⟨m, x⟩, h⟩
    · rw [h]; simp [push, lastIs, Unlike]
    · rw [List.concat_eq_append] at h
      rw [h] at ih ⊢
      by_cases hx : x = clean v
      · rw [push_same hx]; exact ih.swap rfl
      · rw [push_other (by rw [lastIs_snoc]; simpa using hx)]; exact ih.snoc hx
theorem Unlike.at_ {acc : List (Nat × Val)} (h : Unlike acc) (i : Nat) (hi : i + 1 < acc.length) : acc[i].2 ≠ acc[i + 1].2 := by
  induction acc generalizing i with
  | nil => simp at hi
  | cons a acc ih =>
    cases acc with
    | nil => simp at hi
    | cons b acc =>
      cases i with
      | zero => exact h.1
      | succ i => exact ih h.2 i (by simpa using hi)

theorem spread_length_take (acc : List (Nat × Val)) (k : Nat) : (spread (acc.take k)).length ≤ (spread acc).length := by
  conv => rhs; rw [← List.take_append_drop k acc]
  unfold spread; rw [List.flatMap_append, List.length_append]; omega

theorem joinK_runs {acc : List (Nat × Val)} (hu : Unlike acc) (hc : ∀ p ∈ acc, clean p.2 = p.2) (h1 : ∀ p ∈ acc, 1 ≤ p.1) (hl : (spread acc).length ≤ 4096) (k : Nat) (hk : k ≤ acc.length) :
    joinK (cmany acc) (cvals acc) k = some (spread (acc.take k)) := by
  induction k with
  | zero => simp [joinK, spread]
  | succ k ih =>
    have hlt : k < acc.length := by omega
    have ihk := ih (by omega)
    have hm : (cmany acc).getD k 0 = (acc[k].1 : Int) := by simp [cmany, List.getD_eq_getElem?_getD, hlt]
    have hv : (cvals acc).getD k nul = acc[k].2 := by simp [cvals, List.getD_eq_getElem?_getD, hlt]
    have htake : acc.take (k + 1) = acc.take k ++ [acc[k]] := by rw [List.take_succ_eq_append_getElem hlt]
    have hsp : spread (acc.take (k + 1)) = spread (acc.take k) ++ List.replicate acc[k].1 acc[k].2 := by rw [htake, spread_append, spread_one]
    have hb : ¬ joinBad (cmany acc) (cvals acc) k (spread (acc.take k)).length := by
      unfold joinBad
      rw [hm, hv]
      have hp := h1 acc[k] (List.getElem_mem hlt)
      have hs := spread_length_take acc (k + 1)
      rw [hsp, List.length_append, List.length_replicate] at hs
      rintro (h | h | ⟨h0, h⟩)
      · omega
      · omega
      · have hv' : (cvals acc).getD (k - 1) nul = acc[k - 1].2 := by simp [cvals, List.getD_eq_getElem?_getD, show k - 1 < acc.length by omega]
        rw [hv', hc _ (List.getElem_mem _), hc _ (List.getElem_mem _)] at h
        have := hu.at_ (k - 1) (by omega)
        rw [h] at this
        exact this (by congr 2; omega)
    rw [joinK_good ihk hb, hsp, hm, hv, hc _ (List.getElem_mem hlt)]
    simp

theorem cut_one (vs : List Val) : ∀ p ∈ cut vs, 1 ≤ p.1 := fun p hp => (cut_counts vs p hp).1

/-- Cut and joined: as it was, each value cleaned. -/
theorem join_cut (vs : List Val) (h : vs.length ≤ 4096) : join (cmany (cut vs)) (cvals (cut vs)) = some (vs.map clean) := by
  have hl : (spread (cut vs)).length ≤ 4096 := by rw [spread_cut]; simpa using h
  unfold join
  rw [if_pos (by simp [cmany, cvals])]
  have := joinK_runs (unlike_cut vs) (cut_clean vs) (cut_one vs) hl (cut vs).length (Nat.le_refl _)
  rw [List.take_length, spread_cut] at this
  rw [show (cvals (cut vs)).length = (cut vs).length by simp [cvals]]
  exact this

theorem joinK_run_bound {acc : List (Nat × Val)} {k : Nat} {out : List Val} (h : joinK (cmany acc) (cvals acc) k = some out) (hk : k ≤ acc.length) : out.length = (spread (acc.take k)).length := by
  induction k generalizing out with
  | zero => simp [joinK] at h; subst h; simp [spread]
  | succ k ih =>
    have hlt : k < acc.length := by omega
    cases hj : joinK (cmany acc) (cvals acc) k with
    | none => simp [joinK, hj] at h
    | some o =>
      by_cases hb : joinBad (cmany acc) (cvals acc) k o.length
      · rw [joinK_bad hj hb] at h; cases h
      · rw [joinK_good hj hb] at h
        injection h with h; subst h
        have hm : (cmany acc).getD k 0 = (acc[k].1 : Int) := by simp [cmany, List.getD_eq_getElem?_getD, hlt]
        have htake : acc.take (k + 1) = acc.take k ++ [acc[k]] := by rw [List.take_succ_eq_append_getElem hlt]
        rw [htake, List.length_append, ih hj (by omega), hm, spread_append, spread_one, List.length_append]
        simp

theorem join_cut_long (vs : List Val) (h : 4096 < vs.length) : join (cmany (cut vs)) (cvals (cut vs)) = none := by
  cases hj : join (cmany (cut vs)) (cvals (cut vs)) with
  | none => rfl
  | some out =>
    unfold join at hj
    rw [if_pos (by simp [cmany, cvals])] at hj
    rw [show (cvals (cut vs)).length = (cut vs).length by simp [cvals]] at hj
    have h1 := joinK_run_bound hj (Nat.le_refl _)
    have h2 := joinK_len hj
    rw [List.take_length, spread_cut] at h1
    simp at h1
    omega

/-- What the counts sum up to. -/
theorem cmany_sum (vs : List Val) : (cmany (cut vs)).sum = (vs.length : Int) := by
  have h : ∀ acc : List (Nat × Val), (cmany acc).sum = ((spread acc).length : Int) := by
    intro acc
    induction acc with
    | nil => rfl
    | cons p acc ih =>
      simp only [cmany, List.map_cons, List.sum_cons, spread, List.flatMap_cons, List.length_append, List.length_replicate] at ih ⊢
      rw [ih]; omega
  rw [h, spread_cut]; simp
theorem cut_mem (vs : List Val) : ∀ p ∈ cut vs, ∃ u ∈ vs, clean u = p.2 := by
  induction vs using snoc_ind with
  | h0 => simp [cut]
  | h1 vs v ih =>
    rw [cut_snoc]
    intro p hp
    unfold push at hp
    split at hp
    · rw [List.mem_append] at hp
      rcases hp with hp | hp
      · obtain ⟨u, hu, e⟩ := ih p (List.dropLast_subset _ hp); exact ⟨u, by simp [hu], e⟩
      · simp at hp; subst hp; exact ⟨v, by simp, rfl⟩
    · rw [List.mem_append] at hp
      rcases hp with hp | hp
      · obtain ⟨u, hu, e⟩ := ih p hp; exact ⟨u, by simp [hu], e⟩
      · simp at hp; subst hp; exact ⟨v, by simp, rfl⟩
theorem clean_size (v : Val) : (clean v).s.size ≤ v.s.size := by
  unfold clean
  split
  · exact Nat.zero_le _
  · split
    · exact Nat.zero_le _
    · split
      · exact Nat.le_refl _
      · exact Nat.zero_le _
end Go.Proofs.Ytmoabfaimcafjaa.ValMath
