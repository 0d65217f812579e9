/-
  PLAIN LAW OF RUNS, chapter 7: cutting values into runs and joining them, over lists. No program in sight.
-/
import Derived.Test.YtmoabfaimcafjaaValMath
namespace Go.Proofs.Ytmoabfaimcafjaa.ValMath

theorem snoc_ind {α : Type} {p : List α → Prop} (h0 : p []) (h1 : ∀ l v, p l → p (l ++ [v])) (l : List α) : p l := by
  have h : ∀ l : List α, p l.reverse := by
    intro l
    induction l with
    | nil => exact h0
    | cons a l ih => rw [List.reverse_cons]; exact h1 _ _ ih
  have := h l.reverse
  rwa [List.reverse_reverse] at this

/-- Is the last run's value this one (already cleaned)? -/
def lastIs (acc : List (Nat × Val)) (v : Val) : Bool := match acc.getLast? with | some p => decide (p.2 = v) | none => false

/-- One value more. -/
def push (acc : List (Nat × Val)) (v : Val) : List (Nat × Val) :=
  if lastIs acc (clean v) then acc.dropLast ++ [((acc.getLast?.map (·.1)).getD 0 + 1, clean v)] else acc ++ [(1, clean v)]

def cut (vs : List Val) : List (Nat × Val) := vs.foldl push []

theorem cut_nil : cut [] = [] := rfl
theorem cut_snoc (vs : List Val) (v : Val) : cut (vs ++ [v]) = push (cut vs) v := by simp [cut, List.foldl_append]

theorem lastIs_nil (v : Val) : lastIs [] v = false := rfl
theorem lastIs_snoc (acc : List (Nat × Val)) (p : Nat × Val) (v : Val) : lastIs (acc ++ [p]) v = decide (p.2 = v) := by simp [lastIs]

theorem push_same {acc : List (Nat × Val)} {n : Nat} {u v : Val} (h : u = clean v) : push (acc ++ [(n, u)]) v = acc ++ [(n + 1, u)] := by
  unfold push
  rw [lastIs_snoc, if_pos (by simpa using h)]
  simp [h]
theorem push_other {acc : List (Nat × Val)} {v : Val} (h : lastIs acc (clean v) = false) : push acc v = acc ++ [(1, clean v)] := by
  unfold push; rw [h]; rfl

theorem push_length (acc : List (Nat × Val)) (v : Val) : (push acc v).length ≤ acc.length + 1 := by
  unfold push
  split
  · simp
  · simp

theorem cut_length (vs : List Val) : (cut vs).length ≤ vs.length := by
  induction vs using snoc_ind with
  | h0 => simp [cut]
  | h1 vs v ih => rw [cut_snoc, List.length_append]; have := push_length (cut vs) v; simp; omega

/-- Each run has at least one value, no more than there are. -/
theorem cut_counts (vs : List Val) : ∀ p ∈ cut vs, 1 ≤ p.1 ∧ p.1 ≤ vs.length := by
  induction vs using snoc_ind with
  | h0 => simp [cut]
  | h1 vs v ih =>
    rw [cut_snoc]
    intro p hp
    unfold push at hp
    split at hp
    · rename_i h
      rw [List.mem_append] at hp
      rcases hp with hp | hp
      · have := ih p (List.dropLast_subset _ hp)
        rw [List.length_append]; omega
      · simp at hp
        subst hp
        have hl : (((cut vs).getLast?.map (·.1)).getD 0) ≤ vs.length := by
          cases hq : (cut vs).getLast? with
          | none => simp
          | some q => have := ih q (List.mem_of_getLast? hq); simp; omega
        simp; omega
    · rw [List.mem_append] at hp
      rcases hp with hp | hp
      · have := ih p hp; rw [List.length_append]; omega
      · simp at hp; subst hp; simp

end Go.Proofs.Ytmoabfaimcafjaa.ValMath
