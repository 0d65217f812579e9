/-
  PLAIN LAW OF VALUES, CHAPTERS 7 TO 10: clean values, their order, runs, words, statistics, over lists. No program in sight.
-/
import GoSem.Op.String
namespace Go.Proofs.Ytmoabfaimcafjaa.ValMath

/-- A value: its kind, its number, its truth, its text. -/
structure Val where
  k : Int
  i : Int
  b : Bool
  s : ByteArray

theorem Val.ext_ {x y : Val} (h1 : x.k = y.k) (h2 : x.i = y.i) (h3 : x.b = y.b) (h4 : x.s = y.s) : x = y := by
  cases x; cases y; simp_all

instance : DecidableEq Val := fun x y =>
  if h : x.k = y.k ∧ x.i = y.i ∧ x.b = y.b ∧ x.s = y.s then .isTrue (Val.ext_ h.1 h.2.1 h.2.2.1 h.2.2.2)
  else .isFalse fun e => h (by subst e; exact ⟨rfl, rfl, rfl, rfl⟩)

def nul : Val := ⟨0, 0, false, ByteArray.empty⟩

/-- A value whose other fields are nought; of a kind that is none: null. -/
def clean (v : Val) : Val :=
  if v.k = 1 then ⟨1, v.i, false, ByteArray.empty⟩
  else if v.k = 2 then ⟨2, 0, v.b, ByteArray.empty⟩
  else if v.k = 3 then ⟨3, 0, false, v.s⟩
  else nul

theorem clean_kind (v : Val) : (clean v).k = if v.k = 1 ∨ v.k = 2 ∨ v.k = 3 then v.k else 0 := by
  unfold clean nul
  by_cases h1 : v.k = 1
  · simp [h1]
  by_cases h2 : v.k = 2
  · simp [h2]
  by_cases h3 : v.k = 3
  · simp [h3]
  simp [h1, h2, h3]

theorem clean_clean (v : Val) : clean (clean v) = clean v := by
  by_cases h1 : v.k = 1
  · simp [clean, h1]
  by_cases h2 : v.k = 2
  · simp [clean, h2]
  by_cases h3 : v.k = 3
  · simp [clean, h3]
  simp [clean, h1, h2, h3, nul]

theorem clean_nul : clean nul = nul := by simp [clean, nul]

/-! ### The order of texts -/

theorem less_irrefl (l : List UInt8) : Op.bytesLess l l = false := by
  induction l with
  | nil => rfl
  | cons a l ih => simp [Op.bytesLess, ih]

theorem less_trans {l m n : List UInt8} (h1 : Op.bytesLess l m = true) (h2 : Op.bytesLess m n = true) : Op.bytesLess l n = true := by
  induction l generalizing m n with
  | nil =>
    cases m with
    | nil => simp [Op.bytesLess] at h1
    | cons b m =>
      cases n with
      | nil => simp [Op.bytesLess] at h2
      | cons c n => rfl
  | cons a l ih =>
    cases m with
    | nil => simp [Op.bytesLess] at h1
    | cons b m =>
      cases n with
      | nil => simp [Op.bytesLess] at h2
      | cons c n =>
        simp only [Op.bytesLess, Bool.or_eq_true, decide_eq_true_eq, Bool.and_eq_true, beq_iff_eq] at h1 h2 ⊢
        rcases h1 with h1 | ⟨rfl, h1⟩ <;> rcases h2 with h2 | ⟨rfl, h2⟩
        · exact .inl (UInt8.lt_trans h1 h2)
        · exact .inl h1
        · exact .inl h2
        · exact .inr ⟨rfl, ih h1 h2⟩

theorem less_total {l m : List UInt8} (h1 : Op.bytesLess l m = false) (h2 : Op.bytesLess m l = false) : l = m := by
  induction l generalizing m with
  | nil =>
    cases m with
    | nil => rfl
    | cons b m => simp [Op.bytesLess] at h1
  | cons a l ih =>
    cases m with
    | nil => simp [Op.bytesLess] at h2
    | cons b m =>
      simp only [Op.bytesLess, Bool.or_eq_false_iff, decide_eq_false_iff_not, Bool.and_eq_false_iff, beq_eq_false_iff_ne] at h1 h2
      have e : a = b := UInt8.le_antisymm (UInt8.not_lt.1 h2.1) (UInt8.not_lt.1 h1.1)
      subst e
      simp at h1 h2
      rw [ih h1 h2]

theorem toList_inj {x y : ByteArray} (h : x.data.toList = y.data.toList) : x = y := by
  cases x; cases y; simp at h; subst h; rfl

/-! ### The order of values -/

/-- Does a value stand ahead of another? Both are cleaned first. -/
def less (x y : Val) : Bool :=
  if (clean x).k ≠ (clean y).k then decide ((clean x).k < (clean y).k)
  else if (clean x).k = 1 then decide ((clean x).i < (clean y).i)
  else if (clean x).k = 2 then (!(clean x).b && (clean y).b)
  else Op.bytesLess (clean x).s.data.toList (clean y).s.data.toList

theorem less_clean (x y : Val) : less (clean x) (clean y) = less x y := by unfold less; rw [clean_clean, clean_clean]
theorem less_clean_left (x y : Val) : less (clean x) y = less x y := by unfold less; rw [clean_clean]
theorem less_clean_right (x y : Val) : less x (clean y) = less x y := by unfold less; rw [clean_clean]

theorem less_self (x : Val) : less x x = false := by
  unfold less
  rw [if_neg (by simp)]
  split
  · simp
  · split
    · cases (clean x).b <;> rfl
    · exact less_irrefl _

theorem less_both {x y : Val} (h1 : less x y = true) (h2 : less y x = true) : False := by
  unfold less at h1 h2
  by_cases hk : (clean x).k = (clean y).k
  · rw [if_neg (by simp [hk])] at h1
    rw [if_neg (by simp [hk])] at h2
    rw [hk] at h1
    by_cases c1 : (clean y).k = 1
    · simp [c1] at h1 h2; omega
    · by_cases c2 : (clean y).k = 2
      · simp [c2] at h1 h2; rw [h1.1] at h2; simp at h2
      · simp only [c1, c2, if_false] at h1 h2
        have := less_trans h1 h2
        rw [less_irrefl] at this; cases this
  · rw [if_pos (by simp [hk])] at h1
    rw [if_pos (by simp; omega)] at h2
    simp at h1 h2; omega

theorem less_over {x y z : Val} (h1 : less x y = true) (h2 : less y z = true) : less x z = true := by
  unfold less at h1 h2 ⊢
  by_cases k1 : (clean x).k = (clean y).k <;> by_cases k2 : (clean y).k = (clean z).k
  · rw [if_neg (by simp [k1])] at h1
    rw [if_neg (by simp [k2])] at h2
    rw [if_neg (by simp [k1, k2])]
    rw [k1, k2] at h1 ⊢
    rw [k2] at h2
    by_cases c1 : (clean z).k = 1
    · simp [c1] at h1 h2 ⊢; omega
    · by_cases c2 : (clean z).k = 2
      · simp [c2] at h1 h2 ⊢; exact ⟨h1.1, h2.2⟩
      · simp only [c1, c2, if_false] at h1 h2 ⊢
        exact less_trans h1 h2
  · rw [if_pos (by simp [k2])] at h2
    rw [if_pos (by simp [k1, k2])]
    rw [k1]; exact h2
  · rw [if_pos (by simp [k1])] at h1
    rw [← k2, if_pos (by simp [k1])]
    exact h1
  · rw [if_pos (by simp [k1])] at h1
    rw [if_pos (by simp [k2])] at h2
    simp at h1 h2
    rw [if_pos (by simp; omega)]
    simp; omega

theorem clean_form (v : Val) : (∃ n, clean v = ⟨1, n, false, ByteArray.empty⟩) ∨ (∃ t, clean v = ⟨2, 0, t, ByteArray.empty⟩) ∨ (∃ t, clean v = ⟨3, 0, false, t⟩) ∨ clean v = nul := by
  unfold clean
  by_cases h1 : v.k = 1
  · exact .inl ⟨_, by rw [if_pos h1]⟩
  by_cases h2 : v.k = 2
  · exact .inr (.inl ⟨_, by rw [if_neg h1, if_pos h2]⟩)
  by_cases h3 : v.k = 3
  · exact .inr (.inr (.inl ⟨_, by rw [if_neg h1, if_neg h2, if_pos h3]⟩))
  · exact .inr (.inr (.inr (by rw [if_neg h1, if_neg h2, if_neg h3])))

theorem less_neither {x y : Val} (h1 : less x y = false) (h2 : less y x = false) : clean x = clean y := by
  unfold less at h1 h2
  by_cases hk : (clean x).k = (clean y).k
  · rw [if_neg (by simp [hk])] at h1 h2
    rcases clean_form x with ⟨n, hx⟩ | ⟨t, hx⟩ | ⟨t, hx⟩ | hx <;> rcases clean_form y with ⟨m, hy⟩ | ⟨u, hy⟩ | ⟨u, hy⟩ | hy <;> rw [hx, hy] at hk h1 h2 ⊢ <;> simp [nul] at hk h1 h2 ⊢
    · omega
    · cases t <;> cases u <;> simp_all
    · exact toList_inj (less_total h1 h2)
  · rw [if_pos (by simp [hk])] at h1
    rw [if_pos (by simp; omega)] at h2
    simp at h1 h2; omega

theorem same_iff (x y : Val) : clean x = clean y ↔ less x y = false ∧ less y x = false := by
  constructor
  · intro h
    constructor
    · rw [← less_clean, h]; exact less_self _
    · rw [← less_clean, h]; exact less_self _
  · exact fun h => less_neither h.1 h.2

/-- -1, 0, 1. -/
def cmp (x y : Val) : Int := if less x y then -1 else if less y x then 1 else 0

theorem cmp_zero (x y : Val) : cmp x y = 0 ↔ clean x = clean y := by
  rw [same_iff]; unfold cmp
  by_cases h1 : less x y = true
  · simp [h1]
  · by_cases h2 : less y x = true
    · simp [h1, h2]
    · simp [h1, h2]

theorem cmp_neg (x y : Val) : cmp x y < 0 ↔ less x y = true := by
  unfold cmp
  by_cases h1 : less x y = true
  · simp [h1]
  · simp [h1]; split <;> omega

theorem cmp_pos (x y : Val) : 0 < cmp x y ↔ less y x = true := by
  unfold cmp
  by_cases h1 : less x y = true
  · have : less y x = false := by
      cases h : less y x with
      | false => rfl
      | true => exact (less_both h1 h).elim
    simp [h1, this]
  · simp [h1]; split <;> simp_all

end Go.Proofs.Ytmoabfaimcafjaa.ValMath
