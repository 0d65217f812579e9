/-
  Lemmas of this claim, text behind text: ValMath, RunMath, JoinMath, WordMath, VarMath, BitMath, UtfMath, CrcMath, VecMath, UnvMath, StatMath, FileMath, VarMore. Each states its own conditions.
-/
import GoSem.Op.String

/-
  PLAIN LAW OF VALUES, CHAPTERS 7 TO 10: clean values, their order, runs, words, statistics, over lists. No program in sight.
-/

namespace Go.Proofs.YtgmemdedpklnhaaGreat.ValMath

/-- A value: its kind, its number, its truth, its text. -/
structure Val where
  k : Int
  i : Int
  b : Bool
  s : ByteArray

theorem Val.ext_ {x y : Val} (h1 : x.k = y.k) (h2 : x.i = y.i) (h3 : x.b = y.b) (h4 : x.s = y.s) : x = y := by
  cases x; cases y; simp_all

instance : DecidableEq Val := fun x y =>
  if h : x.k = y.k ∧ x.i = y.i ∧ x.b = y.b ∧ x.s = y.s then .isTrue (Val.ext_ h.1 h.2.1 h.2.2.1 h.2.2.2)
  else .isFalse fun e => h (by subst e; exact ⟨rfl, rfl, rfl, rfl⟩)

def nul : Val := ⟨0, 0, false, ByteArray.empty⟩

/-- A value whose other fields are nought; of a kind that is none: null. -/
def clean (v : Val) : Val :=
  if v.k = 1 then ⟨1, v.i, false, ByteArray.empty⟩
  else if v.k = 2 then ⟨2, 0, v.b, ByteArray.empty⟩
  else if v.k = 3 then ⟨3, 0, false, v.s⟩
  else nul

theorem clean_kind (v : Val) : (clean v).k = if v.k = 1 ∨ v.k = 2 ∨ v.k = 3 then v.k else 0 := by
  unfold clean nul
  by_cases h1 : v.k = 1
  · simp [h1]
  by_cases h2 : v.k = 2
  · simp [h2]
  by_cases h3 : v.k = 3
  · simp [h3]
  simp [h1, h2, h3]

theorem clean_clean (v : Val) : clean (clean v) = clean v := by
  by_cases h1 : v.k = 1
  · simp [clean, h1]
  by_cases h2 : v.k = 2
  · simp [clean, h2]
  by_cases h3 : v.k = 3
  · simp [clean, h3]
  simp [clean, h1, h2, h3, nul]

theorem clean_nul : clean nul = nul := by simp [clean, nul]

/-! ### The order of texts -/

theorem less_irrefl (l : List UInt8) : Op.bytesLess l l = false := by
  induction l with
  | nil => rfl
  | cons a l ih => simp [Op.bytesLess, ih]

theorem less_trans {l m n : List UInt8} (h1 : Op.bytesLess l m = true) (h2 : Op.bytesLess m n = true) : Op.bytesLess l n = true := by
  induction l generalizing m n with
  | nil =>
    cases m with
    | nil => simp [Op.bytesLess] at h1
    | cons b m =>
      cases n with
      | nil => simp [Op.bytesLess] at h2
      | cons c n => rfl
  | cons a l ih =>
    cases m with
    | nil => simp [Op.bytesLess] at h1
    | cons b m =>
      cases n with
      | nil => simp [Op.bytesLess] at h2
      | cons c n =>
        simp only [Op.bytesLess, Bool.or_eq_true, decide_eq_true_eq, Bool.and_eq_true, beq_iff_eq] at h1 h2 ⊢
        rcases h1 with h1 | ⟨rfl, h1⟩ <;> rcases h2 with h2 | ⟨rfl, h2⟩
        · exact .inl (UInt8.lt_trans h1 h2)
        · exact .inl h1
        · exact .inl h2
        · exact .inr ⟨rfl, ih h1 h2⟩

theorem less_total {l m : List UInt8} (h1 : Op.bytesLess l m = false) (h2 : Op.bytesLess m l = false) : l = m := by
  induction l generalizing m with
  | nil =>
    cases m with
    | nil => rfl
    | cons b m => simp [Op.bytesLess] at h1
  | cons a l ih =>
    cases m with
    | nil => simp [Op.bytesLess] at h2
    | cons b m =>
      simp only [Op.bytesLess, Bool.or_eq_false_iff, decide_eq_false_iff_not, Bool.and_eq_false_iff, beq_eq_false_iff_ne] at h1 h2
      have e : a = b := UInt8.le_antisymm (UInt8.not_lt.1 h2.1) (UInt8.not_lt.1 h1.1)
      subst e
      simp at h1 h2
      rw [ih h1 h2]

theorem toList_inj {x y : ByteArray} (h : x.data.toList = y.data.toList) : x = y := by
  cases x; cases y; simp at h; subst h; rfl

/-! ### The order of values -/

/-- Does a value stand ahead of another? Both are cleaned first. -/
def less (x y : Val) : Bool :=
  if (clean x).k ≠ (clean y).k then decide ((clean x).k < (clean y).k)
  else if (clean x).k = 1 then decide ((clean x).i < (clean y).i)
  else if (clean x).k = 2 then (!(clean x).b && (clean y).b)
  else Op.bytesLess (clean x).s.data.toList (clean y).s.data.toList

theorem less_clean (x y : Val) : less (clean x) (clean y) = less x y := by unfold less; rw [clean_clean, clean_clean]
theorem less_clean_left (x y : Val) : less (clean x) y = less x y := by unfold less; rw [clean_clean]
theorem less_clean_right (x y : Val) : less x (clean y) = less x y := by unfold less; rw [clean_clean]

theorem less_self (x : Val) : less x x = false := by
  unfold less
  rw [if_neg (by simp)]
  split
  · simp
  · split
    · cases (clean x).b <;> rfl
    · exact less_irrefl _

theorem less_both {x y : Val} (h1 : less x y = true) (h2 : less y x = true) : False := by
  unfold less at h1 h2
  by_cases hk : (clean x).k = (clean y).k
  · rw [if_neg (by simp [hk])] at h1
    rw [if_neg (by simp [hk])] at h2
    rw [hk] at h1
    by_cases c1 : (clean y).k = 1
    · simp [c1] at h1 h2; omega
    · by_cases c2 : (clean y).k = 2
      · simp [c2] at h1 h2; rw [h1.1] at h2; simp at h2
      · simp only [c1, c2, if_false] at h1 h2
        have := less_trans h1 h2
        rw [less_irrefl] at this; cases this
  · rw [if_pos (by simp [hk])] at h1
    rw [if_pos (by simp; omega)] at h2
    simp at h1 h2; omega

theorem less_over {x y z : Val} (h1 : less x y = true) (h2 : less y z = true) : less x z = true := by
  unfold less at h1 h2 ⊢
  by_cases k1 : (clean x).k = (clean y).k <;> by_cases k2 : (clean y).k = (clean z).k
  · rw [if_neg (by simp [k1])] at h1
    rw [if_neg (by simp [k2])] at h2
    rw [if_neg (by simp [k1, k2])]
    rw [k1, k2] at h1 ⊢
    rw [k2] at h2
    by_cases c1 : (clean z).k = 1
    · simp [c1] at h1 h2 ⊢; omega
    · by_cases c2 : (clean z).k = 2
      · simp [c2] at h1 h2 ⊢; exact ⟨h1.1, h2.2⟩
      · simp only [c1, c2, if_false] at h1 h2 ⊢
        exact less_trans h1 h2
  · rw [if_pos (by simp [k2])] at h2
    rw [if_pos (by simp [k1, k2])]
    rw [k1]; exact h2
  · rw [if_pos (by simp [k1])] at h1
    rw [← k2, if_pos (by simp [k1])]
    exact h1
  · rw [if_pos (by simp [k1])] at h1
    rw [if_pos (by simp [k2])] at h2
    simp at h1 h2
    rw [if_pos (by simp; omega)]
    simp; omega

theorem clean_form (v : Val) : (∃ n, clean v = ⟨1, n, false, ByteArray.empty⟩) ∨ (∃ t, clean v = ⟨2, 0, t, ByteArray.empty⟩) ∨ (∃ t, clean v = ⟨3, 0, false, t⟩) ∨ clean v = nul := by
  unfold clean
  by_cases h1 : v.k = 1
  · exact .inl ⟨_, by rw [if_pos h1]⟩
  by_cases h2 : v.k = 2
  · exact .inr (.inl ⟨_, by rw [if_neg h1, if_pos h2]⟩)
  by_cases h3 : v.k = 3
  · exact .inr (.inr (.inl ⟨_, by rw [if_neg h1, if_neg h2, if_pos h3]⟩))
  · exact .inr (.inr (.inr (by rw [if_neg h1, if_neg h2, if_neg h3])))

theorem less_neither {x y : Val} (h1 : less x y = false) (h2 : less y x = false) : clean x = clean y := by
  unfold less at h1 h2
  by_cases hk : (clean x).k = (clean y).k
  · rw [if_neg (by simp [hk])] at h1 h2
    rcases clean_form x with ⟨n, hx⟩ | ⟨t, hx⟩ | ⟨t, hx⟩ | hx <;> rcases clean_form y with ⟨m, hy⟩ | ⟨u, hy⟩ | ⟨u, hy⟩ | hy <;> rw [hx, hy] at hk h1 h2 ⊢ <;> simp [nul] at hk h1 h2 ⊢
    · omega
    · cases t <;> cases u <;> simp_all
    · exact toList_inj (less_total h1 h2)
  · rw [if_pos (by simp [hk])] at h1
    rw [if_pos (by simp; omega)] at h2
    simp at h1 h2; omega

theorem same_iff (x y : Val) : clean x = clean y ↔ less x y = false ∧ less y x = false := by
  constructor
  · intro h
    constructor
    · rw [← less_clean, h]; exact less_self _
    · rw [← less_clean, h]; exact less_self _
  · exact fun h => less_neither h.1 h.2

/-- -1, 0, 1. -/
def cmp (x y : Val) : Int := if less x y then -1 else if less y x then 1 else 0

theorem cmp_zero (x y : Val) : cmp x y = 0 ↔ clean x = clean y := by
  rw [same_iff]; unfold cmp
  by_cases h1 : less x y = true
  · simp [h1]
  · by_cases h2 : less y x = true
    · simp [h1, h2]
    · simp [h1, h2]

theorem cmp_neg (x y : Val) : cmp x y < 0 ↔ less x y = true := by
  unfold cmp
  by_cases h1 : less x y = true
  · simp [h1]
  · simp [h1]; split <;> omega

theorem cmp_pos (x y : Val) : 0 < cmp x y ↔ less y x = true := by
  unfold cmp
  by_cases h1 : less x y = true
  · have : less y x = false := by
      cases h : less y x with
      | false => rfl
      | true => exact (less_both h1 h).elim
    simp [h1, this]
  · simp [h1]; split <;> simp_all

end Go.Proofs.YtgmemdedpklnhaaGreat.ValMath

/-
  PLAIN LAW OF RUNS, chapter 7: cutting values into runs and joining them, over lists. No program in sight.
-/

namespace Go.Proofs.YtgmemdedpklnhaaGreat.ValMath

theorem snoc_ind {α : Type} {p : List α → Prop} (h0 : p []) (h1 : ∀ l v, p l → p (l ++ [v])) (l : List α) : p l := by
  have h : ∀ l : List α, p l.reverse := by
    intro l
    induction l with
    | nil => exact h0
    | cons a l ih => rw [List.reverse_cons]; exact h1 _ _ ih
  have := h l.reverse
  rwa [List.reverse_reverse] at this

/-- Is the last run's value this one (already cleaned)? -/
def lastIs (acc : List (Nat × Val)) (v : Val) : Bool := match acc.getLast? with | some p => decide (p.2 = v) | none => false

/-- One value more. -/
def push (acc : List (Nat × Val)) (v : Val) : List (Nat × Val) :=
  if lastIs acc (clean v) then acc.dropLast ++ [((acc.getLast?.map (·.1)).getD 0 + 1, clean v)] else acc ++ [(1, clean v)]

def cut (vs : List Val) : List (Nat × Val) := vs.foldl push []

theorem cut_nil : cut [] = [] := rfl
theorem cut_snoc (vs : List Val) (v : Val) : cut (vs ++ [v]) = push (cut vs) v := by simp [cut, List.foldl_append]

theorem lastIs_nil (v : Val) : lastIs [] v = false := rfl
theorem lastIs_snoc (acc : List (Nat × Val)) (p : Nat × Val) (v : Val) : lastIs (acc ++ [p]) v = decide (p.2 = v) := by simp [lastIs]

theorem push_same {acc : List (Nat × Val)} {n : Nat} {u v : Val} (h : u = clean v) : push (acc ++ [(n, u)]) v = acc ++ [(n + 1, u)] := by
  unfold push
  rw [lastIs_snoc, if_pos (by simpa using h)]
  simp [h]
theorem push_other {acc : List (Nat × Val)} {v : Val} (h : lastIs acc (clean v) = false) : push acc v = acc ++ [(1, clean v)] := by
  unfold push; rw [h]; rfl

theorem push_length (acc : List (Nat × Val)) (v : Val) : (push acc v).length ≤ acc.length + 1 := by
  unfold push
  split
  · simp
  · simp

theorem cut_length (vs : List Val) : (cut vs).length ≤ vs.length := by
  induction vs using snoc_ind with
  | h0 => simp [cut]
  | h1 vs v ih => rw [cut_snoc, List.length_append]; have := push_length (cut vs) v; simp; omega

/-- Each run has at least one value, no more than there are. -/
theorem cut_counts (vs : List Val) : ∀ p ∈ cut vs, 1 ≤ p.1 ∧ p.1 ≤ vs.length := by
  induction vs using snoc_ind with
  | h0 => simp [cut]
  | h1 vs v ih =>
    rw [cut_snoc]
    intro p hp
    unfold push at hp
    split at hp
    · rename_i h
      rw [List.mem_append] at hp
      rcases hp with hp | hp
      · have := ih p (List.dropLast_subset _ hp)
        rw [List.length_append]; omega
      · simp at hp
        subst hp
        have hl : (((cut vs).getLast?.map (·.1)).getD 0) ≤ vs.length := by
          cases hq : (cut vs).getLast? with
          | none => simp
          | some q => have := ih q (List.mem_of_getLast? hq); simp; omega
        simp; omega
    · rw [List.mem_append] at hp
      rcases hp with hp | hp
      · have := ih p hp; rw [List.length_append]; omega
      · simp at hp; subst hp; simp

end Go.Proofs.YtgmemdedpklnhaaGreat.ValMath

/-
  PLAIN LAW OF RUNS, the way back: runs joined, over lists; runs that were cut join to what it was. No program in sight.
-/

namespace Go.Proofs.YtgmemdedpklnhaaGreat.ValMath

/-- May run number k not stand, so many values being there? -/
def joinBad (many : List Int) (vs : List Val) (k have_ : Nat) : Prop :=
  many.getD k 0 < 1 ∨ 4096 - (have_ : Int) < many.getD k 0 ∨ (0 < k ∧ clean (vs.getD (k - 1) nul) = clean (vs.getD k nul))
instance (many : List Int) (vs : List Val) (k h : Nat) : Decidable (joinBad many vs k h) := by unfold joinBad; infer_instance

/-- The first k runs joined. -/
def joinK (many : List Int) (vs : List Val) : Nat → Option (List Val)
  | 0 => some []
  | k + 1 => match joinK many vs k with
    | none => none
    | some out => if joinBad many vs k out.length then none else some (out ++ List.replicate (many.getD k 0).toNat (clean (vs.getD k nul)))

def join (many : List Int) (vs : List Val) : Option (List Val) := if many.length = vs.length then joinK many vs vs.length else none

theorem joinK_bad {many : List Int} {vs : List Val} {k : Nat} {out : List Val} (h : joinK many vs k = some out) (hb : joinBad many vs k out.length) : joinK many vs (k + 1) = none := by
  simp only [joinK, h, if_pos hb]
theorem joinK_good {many : List Int} {vs : List Val} {k : Nat} {out : List Val} (h : joinK many vs k = some out) (hb : ¬ joinBad many vs k out.length) :
    joinK many vs (k + 1) = some (out ++ List.replicate (many.getD k 0).toNat (clean (vs.getD k nul))) := by
  simp only [joinK, h, if_neg hb]
theorem joinK_none {many : List Int} {vs : List Val} {k n : Nat} (h : joinK many vs k = none) (hn : k ≤ n) : joinK many vs n = none := by
  induction n with
  | zero => obtain rfl : k = 0 := by omega
            exact h
  | succ n ih =>
    by_cases hk : k = n + 1
    · subst hk; exact h
    · simp only [joinK, ih (by omega)]
theorem join_stop {many : List Int} {vs : List Val} {k : Nat} {out : List Val} (hl : many.length = vs.length) (h : joinK many vs k = some out) (hb : joinBad many vs k out.length) (hk : k < vs.length) : join many vs = none := by
  unfold join; rw [if_pos hl]; exact joinK_none (joinK_bad h hb) hk
theorem join_end {many : List Int} {vs : List Val} {out : List Val} (hl : many.length = vs.length) (h : joinK many vs vs.length = some out) : join many vs = some out := by
  unfold join; rw [if_pos hl]; exact h
theorem join_unlike {many : List Int} {vs : List Val} (hl : ¬ many.length = vs.length) : join many vs = none := by unfold join; rw [if_neg hl]

theorem joinK_len {many : List Int} {vs : List Val} {k : Nat} {out : List Val} (h : joinK many vs k = some out) : out.length ≤ 4096 := by
  induction k generalizing out with
  | zero => simp [joinK] at h; subst h; simp
  | succ k ih =>
    cases hk : joinK many vs k with
    | none => simp [joinK, hk] at h
    | some o =>
      by_cases hb : joinBad many vs k o.length
      · rw [joinK_bad hk hb] at h; cases h
      · rw [joinK_good hk hb] at h
        injection h with h; subst h
        have := ih hk
        unfold joinBad at hb
        rw [List.length_append, List.length_replicate]; omega

/-! ### There and back -/
theorem joinK_take {many many' : List Int} {vs vs' : List Val} {k : Nat} (h1 : ∀ i, i < k → many.getD i 0 = many'.getD i 0) (h2 : ∀ i, i < k → vs.getD i nul = vs'.getD i nul) : joinK many vs k = joinK many' vs' k := by
  induction k with
  | zero => rfl
  | succ k ih =>
    simp only [joinK]
    rw [ih (fun i hi => h1 i (by omega)) (fun i hi => h2 i (by omega))]
    cases joinK many' vs' k with
    | none => rfl
    | some out =>
      simp only []
      rw [h1 k (by omega), h2 k (by omega)]
      have hb : joinBad many vs k out.length ↔ joinBad many' vs' k out.length := by
        unfold joinBad
        rw [h1 k (by omega), h2 k (by omega)]
        by_cases h0 : 0 < k
        · rw [h2 (k - 1) (by omega)]
        · simp [h0]
      by_cases h : joinBad many' vs' k out.length
      · rw [if_pos h, if_pos (hb.2 h)]
      · rw [if_neg h, if_neg (fun e => h (hb.1 e))]

theorem cut_clean (vs : List Val) : ∀ p ∈ cut vs, clean p.2 = p.2 := by
  induction vs using snoc_ind with
  | h0 => simp [cut]
  | h1 vs v ih =>
    rw [cut_snoc]
    intro p hp
    unfold push at hp
    split at hp
    · rw [List.mem_append] at hp
      rcases hp with hp | hp
      · exact ih p (List.dropLast_subset _ hp)
      · simp at hp; subst hp; exact clean_clean v
    · rw [List.mem_append] at hp
      rcases hp with hp | hp
      · exact ih p hp
      · simp at hp; subst hp; exact clean_clean v

def cmany (acc : List (Nat × Val)) : List Int := acc.map fun p => (p.1 : Int)
def cvals (acc : List (Nat × Val)) : List Val := acc.map (·.2)

/-- The values that runs stand for. -/
def spread (acc : List (Nat × Val)) : List Val := acc.flatMap fun p => List.replicate p.1 p.2

theorem spread_append (a b : List (Nat × Val)) : spread (a ++ b) = spread a ++ spread b := by simp [spread]
theorem spread_one (p : Nat × Val) : spread [p] = List.replicate p.1 p.2 := by simp [spread]
theorem spread_push (acc : List (Nat × Val)) (v : Val) : spread (push acc v) = spread acc ++ [clean v] := by
  rcases List.eq_nil_or_concat acc with rfl | ⟨acc', ⟨m, x⟩, rfl⟩
  · simp [push, lastIs, spread]
  · rw [List.concat_eq_append]
    by_cases h : x = clean v
    · rw [push_same h]
      unfold spread
      rw [List.flatMap_append, List.flatMap_append]
      simp [List.replicate_succ', h]
    · rw [push_other (by rw [lastIs_snoc]; simpa using h)]
      unfold spread
      rw [List.flatMap_append (xs := acc' ++ [(m, x)])]
      simp
theorem spread_cut (vs : List Val) : spread (cut vs) = vs.map clean := by
  induction vs using snoc_ind with
  | h0 => rfl
  | h1 vs v ih => rw [cut_snoc, spread_push, ih, List.map_append]; rfl

/-- Neighbours are unlike. -/
def Unlike : List (Nat × Val) → Prop
  | [] => True
  | [_] => True
  | p :: q :: l => p.2 ≠ q.2 ∧ Unlike (q :: l)
theorem Unlike.snoc {acc : List (Nat × Val)} {p q : Nat × Val} (h : Unlike (acc ++ [p])) (hne : p.2 ≠ q.2) : Unlike (acc ++ [p] ++ [q]) := by
  induction acc with
  | nil => exact ⟨hne, trivial⟩
  | cons a acc ih =>
    cases acc with
    | nil => exact ⟨h.1, hne, trivial⟩
    | cons b acc => exact ⟨h.1, ih h.2⟩
theorem Unlike.swap {acc : List (Nat × Val)} {p q : Nat × Val} (h : Unlike (acc ++ [p])) (he : p.2 = q.2) : Unlike (acc ++ [q]) := by
  induction acc with
  | nil => trivial
  | cons a acc ih =>
    cases acc with
    | nil => exact ⟨by rw [← he]; exact h.1, trivial⟩
    | cons b acc => exact ⟨h.1, ih h.2⟩
theorem unlike_cut (vs : List Val) : Unlike (cut vs) := by
  induction vs using snoc_ind with
  | h0 => exact trivial
  | h1 vs v ih =>
    rw [cut_snoc]
    rcases List.eq_nil_or_concat (cut vs) with h | ⟨acc', ⟨m, x⟩, h⟩
    · rw [h]; simp [push, lastIs, Unlike]
    · rw [List.concat_eq_append] at h
      rw [h] at ih ⊢
      by_cases hx : x = clean v
      · rw [push_same hx]; exact ih.swap rfl
      · rw [push_other (by rw [lastIs_snoc]; simpa using hx)]; exact ih.snoc hx
theorem Unlike.at_ {acc : List (Nat × Val)} (h : Unlike acc) (i : Nat) (hi : i + 1 < acc.length) : acc[i].2 ≠ acc[i + 1].2 := by
  induction acc generalizing i with
  | nil => simp at hi
  | cons a acc ih =>
    cases acc with
    | nil => simp at hi
    | cons b acc =>
      cases i with
      | zero => exact h.1
      | succ i => exact ih h.2 i (by simpa using hi)

theorem spread_length_take (acc : List (Nat × Val)) (k : Nat) : (spread (acc.take k)).length ≤ (spread acc).length := by
  conv => rhs; rw [← List.take_append_drop k acc]
  unfold spread; rw [List.flatMap_append, List.length_append]; omega

theorem joinK_runs {acc : List (Nat × Val)} (hu : Unlike acc) (hc : ∀ p ∈ acc, clean p.2 = p.2) (h1 : ∀ p ∈ acc, 1 ≤ p.1) (hl : (spread acc).length ≤ 4096) (k : Nat) (hk : k ≤ acc.length) :
    joinK (cmany acc) (cvals acc) k = some (spread (acc.take k)) := by
  induction k with
  | zero => simp [joinK, spread]
  | succ k ih =>
    have hlt : k < acc.length := by omega
    have ihk := ih (by omega)
    have hm : (cmany acc).getD k 0 = (acc[k].1 : Int) := by simp [cmany, List.getD_eq_getElem?_getD, hlt]
    have hv : (cvals acc).getD k nul = acc[k].2 := by simp [cvals, List.getD_eq_getElem?_getD, hlt]
    have htake : acc.take (k + 1) = acc.take k ++ [acc[k]] := by rw [List.take_succ_eq_append_getElem hlt]
    have hsp : spread (acc.take (k + 1)) = spread (acc.take k) ++ List.replicate acc[k].1 acc[k].2 := by rw [htake, spread_append, spread_one]
    have hb : ¬ joinBad (cmany acc) (cvals acc) k (spread (acc.take k)).length := by
      unfold joinBad
      rw [hm, hv]
      have hp := h1 acc[k] (List.getElem_mem hlt)
      have hs := spread_length_take acc (k + 1)
      rw [hsp, List.length_append, List.length_replicate] at hs
      rintro (h | h | ⟨h0, h⟩)
      · omega
      · omega
      · have hv' : (cvals acc).getD (k - 1) nul = acc[k - 1].2 := by simp [cvals, List.getD_eq_getElem?_getD, show k - 1 < acc.length by omega]
        rw [hv', hc _ (List.getElem_mem _), hc _ (List.getElem_mem _)] at h
        have := hu.at_ (k - 1) (by omega)
        rw [h] at this
        exact this (by congr 2; omega)
    rw [joinK_good ihk hb, hsp, hm, hv, hc _ (List.getElem_mem hlt)]
    simp

theorem cut_one (vs : List Val) : ∀ p ∈ cut vs, 1 ≤ p.1 := fun p hp => (cut_counts vs p hp).1

/-- Cut and joined: as it was, each value cleaned. -/
theorem join_cut (vs : List Val) (h : vs.length ≤ 4096) : join (cmany (cut vs)) (cvals (cut vs)) = some (vs.map clean) := by
  have hl : (spread (cut vs)).length ≤ 4096 := by rw [spread_cut]; simpa using h
  unfold join
  rw [if_pos (by simp [cmany, cvals])]
  have := joinK_runs (unlike_cut vs) (cut_clean vs) (cut_one vs) hl (cut vs).length (Nat.le_refl _)
  rw [List.take_length, spread_cut] at this
  rw [show (cvals (cut vs)).length = (cut vs).length by simp [cvals]]
  exact this

theorem joinK_run_bound {acc : List (Nat × Val)} {k : Nat} {out : List Val} (h : joinK (cmany acc) (cvals acc) k = some out) (hk : k ≤ acc.length) : out.length = (spread (acc.take k)).length := by
  induction k generalizing out with
  | zero => simp [joinK] at h; subst h; simp [spread]
  | succ k ih =>
    have hlt : k < acc.length := by omega
    cases hj : joinK (cmany acc) (cvals acc) k with
    | none => simp [joinK, hj] at h
    | some o =>
      by_cases hb : joinBad (cmany acc) (cvals acc) k o.length
      · rw [joinK_bad hj hb] at h; cases h
      · rw [joinK_good hj hb] at h
        injection h with h; subst h
        have hm : (cmany acc).getD k 0 = (acc[k].1 : Int) := by simp [cmany, List.getD_eq_getElem?_getD, hlt]
        have htake : acc.take (k + 1) = acc.take k ++ [acc[k]] := by rw [List.take_succ_eq_append_getElem hlt]
        rw [htake, List.length_append, ih hj (by omega), hm, spread_append, spread_one, List.length_append]
        simp

theorem join_cut_long (vs : List Val) (h : 4096 < vs.length) : join (cmany (cut vs)) (cvals (cut vs)) = none := by
  cases hj : join (cmany (cut vs)) (cvals (cut vs)) with
  | none => rfl
  | some out =>
    unfold join at hj
    rw [if_pos (by simp [cmany, cvals])] at hj
    rw [show (cvals (cut vs)).length = (cut vs).length by simp [cvals]] at hj
    have h1 := joinK_run_bound hj (Nat.le_refl _)
    have h2 := joinK_len hj
    rw [List.take_length, spread_cut] at h1
    simp at h1
    omega

/-- What the counts sum up to. -/
theorem cmany_sum (vs : List Val) : (cmany (cut vs)).sum = (vs.length : Int) := by
  have h : ∀ acc : List (Nat × Val), (cmany acc).sum = ((spread acc).length : Int) := by
    intro acc
    induction acc with
    | nil => rfl
    | cons p acc ih =>
      simp only [cmany, List.map_cons, List.sum_cons, spread, List.flatMap_cons, List.length_append, List.length_replicate] at ih ⊢
      rw [ih]; omega
  rw [h, spread_cut]; simp
theorem cut_mem (vs : List Val) : ∀ p ∈ cut vs, ∃ u ∈ vs, clean u = p.2 := by
  induction vs using snoc_ind with
  | h0 => simp [cut]
  | h1 vs v ih =>
    rw [cut_snoc]
    intro p hp
    unfold push at hp
    split at hp
    · rw [List.mem_append] at hp
      rcases hp with hp | hp
      · obtain ⟨u, hu, e⟩ := ih p (List.dropLast_subset _ hp); exact ⟨u, by simp [hu], e⟩
      · simp at hp; subst hp; exact ⟨v, by simp, rfl⟩
    · rw [List.mem_append] at hp
      rcases hp with hp | hp
      · obtain ⟨u, hu, e⟩ := ih p hp; exact ⟨u, by simp [hu], e⟩
      · simp at hp; subst hp; exact ⟨v, by simp, rfl⟩
theorem clean_size (v : Val) : (clean v).s.size ≤ v.s.size := by
  unfold clean
  split
  · exact Nat.zero_le _
  · split
    · exact Nat.zero_le _
    · split
      · exact Nat.le_refl _
      · exact Nat.zero_le _
end Go.Proofs.YtgmemdedpklnhaaGreat.ValMath

/-
  PLAIN LAW OF WORDS, chapter 8: values by their place, over lists. No program in sight.
-/

namespace Go.Proofs.YtgmemdedpklnhaaGreat.ValMath

/-- The first place of a value; the length where it is none. -/
def place (ws : List Val) (v : Val) : Nat := ws.findIdx (fun u => decide (u = v))
theorem place_le (ws : List Val) (v : Val) : place ws v ≤ ws.length := List.findIdx_le_length
theorem place_lt {ws : List Val} {v : Val} : place ws v < ws.length ↔ v ∈ ws := by
  unfold place
  rw [List.findIdx_lt_length]
  constructor
  · rintro ⟨x, hx, h⟩; have := of_decide_eq_true h; subst this; exact hx
  · intro h; exact ⟨v, h, by simp⟩
theorem place_at {ws : List Val} {v : Val} (h : place ws v < ws.length) : ws[place ws v] = v := by
  have := List.findIdx_getElem (p := fun u => decide (u = v)) (xs := ws) (w := h)
  exact of_decide_eq_true this
theorem place_first {ws : List Val} {v : Val} {i : Nat} (h : i < place ws v) : ∃ u, ws[i]? = some u ∧ u ≠ v := by
  have hl : i < ws.length := Nat.lt_of_lt_of_le h (place_le ws v)
  have := List.not_of_lt_findIdx (p := fun u => decide (u = v)) (xs := ws) h
  exact ⟨ws[i], List.getElem?_eq_getElem hl, fun e => by simp [e] at this⟩
theorem place_eq {ws : List Val} {v : Val} {k : Nat} (h1 : ∀ i, i < k → ∀ u, ws[i]? = some u → u ≠ v) (h2 : ws[k]? = some v) : place ws v = k := by
  rcases Nat.lt_trichotomy (place ws v) k with h | h | h
  · have hl : place ws v < ws.length := by
      rcases Nat.lt_or_ge k ws.length with h' | h'
      · omega
      · rw [List.getElem?_eq_none h'] at h2; cases h2
    exact absurd (place_at hl) (h1 _ h _ (List.getElem?_eq_getElem hl))
  · exact h
  · obtain ⟨u, hu, hne⟩ := place_first h
    rw [h2] at hu; injection hu with hu; exact absurd hu.symm hne
theorem place_none {ws : List Val} {v : Val} (h1 : ∀ i, i < ws.length → ∀ u, ws[i]? = some u → u ≠ v) : place ws v = ws.length := by
  have := place_le ws v
  rcases Nat.lt_or_ge (place ws v) ws.length with h | h
  · exact absurd (place_at h) (h1 _ h _ (List.getElem?_eq_getElem h))
  · omega

/-- One value more: the words, the places. -/
def addW (s : List Val × List Nat) (v : Val) : List Val × List Nat :=
  (if place s.1 (clean v) < s.1.length then s.1 else s.1 ++ [clean v], s.2 ++ [place s.1 (clean v)])
def build (vs : List Val) : List Val × List Nat := vs.foldl addW ([], [])
theorem build_nil : build [] = ([], []) := rfl
theorem build_snoc (vs : List Val) (v : Val) : build (vs ++ [v]) = addW (build vs) v := by simp [build, List.foldl_append]
theorem build_at_length (vs : List Val) : (build vs).2.length = vs.length := by
  induction vs using snoc_ind with
  | h0 => rfl
  | h1 vs v ih => rw [build_snoc]; simp [addW, ih]
theorem build_ws_length (vs : List Val) : (build vs).1.length ≤ vs.length := by
  induction vs using snoc_ind with
  | h0 => simp [build]
  | h1 vs v ih => rw [build_snoc]; simp only [addW]; split <;> simp <;> omega
theorem build_ws_clean (vs : List Val) : ∀ u ∈ (build vs).1, clean u = u := by
  induction vs using snoc_ind with
  | h0 => simp [build]
  | h1 vs v ih =>
    rw [build_snoc]
    intro u hu
    simp only [addW] at hu
    split at hu
    · exact ih u hu
    · rw [List.mem_append] at hu
      rcases hu with hu | hu
      · exact ih u hu
      · simp at hu; subst hu; exact clean_clean v
theorem build_nodup (vs : List Val) : (build vs).1.Nodup := by
  induction vs using snoc_ind with
  | h0 => simp [build]
  | h1 vs v ih =>
    rw [build_snoc]
    simp only [addW]
    split
    · exact ih
    · rename_i h
      rw [List.nodup_append]
      refine ⟨ih, by simp, ?_⟩
      intro a ha b hb
      simp at hb; subst hb
      intro e; subst e
      exact h (place_lt.2 ha)
theorem build_at_lt (vs : List Val) : ∀ a ∈ (build vs).2, a < (build vs).1.length := by
  induction vs using snoc_ind with
  | h0 => simp [build]
  | h1 vs v ih =>
    rw [build_snoc]
    intro a ha
    simp only [addW] at ha ⊢
    rw [List.mem_append] at ha
    have hp := place_le (build vs).1 (clean v)
    rcases ha with ha | ha
    · have := ih a ha; split <;> simp <;> omega
    · simp at ha; subst ha; split <;> simp <;> omega
/-- A word stays where it is. -/
theorem addW_prefix (s : List Val × List Nat) (v : Val) : ∃ r, (addW s v).1 = s.1 ++ r := by
  unfold addW; simp only []; split
  · exact ⟨[], by simp⟩
  · exact ⟨[clean v], rfl⟩
theorem addW_word (s : List Val × List Nat) (v : Val) : (addW s v).1[place s.1 (clean v)]? = some (clean v) := by
  unfold addW; simp only []
  split
  · rename_i h; rw [List.getElem?_eq_getElem h, place_at h]
  · rename_i h
    have : place s.1 (clean v) = s.1.length := by have := place_le s.1 (clean v); omega
    rw [this]; simp
theorem build_words (vs : List Val) : (build vs).2.map (fun a => (build vs).1.getD a nul) = vs.map clean := by
  induction vs using snoc_ind with
  | h0 => rfl
  | h1 vs v ih =>
    obtain ⟨r, hr⟩ := addW_prefix (build vs) v
    have hw := addW_word (build vs) v
    rw [build_snoc, List.map_append, ← ih]
    have h2 : (addW (build vs) v).2 = (build vs).2 ++ [place (build vs).1 (clean v)] := rfl
    rw [h2, List.map_append]
    congr 1
    · refine List.map_congr_left fun a ha => ?_
      rw [hr, List.getD_eq_getElem?_getD, List.getElem?_append_left (build_at_lt vs a ha), List.getD_eq_getElem?_getD]
    · simp only [List.map_cons, List.map_nil]
      rw [List.getD_eq_getElem?_getD, hw]; rfl

/-- Values by their places. -/
def look (ws : List Val) (at_ : List Int) : Option (List Val) :=
  if (ws.map clean).Nodup ∧ ∀ a ∈ at_, 0 ≤ a ∧ a < (ws.length : Int) then some (at_.map fun a => clean (ws.getD a.toNat nul)) else none
def iat (at_ : List Nat) : List Int := at_.map fun (n : Nat) => (n : Int)

theorem map_clean_id {ws : List Val} (h : ∀ u ∈ ws, clean u = u) : ws.map clean = ws := by
  induction ws with
  | nil => rfl
  | cons a ws ih => rw [List.map_cons, h a (by simp), ih (fun u hu => h u (by simp [hu]))]

theorem look_build (vs : List Val) : look (build vs).1 (iat (build vs).2) = some (vs.map clean) := by
  unfold look
  rw [if_pos]
  · congr 1
    rw [← build_words]
    unfold iat
    rw [List.map_map]
    refine List.map_congr_left fun a ha => ?_
    have hlt := build_at_lt vs a ha
    simp only [Function.comp, Int.toNat_natCast]
    rw [List.getD_eq_getElem?_getD, List.getElem?_eq_getElem hlt]
    exact build_ws_clean vs _ (List.getElem_mem hlt)
  · refine ⟨by rw [map_clean_id (build_ws_clean vs)]; exact build_nodup vs, ?_⟩
    intro a ha
    simp only [iat, List.mem_map] at ha
    obtain ⟨b, hb, rfl⟩ := ha
    have := build_at_lt vs b hb
    omega

/-- The greatest place so far; -1 of none. -/
def top (at_ : List Nat) : Int := at_.foldl (fun (m : Int) (a : Nat) => max m (a : Int)) (-1)
theorem top_nil : top [] = -1 := rfl
theorem top_snoc (at_ : List Nat) (a : Nat) : top (at_ ++ [a]) = max (top at_) (a : Int) := by simp [top, List.foldl_append]
theorem build_top (vs : List Val) : top (build vs).2 + 1 = ((build vs).1.length : Int) := by
  induction vs using snoc_ind with
  | h0 => rfl
  | h1 vs v ih =>
    rw [build_snoc]
    have h2 : (addW (build vs) v).2 = (build vs).2 ++ [place (build vs).1 (clean v)] := rfl
    have hp := place_le (build vs).1 (clean v)
    rw [h2, top_snoc]
    simp only [addW]
    split
    · omega
    · rw [List.length_append]; simp; omega
theorem build_at_top (vs : List Val) (k : Nat) (h : k < (build vs).2.length) : ((build vs).2[k] : Int) ≤ top ((build vs).2.take k) + 1 := by
  induction vs using snoc_ind with
  | h0 => simp [build] at h
  | h1 vs v ih =>
    have h2 : (build (vs ++ [v])).2 = (build vs).2 ++ [place (build vs).1 (clean v)] := by rw [build_snoc]; rfl
    have key : ∀ (l : List Nat) (_ : l = (build (vs ++ [v])).2) (hk : k < l.length), (l[k] : Int) ≤ top (l.take k) + 1 := by
      intro l hl hk
      rw [h2] at hl
      subst hl
      rw [List.length_append] at hk
      simp at hk
      by_cases hlt : k < (build vs).2.length
      · rw [List.getElem_append_left hlt, List.take_append_of_le_length (by omega)]
        exact ih hlt
      · have : k = (build vs).2.length := by omega
        subst this
        rw [List.getElem_append_right (by omega), List.take_left]
        simp
        have := build_top vs
        have := place_le (build vs).1 (clean v)
        omega
    exact key _ rfl h

theorem build_ws_mem (vs : List Val) (u : Val) : u ∈ (build vs).1 ↔ ∃ v ∈ vs, clean v = u := by
  induction vs using snoc_ind with
  | h0 => simp [build]
  | h1 vs v ih =>
    rw [build_snoc]
    simp only [addW]
    split
    · rename_i h
      rw [ih]
      constructor
      · rintro ⟨x, hx, e⟩; exact ⟨x, by simp [hx], e⟩
      · rintro ⟨x, hx, e⟩
        rw [List.mem_append] at hx
        rcases hx with hx | hx
        · exact ⟨x, hx, e⟩
        · simp at hx; subst hx; subst e; exact ih.1 (place_lt.1 h)
    · rw [List.mem_append, ih]
      constructor
      · rintro (⟨x, hx, e⟩ | h)
        · exact ⟨x, by simp [hx], e⟩
        · simp at h; exact ⟨v, by simp, h.symm⟩
      · rintro ⟨x, hx, e⟩
        rw [List.mem_append] at hx
        rcases hx with hx | hx
        · exact .inl ⟨x, hx, e⟩
        · simp at hx; subst hx; subst e; exact .inr (by simp)
end Go.Proofs.YtgmemdedpklnhaaGreat.ValMath

/-
  PLAIN ARITHMETIC OF CHAPTER 5: numbers in parts of seven bits, over lists of bytes and natural numbers. No program in sight.
-/
namespace Go.Proofs.YtgmemdedpklnhaaGreat.VarMath

/-- A number's bytes; n: how many bytes that go on there may be. -/
def put : Nat → Nat → List UInt8
  | 0, x => [UInt8.ofNat x]
  | n + 1, x => if x < 128 then [UInt8.ofNat x] else UInt8.ofNat (x % 128 + 128) :: put n (x / 128)

/-- The number of parts. -/
def val : List UInt8 → Nat
  | [] => 0
  | b :: l => b.toNat % 128 + 128 * val l

/-- How many bytes go on. -/
def cont : List UInt8 → Nat
  | [] => 0
  | b :: l => if 128 ≤ b.toNat then cont l + 1 else 0

/-- What is read at the head: the number, how many bytes it has, and 0; or 0, 0 and 1: it is cut off; 2: it is no form. -/
def get (bits : Nat) (l : List UInt8) : Nat × Nat × Nat :=
  if l.length ≤ cont l then (0, 0, 1)
  else if 9 < cont l ∨ (0 < cont l ∧ (l.getD (cont l) 0).toNat = 0) ∨ 2 ^ bits ≤ val (l.take (cont l + 1)) then (0, 0, 2)
  else (val (l.take (cont l + 1)), cont l + 1, 0)

theorem u8_lt (b : UInt8) : b.toNat < 256 := b.toNat_lt

theorem cont_le (l : List UInt8) : cont l ≤ l.length := by
  induction l with
  | nil => simp [cont]
  | cons b l ih => simp only [cont, List.length_cons]; split <;> omega

theorem cont_ge {l : List UInt8} {i : Nat} (h : i < cont l) : 128 ≤ (l.getD i 0).toNat := by
  induction l generalizing i with
  | nil => simp [cont] at h
  | cons b l ih =>
    simp only [cont] at h
    split at h
    · cases i with
      | zero => simpa
      | succ i => simpa using ih (by omega : i < cont l)
    · omega

theorem cont_lt {l : List UInt8} (h : cont l < l.length) : (l.getD (cont l) 0).toNat < 128 := by
  induction l with
  | nil => simp at h
  | cons b l ih =>
    simp only [cont] at h ⊢
    split
    · rename_i hb
      simp [hb] at h
      simpa using ih h
    · simp; omega

/-- What stands: so many that go on, then one that does not, or the end. -/
theorem cont_eq {l : List UInt8} {k : Nat} (h1 : ∀ i, i < k → 128 ≤ (l.getD i 0).toNat) (h2 : k < l.length → (l.getD k 0).toNat < 128) (h3 : k ≤ l.length) : cont l = k := by
  induction l generalizing k with
  | nil => simp at h3; simp [cont, h3]
  | cons b l ih =>
    simp only [cont]
    cases k with
    | zero =>
      have := h2 (by simp)
      simp at this
      rw [if_neg (by omega)]
    | succ k =>
      have h0 := h1 0 (by omega)
      simp at h0
      rw [if_pos h0, ih (k := k)]
      · intro i hi; simpa using h1 (i + 1) (by omega)
      · intro hk; simpa using h2 (by simp; omega)
      · simpa using h3

theorem val_lt (l : List UInt8) : val l < 128 ^ l.length := by
  induction l with
  | nil => simp [val]
  | cons b l ih =>
    simp only [val, List.length_cons, Nat.pow_succ]
    have := Nat.mod_lt b.toNat (show 128 > 0 by omega)
    omega

theorem val_append (l m : List UInt8) : val (l ++ m) = val l + 128 ^ l.length * val m := by
  induction l with
  | nil => simp [val]
  | cons b l ih =>
    simp only [List.cons_append, val, ih, List.length_cons, Nat.pow_succ]
    rw [Nat.mul_add, ← Nat.mul_assoc, Nat.mul_comm 128 (128 ^ l.length)]
    omega

theorem put_length_pos (n x : Nat) : 0 < (put n x).length := by
  cases n with
  | zero => simp [put]
  | succ n => simp only [put]; split <;> simp

theorem put_ne_nil (n x : Nat) : put n x ≠ [] := by
  have := put_length_pos n x
  intro h; simp [h] at this

theorem put_length_le (n x : Nat) : (put n x).length ≤ n + 1 := by
  induction n generalizing x with
  | zero => simp [put]
  | succ n ih =>
    simp only [put]
    split
    · simp
    · have := ih (x / 128); simp; omega

theorem pow_step (n : Nat) : 128 ^ (n + 2) = 128 * 128 ^ (n + 1) := by rw [Nat.pow_succ, Nat.mul_comm]

theorem div_lt_pow {x n : Nat} (h : x < 128 ^ (n + 2)) : x / 128 < 128 ^ (n + 1) := by
  rw [pow_step] at h
  exact Nat.div_lt_of_lt_mul h

theorem ofNat_toNat {x : Nat} (h : x < 256) : (UInt8.ofNat x).toNat = x := by
  rw [UInt8.toNat_ofNat']; omega

theorem val_put {n x : Nat} (h : x < 128 ^ (n + 1)) : val (put n x) = x := by
  induction n generalizing x with
  | zero => simp at h; simp [put, val]; omega
  | succ n ih =>
    simp only [put]
    split
    · rename_i hx; simp [val]; omega
    · simp only [val, ih (div_lt_pow h)]
      rw [ofNat_toNat (by omega)]; omega

theorem cont_put {n x : Nat} (h : x < 128 ^ (n + 1)) (r : List UInt8) : cont (put n x ++ r) = (put n x).length - 1 := by
  induction n generalizing x with
  | zero =>
    simp at h
    simp only [put, List.cons_append, cont]
    rw [ofNat_toNat (by omega), if_neg (by omega)]; simp
  | succ n ih =>
    simp only [put]
    split
    · rename_i hx
      simp only [List.cons_append, cont]
      rw [ofNat_toNat (by omega), if_neg (by omega)]; simp
    · simp only [List.cons_append, cont]
      rw [ofNat_toNat (by omega), if_pos (by omega), ih (div_lt_pow h)]
      have := put_length_pos n (x / 128)
      simp; omega

/-- The last byte: below 128; none where there are more. -/
theorem last_put {n x : Nat} (h : x < 128 ^ (n + 1)) : ((put n x).getD ((put n x).length - 1) 0).toNat < 128 ∧ (1 < (put n x).length → 0 < ((put n x).getD ((put n x).length - 1) 0).toNat) := by
  induction n generalizing x with
  | zero =>
    simp at h
    simp [put]; omega
  | succ n ih =>
    simp only [put]
    split
    · rename_i hx
      simp; omega
    · rename_i hx
      have h0 := ih (div_lt_pow h)
      have hl := put_length_pos n (x / 128)
      have e : (UInt8.ofNat (x % 128 + 128) :: put n (x / 128)).length - 1 = ((put n (x / 128)).length - 1) + 1 := by simp; omega
      rw [e, List.getD_cons_succ]
      refine ⟨h0.1, fun _ => ?_⟩
      by_cases h1 : 1 < (put n (x / 128)).length
      · exact h0.2 h1
      · have h2 : (put n (x / 128)).length = 1 := by omega
        have hv := val_put (div_lt_pow h)
        match hp : put n (x / 128), h2 with
        | [b], _ =>
          rw [hp] at hv
          rw [hp] at h0
          simp [val] at hv h0 ⊢
          omega

theorem getD_append_left (l r : List UInt8) (i : Nat) (h : i < l.length) : (l ++ r).getD i 0 = l.getD i 0 := by
  rw [List.getD_eq_getElem?_getD, List.getD_eq_getElem?_getD, List.getElem?_append_left h]

/-- Numbers come back. -/
theorem get_put {bits n x : Nat} (h : x < 128 ^ (n + 1)) (hb : x < 2 ^ bits) (hn : n ≤ 9) (r : List UInt8) : get bits (put n x ++ r) = (x, (put n x).length, 0) := by
  have hl := put_length_pos n x
  have hle := put_length_le n x
  have hc := cont_put h r
  have hlast := last_put h
  unfold get
  rw [hc, show (put n x).length - 1 + 1 = (put n x).length by omega, List.take_left, val_put h]
  have hg : (put n x ++ r).getD ((put n x).length - 1) 0 = (put n x).getD ((put n x).length - 1) 0 := getD_append_left _ _ _ (by omega)
  rw [if_neg (by simp; omega), hg, if_neg]
  rintro (h1 | ⟨h1, h2⟩ | h1)
  · omega
  · have := hlast.2 (by omega); omega
  · omega

/-- More fuel: the same bytes. -/
theorem put_more {n m x : Nat} (h : x < 128 ^ (n + 1)) (hm : n ≤ m) : put m x = put n x := by
  induction n generalizing m x with
  | zero =>
    simp at h
    cases m with
    | zero => rfl
    | succ m => simp [put, h]
  | succ n ih =>
    cases m with
    | zero => omega
    | succ m =>
      simp only [put]
      split
      · rfl
      · rw [ih (div_lt_pow h) (by omega)]

/-- A byte for each seven bits. -/
theorem put_length {n x k : Nat} (h : x < 128 ^ (k + 1)) (hl : k = 0 ∨ 128 ^ k ≤ x) (hk : k ≤ n) : (put n x).length = k + 1 := by
  induction k generalizing n x with
  | zero =>
    simp at h
    cases n with
    | zero => rfl
    | succ n => simp [put, h]
  | succ k ih =>
    cases n with
    | zero => omega
    | succ n =>
      have hx : 128 ^ (k + 1) ≤ x := by omega
      have h128 : 128 ≤ 128 ^ (k + 1) := by
        rw [Nat.pow_succ]
        have : 0 < 128 ^ k := Nat.pow_pos (by omega)
        omega
      simp only [put]
      rw [if_neg (by omega), List.length_cons, ih (n := n) (div_lt_pow h) ?_ (by omega)]
      cases k with
      | zero => exact .inl rfl
      | succ k =>
        right
        rw [pow_step] at hx
        exact (Nat.le_div_iff_mul_le (by omega)).2 (by omega)

/-- Of any number below 2^64. -/
def enc (x : Nat) : List UInt8 := put 9 x

theorem fits {x : Nat} (h : x < 18446744073709551616) : x < 128 ^ (9 + 1) := by
  have : (128 : Nat) ^ (9 + 1) = 1180591620717411303424 := by decide
  omega

/-- A number with its sign as one without. -/
def zig (x : Int) : Nat := if x < 0 then (-(x + 1)).toNat * 2 + 1 else x.toNat * 2
def zag (u : Nat) : Int := if u % 2 = 1 then -((u / 2 : Nat) : Int) - 1 else ((u / 2 : Nat) : Int)

theorem zag_zig (x : Int) : zag (zig x) = x := by
  unfold zag zig
  split <;> split <;> omega

theorem zig_lt {x : Int} (h1 : -9223372036854775808 ≤ x) (h2 : x < 9223372036854775808) : zig x < 18446744073709551616 := by
  unfold zig; split <;> omega

end Go.Proofs.YtgmemdedpklnhaaGreat.VarMath

/-
  PLAIN ARITHMETIC OF CHAPTER 6: numbers in few bits, over lists of bytes and natural numbers. No program in sight.
-/
namespace Go.Proofs.YtgmemdedpklnhaaGreat.BitMath

theorem u8_lt (b : UInt8) : b.toNat < 256 := b.toNat_lt

/-- Bytes as one number, the least first. -/
def num : List UInt8 → Nat
  | [] => 0
  | b :: l => b.toNat + 256 * num l

/-- n bytes of a number. -/
def bytes : Nat → Nat → List UInt8
  | 0, _ => []
  | n + 1, x => UInt8.ofNat (x % 256) :: bytes n (x / 256)

/-- Numbers of w bits as one number. -/
def all (w : Nat) : List Nat → Nat
  | [] => 0
  | x :: xs => x + 2 ^ w * all w xs

/-- How many bits a number has. -/
def len : Nat → Nat → Nat
  | 0, _ => 0
  | n + 1, x => if x = 0 then 0 else len n (x / 2) + 1

theorem p256 (n : Nat) : 256 ^ n = 2 ^ (8 * n) := by rw [Nat.pow_mul]

theorem bytes_length (n x : Nat) : (bytes n x).length = n := by
  induction n generalizing x with
  | zero => rfl
  | succ n ih => simp [bytes, ih]

theorem num_lt (l : List UInt8) : num l < 256 ^ l.length := by
  induction l with
  | nil => simp [num]
  | cons b l ih =>
    have := u8_lt b
    simp only [num, List.length_cons, Nat.pow_succ]
    omega

theorem num_bytes {n x : Nat} (h : x < 256 ^ n) : num (bytes n x) = x := by
  induction n generalizing x with
  | zero => simp at h; simp [bytes, num, h]
  | succ n ih =>
    rw [Nat.pow_succ, Nat.mul_comm] at h
    simp only [bytes, num]
    rw [ih (Nat.div_lt_of_lt_mul h), UInt8.toNat_ofNat']
    omega

theorem bytes_num (l : List UInt8) : bytes l.length (num l) = l := by
  induction l with
  | nil => rfl
  | cons b l ih =>
    have hb := u8_lt b
    simp only [List.length_cons, bytes, num]
    rw [show (b.toNat + 256 * num l) / 256 = num l by omega, ih, show (b.toNat + 256 * num l) % 256 = b.toNat by omega]
    congr 1
    exact UInt8.ofNat_toNat

theorem bytes_inj {n x y : Nat} (hx : x < 256 ^ n) (hy : y < 256 ^ n) (h : bytes n x = bytes n y) : x = y := by
  rw [← num_bytes hx, ← num_bytes hy, h]

theorem bytes_succ (n x : Nat) : bytes (n + 1) x = bytes n x ++ [UInt8.ofNat (x / 256 ^ n % 256)] := by
  induction n generalizing x with
  | zero => simp [bytes]
  | succ n ih =>
    conv => lhs; unfold bytes
    rw [ih, Nat.div_div_eq_div_mul, Nat.mul_comm 256, ← Nat.pow_succ]
    rfl

/-- Only the low part counts. -/
theorem bytes_mod (n x y : Nat) (h : x % 256 ^ n = y % 256 ^ n) : bytes n x = bytes n y := by
  induction n generalizing x y with
  | zero => rfl
  | succ n ih =>
    simp only [bytes]
    have e1 : x % 256 = y % 256 := by
      have hx := Nat.mod_mod_of_dvd x (show 256 ∣ 256 ^ (n + 1) from ⟨256 ^ n, by rw [Nat.pow_succ, Nat.mul_comm]⟩)
      have hy := Nat.mod_mod_of_dvd y (show 256 ∣ 256 ^ (n + 1) from ⟨256 ^ n, by rw [Nat.pow_succ, Nat.mul_comm]⟩)
      rw [← hx, ← hy, h]
    have e2 : x / 256 % 256 ^ n = y / 256 % 256 ^ n := by
      rw [Nat.pow_succ, Nat.mul_comm] at h
      rw [← Nat.mod_mul_right_div_self, ← Nat.mod_mul_right_div_self, h]
    rw [e1, ih _ _ e2]

theorem all_lt {w : Nat} {xs : List Nat} (h : ∀ x ∈ xs, x < 2 ^ w) : all w xs < 2 ^ (w * xs.length) := by
  induction xs with
  | nil => simp [all]
  | cons x xs ih =>
    have h1 := h x (by simp)
    have h2 := ih fun y hy => h y (by simp [hy])
    simp only [all, List.length_cons, Nat.mul_succ, Nat.pow_add]
    calc x + 2 ^ w * all w xs < 2 ^ w + 2 ^ w * all w xs := by omega
      _ = 2 ^ w * (all w xs + 1) := by rw [Nat.mul_succ, Nat.add_comm]
      _ ≤ 2 ^ w * 2 ^ (w * xs.length) := Nat.mul_le_mul_left _ h2
      _ = 2 ^ (w * xs.length) * 2 ^ w := Nat.mul_comm _ _

theorem all_append (w : Nat) (xs ys : List Nat) : all w (xs ++ ys) = all w xs + 2 ^ (w * xs.length) * all w ys := by
  induction xs with
  | nil => simp [all]
  | cons x xs ih =>
    simp only [List.cons_append, all, ih, List.length_cons, Nat.mul_succ, Nat.pow_add, Nat.mul_add]
    rw [← Nat.mul_assoc, Nat.mul_comm (2 ^ w) (2 ^ (w * xs.length))]
    omega

theorem all_snoc (w : Nat) (xs : List Nat) (x : Nat) : all w (xs ++ [x]) = all w xs + x * 2 ^ (w * xs.length) := by
  rw [all_append]; simp [all, Nat.mul_comm]

theorem all_at {w : Nat} {xs : List Nat} (h : ∀ x ∈ xs, x < 2 ^ w) (i : Nat) (hi : i < xs.length) : all w xs / 2 ^ (w * i) % 2 ^ w = xs.getD i 0 := by
  induction xs generalizing i with
  | nil => simp at hi
  | cons x xs ih =>
    have h1 := h x (by simp)
    have hp : 0 < 2 ^ w := Nat.pow_pos (by omega)
    cases i with
    | zero =>
      simp only [all, Nat.mul_zero, Nat.pow_zero, Nat.div_one, List.getD_cons_zero]
      rw [Nat.add_mul_mod_self_left, Nat.mod_eq_of_lt h1]
    | succ i =>
      simp only [List.getD_cons_succ, all, Nat.mul_succ]
      rw [Nat.pow_add, Nat.mul_comm (2 ^ (w * i)), ← Nat.div_div_eq_div_mul, Nat.add_mul_div_left _ _ hp, Nat.div_eq_of_lt h1, Nat.zero_add]
      exact ih (fun y hy => h y (by simp [hy])) i (by simpa using hi)

/-- Where all beyond n numbers are nought, the numbers give it back. -/
theorem all_of (w n x : Nat) (h : x < 2 ^ (w * n)) : all w ((List.range n).map fun i => x / 2 ^ (w * i) % 2 ^ w) = x := by
  induction n with
  | zero => simp at h; simp [all, h]
  | succ n ih =>
    have key : ∀ m, all w ((List.range m).map fun i => x / 2 ^ (w * i) % 2 ^ w) = x % 2 ^ (w * m) := by
      intro m
      induction m with
      | zero => simp [all, Nat.mod_one]
      | succ m ihm =>
        rw [List.range_succ, List.map_append, List.map_cons, List.map_nil, all_snoc, ihm, List.length_map, List.length_range, Nat.mul_succ, Nat.pow_add, Nat.mod_mul, Nat.mul_comm (x / _ % _)]
    rw [key, Nat.mod_eq_of_lt h]

/-- Is a number below 2^w? -/
theorem len_le {n x w : Nat} (hx : x < 2 ^ n) : len n x ≤ w ↔ x < 2 ^ w := by
  induction n generalizing x w with
  | zero => simp at hx; subst hx; simp [len, Nat.pow_pos]
  | succ n ih =>
    simp only [len]
    split
    · rename_i h0; subst h0; simp [Nat.pow_pos]
    · rename_i h0
      rw [Nat.pow_succ] at hx
      cases w with
      | zero => simp; omega
      | succ w =>
        have := ih (x := x / 2) (w := w) (by omega)
        rw [Nat.pow_succ]
        constructor
        · intro h; have := this.1 (by omega); omega
        · intro h; have := this.2 (by omega); omega

theorem len_bounds {n x : Nat} (hx : x < 2 ^ n) : len n x ≤ n := (len_le hx).2 hx

/-- A byte of a number. -/
theorem num_at (l : List UInt8) (i : Nat) (h : i < l.length) : (l.getD i 0).toNat = num l / 256 ^ i % 256 := by
  induction l generalizing i with
  | nil => simp at h
  | cons b l ih =>
    have hb := u8_lt b
    cases i with
    | zero => simp only [num, List.getD_cons_zero, Nat.pow_zero, Nat.div_one]; omega
    | succ i =>
      simp only [List.getD_cons_succ, num]
      rw [ih i (by simpa using h), Nat.pow_succ, Nat.mul_comm (256 ^ i), ← Nat.div_div_eq_div_mul, show (b.toNat + 256 * num l) / 256 = num l by omega]

theorem num_set (l : List UInt8) (i : Nat) (h : i < l.length) (c : UInt8) : num (l.set i c) + (l.getD i 0).toNat * 256 ^ i = num l + c.toNat * 256 ^ i := by
  induction l generalizing i with
  | nil => simp at h
  | cons b l ih =>
    cases i with
    | zero => simp only [List.set_cons_zero, num, List.getD_cons_zero, Nat.pow_zero]; omega
    | succ i =>
      simp only [List.set_cons_succ, num, List.getD_cons_succ]
      have h1 := ih i (by simpa using h)
      have e1 : (l.getD i 0).toNat * 256 ^ (i + 1) = 256 * ((l.getD i 0).toNat * 256 ^ i) := by rw [Nat.pow_succ, ← Nat.mul_assoc, Nat.mul_comm]
      have e2 : c.toNat * 256 ^ (i + 1) = 256 * (c.toNat * 256 ^ i) := by rw [Nat.pow_succ, ← Nat.mul_assoc, Nat.mul_comm]
      rw [e1, e2]; omega

/-- A bit laid where none beyond is: the sum. -/
theorem or_bit {a t b : Nat} (ha : a < 2 ^ t) : a ||| b * 2 ^ t = a + b * 2 ^ t := by
  have := Nat.two_pow_add_eq_or_of_lt ha b
  rw [Nat.mul_comm] at this
  rw [Nat.or_comm, ← this, Nat.add_comm]

end Go.Proofs.YtgmemdedpklnhaaGreat.BitMath

/-
  PLAIN ARITHMETIC OF CHAPTER 2: runes as bytes, over lists of bytes and natural numbers. No program in sight.
-/
namespace Go.Proofs.YtgmemdedpklnhaaGreat.UtfMath

theorem u8_lt (b : UInt8) : b.toNat < 256 := b.toNat_lt

/-- Byte i as a number; 0 where there is none. -/
def at_ (l : List UInt8) (i : Nat) : Nat := (l.getD i 0).toNat

theorem at_lt (l : List UInt8) (i : Nat) : at_ l i < 256 := u8_lt _

/-- Is there a byte i that goes on? -/
def goes (l : List UInt8) (i : Nat) : Prop := i < l.length ∧ 128 ≤ at_ l i ∧ at_ l i < 192

instance (l : List UInt8) (i : Nat) : Decidable (goes l i) := by unfold goes; infer_instance

/-- Is there such a rune? -/
def may (r : Nat) : Prop := r ≤ 1114111 ∧ (r < 55296 ∨ 57343 < r)

instance (r : Nat) : Decidable (may r) := by unfold may; infer_instance

/-- The rune at the head, and how many bytes it has. -/
def rune (l : List UInt8) : Nat × Nat :=
  if l.length = 0 then (0, 0)
  else if at_ l 0 < 128 then (at_ l 0, 1)
  else if at_ l 0 < 194 ∨ 244 < at_ l 0 then (0, 0)
  else if at_ l 0 < 224 then (if goes l 1 then ((at_ l 0 - 192) * 64 + (at_ l 1 - 128), 2) else (0, 0))
  else if at_ l 0 < 240 then
    (if goes l 1 ∧ goes l 2 ∧ 2048 ≤ (at_ l 0 - 224) * 4096 + (at_ l 1 - 128) * 64 + (at_ l 2 - 128) ∧
        ((at_ l 0 - 224) * 4096 + (at_ l 1 - 128) * 64 + (at_ l 2 - 128) < 55296 ∨ 57343 < (at_ l 0 - 224) * 4096 + (at_ l 1 - 128) * 64 + (at_ l 2 - 128))
      then ((at_ l 0 - 224) * 4096 + (at_ l 1 - 128) * 64 + (at_ l 2 - 128), 3) else (0, 0))
  else
    (if goes l 1 ∧ goes l 2 ∧ goes l 3 ∧ 65536 ≤ (at_ l 0 - 240) * 262144 + (at_ l 1 - 128) * 4096 + (at_ l 2 - 128) * 64 + (at_ l 3 - 128) ∧
        (at_ l 0 - 240) * 262144 + (at_ l 1 - 128) * 4096 + (at_ l 2 - 128) * 64 + (at_ l 3 - 128) ≤ 1114111
      then ((at_ l 0 - 240) * 262144 + (at_ l 1 - 128) * 4096 + (at_ l 2 - 128) * 64 + (at_ l 3 - 128), 4) else (0, 0))

/-- A rune's bytes. -/
def put (r : Nat) : List UInt8 :=
  if r < 128 then [UInt8.ofNat r]
  else if r < 2048 then [UInt8.ofNat (192 + r / 64), UInt8.ofNat (128 + r % 64)]
  else if r < 65536 then [UInt8.ofNat (224 + r / 4096), UInt8.ofNat (128 + r / 64 % 64), UInt8.ofNat (128 + r % 64)]
  else [UInt8.ofNat (240 + r / 262144), UInt8.ofNat (128 + r / 4096 % 64), UInt8.ofNat (128 + r / 64 % 64), UInt8.ofNat (128 + r % 64)]

/-- The first place that is no rune's beginning, counted on from a; fuel: at most so many runes. -/
def firstFrom : Nat → Nat → List UInt8 → Int
  | 0, _, _ => -1
  | n + 1, a, l => if l.length ≤ a then -1 else if (rune (l.drop a)).2 = 0 then (a : Int) else firstFrom n (a + (rune (l.drop a)).2) l

def first (l : List UInt8) : Int := firstFrom (l.length + 1) 0 l

def valid (l : List UInt8) : Bool := decide (first l < 0)

theorem at_cons_zero (b : UInt8) (l : List UInt8) : at_ (b :: l) 0 = b.toNat := by simp [at_]
theorem at_cons_succ (b : UInt8) (l : List UInt8) (i : Nat) : at_ (b :: l) (i + 1) = at_ l i := by simp [at_]
theorem at_append (l m : List UInt8) (i : Nat) (h : i < l.length) : at_ (l ++ m) i = at_ l i := by
  unfold at_; rw [List.getD_eq_getElem?_getD, List.getD_eq_getElem?_getD, List.getElem?_append_left h]
theorem at_drop (l : List UInt8) (a i : Nat) : at_ (l.drop a) i = at_ l (a + i) := by
  unfold at_; rw [List.getD_eq_getElem?_getD, List.getD_eq_getElem?_getD, List.getElem?_drop]

theorem goes_lt {l : List UInt8} {i : Nat} (h : goes l i) : i < l.length := h.1

theorem rune_le (l : List UInt8) : (rune l).2 ≤ l.length := by
  unfold rune
  repeat' split
  all_goals first | omega | skip
  all_goals first | exact Nat.zero_le _ | skip
  all_goals show _ ≤ l.length
  · rename_i h; have := goes_lt h; omega
  · rename_i h; have := goes_lt h.2.1; omega
  · rename_i h; have := goes_lt h.2.2.1; omega

theorem rune_le4 (l : List UInt8) : (rune l).2 ≤ 4 := by
  unfold rune
  repeat' split
  all_goals simp

theorem goes_append {l m : List UInt8} {i : Nat} (h : goes l i) : goes (l ++ m) i ∧ at_ (l ++ m) i = at_ l i := by
  obtain ⟨h1, h2, h3⟩ := h
  have e := at_append l m i h1
  exact ⟨⟨by simp; omega, by rw [e]; exact ⟨h2, h3⟩⟩, e⟩

/-- More bytes behind a rune change nothing. -/
theorem rune_append {l : List UInt8} (m : List UInt8) (h : (rune l).2 ≠ 0) : rune (l ++ m) = rune l := by
  have hl : ¬ l.length = 0 := by
    intro h0; apply h; unfold rune; rw [if_pos h0]
  have e0 : at_ (l ++ m) 0 = at_ l 0 := at_append l m 0 (by omega)
  have hlm : ¬ (l ++ m).length = 0 := by simp; intro h; simp [h] at hl
  unfold rune at h ⊢
  rw [if_neg hl] at h ⊢
  rw [if_neg hlm, e0]
  by_cases c1 : at_ l 0 < 128
  · rw [if_pos c1, if_pos c1]
  rw [if_neg c1] at h ⊢
  rw [if_neg c1]
  by_cases c2 : at_ l 0 < 194 ∨ 244 < at_ l 0
  · rw [if_pos c2, if_pos c2]
  rw [if_neg c2] at h ⊢
  rw [if_neg c2]
  by_cases c3 : at_ l 0 < 224
  · rw [if_pos c3] at h ⊢
    rw [if_pos c3]
    by_cases g : goes l 1
    · obtain ⟨g1, e1⟩ := goes_append (m := m) g
      rw [if_pos g, if_pos g1, e1]
    · rw [if_neg g] at h; exact absurd rfl h
  rw [if_neg c3] at h ⊢
  rw [if_neg c3]
  by_cases c4 : at_ l 0 < 240
  · rw [if_pos c4] at h ⊢
    rw [if_pos c4]
    split at h
    · rename_i g
      obtain ⟨g1, e1⟩ := goes_append (m := m) g.1
      obtain ⟨g2, e2⟩ := goes_append (m := m) g.2.1
      rw [e1, e2, if_pos ⟨g1, g2, g.2.2⟩, if_pos g]
    · exact absurd rfl h
  rw [if_neg c4] at h ⊢
  rw [if_neg c4]
  split at h
  · rename_i g
    obtain ⟨g1, e1⟩ := goes_append (m := m) g.1
    obtain ⟨g2, e2⟩ := goes_append (m := m) g.2.1
    obtain ⟨g3, e3⟩ := goes_append (m := m) g.2.2.1
    rw [e1, e2, e3, if_pos ⟨g1, g2, g3, g.2.2.2⟩, if_pos g]
  · exact absurd rfl h

theorem nat_u8 {x : Nat} (h : x < 256) : (UInt8.ofNat x).toNat = x := by
  rw [UInt8.toNat_ofNat']; omega

theorem put_length (r : Nat) : (put r).length = if r < 128 then 1 else if r < 2048 then 2 else if r < 65536 then 3 else 4 := by
  unfold put
  repeat' split
  all_goals rfl

/-- A rune's bytes are it. -/
theorem rune_put {r : Nat} (h : may r) : rune (put r) = (r, (put r).length) := by
  obtain ⟨h1, h2⟩ := h
  rw [put_length]
  unfold put
  by_cases c1 : r < 128
  · simp only [c1, if_true]
    have e0 : at_ [UInt8.ofNat r] 0 = r := by rw [at_cons_zero, nat_u8 (by omega)]
    unfold rune
    rw [e0, if_neg (by simp), if_pos c1]
  simp only [c1, if_false]
  by_cases c2 : r < 2048
  · simp only [c2, if_true]
    have e0 : at_ [UInt8.ofNat (192 + r / 64), UInt8.ofNat (128 + r % 64)] 0 = 192 + r / 64 := by rw [at_cons_zero, nat_u8 (by omega)]
    have e1 : at_ [UInt8.ofNat (192 + r / 64), UInt8.ofNat (128 + r % 64)] 1 = 128 + r % 64 := by rw [at_cons_succ, at_cons_zero, nat_u8 (by omega)]
    have g1 : goes [UInt8.ofNat (192 + r / 64), UInt8.ofNat (128 + r % 64)] 1 := ⟨by simp, by omega, by omega⟩
    unfold rune
    have ev : (192 + r / 64 - 192) * 64 + (128 + r % 64 - 128) = r := by omega
    rw [if_pos g1, e0, e1, ev, if_neg (by simp), if_neg (by omega), if_neg (by omega), if_pos (by omega)]
  simp only [c2, if_false]
  by_cases c3 : r < 65536
  · simp only [c3, if_true]
    have e0 : at_ [UInt8.ofNat (224 + r / 4096), UInt8.ofNat (128 + r / 64 % 64), UInt8.ofNat (128 + r % 64)] 0 = 224 + r / 4096 := by rw [at_cons_zero, nat_u8 (by omega)]
    have e1 : at_ [UInt8.ofNat (224 + r / 4096), UInt8.ofNat (128 + r / 64 % 64), UInt8.ofNat (128 + r % 64)] 1 = 128 + r / 64 % 64 := by rw [at_cons_succ, at_cons_zero, nat_u8 (by omega)]
    have e2 : at_ [UInt8.ofNat (224 + r / 4096), UInt8.ofNat (128 + r / 64 % 64), UInt8.ofNat (128 + r % 64)] 2 = 128 + r % 64 := by rw [at_cons_succ, at_cons_succ, at_cons_zero, nat_u8 (by omega)]
    have ev : (224 + r / 4096 - 224) * 4096 + (128 + r / 64 % 64 - 128) * 64 + (128 + r % 64 - 128) = r := by omega
    have g1 : goes [UInt8.ofNat (224 + r / 4096), UInt8.ofNat (128 + r / 64 % 64), UInt8.ofNat (128 + r % 64)] 1 := ⟨by simp, by omega, by omega⟩
    have g2 : goes [UInt8.ofNat (224 + r / 4096), UInt8.ofNat (128 + r / 64 % 64), UInt8.ofNat (128 + r % 64)] 2 := ⟨by simp, by omega, by omega⟩
    unfold rune
    rw [e0, e1, e2, ev, if_neg (by simp), if_neg (by omega), if_neg (by omega), if_neg (by omega), if_pos (by omega), if_pos ⟨g1, g2, by omega, h2⟩]
  · simp only [c3, if_false]
    have e0 : at_ [UInt8.ofNat (240 + r / 262144), UInt8.ofNat (128 + r / 4096 % 64), UInt8.ofNat (128 + r / 64 % 64), UInt8.ofNat (128 + r % 64)] 0 = 240 + r / 262144 := by rw [at_cons_zero, nat_u8 (by omega)]
    have e1 : at_ [UInt8.ofNat (240 + r / 262144), UInt8.ofNat (128 + r / 4096 % 64), UInt8.ofNat (128 + r / 64 % 64), UInt8.ofNat (128 + r % 64)] 1 = 128 + r / 4096 % 64 := by rw [at_cons_succ, at_cons_zero, nat_u8 (by omega)]
    have e2 : at_ [UInt8.ofNat (240 + r / 262144), UInt8.ofNat (128 + r / 4096 % 64), UInt8.ofNat (128 + r / 64 % 64), UInt8.ofNat (128 + r % 64)] 2 = 128 + r / 64 % 64 := by rw [at_cons_succ, at_cons_succ, at_cons_zero, nat_u8 (by omega)]
    have e3 : at_ [UInt8.ofNat (240 + r / 262144), UInt8.ofNat (128 + r / 4096 % 64), UInt8.ofNat (128 + r / 64 % 64), UInt8.ofNat (128 + r % 64)] 3 = 128 + r % 64 := by rw [at_cons_succ, at_cons_succ, at_cons_succ, at_cons_zero, nat_u8 (by omega)]
    have ev : (240 + r / 262144 - 240) * 262144 + (128 + r / 4096 % 64 - 128) * 4096 + (128 + r / 64 % 64 - 128) * 64 + (128 + r % 64 - 128) = r := by omega
    have g1 : goes [UInt8.ofNat (240 + r / 262144), UInt8.ofNat (128 + r / 4096 % 64), UInt8.ofNat (128 + r / 64 % 64), UInt8.ofNat (128 + r % 64)] 1 := ⟨by simp, by omega, by omega⟩
    have g2 : goes [UInt8.ofNat (240 + r / 262144), UInt8.ofNat (128 + r / 4096 % 64), UInt8.ofNat (128 + r / 64 % 64), UInt8.ofNat (128 + r % 64)] 2 := ⟨by simp, by omega, by omega⟩
    have g3 : goes [UInt8.ofNat (240 + r / 262144), UInt8.ofNat (128 + r / 4096 % 64), UInt8.ofNat (128 + r / 64 % 64), UInt8.ofNat (128 + r % 64)] 3 := ⟨by simp, by omega, by omega⟩
    unfold rune
    rw [e0, e1, e2, e3, ev, if_neg (by simp), if_neg (by omega), if_neg (by omega), if_neg (by omega), if_neg (by omega), if_pos ⟨g1, g2, g3, by omega, h1⟩]

theorem put_pos (r : Nat) : 0 < (put r).length := by
  rw [put_length]; repeat' split
  all_goals omega

theorem firstFrom_more (n m a : Nat) (l : List UInt8) (h : l.length < a + n) (hm : n ≤ m) : firstFrom m a l = firstFrom n a l := by
  induction n generalizing m a with
  | zero =>
    cases m with
    | zero => rfl
    | succ m => simp only [firstFrom]; rw [if_pos (by omega)]
  | succ n ih =>
    cases m with
    | zero => omega
    | succ m =>
      simp only [firstFrom]
      split
      · rfl
      · split
        · rfl
        · exact ih m _ (by omega) (by omega)

theorem first_eq (n : Nat) (l : List UInt8) (h : l.length < n) : firstFrom n 0 l = first l :=
  firstFrom_more _ _ _ _ (by omega) (by omega)

/-- Behind a text of whole runes the first place is the rest's. -/
theorem firstFrom_append (n a : Nat) (s t : List UInt8) (hn : s.length < a + n) (ha : a ≤ s.length) (h : firstFrom n a s = -1) (m : Nat) (hm : s.length + t.length < a + m) :
    firstFrom m a (s ++ t) = firstFrom (t.length + 1) s.length (s ++ t) := by
  induction n generalizing a m with
  | zero => omega
  | succ n ih =>
    simp only [firstFrom] at h
    by_cases c : s.length ≤ a
    · obtain rfl : a = s.length := by omega
      exact firstFrom_more _ _ _ _ (by simp) (by omega)
    · rw [if_neg c] at h
      split at h
      · omega
      · rename_i h0
        have hle := rune_le (s.drop a)
        rw [List.length_drop] at hle
        cases m with
        | zero => omega
        | succ m =>
          conv => lhs; unfold firstFrom
          have hd : (s ++ t).drop a = s.drop a ++ t := by rw [List.drop_append_of_le_length (by omega)]
          rw [if_neg (by simp only [List.length_append]; omega), hd, rune_append t h0, if_neg h0]
          exact ih _ (by omega) (by omega) h m (by omega)

/-- The same, told of the rest alone. -/
theorem firstFrom_succ (n a : Nat) (l : List UInt8) :
    firstFrom (n + 1) a l = if l.length ≤ a then -1 else if (rune (l.drop a)).2 = 0 then (a : Int) else firstFrom n (a + (rune (l.drop a)).2) l := rfl

theorem firstFrom_shift (n : Nat) (s t : List UInt8) (b : Nat) (v : Int) (hv : firstFrom n b t = v) :
    firstFrom n (s.length + b) (s ++ t) = if v = -1 then -1 else v + s.length := by
  induction n generalizing b with
  | zero => subst hv; rfl
  | succ n ih =>
    rw [firstFrom_succ] at hv ⊢
    have hd : (s ++ t).drop (s.length + b) = t.drop b := by rw [List.drop_append]; simp
    rw [hd]
    by_cases c : t.length ≤ b
    · rw [if_pos c] at hv
      rw [if_pos (by simp only [List.length_append]; omega), ← hv]; rfl
    · rw [if_neg c] at hv
      rw [if_neg (by simp only [List.length_append]; omega)]
      split at hv
      · rename_i h0
        rw [if_pos h0, if_neg (by omega)]; omega
      · rename_i h0
        rw [if_neg h0, show s.length + b + (rune (t.drop b)).2 = s.length + (b + (rune (t.drop b)).2) by omega]
        exact ih _ hv

theorem first_append {s t : List UInt8} (h : first s = -1) : first (s ++ t) = if first t = -1 then -1 else first t + s.length := by
  have h1 := firstFrom_append (s.length + 1) 0 s t (by omega) (by omega) h ((s ++ t).length + 1) (by simp only [List.length_append]; omega)
  have h2 := firstFrom_shift (t.length + 1) s t 0 _ rfl
  unfold first
  rw [h1]
  exact h2

theorem first_put {r : Nat} (h : may r) : first (put r) = -1 := by
  have hp := put_pos r
  have hr := rune_put h
  unfold first
  conv => lhs; unfold firstFrom
  rw [if_neg (by omega), List.drop_zero, hr, if_neg (by show ¬ (put r).length = 0; omega)]
  cases hl : (put r).length with
  | zero => omega
  | succ k => simp only [firstFrom, Nat.zero_add]; rw [hl, if_pos (Nat.le_refl _)]

theorem first_ge (n a : Nat) (l : List UInt8) : -1 ≤ firstFrom n a l := by
  induction n generalizing a with
  | zero => simp [firstFrom]
  | succ n ih =>
    simp only [firstFrom]
    split
    · omega
    · split
      · omega
      · exact ih _

theorem first_bad {l : List UInt8} (hl : l ≠ []) (h : (rune l).2 = 0) : first l = 0 := by
  unfold first firstFrom
  have : 0 < l.length := List.length_pos_iff.2 hl
  rw [if_neg (by omega), List.drop_zero, if_pos h]; rfl

end Go.Proofs.YtgmemdedpklnhaaGreat.UtfMath

/-
  PLAIN ARITHMETIC OF THE SUM OF CHAPTER 4: eight bit steps of a byte, over natural numbers. No program in sight.
-/
namespace Go.Proofs.YtgmemdedpklnhaaGreat.CrcMath

/-- The polynomial. -/
def poly : Nat := 3988292384

/-- One bit step. -/
def step (x : Nat) : Nat := if x % 2 = 1 then (x / 2) ^^^ poly else x / 2

/-- n bit steps. -/
def steps : Nat → Nat → Nat
  | 0, x => x
  | n + 1, x => steps n (step x)

theorem steps_succ (n x : Nat) : steps (n + 1) x = step (steps n x) := by
  induction n generalizing x with
  | zero => rfl
  | succ n ih => exact ih (step x)

theorem xor_eq_zero {a b : Nat} (h : a ^^^ b = 0) : a = b := by
  have h2 : a ^^^ (a ^^^ b) = a := by rw [h, Nat.xor_zero]
  rw [← Nat.xor_assoc, Nat.xor_self, Nat.zero_xor] at h2
  exact h2.symm

theorem step_xor (a b : Nat) : step (a ^^^ b) = step a ^^^ step b := by
  unfold step
  rw [Nat.xor_div_two]
  have hx : (a ^^^ b) % 2 = 1 ↔ ¬(a % 2 = 1 ↔ b % 2 = 1) := Nat.xor_mod_two_eq_one
  by_cases ha : a % 2 = 1 <;> by_cases hb : b % 2 = 1 <;> simp only [ha, hb, hx, iff_self, not_true_eq_false, if_true, if_false, iff_true, iff_false, not_false_eq_true]
  · apply Nat.eq_of_testBit_eq
    intro i
    simp only [Nat.testBit_xor]
    cases (a / 2).testBit i <;> cases (b / 2).testBit i <;> cases poly.testBit i <;> rfl
  · apply Nat.eq_of_testBit_eq
    intro i
    simp only [Nat.testBit_xor]
    cases (a / 2).testBit i <;> cases (b / 2).testBit i <;> cases poly.testBit i <;> rfl
  · apply Nat.eq_of_testBit_eq
    intro i
    simp only [Nat.testBit_xor]
    cases (a / 2).testBit i <;> cases (b / 2).testBit i <;> cases poly.testBit i <;> rfl

theorem steps_xor (n a b : Nat) : steps n (a ^^^ b) = steps n a ^^^ steps n b := by
  induction n generalizing a b with
  | zero => rfl
  | succ n ih => show steps n (step (a ^^^ b)) = _; rw [step_xor, ih]; rfl

theorem step_even (k : Nat) : step (2 * k) = k := by
  unfold step
  rw [if_neg (by omega)]; omega

theorem steps8_high (k : Nat) : steps 8 (256 * k) = k := by
  show step (step (step (step (step (step (step (step (256 * k)))))))) = k
  rw [show 256 * k = 2 * (128 * k) by omega, step_even, show 128 * k = 2 * (64 * k) by omega, step_even, show 64 * k = 2 * (32 * k) by omega, step_even,
    show 32 * k = 2 * (16 * k) by omega, step_even, show 16 * k = 2 * (8 * k) by omega, step_even, show 8 * k = 2 * (4 * k) by omega, step_even,
    show 4 * k = 2 * (2 * k) by omega, step_even, step_even]

theorem split256 (x : Nat) : x = 256 * (x / 256) ^^^ x % 256 := by
  apply Nat.eq_of_testBit_eq
  intro i
  rw [Nat.testBit_xor, show (256 : Nat) = 2 ^ 8 from rfl, Nat.testBit_mod_two_pow, Nat.testBit_two_pow_mul, Nat.testBit_div_two_pow]
  by_cases h : i < 8
  · have : ¬ 8 ≤ i := by omega
    simp [h, this]
  · have h8 : 8 ≤ i := by omega
    simp [h, h8, show i - 8 + 8 = i by omega]

theorem step_zero : step 0 = 0 := rfl

theorem step_lt {x : Nat} (h : x < 4294967296) : step x < 4294967296 := by
  unfold step
  split
  · exact Nat.xor_lt_two_pow (n := 32) (by omega) (by unfold poly; omega)
  · omega

theorem steps_lt (n : Nat) {x : Nat} (h : x < 4294967296) : steps n x < 4294967296 := by
  induction n generalizing x with
  | zero => exact h
  | succ n ih => exact ih (step_lt h)

theorem step_eq_zero {z : Nat} (hz : z < 4294967296) (h : step z = 0) : z = 0 := by
  unfold step at h
  split at h
  · have : z / 2 = poly := xor_eq_zero h
    unfold poly at this; omega
  · omega

theorem step_inj {a b : Nat} (ha : a < 4294967296) (hb : b < 4294967296) (h : step a = step b) : a = b := by
  have h0 : step (a ^^^ b) = 0 := by rw [step_xor, h, Nat.xor_self]
  exact xor_eq_zero (step_eq_zero (Nat.xor_lt_two_pow (n := 32) ha hb) h0)

theorem steps_inj (n : Nat) {a b : Nat} (ha : a < 4294967296) (hb : b < 4294967296) (h : steps n a = steps n b) : a = b := by
  induction n generalizing a b with
  | zero => exact h
  | succ n ih => exact step_inj ha hb (ih (step_lt ha) (step_lt hb) h)

/-- A byte taken in. -/
def byteIn (x b : Nat) : Nat := steps 8 (x ^^^ b)

/-- The table's entry. -/
def tab (i : Nat) : Nat := steps 8 i

/-- By the table: the low byte alone is looked up. -/
theorem byteIn_tab (x b : Nat) : byteIn x b = x / 256 ^^^ tab (x % 256 ^^^ b) := by
  unfold byteIn tab
  conv => lhs; rw [split256 x, Nat.xor_assoc, steps_xor, steps8_high]

theorem byteIn_lt {x b : Nat} (hx : x < 4294967296) (hb : b < 256) : byteIn x b < 4294967296 :=
  steps_lt 8 (Nat.xor_lt_two_pow (n := 32) hx (by omega))

theorem xor_cancel_left {a b c : Nat} (h : a ^^^ b = a ^^^ c) : b = c := by
  have : a ^^^ (a ^^^ b) = a ^^^ (a ^^^ c) := by rw [h]
  simpa [← Nat.xor_assoc] using this

theorem xor_cancel_right {a b c : Nat} (h : a ^^^ c = b ^^^ c) : a = b := by
  rw [Nat.xor_comm a, Nat.xor_comm b] at h; exact xor_cancel_left h

theorem byteIn_inj_left {x y b : Nat} (hx : x < 4294967296) (hy : y < 4294967296) (hb : b < 256) (h : byteIn x b = byteIn y b) : x = y :=
  xor_cancel_right (steps_inj 8 (Nat.xor_lt_two_pow (n := 32) hx (by omega)) (Nat.xor_lt_two_pow (n := 32) hy (by omega)) h)

theorem byteIn_inj_right {x b c : Nat} (hx : x < 4294967296) (hb : b < 256) (hc : c < 256) (h : byteIn x b = byteIn x c) : b = c :=
  xor_cancel_left (steps_inj 8 (Nat.xor_lt_two_pow (n := 32) hx (by omega)) (Nat.xor_lt_two_pow (n := 32) hx (by omega)) h)

/-- The register behind a list of bytes. -/
def reg (x : Nat) (l : List UInt8) : Nat := l.foldl (fun x b => byteIn x b.toNat) x

theorem reg_nil (x : Nat) : reg x [] = x := rfl
theorem reg_cons (x : Nat) (b : UInt8) (l : List UInt8) : reg x (b :: l) = reg (byteIn x b.toNat) l := rfl
theorem reg_append (x : Nat) (l m : List UInt8) : reg x (l ++ m) = reg (reg x l) m := by simp [reg, List.foldl_append]
theorem reg_snoc (x : Nat) (l : List UInt8) (b : UInt8) : reg x (l ++ [b]) = byteIn (reg x l) b.toNat := by rw [reg_append]; rfl

theorem u8_lt (b : UInt8) : b.toNat < 256 := b.toNat_lt

theorem reg_lt {x : Nat} (hx : x < 4294967296) (l : List UInt8) : reg x l < 4294967296 := by
  induction l generalizing x with
  | nil => exact hx
  | cons b l ih => exact ih (byteIn_lt hx (u8_lt b))

theorem reg_inj {x y : Nat} (hx : x < 4294967296) (hy : y < 4294967296) (l : List UInt8) (h : reg x l = reg y l) : x = y := by
  induction l generalizing x y with
  | nil => exact h
  | cons b l ih => exact byteIn_inj_left hx hy (u8_lt b) (ih (byteIn_lt hx (u8_lt b)) (byteIn_lt hy (u8_lt b)) h)

/-- The sum of a list of bytes. -/
def crc (l : List UInt8) : Nat := reg 4294967295 l ^^^ 4294967295

theorem crc_lt (l : List UInt8) : crc l < 4294967296 := Nat.xor_lt_two_pow (n := 32) (reg_lt (by omega) l) (by omega)

/-- One byte turned: another sum. -/
theorem crc_set_ne (l : List UInt8) (k : Nat) (hk : k < l.length) (c : UInt8) (hc : c ≠ l[k]) : crc (l.set k c) ≠ crc l := by
  intro h
  have h1 : reg 4294967295 (l.set k c) = reg 4294967295 l := xor_cancel_right h
  have e1 : l.set k c = l.take k ++ c :: l.drop (k + 1) := List.set_eq_take_append_cons_drop.trans (if_pos hk)
  have e2 : l = l.take k ++ l[k] :: l.drop (k + 1) := by rw [← List.drop_eq_getElem_cons hk, List.take_append_drop]
  rw [e1] at h1
  conv at h1 => rhs; rw [e2]
  rw [reg_append, reg_append, reg_cons, reg_cons] at h1
  have hr := reg_lt (x := 4294967295) (by omega) (l.take k)
  have h2 := reg_inj (byteIn_lt hr (u8_lt _)) (byteIn_lt hr (u8_lt _)) _ h1
  exact hc (UInt8.toNat_inj.1 (byteIn_inj_right hr (u8_lt _) (u8_lt _) h2))

/-- The sum's four bytes, the greatest first. -/
def digits (x : Nat) : List UInt8 := [UInt8.ofNat (x / 16777216), UInt8.ofNat (x / 65536), UInt8.ofNat (x / 256), UInt8.ofNat x]

theorem digits_length (x : Nat) : (digits x).length = 4 := rfl

theorem digits_inj {x y : Nat} (hx : x < 4294967296) (hy : y < 4294967296) (h : digits x = digits y) : x = y := by
  simp only [digits, List.cons.injEq, and_true] at h
  obtain ⟨h0, h1, h2, h3⟩ := h
  have e0 := congrArg UInt8.toNat h0
  have e1 := congrArg UInt8.toNat h1
  have e2 := congrArg UInt8.toNat h2
  have e3 := congrArg UInt8.toNat h3
  simp only [UInt8.toNat_ofNat'] at e0 e1 e2 e3
  omega

/-- What is sealed. -/
def seal_ (l : List UInt8) : List UInt8 := l ++ digits (crc l)

/-- What opens: none where it does not. -/
def open_ (l : List UInt8) : Option (List UInt8) :=
  if l.length < 4 then none else if digits (crc (l.take (l.length - 4))) = l.drop (l.length - 4) then some (l.take (l.length - 4)) else none

theorem open_seal (l : List UInt8) : open_ (seal_ l) = some l := by
  have hl : (seal_ l).length = l.length + 4 := by simp [seal_, digits_length]
  unfold open_
  rw [if_neg (by omega), hl, show l.length + 4 - 4 = l.length by omega]
  have h1 : (seal_ l).take l.length = l := by simp [seal_]
  have h2 : (seal_ l).drop l.length = digits (crc l) := by simp [seal_]
  rw [h1, h2, if_pos rfl]

theorem open_some {l m : List UInt8} (h : open_ l = some m) : l = seal_ m := by
  unfold open_ at h
  split at h
  · cases h
  · split at h
    · rename_i h1 h2
      injection h with h
      subst h
      unfold seal_
      rw [h2, List.take_append_drop]
    · cases h

/-- One byte turned: it does not open. -/
theorem open_set_none (l : List UInt8) (k : Nat) (hk : k < (seal_ l).length) (c : UInt8) (hc : c ≠ (seal_ l)[k]) : open_ ((seal_ l).set k c) = none := by
  rcases ho : open_ ((seal_ l).set k c) with _ | m
  · rfl
  · exfalso
    have hm := open_some ho
    have hlen : (seal_ l).length = l.length + 4 := by simp [seal_, digits_length]
    have hml : m.length = l.length := by
      have := congrArg List.length hm
      rw [List.length_set, hlen] at this
      simp [seal_, digits_length] at this
      exact this.symm
    by_cases hkl : k < l.length
    · have e : (seal_ l).set k c = l.set k c ++ digits (crc l) := by
        unfold seal_; rw [List.set_append_left _ _ hkl]
      rw [e] at hm
      unfold seal_ at hm
      have h2 := List.append_inj hm (by rw [List.length_set, hml])
      have hcl : c ≠ l[k] := by
        intro hh; apply hc; simp only [seal_]; rw [List.getElem_append_left hkl]; exact hh
      have := digits_inj (crc_lt _) (crc_lt _) h2.2
      rw [← h2.1] at this
      exact crc_set_ne l k hkl c hcl this.symm
    · have e : (seal_ l).set k c = l ++ (digits (crc l)).set (k - l.length) c := by
        unfold seal_; rw [List.set_append_right _ _ (by omega)]
      rw [e] at hm
      unfold seal_ at hm
      have h2 := List.append_inj hm hml.symm
      have h3 := h2.2
      rw [← h2.1] at h3
      have hkd : k - l.length < (digits (crc l)).length := by rw [digits_length]; omega
      have h4 : ((digits (crc l)).set (k - l.length) c)[k - l.length]'(by rw [List.length_set]; exact hkd) = (digits (crc l))[k - l.length] := by
        congr 1
      rw [List.getElem_set_self] at h4
      apply hc
      simp only [seal_]
      rw [List.getElem_append_right (by omega)]
      exact h4

end Go.Proofs.YtgmemdedpklnhaaGreat.CrcMath

/-
  PLAIN LAW OF COLUMNS, chapter 9: values as bytes, over lists. No program in sight.
-/






namespace Go.Proofs.YtgmemdedpklnhaaGreat.VecMath
open ValMath

def flag (b : Bool) : Nat := if b then 1 else 0
def cnt (n : Nat) : List UInt8 := VarMath.enc n
def packed (w : Nat) (xs : List Nat) : List UInt8 := BitMath.bytes ((xs.length * w + 7) / 8) (BitMath.all w xs)
def width (n : Nat) : Nat := BitMath.len 64 n
/-- One value that is not null. -/
def scalar (v : Val) : List UInt8 :=
  if v.k = 1 then VarMath.enc (VarMath.zig v.i) else if v.k = 2 then [UInt8.ofNat (flag v.b)] else cnt v.s.size ++ v.s.data.toList
def isNull (v : Val) : Bool := decide ((clean v).k = 0)
def nulls (vs : List Val) : List Nat := vs.map fun v => flag (isNull v)
def somes (vs : List Val) : List Val := (vs.filter fun v => !isNull v).map clean
/-- The three encodings, of values that are clean and not null. -/
def encPlain (k : Int) (vs : List Val) : List UInt8 := if k = 2 then packed 1 (vs.map fun v => flag v.b) else vs.flatMap scalar
def encRuns (vs : List Val) : List UInt8 := cnt (cut vs).length ++ (cut vs).flatMap fun p => cnt p.1 ++ scalar p.2
def encWords (vs : List Val) : List UInt8 := cnt (build vs).1.length ++ (build vs).1.flatMap scalar ++ packed (width ((build vs).1.length - 1)) (build vs).2
def best3 (p r w : List UInt8) : Nat × List UInt8 :=
  if r.length < p.length then (if w.length < r.length then (2, w) else (1, r)) else (if w.length < p.length then (2, w) else (0, p))
def best (k : Int) (vs : List Val) : Nat × List UInt8 := best3 (encPlain k (somes vs)) (encRuns (somes vs)) (encWords (somes vs))
def body (k : Int) (vs : List Val) : List UInt8 := [UInt8.ofNat (best k vs).1] ++ cnt vs.length ++ packed 1 (nulls vs) ++ (best k vs).2
/-- Is a value null, or of a kind, and not too long? -/
def fits (k : Int) (v : Val) : Bool :=
  decide ((clean v).k = 0) || (decide ((clean v).k = k) && decide ((clean v).s.size ≤ 64) && UtfMath.valid (clean v).s.data.toList)
def mayErr (k : Int) (vs : List Val) : Nat := if k < 1 ∨ 3 < k then 900 else if 4096 < vs.length then 901 else if vs.all (fits k) then 0 else 901
def put (k : Int) (vs : List Val) : List UInt8 := if mayErr k vs = 0 then CrcMath.seal_ (body k vs) else []
def encOf (k : Int) (vs : List Val) : Nat := if mayErr k vs = 0 then (best k vs).1 else 0

/-! ### A reader -/
structure Rd where
  s : List UInt8
  at_ : Nat
  bad : Bool

def Rd.rest (r : Rd) : List UInt8 := r.s.drop r.at_
def Rd.fail (r : Rd) : Rd := { r with bad := true }
def Rd.step (r : Rd) (n : Nat) : Rd := { r with at_ := r.at_ + n }
/-- The next bytes. -/
def rdBytes (n : Nat) (r : Rd) : List UInt8 × Rd := if r.bad = true ∨ r.s.length < r.at_ + n then ([], r.fail) else (r.rest.take n, r.step n)
/-- A count. -/
def rdNum (most : Nat) (r : Rd) : Nat × Rd :=
  if r.bad = true ∨ (VarMath.get 63 r.rest).2.2 ≠ 0 ∨ most < (VarMath.get 63 r.rest).1 then (0, r.fail) else ((VarMath.get 63 r.rest).1, r.step (VarMath.get 63 r.rest).2.1)
def rdVal (k : Int) (r : Rd) : Val × Rd :=
  if k = 1 then
    (if r.bad = true ∨ (VarMath.get 64 r.rest).2.2 ≠ 0 then (nul, r.fail) else (⟨1, VarMath.zag (VarMath.get 64 r.rest).1, false, ByteArray.empty⟩, r.step (VarMath.get 64 r.rest).2.1))
  else if k = 2 then (⟨2, 0, decide ((rdBytes 1 r).1 = [1]), ByteArray.empty⟩, (rdBytes 1 r).2)
  else (⟨k, 0, false, ⟨(rdBytes (rdNum 64 r).1 (rdNum 64 r).2).1.toArray⟩⟩, (rdBytes (rdNum 64 r).1 (rdNum 64 r).2).2)

/-- So the reader stands ahead of these bytes, and nothing was amiss. -/
def Ahead (r : Rd) (l : List UInt8) : Prop := r.bad = false ∧ r.at_ ≤ r.s.length ∧ r.rest = l
theorem Ahead.len {r : Rd} {l : List UInt8} (h : Ahead r l) : r.s.length = r.at_ + l.length := by
  have := congrArg List.length h.2.2
  unfold Rd.rest at this
  rw [List.length_drop] at this
  have := h.2.1
  omega
theorem Ahead.step {r : Rd} {l m : List UInt8} (h : Ahead r (l ++ m)) : Ahead (r.step l.length) m := by
  have hl := h.len
  rw [List.length_append] at hl
  refine ⟨h.1, by show r.at_ + l.length ≤ r.s.length; omega, ?_⟩
  show r.s.drop (r.at_ + l.length) = m
  rw [← List.drop_drop, show r.s.drop r.at_ = l ++ m from h.2.2, List.drop_left]

theorem rdBytes_ok {r : Rd} {l m : List UInt8} (h : Ahead r (l ++ m)) : rdBytes l.length r = (l, r.step l.length) := by
  have hl := h.len
  rw [List.length_append] at hl
  unfold rdBytes
  rw [if_neg (by rw [h.1]; simp; omega), h.2.2, List.take_left]

theorem get_enc {bits n : Nat} (hb : n < 2 ^ bits) (hn : n < 18446744073709551616) (m : List UInt8) : VarMath.get bits (VarMath.enc n ++ m) = (n, (VarMath.enc n).length, 0) :=
  VarMath.get_put (VarMath.fits hn) hb (Nat.le_refl _) m

theorem rdNum_ok {r : Rd} {n most : Nat} {m : List UInt8} (h : Ahead r (cnt n ++ m)) (hn : n ≤ most) (hm : most < 9223372036854775808) : rdNum most r = (n, r.step (cnt n).length) := by
  unfold rdNum
  rw [h.2.2]
  unfold cnt at *
  rw [get_enc (bits := 63) (by omega) (by omega) m, if_neg]
  rw [h.1]; simp; omega

theorem flag_one (b : Bool) : decide ([UInt8.ofNat (flag b)] = [1]) = b := by cases b <;> decide

/-- May a value be written as a scalar of this kind? -/
def Scal (k : Int) (v : Val) : Prop := clean v = v ∧ v.k = k ∧ -9223372036854775808 ≤ v.i ∧ v.i < 9223372036854775808 ∧ v.s.size ≤ 64

theorem rdVal_ok {r : Rd} {k : Int} {v : Val} {m : List UInt8} (hk : k = 1 ∨ k = 2 ∨ k = 3) (hv : Scal k v) (h : Ahead r (scalar v ++ m)) : rdVal k r = (v, r.step (scalar v).length) := by
  obtain ⟨hc, hkk, hi1, hi2, hs⟩ := hv
  obtain ⟨vk, vi, vb, vs⟩ := v
  simp only [] at hkk hi1 hi2 hs
  subst hkk
  unfold rdVal
  rcases hk with hk | hk | hk
  · subst hk
    have hc' : vb = false ∧ vs = ByteArray.empty := by
      have := hc; unfold clean at this; simp at this; exact ⟨this.1, this.2.symm⟩
    obtain ⟨rfl, rfl⟩ := hc'
    have hsc : scalar ⟨1, vi, false, ByteArray.empty⟩ = VarMath.enc (VarMath.zig vi) := by simp [scalar]
    rw [hsc] at h ⊢
    have hz := VarMath.zig_lt hi1 hi2
    rw [if_pos rfl, h.2.2, get_enc (bits := 64) (by omega) hz m, if_neg (by rw [h.1]; simp)]
    simp only [VarMath.zag_zig]
  · subst hk
    have hc' : vi = 0 ∧ vs = ByteArray.empty := by
      have := hc; unfold clean at this; simp at this; exact ⟨this.1.symm, this.2.symm⟩
    obtain ⟨rfl, rfl⟩ := hc'
    have hsc : scalar ⟨2, 0, vb, ByteArray.empty⟩ = [UInt8.ofNat (flag vb)] := by simp [scalar]
    rw [hsc] at h ⊢
    have hrb : rdBytes 1 r = ([UInt8.ofNat (flag vb)], r.step 1) := rdBytes_ok (l := [UInt8.ofNat (flag vb)]) h
    rw [if_neg (by decide), if_pos rfl, hrb]
    simp only [flag_one]; rfl
  · subst hk
    have hc' : vi = 0 ∧ vb = false := by
      have := hc; unfold clean at this; simp at this; exact ⟨this.1.symm, this.2⟩
    obtain ⟨rfl, rfl⟩ := hc'
    have hsc : scalar ⟨3, 0, false, vs⟩ = cnt vs.size ++ vs.data.toList := by simp [scalar]
    rw [hsc] at h ⊢
    rw [List.append_assoc] at h
    have hst := h.step
    have hsz : vs.data.toList.length = vs.size := by simp
    rw [if_neg (by decide), if_neg (by decide), rdNum_ok h hs (by omega)]
    have := rdBytes_ok hst
    rw [hsz] at this
    simp only [this]
    have e : (r.step (cnt vs.size).length).step vs.size = r.step (cnt vs.size ++ vs.data.toList).length := by
      unfold Rd.step; simp; omega
    rw [e]
end Go.Proofs.YtgmemdedpklnhaaGreat.VecMath

/-
  PLAIN LAW OF COLUMNS, the way back, chapter 9: bytes as values, over lists; what was written reads as it was. No program in sight.
-/

namespace Go.Proofs.YtgmemdedpklnhaaGreat.VecMath
open ValMath

/-- Numbers out of bytes; none: the bytes' length is not theirs, or a bit beyond is set. -/
def unpack (s : List UInt8) (many w : Nat) : Option (List Nat) :=
  if s.length = (many * w + 7) / 8 ∧ BitMath.num s < 2 ^ (many * w) then some ((List.range many).map fun i => BitMath.num s / 2 ^ (w * i) % 2 ^ w) else none
theorem unpack_length {s : List UInt8} {many w : Nat} {xs : List Nat} (h : unpack s many w = some xs) : xs.length = many := by
  unfold unpack at h; split at h
  · injection h with h; subst h; simp
  · cases h
theorem unpack_lt {s : List UInt8} {many w : Nat} {xs : List Nat} (h : unpack s many w = some xs) : ∀ x ∈ xs, x < 2 ^ w := by
  unfold unpack at h; split at h
  · injection h with h; subst h
    intro x hx
    simp at hx; obtain ⟨i, _, rfl⟩ := hx
    exact Nat.mod_lt _ (Nat.pow_pos (by omega))
  · cases h
theorem packed_length (w : Nat) (xs : List Nat) : (packed w xs).length = (xs.length * w + 7) / 8 := BitMath.bytes_length _ _
theorem all_fits {w : Nat} {xs : List Nat} (h : ∀ x ∈ xs, x < 2 ^ w) : BitMath.all w xs < 256 ^ ((xs.length * w + 7) / 8) := by
  have := BitMath.all_lt h
  rw [BitMath.p256]
  refine Nat.lt_of_lt_of_le this (Nat.pow_le_pow_right (by omega) ?_)
  rw [Nat.mul_comm]; omega
theorem num_packed {w : Nat} {xs : List Nat} (h : ∀ x ∈ xs, x < 2 ^ w) : BitMath.num (packed w xs) = BitMath.all w xs := BitMath.num_bytes (all_fits h)
theorem unpack_packed {w : Nat} {xs : List Nat} (h : ∀ x ∈ xs, x < 2 ^ w) : unpack (packed w xs) xs.length w = some xs := by
  unfold unpack
  rw [num_packed h, if_pos ⟨packed_length w xs, by have := BitMath.all_lt h; rwa [Nat.mul_comm] at this⟩]
  congr 1
  apply List.ext_getElem
  · simp
  · intro i h1 h2
    simp only [List.getElem_map, List.getElem_range]
    rw [BitMath.all_at h i h2, List.getD_eq_getElem?_getD, List.getElem?_eq_getElem h2]; rfl

/-! ### What the program reads -/
def readVals (k : Int) : Nat → Rd → List Val × Rd
  | 0, r => ([], r)
  | n + 1, r => ((readVals k n r).1 ++ [(rdVal k (readVals k n r).2).1], (rdVal k (readVals k n r).2).2)
theorem readVals_length (k : Int) (n : Nat) (r : Rd) : (readVals k n r).1.length = n := by
  induction n with
  | zero => rfl
  | succ n ih => simp [readVals, ih]
theorem Ahead.nil {r : Rd} {m : List UInt8} (h : Ahead r ([] ++ m)) : Ahead r m := h
theorem step_step (r : Rd) (a b : Nat) : (r.step a).step b = r.step (a + b) := by unfold Rd.step; simp; omega
theorem step_zero (r : Rd) : r.step 0 = r := rfl
theorem scalars_snoc (vs : List Val) (v : Val) : (vs ++ [v]).flatMap scalar = vs.flatMap scalar ++ scalar v := by simp
theorem readVals_ok {r : Rd} {k : Int} {vs : List Val} {m : List UInt8} (hk : k = 1 ∨ k = 2 ∨ k = 3) (hv : ∀ v ∈ vs, Scal k v) (h : Ahead r (vs.flatMap scalar ++ m)) :
    readVals k vs.length r = (vs, r.step (vs.flatMap scalar).length) := by
  induction vs using snoc_ind generalizing m with
  | h0 => rfl
  | h1 vs v ih =>
    rw [scalars_snoc, List.append_assoc] at h
    have i := ih (fun u hu => hv u (by simp [hu])) h
    rw [List.length_append, List.length_singleton]
    simp only [readVals, i]
    rw [rdVal_ok hk (hv v (by simp)) h.step, scalars_snoc, step_step, List.length_append]

def rdPackedP (many w : Nat) (r : Rd) : List Nat × Rd :=
  match unpack (rdBytes ((many * w + 7) / 8) r).1 many w with
  | some xs => (xs, (rdBytes ((many * w + 7) / 8) r).2)
  | none => ([], (rdBytes ((many * w + 7) / 8) r).2.fail)
theorem rdPackedP_ok {r : Rd} {w : Nat} {xs : List Nat} {m : List UInt8} (hx : ∀ x ∈ xs, x < 2 ^ w) (h : Ahead r (packed w xs ++ m)) : rdPackedP xs.length w r = (xs, r.step (packed w xs).length) := by
  have hb := rdBytes_ok h
  rw [packed_length] at hb
  unfold rdPackedP
  rw [hb, packed_length]
  simp only [unpack_packed hx]

/-- A run's value laid where its places stand open. -/
def fill (out : List Val) (v : Val) : List Val :=
  (out.reverse.dropWhile (fun u => decide (u.k = 0))).reverse ++ List.replicate (out.reverse.takeWhile (fun u => decide (u.k = 0))).length v
theorem fill_length (out : List Val) (v : Val) : (fill out v).length = out.length := by
  unfold fill
  have := congrArg List.length (List.takeWhile_append_dropWhile (p := fun u : Val => decide (u.k = 0)) (l := out.reverse))
  rw [List.length_append, List.length_reverse] at this
  rw [List.length_append, List.length_reverse, List.length_replicate]; omega
theorem fill_run {out : List Val} {v : Val} {c : Nat} (h : ∀ u ∈ out, u.k ≠ 0) : fill (out ++ List.replicate c nul) v = out ++ List.replicate c v := by
  have h1 : (out ++ List.replicate c nul).reverse = List.replicate c nul ++ out.reverse := by simp
  have h2 : (List.replicate c nul ++ out.reverse).takeWhile (fun u => decide (u.k = 0)) = List.replicate c nul := by
    induction c with
    | zero =>
      simp
      cases hr : out.reverse with
      | nil => rfl
      | cons a l =>
        have : a ∈ out := by rw [← List.mem_reverse, hr]; simp
        simp [List.takeWhile, h a this]
    | succ c ih => rw [List.replicate_succ, List.cons_append, List.takeWhile_cons]; simp [nul]; simpa [nul] using ih (by simp)
  have h3 : (List.replicate c nul ++ out.reverse).dropWhile (fun u => decide (u.k = 0)) = out.reverse := by
    have := List.takeWhile_append_dropWhile (p := fun u : Val => decide (u.k = 0)) (l := List.replicate c nul ++ out.reverse)
    rw [h2] at this
    exact List.append_cancel_left this
  unfold fill
  rw [h1, h2, h3]; simp

/-- One run more. -/
def runStep (k : Int) (many : Nat) (s : List Val × Rd) : List Val × Rd :=
  let c := rdNum (many - s.1.length) s.2
  let v := rdVal k c.2
  (fill (s.1 ++ List.replicate c.1 nul) v.1, v.2)
def runsP (k : Int) (many : Nat) : Nat → Rd → List Val × Rd
  | 0, r => ([], r)
  | n + 1, r => runStep k many (runsP k many n r)
theorem rdNum_le (most : Nat) (r : Rd) : (rdNum most r).1 ≤ most := by
  unfold rdNum; split
  · simp
  · simp only []; omega
theorem runsP_length (k : Int) (many n : Nat) (r : Rd) : (runsP k many n r).1.length ≤ many := by
  induction n with
  | zero => simp [runsP]
  | succ n ih =>
    simp only [runsP, runStep]
    rw [fill_length]
    have := rdNum_le (many - (runsP k many n r).1.length) (runsP k many n r).2
    simp; omega
def runBytes (p : Nat × Val) : List UInt8 := cnt p.1 ++ scalar p.2
theorem runBytes_snoc (acc : List (Nat × Val)) (p : Nat × Val) : (acc ++ [p]).flatMap runBytes = acc.flatMap runBytes ++ runBytes p := by simp
theorem runsP_ok {r : Rd} {k : Int} {acc : List (Nat × Val)} {m : List UInt8} {many : Nat} (hk : k = 1 ∨ k = 2 ∨ k = 3) (hv : ∀ p ∈ acc, Scal k p.2) (hm : many < 9223372036854775808) (hl : (spread acc).length ≤ many)
    (h : Ahead r (acc.flatMap runBytes ++ m)) : runsP k many acc.length r = (spread acc, r.step (acc.flatMap runBytes).length) := by
  induction acc using snoc_ind generalizing m with
  | h0 => rfl
  | h1 acc p ih =>
    rw [runBytes_snoc, List.append_assoc] at h
    rw [spread_append, spread_one, List.length_append, List.length_replicate] at hl
    have i := ih (fun u hu => hv u (by simp [hu])) (by omega) h
    have hst := h.step
    rw [show runBytes p = cnt p.1 ++ scalar p.2 from rfl, List.append_assoc] at hst
    rw [List.length_append, List.length_singleton]
    simp only [runsP, runStep, i]
    have e1 := rdNum_ok (most := many - (spread acc).length) hst (by omega) (by omega)
    have e2 := rdVal_ok hk (hv p (by simp)) hst.step
    simp only [e1, e2]
    rw [fill_run, spread_append, spread_one, step_step, step_step, runBytes_snoc, List.length_append]
    · rw [show runBytes p = cnt p.1 ++ scalar p.2 from rfl, List.length_append]
    · intro u hu e
      unfold spread at hu
      simp only [List.mem_flatMap, List.mem_replicate] at hu
      obtain ⟨q, hq, _, rfl⟩ := hu
      have := (hv q (by simp [hq])).2.1
      omega

def wordsP (k : Int) (many : Nat) (r : Rd) : List Val × Rd :=
  let c := rdNum many r
  let ws := readVals k c.1 c.2
  let at_ := rdPackedP many (width (ws.1.length - 1)) ws.2
  match look ws.1 (iat at_.1) with
  | some out => (out, at_.2)
  | none => ([], at_.2.fail)
/-- Values that are not null. -/
def someP (k : Int) (enc many : Nat) (r : Rd) : List Val × Rd :=
  if enc = 0 then (if k = 2 then ((rdPackedP many 1 r).1.map fun x => ⟨2, 0, decide (x = 1), ByteArray.empty⟩, (rdPackedP many 1 r).2) else readVals k many r)
  else if enc = 1 then runsP k many (rdNum many r).1 (rdNum many r).2
  else if enc = 2 then wordsP k many r
  else ([], r)

/-! ### What the document's answer reads -/
def readValsR (k : Int) : Nat → Rd → List Val × Rd
  | 0, r => ([], r)
  | n + 1, r => if (readValsR k n r).2.bad then readValsR k n r else ((readValsR k n r).1 ++ [(rdVal k (readValsR k n r).2).1], (rdVal k (readValsR k n r).2).2)
theorem readValsR_length (k : Int) (n : Nat) (r : Rd) : (readValsR k n r).1.length ≤ n := by
  induction n with
  | zero => simp [readValsR]
  | succ n ih => simp only [readValsR]; split <;> first | omega | (simp; omega)
theorem readValsR_ok {r : Rd} {k : Int} {vs : List Val} {m : List UInt8} (hk : k = 1 ∨ k = 2 ∨ k = 3) (hv : ∀ v ∈ vs, Scal k v) (h : Ahead r (vs.flatMap scalar ++ m)) :
    readValsR k vs.length r = (vs, r.step (vs.flatMap scalar).length) := by
  induction vs using snoc_ind generalizing m with
  | h0 => rfl
  | h1 vs v ih =>
    rw [scalars_snoc, List.append_assoc] at h
    have i := ih (fun u hu => hv u (by simp [hu])) h
    rw [List.length_append, List.length_singleton]
    simp only [readValsR, i]
    rw [if_neg (by rw [h.step.1]; simp), rdVal_ok hk (hv v (by simp)) h.step, scalars_snoc, step_step, List.length_append]
def rdPackedR (many w : Nat) (r : Rd) : List Nat × Rd :=
  if r.bad = true ∨ 4096 < many then ([], r.fail) else rdPackedP many w r
theorem rdPackedR_good {many w : Nat} {r : Rd} (hb : r.bad = false) (hm : many ≤ 4096) : rdPackedR many w r = rdPackedP many w r := by
  unfold rdPackedR; rw [if_neg (by rw [hb]; simp; omega)]
def runStepR (k : Int) (many : Nat) (s : List Val × Rd) : List Val × Rd :=
  if s.2.bad then s else
  let c := rdNum 4096 s.2
  let v := rdVal k c.2
  (s.1 ++ List.replicate (min c.1 (many - s.1.length)) v.1, v.2)
def runsR (k : Int) (many : Nat) : Nat → Rd → List Val × Rd
  | 0, r => ([], r)
  | n + 1, r => runStepR k many (runsR k many n r)
theorem runsR_ok {r : Rd} {k : Int} {acc : List (Nat × Val)} {m : List UInt8} {many : Nat} (hk : k = 1 ∨ k = 2 ∨ k = 3) (hv : ∀ p ∈ acc, Scal k p.2) (hm : many ≤ 4096) (hl : (spread acc).length ≤ many)
    (h : Ahead r (acc.flatMap runBytes ++ m)) : runsR k many acc.length r = (spread acc, r.step (acc.flatMap runBytes).length) := by
  induction acc using snoc_ind generalizing m with
  | h0 => rfl
  | h1 acc p ih =>
    rw [runBytes_snoc, List.append_assoc] at h
    rw [spread_append, spread_one, List.length_append, List.length_replicate] at hl
    have i := ih (fun u hu => hv u (by simp [hu])) (by omega) h
    have hst := h.step
    have hbad := hst.1
    rw [show runBytes p = cnt p.1 ++ scalar p.2 from rfl, List.append_assoc] at hst
    rw [List.length_append, List.length_singleton]
    simp only [runsR, runStepR, i]
    rw [if_neg (by rw [hbad]; simp)]
    have e1 := rdNum_ok (most := 4096) hst (by omega) (by omega)
    have e2 := rdVal_ok hk (hv p (by simp)) hst.step
    simp only [e1, e2]
    rw [Nat.min_eq_left (by omega), spread_append, spread_one, step_step, step_step, runBytes_snoc, List.length_append]
    rw [show runBytes p = cnt p.1 ++ scalar p.2 from rfl, List.length_append]
theorem runsR_length (k : Int) (many n : Nat) (r : Rd) : (runsR k many n r).1.length ≤ many := by
  induction n with
  | zero => simp [runsR]
  | succ n ih =>
    simp only [runsR, runStepR]
    split
    · exact ih
    · simp; omega
/-- Words at their places, up to the first that is none. -/
def placesR (ws : List Val) : List Nat → Rd → List Val × Rd
  | [], r => ([], r)
  | a :: l, r => if r.bad = true then ([], r) else if ws.length ≤ a then ([], r.fail) else (ws.getD a nul :: (placesR ws l r).1, (placesR ws l r).2)
theorem placesR_ok {ws : List Val} {at_ : List Nat} {r : Rd} (h : ∀ a ∈ at_, a < ws.length) (hb : r.bad = false) : placesR ws at_ r = (at_.map fun a => ws.getD a nul, r) := by
  induction at_ with
  | nil => rfl
  | cons a l ih =>
    have ha := h a (by simp)
    simp only [placesR, ih (fun b hb' => h b (by simp [hb'])), List.map_cons]
    rw [if_neg (by rw [hb]; simp), if_neg (by omega)]
def wordsR (k : Int) (many : Nat) (r : Rd) : List Val × Rd :=
  let c := rdNum 4096 r
  let ws := readValsR k c.1 c.2
  let at_ := rdPackedR many (width (c.1 - 1)) ws.2
  placesR ws.1 at_.1 at_.2
def someR (k : Int) (enc many : Nat) (r : Rd) : List Val × Rd :=
  if enc = 1 then runsR k many (rdNum 4096 r).1 (rdNum 4096 r).2
  else if enc = 2 then wordsR k many r
  else if k = 2 then ((rdPackedR many 1 r).1.map fun x => ⟨2, 0, decide (x = 1), ByteArray.empty⟩, (rdPackedR many 1 r).2) else readValsR k many r

/-! ### What was written, read -/
theorem width_lt {n : Nat} (h : n < 18446744073709551616) : n < 2 ^ width n := (BitMath.len_le (n := 64) (by simpa using h)).1 (Nat.le_refl _)
theorem flags_lt (vs : List Val) : ∀ x ∈ vs.map (fun v => flag v.b), x < 2 ^ 1 := by
  intro x hx; simp at hx; obtain ⟨v, _, rfl⟩ := hx; unfold flag; split <;> omega
theorem bools_back {vs : List Val} (hv : ∀ v ∈ vs, Scal 2 v) : ((vs.map fun v => flag v.b).map fun x => (⟨2, 0, decide (x = 1), ByteArray.empty⟩ : Val)) = vs := by
  induction vs with
  | nil => rfl
  | cons v vs ih =>
    have h := hv v (by simp)
    simp only [List.map_cons]
    rw [ih (fun u hu => hv u (by simp [hu]))]
    congr 1
    obtain ⟨hc, hk, _⟩ := h
    obtain ⟨vk, vi, vb, vs'⟩ := v
    simp only [] at hk
    subst hk
    have := hc; unfold clean at this; simp at this
    rw [← this.1, ← this.2]
    cases vb <;> rfl
theorem cut_scal {k : Int} {vs : List Val} (hv : ∀ v ∈ vs, Scal k v) : ∀ p ∈ cut vs, Scal k p.2 := by
  induction vs using snoc_ind with
  | h0 => simp [cut]
  | h1 vs v ih =>
    have hi := ih (fun u hu => hv u (by simp [hu]))
    have hvv := hv v (by simp)
    rw [cut_snoc]
    intro p hp
    unfold push at hp
    split at hp
    · rw [List.mem_append] at hp
      rcases hp with hp | hp
      · exact hi p (List.dropLast_subset _ hp)
      · simp at hp; subst hp; rw [hvv.1]; exact hvv
    · rw [List.mem_append] at hp
      rcases hp with hp | hp
      · exact hi p hp
      · simp at hp; subst hp; rw [hvv.1]; exact hvv
theorem build_scal {k : Int} {vs : List Val} (hv : ∀ v ∈ vs, Scal k v) : ∀ u ∈ (build vs).1, Scal k u := by
  intro u hu
  obtain ⟨v, hv', rfl⟩ := (build_ws_mem vs u).1 hu
  rw [(hv v hv').1]; exact hv v hv'
theorem scal_clean {k : Int} {vs : List Val} (hv : ∀ v ∈ vs, Scal k v) : vs.map clean = vs := map_clean_id fun u hu => (hv u hu).1

theorem plain_backP {r : Rd} {k : Int} {vs : List Val} {m : List UInt8} (hk : k = 1 ∨ k = 2 ∨ k = 3) (hv : ∀ v ∈ vs, Scal k v) (h : Ahead r (encPlain k vs ++ m)) : (someP k 0 vs.length r).1 = vs ∧ Ahead (someP k 0 vs.length r).2 m := by
  unfold someP; rw [if_pos rfl]
  unfold encPlain at h
  by_cases h2 : k = 2
  · subst h2
    rw [if_pos rfl] at h ⊢
    have := rdPackedP_ok (flags_lt vs) h
    rw [List.length_map] at this
    rw [this]
    exact ⟨bools_back hv, h.step⟩
  · rw [if_neg h2] at h ⊢
    rw [readVals_ok hk hv h]
    exact ⟨rfl, h.step⟩
theorem runs_backP {r : Rd} {k : Int} {vs : List Val} {m : List UInt8} (hk : k = 1 ∨ k = 2 ∨ k = 3) (hv : ∀ v ∈ vs, Scal k v) (hl : vs.length ≤ 4096) (h : Ahead r (encRuns vs ++ m)) : (someP k 1 vs.length r).1 = vs ∧ Ahead (someP k 1 vs.length r).2 m := by
  unfold someP; rw [if_neg (by decide), if_pos rfl]
  unfold encRuns at h
  rw [List.append_assoc] at h
  have hcl := cut_length vs
  rw [rdNum_ok h hcl (by omega)]
  have hsp := spread_cut vs
  rw [scal_clean hv] at hsp
  have h' := h.step
  have hr := runsP_ok (acc := cut vs) (many := vs.length) hk (cut_scal hv) (by omega) (by rw [hsp]; exact Nat.le_refl _) h'
  simp only [hr, hsp]
  exact ⟨trivial, h'.step⟩
theorem words_backP {r : Rd} {k : Int} {vs : List Val} {m : List UInt8} (hk : k = 1 ∨ k = 2 ∨ k = 3) (hv : ∀ v ∈ vs, Scal k v) (hl : vs.length ≤ 4096) (h : Ahead r (encWords vs ++ m)) : (someP k 2 vs.length r).1 = vs ∧ Ahead (someP k 2 vs.length r).2 m := by
  unfold someP; rw [if_neg (by decide), if_neg (by decide), if_pos rfl]
  unfold encWords at h
  rw [List.append_assoc, List.append_assoc] at h
  have hwl := build_ws_length vs
  have h1 := h.step
  have h2 := h1.step
  have e2 := readVals_ok hk (build_scal hv) h1
  have hx : ∀ x ∈ (build vs).2, x < 2 ^ width ((build vs).1.length - 1) := by
    intro x hx
    have := build_at_lt vs x hx
    have := width_lt (n := (build vs).1.length - 1) (by omega)
    omega
  have e3 := rdPackedP_ok hx h2
  rw [build_at_length] at e3
  have hlook := look_build vs
  rw [scal_clean hv] at hlook
  unfold wordsP
  simp only [rdNum_ok h hwl (show vs.length < 9223372036854775808 by omega), e2, e3, hlook]
  exact ⟨trivial, h2.step⟩

theorem plain_backR {r : Rd} {k : Int} {vs : List Val} {m : List UInt8} (hk : k = 1 ∨ k = 2 ∨ k = 3) (hv : ∀ v ∈ vs, Scal k v) (hl : vs.length ≤ 4096) (h : Ahead r (encPlain k vs ++ m)) : (someR k 0 vs.length r).1 = vs ∧ Ahead (someR k 0 vs.length r).2 m := by
  unfold someR; rw [if_neg (by decide), if_neg (by decide)]
  unfold encPlain at h
  by_cases h2 : k = 2
  · subst h2
    rw [if_pos rfl] at h ⊢
    have := rdPackedP_ok (flags_lt vs) h
    rw [List.length_map] at this
    unfold rdPackedR
    rw [if_neg (by rw [h.1]; simp; omega), this]
    exact ⟨bools_back hv, h.step⟩
  · rw [if_neg h2] at h ⊢
    rw [readValsR_ok hk hv h]
    exact ⟨rfl, h.step⟩
theorem runs_backR {r : Rd} {k : Int} {vs : List Val} {m : List UInt8} (hk : k = 1 ∨ k = 2 ∨ k = 3) (hv : ∀ v ∈ vs, Scal k v) (hl : vs.length ≤ 4096) (h : Ahead r (encRuns vs ++ m)) : (someR k 1 vs.length r).1 = vs ∧ Ahead (someR k 1 vs.length r).2 m := by
  unfold someR; rw [if_pos rfl]
  unfold encRuns at h
  rw [List.append_assoc] at h
  have hcl := cut_length vs
  rw [rdNum_ok (most := 4096) h (by omega) (by omega)]
  have hsp := spread_cut vs
  rw [scal_clean hv] at hsp
  have h' := h.step
  have hr := runsR_ok (acc := cut vs) (many := vs.length) hk (cut_scal hv) hl (by rw [hsp]; exact Nat.le_refl _) h'
  simp only [hr, hsp]
  exact ⟨trivial, h'.step⟩
theorem words_backR {r : Rd} {k : Int} {vs : List Val} {m : List UInt8} (hk : k = 1 ∨ k = 2 ∨ k = 3) (hv : ∀ v ∈ vs, Scal k v) (hl : vs.length ≤ 4096) (h : Ahead r (encWords vs ++ m)) : (someR k 2 vs.length r).1 = vs ∧ Ahead (someR k 2 vs.length r).2 m := by
  unfold someR; rw [if_neg (by decide), if_pos rfl]
  unfold encWords at h
  rw [List.append_assoc, List.append_assoc] at h
  have hwl := build_ws_length vs
  have h1 := h.step
  have h2 := h1.step
  have e2 := readValsR_ok hk (build_scal hv) h1
  have hx : ∀ x ∈ (build vs).2, x < 2 ^ width ((build vs).1.length - 1) := by
    intro x hx
    have := build_at_lt vs x hx
    have := width_lt (n := (build vs).1.length - 1) (by omega)
    omega
  have e3 := rdPackedP_ok hx h2
  rw [build_at_length] at e3
  have hpl := placesR_ok (r := ((r.step (cnt (build vs).1.length).length).step ((build vs).1.flatMap scalar).length).step (packed (width ((build vs).1.length - 1)) (build vs).2).length) (build_at_lt vs) h.1
  have hbw := build_words vs
  rw [scal_clean hv] at hbw
  unfold wordsR
  simp only [rdNum_ok (most := 4096) h (by omega) (by omega), e2]
  unfold rdPackedR
  rw [if_neg (by rw [h2.1]; simp; omega), e3]
  simp only [hpl, hbw]
  exact ⟨trivial, h2.step⟩
/-- The values put together again: a null where the list says so. -/
def weave : List Nat → List Val → List Val
  | [], _ => []
  | x :: l, vs => if x = 1 then nul :: weave l vs else vs.headD nul :: weave l vs.tail
theorem flag_true : flag true = 1 := rfl
theorem flag_false : flag false = 0 := rfl
theorem null_nul_of {v : Val} (h : isNull v = true) : clean v = nul := by
  unfold isNull at h
  have h := of_decide_eq_true h
  rcases clean_form v with ⟨n, e⟩ | ⟨t, e⟩ | ⟨t, e⟩ | e
  · rw [e] at h; exact absurd (show (1 : Int) = 0 from h) (by decide)
  · rw [e] at h; exact absurd (show (2 : Int) = 0 from h) (by decide)
  · rw [e] at h; exact absurd (show (3 : Int) = 0 from h) (by decide)
  · exact e
theorem weave_back (vs : List Val) : weave (nulls vs) (somes vs) = vs.map clean := by
  induction vs with
  | nil => rfl
  | cons v vs ih =>
    unfold nulls somes at *
    by_cases h : isNull v = true
    · simp only [List.map_cons, weave, List.filter_cons, h]
      simp only [flag_true, if_true, Bool.not_true, Bool.false_eq_true, if_false]
      rw [ih, null_nul_of h]
    · have h' : isNull v = false := by simpa using h
      simp only [List.map_cons, weave, List.filter_cons, h']
      simp only [flag_false, Bool.not_false, if_true, List.map_cons, List.headD_cons, List.tail_cons]
      rw [if_neg (by decide), ih]
theorem weave_length (l : List Nat) (vs : List Val) : (weave l vs).length = l.length := by
  induction l generalizing vs with
  | nil => rfl
  | cons x l ih => simp only [weave]; split <;> simp [ih]
theorem nulls_length (vs : List Val) : (nulls vs).length = vs.length := by simp [nulls]
theorem nulls_lt (vs : List Val) : ∀ x ∈ nulls vs, x < 2 ^ 1 := by
  intro x hx; simp [nulls] at hx; obtain ⟨v, _, rfl⟩ := hx; unfold flag; split <;> omega
/-- How many are not null. -/
def left (l : List Nat) : Nat := (l.filter fun x => decide (x ≠ 1)).length
theorem left_nulls (vs : List Val) : left (nulls vs) = (somes vs).length := by
  unfold left nulls somes
  induction vs with
  | nil => rfl
  | cons v vs ih =>
    by_cases h : isNull v = true
    · simpa [h, flag] using ih
    · have h' : isNull v = false := by simpa using h
      simpa [h', flag] using ih
theorem somes_length (vs : List Val) : (somes vs).length ≤ vs.length := by
  unfold somes; rw [List.length_map]; exact List.length_filter_le _ _

/-- A value's number within int64. -/
def In64 (vs : List Val) : Prop := ∀ v ∈ vs, -9223372036854775808 ≤ v.i ∧ v.i < 9223372036854775808
theorem somes_scal {k : Int} {vs : List Val} (hf : ∀ v ∈ vs, fits k v = true) (hi : In64 vs) : ∀ u ∈ somes vs, Scal k u := by
  intro u hu
  unfold somes at hu
  simp only [List.mem_map, List.mem_filter] at hu
  obtain ⟨v, ⟨hv, hn⟩, rfl⟩ := hu
  have h := hf v hv
  have h64 := hi v hv
  unfold fits at h
  have hn' : ¬ (clean v).k = 0 := by simpa [isNull] using hn
  simp [hn'] at h
  refine ⟨clean_clean v, h.1.1, ?_, ?_, h.1.2⟩
  · rcases clean_form v with ⟨n, e⟩ | ⟨t, e⟩ | ⟨t, e⟩ | e
    · by_cases h1 : v.k = 1
      · simp [clean, h1]; exact h64.1
      · by_cases h2 : v.k = 2
        · simp [clean, h2]
        · by_cases h3 : v.k = 3
          · simp [clean, h3]
          · simp [clean, h1, h2, h3, nul]
    all_goals (rw [e]; simp [nul])
  · rcases clean_form v with ⟨n, e⟩ | ⟨t, e⟩ | ⟨t, e⟩ | e
    · by_cases h1 : v.k = 1
      · simp [clean, h1]; exact h64.2
      · by_cases h2 : v.k = 2
        · simp [clean, h2]
        · by_cases h3 : v.k = 3
          · simp [clean, h3]
          · simp [clean, h1, h2, h3, nul]
    all_goals (rw [e]; simp [nul])

theorem best_cases (p r w : List UInt8) : best3 p r w = (0, p) ∨ best3 p r w = (1, r) ∨ best3 p r w = (2, w) := by
  unfold best3; split <;> split <;> simp
theorem some_backP {r : Rd} {k : Int} {vs : List Val} {m : List UInt8} (hk : k = 1 ∨ k = 2 ∨ k = 3) (hv : ∀ v ∈ somes vs, Scal k v) (hl : (somes vs).length ≤ 4096) (h : Ahead r ((best k vs).2 ++ m)) :
    (someP k (best k vs).1 (somes vs).length r).1 = somes vs ∧ Ahead (someP k (best k vs).1 (somes vs).length r).2 m := by
  unfold best at *
  rcases best_cases (encPlain k (somes vs)) (encRuns (somes vs)) (encWords (somes vs)) with e | e | e
  all_goals rw [e] at h ⊢
  · exact plain_backP hk hv h
  · exact runs_backP hk hv hl h
  · exact words_backP hk hv hl h
theorem some_backR {r : Rd} {k : Int} {vs : List Val} {m : List UInt8} (hk : k = 1 ∨ k = 2 ∨ k = 3) (hv : ∀ v ∈ somes vs, Scal k v) (hl : (somes vs).length ≤ 4096) (h : Ahead r ((best k vs).2 ++ m)) :
    (someR k (best k vs).1 (somes vs).length r).1 = somes vs ∧ Ahead (someR k (best k vs).1 (somes vs).length r).2 m := by
  unfold best at *
  rcases best_cases (encPlain k (somes vs)) (encRuns (somes vs)) (encWords (somes vs)) with e | e | e
  all_goals rw [e] at h ⊢
  · exact plain_backR hk hv hl h
  · exact runs_backR hk hv hl h
  · exact words_backR hk hv hl h

/-- A byte; nought where there is none. -/
def rdByte (r : Rd) : Nat × Rd := (((rdBytes 1 r).1.headD 0).toNat, (rdBytes 1 r).2)
/-- What the program takes a column's bytes for, without their sum; none: they are no form. -/
def decP (k : Int) (s : List UInt8) : Option (List Val) :=
  let e := rdByte ⟨s, 0, false⟩
  let many := rdNum 4096 e.2
  let ns := rdPackedP many.1 1 many.2
  let vs := someP k e.1 (left ns.1) ns.2
  if vs.2.bad = true ∨ ns.1.length ≠ many.1 ∨ vs.1.length ≠ left ns.1 then none else some (weave ns.1 vs.1)
/-- What the document's answer takes them for. -/
def decR (k : Int) (s : List UInt8) : Option (List Val) :=
  if s = [] then none else
  let many := rdNum 4096 ⟨s, 1, false⟩
  let ns := rdPackedR many.1 1 many.2
  let vs := someR k (s.headD 0).toNat (left ns.1) ns.2
  if vs.2.bad = true ∨ vs.1.length ≠ left ns.1 then none else some (weave ns.1 vs.1)

theorem best_fst (k : Int) (vs : List Val) : (best k vs).1 < 3 := by
  unfold best; rcases best_cases (encPlain k (somes vs)) (encRuns (somes vs)) (encWords (somes vs)) with e | e | e <;> rw [e] <;> simp
theorem enc_byte (k : Int) (vs : List Val) : (UInt8.ofNat (best k vs).1).toNat = (best k vs).1 := by
  rw [UInt8.toNat_ofNat']; have := best_fst k vs; omega
theorem ahead_body (k : Int) (vs : List Val) : Ahead ⟨body k vs, 0, false⟩ ([UInt8.ofNat (best k vs).1] ++ (cnt vs.length ++ (packed 1 (nulls vs) ++ ((best k vs).2 ++ [])))) := by
  refine ⟨rfl, Nat.zero_le _, ?_⟩
  unfold Rd.rest body; simp
theorem decP_body {k : Int} {vs : List Val} (hk : k = 1 ∨ k = 2 ∨ k = 3) (hl : vs.length ≤ 4096) (hf : ∀ v ∈ vs, fits k v = true) (hi : In64 vs) : decP k (body k vs) = some (vs.map clean) := by
  have h0 := ahead_body k vs
  have hb : rdBytes 1 ⟨body k vs, 0, false⟩ = _ := rdBytes_ok (l := [UInt8.ofNat (best k vs).1]) h0
  have h1 := h0.step
  have e1 := rdNum_ok (most := 4096) h1 hl (by omega)
  have h2 := h1.step
  have e2 := rdPackedP_ok (nulls_lt vs) h2
  rw [nulls_length] at e2
  have h3 := h2.step
  have hsl := somes_length vs
  have e3 := some_backP hk (somes_scal hf hi) (by omega) h3
  unfold decP rdByte
  simp only [hb, List.headD_cons, enc_byte]
  have e1' : rdNum 4096 (({ s := body k vs, at_ := 0, bad := false } : Rd).step [UInt8.ofNat (best k vs).fst].length) = (vs.length, _) := e1
  simp only [e1', e2, left_nulls]
  rw [if_neg]
  · rw [e3.1, weave_back]
  · rw [e3.2.1, e3.1, nulls_length]; simp
theorem decR_body {k : Int} {vs : List Val} (hk : k = 1 ∨ k = 2 ∨ k = 3) (hl : vs.length ≤ 4096) (hf : ∀ v ∈ vs, fits k v = true) (hi : In64 vs) : decR k (body k vs) = some (vs.map clean) := by
  have h0 := ahead_body k vs
  have h1 := h0.step
  have e1 := rdNum_ok (most := 4096) h1 hl (by omega)
  have h2 := h1.step
  have e2 := rdPackedP_ok (nulls_lt vs) h2
  rw [nulls_length, ← rdPackedR_good h2.1 hl] at e2
  have h3 := h2.step
  have hsl := somes_length vs
  have e3 := some_backR hk (somes_scal hf hi) (by omega) h3
  have hne : body k vs ≠ [] := by unfold body; simp
  have hhd : ((body k vs).headD 0).toNat = (best k vs).1 := by unfold body; simp only [List.append_assoc, List.cons_append, List.headD_cons]; exact enc_byte k vs
  have e1' : rdNum 4096 ({ s := body k vs, at_ := 1, bad := false } : Rd) = (vs.length, _) := e1
  unfold decR
  rw [if_neg hne]
  simp only [e1', hhd, e2, left_nulls]
  rw [if_neg]
  · rw [e3.1, weave_back]
  · rw [e3.2.1, e3.1]; simp

/-- What a column's bytes are taken for: the values, the error's number. -/
def unvec (dec : Int → List UInt8 → Option (List Val)) (k : Int) (s : List UInt8) : List Val × Nat :=
  if k < 1 ∨ 3 < k then ([], 900) else
  match CrcMath.open_ s with
  | none => ([], 902)
  | some b => match dec k b with
    | none => ([], 901)
    | some vs => if mayErr k vs = 0 ∧ put k vs = s then (vs, 0) else ([], 901)

theorem flag_null_clean (v : Val) : isNull (clean v) = isNull v := by unfold isNull; rw [clean_clean]
theorem somes_clean (vs : List Val) : somes (vs.map clean) = somes vs := by
  induction vs with
  | nil => rfl
  | cons v vs ih =>
    unfold somes at ih ⊢
    simp only [List.map_cons, List.filter_cons, flag_null_clean]
    by_cases h : isNull v = true
    · simp only [h, Bool.not_true, Bool.false_eq_true, if_false]; exact ih
    · have h' : isNull v = false := by simpa using h
      simp only [h', Bool.not_false, if_true, List.map_cons, ih, clean_clean]
theorem nulls_clean (vs : List Val) : nulls (vs.map clean) = nulls vs := by
  unfold nulls; rw [List.map_map]
  refine List.map_congr_left fun v _ => ?_
  simp [flag_null_clean]
theorem fits_clean (k : Int) (v : Val) : fits k (clean v) = fits k v := by unfold fits; rw [clean_clean]
theorem best_map_clean (k : Int) (vs : List Val) : best k (vs.map clean) = best k vs := by unfold best; rw [somes_clean]
theorem body_clean (k : Int) (vs : List Val) : body k (vs.map clean) = body k vs := by
  unfold body; rw [best_map_clean, nulls_clean, List.length_map]
theorem mayErr_clean (k : Int) (vs : List Val) : mayErr k (vs.map clean) = mayErr k vs := by
  unfold mayErr
  rw [List.length_map, List.all_map, show (fits k ∘ clean) = fits k from funext fun v => fits_clean k v]
theorem put_clean (k : Int) (vs : List Val) : put k (vs.map clean) = put k vs := by unfold put; rw [mayErr_clean, body_clean]

theorem mayErr_zero {k : Int} {vs : List Val} (h : mayErr k vs = 0) : (k = 1 ∨ k = 2 ∨ k = 3) ∧ vs.length ≤ 4096 ∧ ∀ v ∈ vs, fits k v = true := by
  unfold mayErr at h
  split at h
  · cases h
  · split at h
    · cases h
    · split at h
      · rename_i h3
        exact ⟨by omega, by omega, fun v hv => List.all_eq_true.1 h3 v hv⟩
      · cases h
/-- What was written reads as it was, each value cleaned. -/
theorem unvec_put {dec : Int → List UInt8 → Option (List Val)} {k : Int} {vs : List Val} (hd : dec k (body k vs) = some (vs.map clean)) (h : mayErr k vs = 0) : unvec dec k (put k vs) = (vs.map clean, 0) := by
  have hm := mayErr_zero h
  unfold unvec
  rw [if_neg (by omega)]
  have hp : put k vs = CrcMath.seal_ (body k vs) := by unfold put; rw [if_pos h]
  rw [hp, CrcMath.open_seal]
  simp only [hd]
  rw [if_pos ⟨by rw [mayErr_clean]; exact h, by rw [put_clean]; exact hp⟩]
theorem unvec_good {dec : Int → List UInt8 → Option (List Val)} {k : Int} {s : List UInt8} {vs : List Val} (h : unvec dec k s = (vs, 0)) : mayErr k vs = 0 ∧ put k vs = s := by
  unfold unvec at h
  split at h
  · cases h
  · split at h
    · cases h
    · split at h
      · cases h
      · split at h
        · rename_i hh
          injection h with h1 _
          subst h1; exact hh
        · cases h
theorem unvec_bad {dec : Int → List UInt8 → Option (List Val)} {k : Int} {s : List UInt8} (h : (unvec dec k s).2 ≠ 0) : (unvec dec k s).1 = [] := by
  unfold unvec at h ⊢
  split
  · rfl
  · rename_i hk
    rw [if_neg hk] at h
    split
    · rfl
    · rename_i b hb
      simp only [hb] at h
      split
      · rfl
      · rename_i vs hd
        simp only [hd] at h
        split
        · rename_i hh; rw [if_pos hh] at h; exact absurd rfl h
        · rfl
theorem unvec_code {dec : Int → List UInt8 → Option (List Val)} {k : Int} {s : List UInt8} (h : (unvec dec k s).2 ≠ 0) :
    (unvec dec k s).2 = if k < 1 ∨ 3 < k then 900 else if CrcMath.open_ s = none then 902 else 901 := by
  unfold unvec at h ⊢
  by_cases hk : k < 1 ∨ 3 < k
  · simp only [if_pos hk]
  · rw [if_neg hk] at h ⊢
    rw [if_neg hk]
    cases hb : CrcMath.open_ s with
    | none => simp
    | some b =>
      simp only [hb] at h ⊢
      rw [if_neg (by simp)]
      cases hd : dec k b with
      | none => simp
      | some vs =>
        simp only [hd] at h ⊢
        split
        · rename_i hh; rw [if_pos hh] at h; exact absurd rfl h
        · rfl
/-- Both readers answer alike at bytes: where the values' numbers are within int64. -/
theorem unvec_alike {d1 d2 : Int → List UInt8 → Option (List Val)} {k : Int} {s : List UInt8}
    (h1 : ∀ vs, mayErr k vs = 0 → In64 vs → d1 k (body k vs) = some (vs.map clean)) (h2 : ∀ vs, mayErr k vs = 0 → In64 vs → d2 k (body k vs) = some (vs.map clean))
    (i1 : ∀ b vs, d1 k b = some vs → In64 vs) (i2 : ∀ b vs, d2 k b = some vs → In64 vs) : unvec d1 k s = unvec d2 k s := by
  have side : ∀ {d d' : Int → List UInt8 → Option (List Val)}, (∀ vs, mayErr k vs = 0 → In64 vs → d' k (body k vs) = some (vs.map clean)) → (∀ vs, mayErr k vs = 0 → In64 vs → d k (body k vs) = some (vs.map clean)) →
      (∀ b vs, d k b = some vs → In64 vs) → (unvec d k s).2 = 0 → unvec d' k s = unvec d k s := by
    intro d d' hd' hd hi h0
    have e : unvec d k s = ((unvec d k s).1, 0) := by rw [← h0]
    have hg := unvec_good e
    have h64 : In64 (unvec d k s).1 := by
      have hk := (mayErr_zero hg.1).1
      unfold unvec at h0 ⊢
      rw [if_neg (by omega)] at h0 ⊢
      cases hb : CrcMath.open_ s with
      | none => simp [hb] at h0
      | some b =>
        simp only [hb] at h0 ⊢
        cases hdd : d k b with
        | none => simp [hdd] at h0
        | some vs =>
          simp only [hdd] at h0 ⊢
          split
          · exact hi b vs hdd
          · rename_i hh; rw [if_neg hh] at h0; cases h0
    have a1 := unvec_put (hd' _ hg.1 h64) hg.1
    have a2 := unvec_put (hd _ hg.1 h64) hg.1
    rw [hg.2] at a1 a2
    exact a1.trans a2.symm
  by_cases c1 : (unvec d1 k s).2 = 0
  · exact (side h2 h1 i1 c1).symm
  · by_cases c2 : (unvec d2 k s).2 = 0
    · exact side h1 h2 i2 c2
    · have e1 := unvec_code c1
      have e2 := unvec_code c2
      have b1 := unvec_bad c1
      have b2 := unvec_bad c2
      exact Prod.ext (by rw [b1, b2]) (by rw [e1, e2])
/-! ### Numbers that were read are within int64 -/
def I64 (v : Val) : Prop := -9223372036854775808 ≤ v.i ∧ v.i < 9223372036854775808
theorem get_lt (bits : Nat) (l : List UInt8) : (VarMath.get bits l).1 < 2 ^ bits := by
  have hp : 0 < 2 ^ bits := Nat.pow_pos (by omega)
  unfold VarMath.get
  split
  · exact hp
  · split
    · exact hp
    · rename_i h; simp only [not_or] at h; simp only []; omega
theorem i64_zag {x : Nat} (h : x < 18446744073709551616) : -9223372036854775808 ≤ VarMath.zag x ∧ VarMath.zag x < 9223372036854775808 := by
  unfold VarMath.zag; split <;> omega
theorem i64_nul : I64 nul := by unfold I64 nul; simp
theorem i64_clean {v : Val} (h : I64 v) : I64 (clean v) := by
  by_cases h1 : v.k = 1
  · simpa [clean, h1, I64] using h
  · by_cases h2 : v.k = 2
    · simp [clean, h2, I64]
    · by_cases h3 : v.k = 3
      · simp [clean, h3, I64]
      · simp [clean, h1, h2, h3, nul, I64]
theorem rdVal_i64 (k : Int) (r : Rd) : I64 (rdVal k r).1 := by
  unfold rdVal
  split
  · split
    · exact i64_nul
    · exact i64_zag (get_lt 64 _)
  · split <;> simp [I64]
theorem readVals_i64 (k : Int) (n : Nat) (r : Rd) : ∀ v ∈ (readVals k n r).1, I64 v := by
  induction n with
  | zero => simp [readVals]
  | succ n ih =>
    intro v hv
    simp only [readVals, List.mem_append, List.mem_singleton] at hv
    rcases hv with hv | hv
    · exact ih v hv
    · subst hv; exact rdVal_i64 k _
theorem readValsR_i64 (k : Int) (n : Nat) (r : Rd) : ∀ v ∈ (readValsR k n r).1, I64 v := by
  induction n with
  | zero => simp [readValsR]
  | succ n ih =>
    intro v hv
    simp only [readValsR] at hv
    split at hv
    · exact ih v hv
    · simp only [List.mem_append, List.mem_singleton] at hv
      rcases hv with hv | hv
      · exact ih v hv
      · subst hv; exact rdVal_i64 k _
theorem fill_i64 {out : List Val} {v : Val} (h : ∀ u ∈ out, I64 u) (hv : I64 v) : ∀ u ∈ fill out v, I64 u := by
  intro u hu
  unfold fill at hu
  rw [List.mem_append] at hu
  rcases hu with hu | hu
  · refine h u ?_
    rw [List.mem_reverse] at hu
    have := (List.dropWhile_sublist (fun u : Val => decide (u.k = 0)) (l := out.reverse)).mem hu
    simpa using this
  · simp only [List.mem_replicate] at hu; rw [hu.2]; exact hv
theorem runsP_i64 (k : Int) (many n : Nat) (r : Rd) : ∀ v ∈ (runsP k many n r).1, I64 v := by
  induction n with
  | zero => simp [runsP]
  | succ n ih =>
    simp only [runsP, runStep]
    refine fill_i64 (fun u hu => ?_) (rdVal_i64 k _)
    rw [List.mem_append] at hu
    rcases hu with hu | hu
    · exact ih u hu
    · simp only [List.mem_replicate] at hu; rw [hu.2]; exact i64_nul
theorem runsR_i64 (k : Int) (many n : Nat) (r : Rd) : ∀ v ∈ (runsR k many n r).1, I64 v := by
  induction n with
  | zero => simp [runsR]
  | succ n ih =>
    simp only [runsR, runStepR]
    split
    · exact ih
    · intro u hu
      rw [List.mem_append] at hu
      rcases hu with hu | hu
      · exact ih u hu
      · simp only [List.mem_replicate] at hu; rw [hu.2]; exact rdVal_i64 k _
theorem getD_i64 {ws : List Val} (h : ∀ u ∈ ws, I64 u) (i : Nat) : I64 (ws.getD i nul) := by
  rw [List.getD_eq_getElem?_getD]
  cases hi : ws[i]? with
  | none => exact i64_nul
  | some v => exact h v (List.mem_of_getElem? hi)
theorem wordsP_i64 (k : Int) (many : Nat) (r : Rd) : ∀ v ∈ (wordsP k many r).1, I64 v := by
  unfold wordsP
  simp only []
  split
  · rename_i out hl
    unfold look at hl
    split at hl
    · injection hl with hl; subst hl
      intro v hv
      simp only [List.mem_map] at hv
      obtain ⟨a, _, rfl⟩ := hv
      exact i64_clean (getD_i64 (readVals_i64 k _ _) _)
    · cases hl
  · simp
theorem placesR_i64 {ws : List Val} (h : ∀ u ∈ ws, I64 u) (l : List Nat) (r : Rd) : ∀ v ∈ (placesR ws l r).1, I64 v := by
  induction l with
  | nil => simp [placesR]
  | cons a l ih =>
    simp only [placesR]
    split
    · simp
    · split
      · simp
      · intro v hv
        simp only [List.mem_cons] at hv
        rcases hv with hv | hv
        · subst hv; exact getD_i64 h a
        · exact ih v hv
theorem bools_i64 (xs : List Nat) : ∀ v ∈ xs.map (fun x => (⟨2, 0, decide (x = 1), ByteArray.empty⟩ : Val)), I64 v := by
  intro v hv; simp only [List.mem_map] at hv; obtain ⟨x, _, rfl⟩ := hv; simp [I64]
theorem someP_i64 (k : Int) (e many : Nat) (r : Rd) : ∀ v ∈ (someP k e many r).1, I64 v := by
  unfold someP
  split
  · split
    · exact bools_i64 _
    · exact readVals_i64 k _ _
  · split
    · exact runsP_i64 k _ _ _
    · split
      · exact wordsP_i64 k _ _
      · simp
theorem someR_i64 (k : Int) (e many : Nat) (r : Rd) : ∀ v ∈ (someR k e many r).1, I64 v := by
  unfold someR
  split
  · exact runsR_i64 k _ _ _
  · split
    · exact placesR_i64 (readValsR_i64 k _ _) _ _
    · split
      · exact bools_i64 _
      · exact readValsR_i64 k _ _
theorem weave_i64 (l : List Nat) (vs : List Val) (h : ∀ v ∈ vs, I64 v) : ∀ v ∈ weave l vs, I64 v := by
  induction l generalizing vs with
  | nil => simp [weave]
  | cons x l ih =>
    simp only [weave]
    split
    · intro v hv
      simp only [List.mem_cons] at hv
      rcases hv with hv | hv
      · subst hv; exact i64_nul
      · exact ih vs h v hv
    · intro v hv
      simp only [List.mem_cons] at hv
      rcases hv with hv | hv
      · subst hv
        cases vs with
        | nil => exact i64_nul
        | cons u vs => exact h u (by simp)
      · exact ih vs.tail (fun u hu => h u (List.mem_of_mem_tail hu)) v hv
theorem decP_i64 (k : Int) (b : List UInt8) (vs : List Val) (h : decP k b = some vs) : In64 vs := by
  unfold decP at h
  simp only [] at h
  split at h
  · cases h
  · injection h with h; subst h; exact weave_i64 _ _ (someP_i64 k _ _ _)
theorem decR_i64 (k : Int) (b : List UInt8) (vs : List Val) (h : decR k b = some vs) : In64 vs := by
  unfold decR at h
  split at h
  · cases h
  · simp only [] at h
    split at h
    · cases h
    · injection h with h; subst h; exact weave_i64 _ _ (someR_i64 k _ _ _)

/-- The program and the document's answer take bytes for the same values. -/
theorem unvec_same (k : Int) (s : List UInt8) : unvec decP k s = unvec decR k s := by
  refine unvec_alike (fun vs h hi => ?_) (fun vs h hi => ?_) (decP_i64 k) (decR_i64 k)
  · have hm := mayErr_zero h; exact decP_body hm.1 hm.2.1 hm.2.2 hi
  · have hm := mayErr_zero h; exact decR_body hm.1 hm.2.1 hm.2.2 hi
/-- Values come back. -/
theorem unvec_back {k : Int} {vs : List Val} (h : mayErr k vs = 0) (hi : In64 vs) : unvec decP k (put k vs) = (vs.map clean, 0) := by
  have hm := mayErr_zero h; exact unvec_put (decP_body hm.1 hm.2.1 hm.2.2 hi) h
end Go.Proofs.YtgmemdedpklnhaaGreat.VecMath

/-
  PLAIN LAW OF STATISTICS AND AGGREGATES, chapters 10 and 17, over lists. No program in sight.
-/

namespace Go.Proofs.YtgmemdedpklnhaaGreat.ValMath

def null (v : Val) : Bool := decide ((clean v).k = 0)
theorem null_iff (v : Val) : null v = true ↔ clean v = nul := by
  unfold null
  rw [decide_eq_true_eq]
  constructor
  · intro h
    rcases clean_form v with ⟨n, e⟩ | ⟨t, e⟩ | ⟨t, e⟩ | e
    · rw [e] at h; exact absurd (show (1 : Int) = 0 from h) (by decide)
    · rw [e] at h; exact absurd (show (2 : Int) = 0 from h) (by decide)
    · rw [e] at h; exact absurd (show (3 : Int) = 0 from h) (by decide)
    · exact e
  · intro h; rw [h]; rfl
theorem null_clean (v : Val) : null (clean v) = null v := by unfold null; rw [clean_clean]

/-- The lesser, the greater of two; a null one counts for nothing. -/
def lesser (a b : Val) : Val := if null a || (!null b && less b a) then clean b else clean a
def greater (a b : Val) : Val := if null a || (!null b && less a b) then clean b else clean a

/-! One law for both: any order that is total on clean values. -/
section
variable (lt : Val → Val → Bool) (hc1 : ∀ x y, lt (clean x) y = lt x y) (hc2 : ∀ x y, lt x (clean y) = lt x y)
  (hover : ∀ {x y z}, lt x y = true → lt y z = true → lt x z = true) (hnone : ∀ {x y}, lt x y = false → lt y x = false → clean x = clean y)
def best (a b : Val) : Val := if null a || (!null b && lt b a) then clean b else clean a
include hc2 in
theorem best_clean_left (a b : Val) : best lt (clean a) b = best lt a b := by unfold best; rw [null_clean, clean_clean, hc2]
include hc1 in
theorem best_clean_right (a b : Val) : best lt a (clean b) = best lt a b := by unfold best; rw [null_clean, clean_clean, hc1]
theorem best_clean (a b : Val) : clean (best lt a b) = best lt a b := by unfold best; split <;> rw [clean_clean]
theorem best_null_left {a : Val} (h : null a = true) (b : Val) : best lt a b = clean b := by unfold best; rw [h]; rfl
theorem best_null_right {b : Val} (a : Val) (h : null b = true) : best lt a b = clean a := by
  unfold best
  by_cases ha : null a = true
  · rw [ha]; simp only [Bool.true_or, if_true]; rw [(null_iff a).1 ha, (null_iff b).1 h]
  · have : null a = false := by simpa using ha
    rw [this, h]; rfl
theorem best_some {a b : Val} (ha : null a = false) (hb : null b = false) : best lt a b = if lt b a then clean b else clean a := by
  unfold best; rw [ha, hb]; rfl
theorem best_null (a b : Val) : null (best lt a b) = (null a && null b) := by
  unfold best
  by_cases ha : null a = true
  · rw [ha]; simp only [Bool.true_or, if_true, Bool.true_and]; rw [null_clean]
  · have ha' : null a = false := by simpa using ha
    rw [ha']; simp only [Bool.false_or, Bool.false_and]
    by_cases hb : null b = true
    · rw [hb]; simp only [Bool.not_true, Bool.false_and]; simpa [null_clean] using ha'
    · have hb' : null b = false := by simpa using hb
      split <;> rw [null_clean] <;> assumption
include hc1 hc2 hover hnone in
theorem best_assoc (a b c : Val) : best lt (best lt a b) c = best lt a (best lt b c) := by
  by_cases ha : null a = true
  · rw [best_null_left lt ha, best_clean_left lt hc2, best_null_left lt ha, best_clean]
  have ha' : null a = false := by simpa using ha
  by_cases hb : null b = true
  · rw [best_null_right lt a hb, best_clean_left lt hc2, best_null_left lt hb, best_clean_right lt hc1]
  have hb' : null b = false := by simpa using hb
  by_cases hc : null c = true
  · rw [best_null_right lt _ hc, best_clean, best_null_right lt b hc, best_clean_right lt hc1]
  have hc' : null c = false := by simpa using hc
  have h1 : null (best lt a b) = false := by rw [best_null, ha']; rfl
  have h2 : null (best lt b c) = false := by rw [best_null, hb']; rfl
  rw [best_some lt h1 hc', best_some lt ha' h2, best_some lt ha' hb', best_some lt hb' hc']
  by_cases x : lt b a = true
  · simp only [x, if_true]
    rw [hc2]
    by_cases y : lt c b = true
    · simp only [y, if_true]
      rw [hc1, hover y x]; simp [clean_clean]
    · simp only [y]
      simp only [Bool.false_eq_true, if_false]
      rw [hc1, x]; simp [clean_clean]
  · simp only [x]
    simp only [Bool.false_eq_true, if_false]
    rw [hc2]
    by_cases y : lt c b = true
    · simp only [y, if_true]
      rw [hc1]; simp [clean_clean]
    · simp only [y]
      simp only [Bool.false_eq_true, if_false]
      rw [hc1]
      have x' : lt b a = false := by simpa using x
      simp only [x']
      by_cases z : lt c a = true
      · -- c < a, not b < a, not c < b
        exfalso
        by_cases u : lt a b = true
        · exact y (hover z u)
        · have := hnone (by simpa using u) x'
          rw [← hc2, ← this, hc2] at y
          exact y z
      · simp [z, clean_clean]
end

theorem less_gt_over {x y z : Val} (h1 : less y x = true) (h2 : less z y = true) : less z x = true := less_over h2 h1
theorem lesser_best (a b : Val) : lesser a b = best less a b := rfl
theorem greater_best (a b : Val) : greater a b = best (fun x y => less y x) a b := rfl
theorem lesser_assoc (a b c : Val) : lesser (lesser a b) c = lesser a (lesser b c) := by
  simp only [lesser_best]
  exact best_assoc less less_clean_left less_clean_right less_over less_neither a b c
theorem greater_assoc (a b c : Val) : greater (greater a b) c = greater a (greater b c) := by
  simp only [greater_best]
  exact best_assoc (fun x y => less y x) (fun x y => less_clean_right y x) (fun x y => less_clean_left y x) (fun h1 h2 => less_over h2 h1) (fun h1 h2 => less_neither h2 h1) a b c

/-- Statistics: how many nulls, the least, the greatest. -/
structure St where
  nulls : Nat
  mn : Val
  mx : Val
def addS (s : St) (v : Val) : St := ⟨if null v then s.nulls + 1 else s.nulls, lesser s.mn v, greater s.mx v⟩
def stat (vs : List Val) : St := vs.foldl addS ⟨0, nul, nul⟩
theorem stat_nil : stat [] = ⟨0, nul, nul⟩ := rfl
theorem stat_snoc (vs : List Val) (v : Val) : stat (vs ++ [v]) = addS (stat vs) v := by simp [stat, List.foldl_append]
theorem stat_nulls_le (vs : List Val) : (stat vs).nulls ≤ vs.length := by
  induction vs using snoc_ind with
  | h0 => simp [stat]
  | h1 vs v ih => rw [stat_snoc, List.length_append]; simp only [addS]; split <;> simp <;> omega
theorem stat_clean (vs : List Val) : clean (stat vs).mn = (stat vs).mn ∧ clean (stat vs).mx = (stat vs).mx := by
  induction vs using snoc_ind with
  | h0 => exact ⟨clean_nul, clean_nul⟩
  | h1 vs v ih => rw [stat_snoc]; exact ⟨best_clean less _ _, best_clean (fun x y => less y x) _ _⟩

def both (a b : St) : St := ⟨a.nulls + b.nulls, lesser a.mn b.mn, greater a.mx b.mx⟩
theorem null_nul : null nul = true := rfl
theorem lesser_nul_right (a : Val) : lesser a nul = clean a := best_null_right less a null_nul
theorem greater_nul_right (a : Val) : greater a nul = clean a := best_null_right (fun x y => less y x) a null_nul
theorem lesser_nul_left (a : Val) : lesser nul a = clean a := best_null_left less null_nul a
theorem greater_nul_left (a : Val) : greater nul a = clean a := best_null_left (fun x y => less y x) null_nul a

theorem stat_append (a b : List Val) : stat (a ++ b) = both (stat a) (stat b) := by
  induction b using snoc_ind with
  | h0 =>
    have h := stat_clean a
    rw [List.append_nil, stat_nil]; unfold both
    simp only [lesser_nul_right, greater_nul_right, h.1, h.2, Nat.add_zero]
  | h1 b v ih =>
    rw [← List.append_assoc, stat_snoc, ih, stat_snoc]
    unfold both addS
    simp only [lesser_assoc, greater_assoc]
    congr 1
    split <;> omega

/-- Each value that is not null lies between the bounds. -/
theorem lesser_not_over (a b : Val) : null b = false → less b (lesser a b) = false := by
  intro hb
  unfold lesser
  by_cases h : (null a || (!null b && less b a)) = true
  · rw [if_pos h, less_clean_right]; exact less_self b
  · rw [if_neg h, less_clean_right]
    rw [hb] at h
    simp at h
    exact h.2
theorem less_of_lesser {x a b : Val} (ha : null a = false) (h : less x (lesser a b) = true) : less x a = true := by
  unfold lesser at h
  rw [ha] at h
  by_cases hb : (!null b && less b a) = true
  · simp only [Bool.false_or, hb, if_true] at h
    rw [less_clean_right] at h
    simp at hb
    exact less_over h hb.2
  · simp only [Bool.false_or, hb] at h
    simp only [Bool.false_eq_true, if_false] at h
    rw [less_clean_right] at h
    exact h
theorem greater_not_over (a b : Val) : null b = false → less (greater a b) b = false := by
  intro hb
  unfold greater
  by_cases h : (null a || (!null b && less a b)) = true
  · rw [if_pos h, less_clean_left]; exact less_self b
  · rw [if_neg h, less_clean_left]
    rw [hb] at h
    simp at h
    exact h.2
theorem less_of_greater {x a b : Val} (ha : null a = false) (h : less (greater a b) x = true) : less a x = true := by
  unfold greater at h
  rw [ha] at h
  by_cases hb : (!null b && less a b) = true
  · simp only [Bool.false_or, hb, if_true] at h
    rw [less_clean_left] at h
    simp at hb
    exact less_over hb.2 h
  · simp only [Bool.false_or, hb] at h
    simp only [Bool.false_eq_true, if_false] at h
    rw [less_clean_left] at h
    exact h
theorem stat_bounds (vs : List Val) : ∀ v ∈ vs, null v = false → less v (stat vs).mn = false ∧ less (stat vs).mx v = false ∧ null (stat vs).mn = false ∧ null (stat vs).mx = false := by
  induction vs using snoc_ind with
  | h0 => simp
  | h1 vs u ih =>
    intro v hv hn
    rw [stat_snoc]
    simp only [addS]
    rw [List.mem_append] at hv
    rcases hv with hv | hv
    · obtain ⟨h1, h2, h3, h4⟩ := ih v hv hn
      refine ⟨?_, ?_, ?_, ?_⟩
      · cases h : less v (lesser (stat vs).mn u) with
        | false => rfl
        | true => rw [less_of_lesser h3 h] at h1; cases h1
      · cases h : less (greater (stat vs).mx u) v with
        | false => rfl
        | true => rw [less_of_greater h4 h] at h2; cases h2
      · rw [lesser_best, best_null, h3]; rfl
      · rw [greater_best, best_null, h4]; rfl
    · simp at hv; subst hv
      refine ⟨lesser_not_over _ _ hn, greater_not_over _ _ hn, ?_, ?_⟩
      · rw [lesser_best, best_null, hn, Bool.and_false]
      · rw [greater_best, best_null, hn, Bool.and_false]

theorem stat_count (vs : List Val) : (stat vs).nulls + (vs.filter fun v => !null v).length = vs.length := by
  induction vs using snoc_ind with
  | h0 => rfl
  | h1 vs v ih =>
    rw [stat_snoc, List.filter_append, List.length_append, List.length_append]
    simp only [addS]
    by_cases h : null v = true
    · simp [h]; omega
    · simp [h]; omega

/-- Of nulls alone there are no bounds. -/
theorem stat_nuls (k : Nat) : stat (List.replicate k nul) = ⟨k, nul, nul⟩ := by
  induction k with
  | zero => rfl
  | succ k ih =>
    rw [List.replicate_succ', stat_snoc, ih]
    simp [addS, null_nul, lesser_nul_right, greater_nul_right, clean_nul]

/-! ### Aggregates -/
/-- The whole sum of the numbers. -/
def total (vs : List Val) : Int := (vs.map fun v => if null v then 0 else v.i).sum
def some_ (vs : List Val) : Nat := (vs.filter fun v => !null v).length
def odd_ (vs : List Val) : Bool := vs.any fun v => !null v && decide (v.k ≠ 1)
def number (x : Int) : Val := ⟨1, x, false, ByteArray.empty⟩
/-- An aggregate: the value, the error's number. -/
def agg (kind : Int) (vs : List Val) : Val × Nat :=
  if kind < 0 ∨ 4 < kind then (nul, 1700)
  else if kind = 0 then (nul, 0)
  else if kind = 1 then (number (some_ vs), 0)
  else if kind = 3 then ((stat vs).mn, 0)
  else if kind = 4 then ((stat vs).mx, 0)
  else if odd_ vs then (nul, 1701)
  else if some_ vs = 0 then (nul, 0)
  else if total vs < -9223372036854775808 ∨ 9223372036854775807 < total vs then (nul, 1702)
  else (number (total vs), 0)
/-! ### An aggregate does not hang on the row of its values -/
theorem best_comm {lt : Val → Val → Bool} (hboth : ∀ {x y}, lt x y = true → lt y x = true → False) (hnone : ∀ {x y}, lt x y = false → lt y x = false → clean x = clean y) (a b : Val) : best lt a b = best lt b a := by
  by_cases ha : null a = true
  · rw [best_null_left lt ha, best_null_right lt b ha]
  have ha' : null a = false := by simpa using ha
  by_cases hb : null b = true
  · rw [best_null_left lt hb, best_null_right lt a hb]
  have hb' : null b = false := by simpa using hb
  rw [best_some lt ha' hb', best_some lt hb' ha']
  cases h1 : lt a b <;> cases h2 : lt b a
  · simp only [Bool.false_eq_true, if_false]; exact hnone h1 h2
  · simp
  · simp
  · exact (hboth h1 h2).elim
theorem both_comm (a b : St) : both a b = both b a := by
  unfold both
  simp only [lesser_best, greater_best]
  rw [best_comm (fun h1 h2 => less_both h1 h2) less_neither a.mn b.mn, best_comm (fun h1 h2 => less_both h2 h1) (fun h1 h2 => less_neither h2 h1) a.mx b.mx, Nat.add_comm]
theorem total_append (a b : List Val) : total (a ++ b) = total a + total b := by unfold total; rw [List.map_append, List.sum_append]
theorem some_append (a b : List Val) : some_ (a ++ b) = some_ a + some_ b := by unfold some_; rw [List.filter_append, List.length_append]
theorem odd_append (a b : List Val) : odd_ (a ++ b) = (odd_ a || odd_ b) := by unfold odd_; rw [List.any_append]
theorem agg_turn (kind : Int) (a b : List Val) : agg kind (a ++ b) = agg kind (b ++ a) := by
  unfold agg
  rw [stat_append, stat_append, both_comm, total_append, total_append, Int.add_comm, some_append, some_append, Nat.add_comm, odd_append, odd_append, Bool.or_comm]
theorem total_snoc (vs : List Val) (v : Val) : total (vs ++ [v]) = total vs + if null v then 0 else v.i := by rw [total_append]; simp [total]
theorem some_snoc (vs : List Val) (v : Val) : some_ (vs ++ [v]) = some_ vs + if null v then 0 else 1 := by
  rw [some_append]; unfold some_
  by_cases h : null v = true
  · simp [h]
  · simp [h]
theorem odd_snoc (vs : List Val) (v : Val) : odd_ (vs ++ [v]) = (odd_ vs || (!null v && decide (v.k ≠ 1))) := by rw [odd_append]; simp [odd_]
theorem some_stat (vs : List Val) : some_ vs + (stat vs).nulls = vs.length := by have := stat_count vs; unfold some_; omega
end Go.Proofs.YtgmemdedpklnhaaGreat.ValMath

/-
  PLAIN LAW OF FILES, chapter 11: columns as a file, over lists; what was written reads as it was. No program in sight.
-/


namespace Go.Proofs.YtgmemdedpklnhaaGreat.VecMath
open ValMath

structure Colm where
  id : Int
  name : ByteArray
  kind : Int
structure Dat where
  rows : Int
  cols : List Colm
  vals : List (List Val)

def noCol : Colm := ⟨0, ByteArray.empty, 0⟩
def colOk (d : Dat) (i : Nat) : Prop :=
  0 < (d.cols.getD i noCol).id ∧ (0 < i → (d.cols.getD (i - 1) noCol).id < (d.cols.getD i noCol).id) ∧ (d.cols.getD i noCol).name = ByteArray.empty ∧
  (1 ≤ (d.cols.getD i noCol).kind ∧ (d.cols.getD i noCol).kind ≤ 3) ∧ ((d.vals.getD i []).length : Int) = d.rows ∧ (d.vals.getD i []).all (fits (d.cols.getD i noCol).kind) = true
def headOk (d : Dat) : Prop := 0 ≤ d.rows ∧ d.rows ≤ 4096 ∧ 1 ≤ d.cols.length ∧ d.cols.length ≤ 12 ∧ d.vals.length = d.cols.length
def mayFile (d : Dat) : Prop := headOk d ∧ ∀ i, i < d.cols.length → colOk d i
instance (d : Dat) : Decidable (headOk d) := by unfold headOk; infer_instance
instance (d : Dat) (i : Nat) : Decidable (colOk d i) := by unfold colOk; infer_instance
instance (d : Dat) : Decidable (mayFile d) := by unfold mayFile; infer_instance

def limit (v : Val) : List UInt8 := if v.k = 0 then [0] else [UInt8.ofNat v.k.toNat] ++ scalar v
def colBytes (p : Colm × List Val) : List UInt8 := cnt p.1.id.toNat ++ ([UInt8.ofNat p.1.kind.toNat] ++ (cnt (put p.1.kind p.2).length ++ put p.1.kind p.2))
def statBytes (vs : List Val) : List UInt8 := cnt (stat vs).nulls ++ limit (stat vs).mn ++ limit (stat vs).mx
def magic : List UInt8 := [76, 75, 49]
def fileBody (d : Dat) : List UInt8 := magic ++ (cnt d.rows.toNat ++ (cnt d.cols.length ++ ((d.cols.zip d.vals).flatMap colBytes ++ d.vals.flatMap statBytes)))
def fileOk (d : Dat) : Prop := mayFile d ∧ (fileBody d).length + 4 ≤ 65536
instance (d : Dat) : Decidable (fileOk d) := by unfold fileOk; infer_instance
def filePut (d : Dat) : List UInt8 := if fileOk d then CrcMath.seal_ (fileBody d) else []

/-! ### Reading -/
/-- One column more; none: it is no form. -/
def rdCol (dec : Int → List UInt8 → Option (List Val)) (r : Rd) : Option (Colm × List Val) × Rd :=
  let id := rdNum 9223372036854775807 r
  let k := rdByte id.2
  let m := rdNum 65536 k.2
  let b := rdBytes m.1 m.2
  let vs := unvec dec (k.1 : Int) b.1
  if b.2.bad = true ∨ vs.2 ≠ 0 then (none, b.2) else (some (⟨(id.1 : Int), ByteArray.empty, (k.1 : Int)⟩, vs.1), b.2)
def rdCols (dec : Int → List UInt8 → Option (List Val)) : Nat → Rd → Option (List (Colm × List Val)) × Rd
  | 0, r => (some [], r)
  | n + 1, r => match (rdCols dec n r).1 with
    | none => (none, (rdCols dec n r).2)
    | some cs => match (rdCol dec (rdCols dec n r).2).1 with
      | none => (none, (rdCol dec (rdCols dec n r).2).2)
      | some c => (some (cs ++ [c]), (rdCol dec (rdCols dec n r).2).2)
def datOf (rows : Nat) (cs : List (Colm × List Val)) : Dat := ⟨(rows : Int), cs.map (·.1), cs.map (·.2)⟩
/-- What a file's bytes are taken for, without their sum. -/
def decF (dec : Int → List UInt8 → Option (List Val)) (b : List UInt8) : Option Dat :=
  if b.take 3 = magic then
    match (rdCols dec (rdNum 12 (rdNum 4096 ⟨b, 3, false⟩).2).1 (rdNum 12 (rdNum 4096 ⟨b, 3, false⟩).2).2).1 with
    | none => none
    | some cs => some (datOf (rdNum 4096 ⟨b, 3, false⟩).1 cs)
  else none
def noDat : Dat := ⟨0, [], []⟩
def unfile (dec : Int → List UInt8 → Option (List Val)) (s : List UInt8) : Dat × Nat :=
  match CrcMath.open_ s with
  | none => (noDat, 1101)
  | some b => match decF dec b with
    | none => (noDat, 1100)
    | some d => if fileOk d ∧ filePut d = s then (d, 0) else (noDat, 1100)

theorem rdCol_ok {dec : Int → List UInt8 → Option (List Val)} {c : Colm} {vs : List Val} {r : Rd} {m : List UInt8} (hid : 0 < c.id) (hid2 : c.id < 9223372036854775808) (hn : c.name = ByteArray.empty) (hk : c.kind = 1 ∨ c.kind = 2 ∨ c.kind = 3)
    (hm : mayErr c.kind vs = 0) (hd : ∀ vs, mayErr c.kind vs = 0 → In64 vs → dec c.kind (body c.kind vs) = some (vs.map clean)) (hi : In64 vs) (hl : (put c.kind vs).length ≤ 65536)
    (h : Ahead r (colBytes (c, vs) ++ m)) : rdCol dec r = (some (c, vs.map clean), r.step (colBytes (c, vs)).length) := by
  unfold colBytes at h
  simp only [List.append_assoc] at h
  have e1 := rdNum_ok (most := 9223372036854775807) h (by omega) (by omega)
  have h1 := h.step
  have e2 := rdBytes_ok (l := [UInt8.ofNat c.kind.toNat]) h1
  have h2 := h1.step
  have e3 := rdNum_ok (most := 65536) h2 hl (by omega)
  have h3 := h2.step
  have e4 := rdBytes_ok h3
  have h4 := h3.step
  have hkb : ((UInt8.ofNat c.kind.toNat).toNat : Int) = c.kind := by rw [UInt8.toNat_ofNat']; omega
  have e2' : rdByte (r.step (cnt c.id.toNat).length) = (c.kind.toNat, (r.step (cnt c.id.toNat).length).step 1) := by
    unfold rdByte
    rw [show rdBytes 1 (r.step (cnt c.id.toNat).length) = _ from e2]
    simp only [List.headD_cons]
    refine Prod.ext ?_ rfl
    show (UInt8.ofNat c.kind.toNat).toNat = c.kind.toNat
    omega
  have hkk : ((c.kind.toNat : Nat) : Int) = c.kind := by omega
  have hii : ((c.id.toNat : Nat) : Int) = c.id := by omega
  have e3' : rdNum 65536 ((r.step (cnt c.id.toNat).length).step 1) = _ := e3
  unfold rdCol
  simp only [e1, e2', e3', e4, hkk, hii]
  rw [unvec_put (hd vs hm hi) hm, if_neg (by rw [h4.1]; simp)]
  have hst : (((r.step (cnt c.id.toNat).length).step [UInt8.ofNat c.kind.toNat].length).step (cnt (put c.kind vs).length).length).step (put c.kind vs).length = r.step (colBytes (c, vs)).length := by
    unfold colBytes; simp only [step_step, List.length_append, Nat.add_assoc]
  rw [hst, ← hn]

theorem rdCols_ok {dec : Int → List UInt8 → Option (List Val)} {cs : List (Colm × List Val)} {r : Rd} {m : List UInt8}
    (hc : ∀ p ∈ cs, 0 < p.1.id ∧ p.1.id < 9223372036854775808 ∧ p.1.name = ByteArray.empty ∧ (p.1.kind = 1 ∨ p.1.kind = 2 ∨ p.1.kind = 3) ∧ mayErr p.1.kind p.2 = 0 ∧ In64 p.2 ∧ (put p.1.kind p.2).length ≤ 65536)
    (hd : ∀ k vs, mayErr k vs = 0 → In64 vs → dec k (body k vs) = some (vs.map clean))
    (h : Ahead r (cs.flatMap colBytes ++ m)) : rdCols dec cs.length r = (some (cs.map fun p => (p.1, p.2.map clean)), r.step (cs.flatMap colBytes).length) := by
  induction cs using snoc_ind generalizing m with
  | h0 => rfl
  | h1 cs p ih =>
    have hs : (cs ++ [p]).flatMap colBytes = cs.flatMap colBytes ++ colBytes p := by simp
    rw [hs, List.append_assoc] at h
    have i := ih (fun q hq => hc q (by simp [hq])) h
    obtain ⟨h1, h2, h3, h4, h5, h6, h7⟩ := hc p (by simp)
    have e := rdCol_ok (c := p.1) (vs := p.2) h1 h2 h3 h4 h5 (hd p.1.kind) h6 h7 h.step
    rw [List.length_append, List.length_singleton]
    simp only [rdCols, i]
    rw [show (colBytes (p.1, p.2)) = colBytes p from rfl] at e
    simp only [e]
    rw [hs, List.length_append, step_step, List.map_append]
    rfl

def cleanDat (d : Dat) : Dat := ⟨d.rows, d.cols, d.vals.map (fun vs => vs.map clean)⟩
def FileIn64 (d : Dat) : Prop := (∀ vs ∈ d.vals, In64 vs) ∧ ∀ c ∈ d.cols, c.id < 9223372036854775808

theorem length_flat {α : Type} {f : α → List UInt8} {l : List α} {x : α} (h : x ∈ l) : (f x).length ≤ (l.flatMap f).length := by
  induction l with
  | nil => cases h
  | cons a l ih =>
    rw [List.flatMap_cons, List.length_append]
    rcases List.mem_cons.1 h with e | h
    · subst e; omega
    · have := ih h; omega

theorem mem_zip_get {d : Dat} (hl : d.vals.length = d.cols.length) {p : Colm × List Val} (h : p ∈ d.cols.zip d.vals) : ∃ i, i < d.cols.length ∧ d.cols.getD i noCol = p.1 ∧ d.vals.getD i [] = p.2 := by
  obtain ⟨i, hi, e⟩ := List.mem_iff_getElem.1 h
  rw [List.length_zip] at hi
  refine ⟨i, by omega, ?_, ?_⟩
  · rw [List.getD_eq_getElem?_getD, List.getElem?_eq_getElem (by omega)]
    rw [← e, List.getElem_zip]; rfl
  · rw [List.getD_eq_getElem?_getD, List.getElem?_eq_getElem (by omega)]
    rw [← e, List.getElem_zip]; rfl
theorem fileOk_cols {d : Dat} (h : fileOk d) (hi : FileIn64 d) : ∀ p ∈ d.cols.zip d.vals, 0 < p.1.id ∧ p.1.id < 9223372036854775808 ∧ p.1.name = ByteArray.empty ∧ (p.1.kind = 1 ∨ p.1.kind = 2 ∨ p.1.kind = 3) ∧ mayErr p.1.kind p.2 = 0 ∧ In64 p.2 ∧ (put p.1.kind p.2).length ≤ 65536 := by
  intro p hp
  obtain ⟨i, hil, e1, e2⟩ := mem_zip_get h.1.1.2.2.2.2 hp
  have hc := h.1.2 i hil
  unfold colOk at hc
  rw [e1, e2] at hc
  obtain ⟨c1, _, c3, c4, c5, c6⟩ := hc
  have hz := List.of_mem_zip (a := p.1) (b := p.2) hp
  refine ⟨c1, hi.2 _ hz.1, c3, by omega, ?_, hi.1 _ hz.2, ?_⟩
  · unfold mayErr
    rw [if_neg (by omega), if_neg (by have := h.1.1.2.1; omega), if_pos c6]
  · have h1 := length_flat (f := colBytes) hp
    have h2 := h.2
    unfold fileBody at h2
    simp only [List.length_append] at h2
    have h3 : (put p.1.kind p.2).length ≤ (colBytes p).length := by unfold colBytes; simp only [List.length_append]; omega
    omega
theorem zip_lengths {d : Dat} (hl : d.vals.length = d.cols.length) : (d.cols.zip d.vals).length = d.cols.length := by rw [List.length_zip]; omega
theorem zip_fst {d : Dat} (hl : d.vals.length = d.cols.length) : (d.cols.zip d.vals).map (·.1) = d.cols := List.map_fst_zip (by omega)
theorem zip_snd {d : Dat} (hl : d.vals.length = d.cols.length) : (d.cols.zip d.vals).map (·.2) = d.vals := List.map_snd_zip (by omega)

theorem decF_body {dec : Int → List UInt8 → Option (List Val)} {d : Dat} (h : fileOk d) (hi : FileIn64 d) (hd : ∀ k vs, mayErr k vs = 0 → In64 vs → dec k (body k vs) = some (vs.map clean)) :
    decF dec (fileBody d) = some (cleanDat d) := by
  have hl := h.1.1.2.2.2.2
  have h0 : Ahead ⟨fileBody d, 3, false⟩ (cnt d.rows.toNat ++ (cnt d.cols.length ++ ((d.cols.zip d.vals).flatMap colBytes ++ d.vals.flatMap statBytes))) := by
    refine ⟨rfl, ?_, ?_⟩
    · show 3 ≤ (fileBody d).length; unfold fileBody magic; simp
    · unfold Rd.rest fileBody magic; simp
  have hh := h.1.1
  unfold headOk at hh
  have e1 := rdNum_ok (most := 4096) h0 (by omega) (by omega)
  have h1 := h0.step
  have e2 := rdNum_ok (most := 12) h1 (by omega) (by omega)
  have h2 := h1.step
  have e3 := rdCols_ok (fileOk_cols h hi) hd h2
  rw [zip_lengths hl] at e3
  have htake : (fileBody d).take 3 = magic := by unfold fileBody magic; simp
  unfold decF
  rw [if_pos htake]
  simp only [e1, e2, e3]
  congr 1
  unfold datOf cleanDat
  have hr : ((d.rows.toNat : Nat) : Int) = d.rows := by omega
  rw [hr, List.map_map, List.map_map]
  congr 1
  · exact zip_fst hl
  · have h2 := zip_snd hl
    have h3 : (d.cols.zip d.vals).map ((fun x : Colm × List Val => x.2) ∘ fun p : Colm × List Val => (p.1, p.2.map clean)) = ((d.cols.zip d.vals).map (fun p => p.2)).map (fun vs => vs.map clean) := by rw [List.map_map]; rfl
    rw [h3, h2]

theorem clean_twice (vs : List Val) : (vs.map clean).map clean = vs.map clean := by rw [List.map_map]; exact List.map_congr_left fun v _ => clean_clean v
theorem vals_getD_clean (d : Dat) (i : Nat) : (cleanDat d).vals.getD i [] = (d.vals.getD i []).map clean := by
  unfold cleanDat
  simp only [List.getD_eq_getElem?_getD, List.getElem?_map]
  cases d.vals[i]? <;> rfl
theorem stat_map_clean (vs : List Val) : stat (vs.map clean) = stat vs := by
  induction vs using snoc_ind with
  | h0 => rfl
  | h1 vs v ih =>
    rw [List.map_append, List.map_cons, List.map_nil, stat_snoc, stat_snoc, ih]
    unfold addS
    rw [null_clean]
    congr 1
    · exact best_clean_right less less_clean_left _ _
    · exact best_clean_right (fun x y => less y x) (fun x y => less_clean_right y x) _ _
theorem fileBody_clean (d : Dat) : fileBody (cleanDat d) = fileBody d := by
  unfold fileBody cleanDat
  simp only []
  have e1 : (d.cols.zip (d.vals.map fun vs => vs.map clean)).flatMap colBytes = (d.cols.zip d.vals).flatMap colBytes := by
    rw [List.zip_map_right, List.flatMap_map]
    congr 1
    funext p
    unfold colBytes
    simp [put_clean]
  have e2 : (d.vals.map fun vs => vs.map clean).flatMap statBytes = d.vals.flatMap statBytes := by
    rw [List.flatMap_map]
    congr 1
    funext vs
    unfold statBytes
    rw [stat_map_clean]
  rw [e1, e2]
theorem mayFile_clean (d : Dat) : mayFile (cleanDat d) ↔ mayFile d := by
  unfold mayFile headOk
  have h1 : (cleanDat d).cols = d.cols := rfl
  have h2 : (cleanDat d).rows = d.rows := rfl
  have h3 : (cleanDat d).vals.length = d.vals.length := by unfold cleanDat; simp
  rw [h1, h2, h3]
  have hc : ∀ i, colOk (cleanDat d) i ↔ colOk d i := by
    intro i
    unfold colOk
    rw [h1, h2, vals_getD_clean, List.length_map, List.all_map, show (fits (d.cols.getD i noCol).kind ∘ clean) = fits (d.cols.getD i noCol).kind from funext fun v => fits_clean _ v]
  simp only [hc]
theorem fileOk_clean (d : Dat) : fileOk (cleanDat d) ↔ fileOk d := by unfold fileOk; rw [mayFile_clean, fileBody_clean]
theorem filePut_clean (d : Dat) : filePut (cleanDat d) = filePut d := by
  unfold filePut
  by_cases h : fileOk d
  · rw [if_pos h, if_pos ((fileOk_clean d).2 h), fileBody_clean]
  · rw [if_neg h, if_neg (fun e => h ((fileOk_clean d).1 e))]

theorem unfile_put {dec : Int → List UInt8 → Option (List Val)} {d : Dat} (h : fileOk d) (hd : decF dec (fileBody d) = some (cleanDat d)) : unfile dec (filePut d) = (cleanDat d, 0) := by
  have hp : filePut d = CrcMath.seal_ (fileBody d) := by unfold filePut; rw [if_pos h]
  unfold unfile
  rw [hp, CrcMath.open_seal]
  simp only [hd]
  rw [if_pos ⟨(fileOk_clean d).2 h, by rw [filePut_clean]; exact hp⟩]
theorem unfile_good {dec : Int → List UInt8 → Option (List Val)} {s : List UInt8} {d : Dat} (h : unfile dec s = (d, 0)) : fileOk d ∧ filePut d = s := by
  unfold unfile at h
  split at h
  · cases h
  · split at h
    · cases h
    · split at h
      · rename_i hh
        injection h with h1 _
        subst h1; exact hh
      · cases h
theorem unfile_bad {dec : Int → List UInt8 → Option (List Val)} {s : List UInt8} (h : (unfile dec s).2 ≠ 0) : unfile dec s = (noDat, if CrcMath.open_ s = none then 1101 else 1100) := by
  unfold unfile at h ⊢
  cases hb : CrcMath.open_ s with
  | none => simp
  | some b =>
    simp only [hb] at h ⊢
    rw [if_neg (by simp)]
    cases hd : decF dec b with
    | none => simp
    | some d =>
      simp only [hd] at h ⊢
      split
      · rename_i hh; rw [if_pos hh] at h; exact absurd rfl h
      · rfl
theorem unvec_in64 {dec : Int → List UInt8 → Option (List Val)} (hi : ∀ k b vs, dec k b = some vs → In64 vs) (k : Int) (s : List UInt8) : In64 (unvec dec k s).1 := by
  unfold unvec
  split
  · intro v hv; cases hv
  · split
    · intro v hv; cases hv
    · split
      · intro v hv; cases hv
      · split
        · exact hi _ _ _ ‹_›
        · intro v hv; cases hv
theorem rdCols_in64 {dec : Int → List UInt8 → Option (List Val)} (hi : ∀ k b vs, dec k b = some vs → In64 vs) (n : Nat) (r : Rd) (cs : List (Colm × List Val)) (h : (rdCols dec n r).1 = some cs) :
    ∀ p ∈ cs, In64 p.2 ∧ p.1.id < 9223372036854775808 := by
  induction n generalizing cs with
  | zero => simp only [rdCols] at h; injection h with h; subst h; simp
  | succ n ih =>
    simp only [rdCols] at h
    split at h
    · cases h
    · rename_i cs' hcs
      split at h
      · cases h
      · rename_i c hc
        injection h with h; subst h
        intro p hp
        rw [List.mem_append] at hp
        rcases hp with hp | hp
        · exact ih cs' hcs p hp
        · simp at hp; subst hp
          unfold rdCol at hc
          simp only [] at hc
          split at hc
          · cases hc
          · injection hc with hc; subst hc
            refine ⟨unvec_in64 hi _ _, ?_⟩
            have := rdNum_le 9223372036854775807 (rdCols dec n r).2
            simp only []; omega
theorem decF_in64 {dec : Int → List UInt8 → Option (List Val)} (hi : ∀ k b vs, dec k b = some vs → In64 vs) {b : List UInt8} {d : Dat} (h : decF dec b = some d) : FileIn64 d := by
  unfold decF at h
  split at h
  · split at h
    · cases h
    · rename_i cs hcs
      injection h with h; subst h
      have := rdCols_in64 hi _ _ _ hcs
      refine ⟨fun vs hvs => ?_, fun c hc => ?_⟩
      · simp only [datOf, List.mem_map] at hvs; obtain ⟨p, hp, rfl⟩ := hvs; exact (this p hp).1
      · simp only [datOf, List.mem_map] at hc; obtain ⟨p, hp, rfl⟩ := hc; exact (this p hp).2
  · cases h
theorem dec_back {dec : Int → List UInt8 → Option (List Val)} (hd : ∀ k vs, (k = 1 ∨ k = 2 ∨ k = 3) → vs.length ≤ 4096 → (∀ v ∈ vs, fits k v = true) → In64 vs → dec k (body k vs) = some (vs.map clean)) :
    ∀ k vs, mayErr k vs = 0 → In64 vs → dec k (body k vs) = some (vs.map clean) := fun k vs h hi => by
  have hm := mayErr_zero h; exact hd k vs hm.1 hm.2.1 hm.2.2 hi
theorem unfile_alike {d1 d2 : Int → List UInt8 → Option (List Val)} (s : List UInt8)
    (h1 : ∀ k vs, mayErr k vs = 0 → In64 vs → d1 k (body k vs) = some (vs.map clean)) (h2 : ∀ k vs, mayErr k vs = 0 → In64 vs → d2 k (body k vs) = some (vs.map clean))
    (i1 : ∀ k b vs, d1 k b = some vs → In64 vs) (i2 : ∀ k b vs, d2 k b = some vs → In64 vs) : unfile d1 s = unfile d2 s := by
  have side : ∀ {d d' : Int → List UInt8 → Option (List Val)}, (∀ k vs, mayErr k vs = 0 → In64 vs → d' k (body k vs) = some (vs.map clean)) → (∀ k vs, mayErr k vs = 0 → In64 vs → d k (body k vs) = some (vs.map clean)) →
      (∀ k b vs, d k b = some vs → In64 vs) → (unfile d s).2 = 0 → unfile d' s = unfile d s := by
    intro d d' hd' hd hi h0
    have e : unfile d s = ((unfile d s).1, 0) := by rw [← h0]
    have hg := unfile_good e
    have h64 : FileIn64 (unfile d s).1 := by
      unfold unfile at h0 ⊢
      cases hb : CrcMath.open_ s with
      | none => simp [hb] at h0
      | some b =>
        simp only [hb] at h0 ⊢
        cases hdd : decF d b with
        | none => simp [hdd] at h0
        | some x =>
          simp only [hdd] at h0 ⊢
          split
          · exact decF_in64 hi hdd
          · rename_i hh; rw [if_neg hh] at h0; cases h0
    have a1 := unfile_put hg.1 (decF_body hg.1 h64 hd')
    have a2 := unfile_put hg.1 (decF_body hg.1 h64 hd)
    rw [hg.2] at a1 a2
    exact a1.trans a2.symm
  by_cases c1 : (unfile d1 s).2 = 0
  · exact (side h2 h1 i1 c1).symm
  · by_cases c2 : (unfile d2 s).2 = 0
    · exact side h1 h2 i2 c2
    · rw [unfile_bad c1, unfile_bad c2]
theorem decP_back : ∀ k vs, mayErr k vs = 0 → In64 vs → decP k (body k vs) = some (vs.map clean) := dec_back fun _ _ h1 h2 h3 h4 => decP_body h1 h2 h3 h4
theorem decR_back : ∀ k vs, mayErr k vs = 0 → In64 vs → decR k (body k vs) = some (vs.map clean) := dec_back fun _ _ h1 h2 h3 h4 => decR_body h1 h2 h3 h4
theorem unfile_same (s : List UInt8) : unfile decP s = unfile decR s := unfile_alike s decP_back decR_back decP_i64 decR_i64
theorem unfile_back {d : Dat} (h : fileOk d) (hi : FileIn64 d) : unfile decP (filePut d) = (cleanDat d, 0) := unfile_put h (decF_body h hi decP_back)
end Go.Proofs.YtgmemdedpklnhaaGreat.VecMath

/-
  MORE PLAIN ARITHMETIC OF CHAPTER 5: what the loops of the readers hold; sizes; forms that are none.
-/

namespace Go.Proofs.YtgmemdedpklnhaaGreat.VarMath

def part (l : List UInt8) (i : Nat) : Nat := (l.getD i 0).toNat % 128
theorem part_lt (l : List UInt8) (i : Nat) : part l i < 128 := Nat.mod_lt _ (by omega)
theorem pow128 (i : Nat) : 128 ^ i = 2 ^ (7 * i) := by rw [show (128 : Nat) = 2 ^ 7 from rfl, ← Nat.pow_mul]

theorem val_take_succ (l : List UInt8) (i : Nat) (h : i < l.length) : val (l.take (i + 1)) = val (l.take i) + 128 ^ i * part l i := by
  rw [List.take_succ_eq_append_getElem h, val_append, List.length_take, Nat.min_eq_left (by omega)]
  unfold part
  rw [List.getD_eq_getElem?_getD, List.getElem?_eq_getElem h]
  simp [val]
theorem val_take_lt (l : List UInt8) (i : Nat) : val (l.take i) < 128 ^ i := by
  have h1 := val_lt (l.take i)
  have h2 : (l.take i).length ≤ i := List.length_take_le _ _
  exact Nat.lt_of_lt_of_le h1 (Nat.pow_le_pow_right (by omega) h2)
theorem val_take_mono (l : List UInt8) {i j : Nat} (h : i ≤ j) : val (l.take i) ≤ val (l.take j) := by
  induction j with
  | zero => rw [show i = 0 by omega]; exact Nat.le_refl _
  | succ j ih =>
    by_cases e : i = j + 1
    · subst e; exact Nat.le_refl _
    · by_cases hl : j < l.length
      · rw [val_take_succ l j hl]; have := ih (by omega); omega
      · have e1 : l.take (j + 1) = l := List.take_of_length_le (by omega)
        have e2 : l.take j = l := List.take_of_length_le (by omega)
        have h3 := ih (by omega)
        rw [e1]; rw [e2] at h3; exact h3

/-- A part more: it fits where its own bits do. -/
theorem fit_step {v i p bits : Nat} (hv : v < 2 ^ bits) (hi : v < 2 ^ (7 * i)) (h1 : 7 * i < bits → p / 2 ^ (min 7 (bits - 7 * i)) = 0) (h2 : bits ≤ 7 * i → p = 0) (hp : p < 128) :
    v + 2 ^ (7 * i) * p < 2 ^ bits := by
  by_cases h : 7 * i < bits
  · have hd := h1 h
    have hp2 : p < 2 ^ (bits - 7 * i) := by
      by_cases hm : 7 ≤ bits - 7 * i
      · exact Nat.lt_of_lt_of_le hp (by rw [show 128 = 2 ^ 7 from rfl]; exact Nat.pow_le_pow_right (by omega) hm)
      · rw [Nat.min_eq_right (by omega)] at hd
        exact (Nat.div_eq_zero_iff_lt (Nat.pow_pos (by omega))).1 hd
    have e : 2 ^ bits = 2 ^ (7 * i) * 2 ^ (bits - 7 * i) := by rw [← Nat.pow_add]; congr 1; omega
    rw [e]
    have h3 : 2 ^ (7 * i) * (p + 1) ≤ 2 ^ (7 * i) * 2 ^ (bits - 7 * i) := Nat.mul_le_mul_left _ hp2
    rw [Nat.mul_succ] at h3
    omega
  · rw [h2 (by omega)]; simpa using hv
theorem fit_not {v i p bits : Nat} (h : (7 * i < bits ∧ p / 2 ^ (min 7 (bits - 7 * i)) ≠ 0) ∨ (bits ≤ 7 * i ∧ p ≠ 0)) (hp : p < 128) : 2 ^ bits ≤ v + 2 ^ (7 * i) * p := by
  rcases h with ⟨h1, h2⟩ | ⟨h1, h2⟩
  · have hd : 2 ^ (min 7 (bits - 7 * i)) ≤ p := by
      rcases Nat.lt_or_ge p (2 ^ (min 7 (bits - 7 * i))) with h3 | h3
      · exact absurd (Nat.div_eq_of_lt h3) h2
      · exact h3
    have hm : bits - 7 * i < 7 := by
      rcases Nat.lt_or_ge (bits - 7 * i) 7 with h3 | h3
      · exact h3
      · rw [Nat.min_eq_left h3] at hd; omega
    rw [Nat.min_eq_right (by omega)] at hd
    have h3 : 2 ^ (7 * i) * 2 ^ (bits - 7 * i) ≤ 2 ^ (7 * i) * p := Nat.mul_le_mul_left _ hd
    rw [← Nat.pow_add, show 7 * i + (bits - 7 * i) = bits by omega] at h3
    omega
  · have h3 : 2 ^ bits ≤ 2 ^ (7 * i) := Nat.pow_le_pow_right (by omega) h1
    have h4 : 2 ^ (7 * i) * 1 ≤ 2 ^ (7 * i) * p := Nat.mul_le_mul_left _ (by omega)
    omega

theorem or_disjoint {v i p : Nat} (hi : v < 2 ^ i) : v ||| (p * 2 ^ i) = v + 2 ^ i * p := by
  rw [Nat.or_comm, Nat.mul_comm p, ← Nat.two_pow_add_eq_or_of_lt hi, Nat.add_comm]

/-- From the end: what stands from a place on. -/
theorem val_drop (l : List UInt8) (i : Nat) (h : i < l.length) : val (l.drop i) = val (l.drop (i + 1)) * 128 + part l i := by
  rw [List.drop_eq_getElem_cons h]
  unfold part
  rw [List.getD_eq_getElem?_getD, List.getElem?_eq_getElem h]
  simp [val]; omega
theorem val_drop_le (l : List UInt8) (i : Nat) : val (l.drop i) * 128 ^ i ≤ val l := by
  induction i generalizing l with
  | zero => simp
  | succ i ih =>
    cases l with
    | nil => simp [val]
    | cons b l =>
      have := ih l
      simp only [List.drop_succ_cons, val]
      rw [Nat.pow_succ, ← Nat.mul_assoc]
      omega

theorem set_last_form {n x : Nat} (bits : Nat) (h : x < 128 ^ (n + 1)) (_hn : n ≤ 9) (c : UInt8) (hc : 128 ≤ c.toNat) : get bits ((put n x).set ((put n x).length - 1) c ++ [0]) = (0, 0, 2) := by
  have hl := put_length_pos n x
  have hcn : cont ((put n x).set ((put n x).length - 1) c ++ [0]) = (put n x).length := by
    refine cont_eq ?_ ?_ (by simp)
    · intro i hi
      rw [getD_append_left _ _ _ (by simpa using hi), List.getD_eq_getElem?_getD, List.getElem?_set]
      by_cases e : (put n x).length - 1 = i
      · rw [if_pos e, if_pos (by omega)]; exact hc
      · rw [if_neg e, ← List.getD_eq_getElem?_getD]
        have := cont_ge (l := put n x) (i := i) (by have := cont_put h []; rw [List.append_nil] at this; rw [this]; omega)
        exact this
    · intro _
      rw [List.getD_eq_getElem?_getD, List.getElem?_append_right (by simp)]
      simp
  unfold get
  rw [hcn, if_neg (by simp), if_pos]
  right; left
  refine ⟨hl, ?_⟩
  rw [List.getD_eq_getElem?_getD, List.getElem?_append_right (by simp)]
  simp

theorem cut_form {n x : Nat} (bits : Nat) (h : x < 128 ^ (n + 1)) : get bits ((put n x).take ((put n x).length - 1)) = (0, 0, 1) := by
  have hl := put_length_pos n x
  have hcn : cont ((put n x).take ((put n x).length - 1)) = (put n x).length - 1 := by
    refine cont_eq ?_ ?_ (by simp)
    · intro i hi
      have := cont_ge (l := put n x) (i := i) (by have := cont_put h []; rw [List.append_nil] at this; rw [this]; omega)
      rw [List.getD_eq_getElem?_getD, List.getElem?_take, if_pos hi, ← List.getD_eq_getElem?_getD]
      exact this
    · intro hi; simp at hi
  unfold get
  rw [hcn, if_pos (by simp)]

theorem get_nil (bits : Nat) : get bits [] = (0, 0, 1) := rfl

/-- Bits give bytes. -/
theorem enc_length {x b : Nat} (h1 : 2 ^ b ≤ x) (h2 : x < 2 ^ (b + 1)) (hb : b < 64) : (enc x).length = b / 7 + 1 := by
  refine put_length (k := b / 7) ?_ ?_ (by omega)
  · rw [pow128]; exact Nat.lt_of_lt_of_le h2 (Nat.pow_le_pow_right (by omega) (by omega))
  · right; rw [pow128]; exact Nat.le_trans (Nat.pow_le_pow_right (by omega) (by omega)) h1
theorem enc_small {x : Nat} (h : x < 128) : (enc x).length = 1 := put_length (k := 0) (by simpa using h) (.inl rfl) (by omega)

theorem size_pow {b : Nat} (hb : b < 63) : (enc (2 ^ b)).length = b / 7 + 1 := enc_length (Nat.le_refl _) (Nat.pow_lt_pow_right (by omega) (by omega)) (by omega)
theorem size_pred {b : Nat} (hb : b < 63) : (enc (2 ^ b - 1)).length = max 1 ((b + 6) / 7) := by
  cases b with
  | zero => rfl
  | succ b =>
    have hp : 0 < 2 ^ b := Nat.pow_pos (by omega)
    rw [enc_length (b := b) (by rw [Nat.pow_succ]; omega) (by have : 0 < 2 ^ (b + 1) := Nat.pow_pos (by omega); omega) (by omega)]
    omega
theorem size_zigs {b : Nat} (hb : b < 63) : (enc (zig ((2 ^ b : Nat) - 1 : Int))).length = (enc (zig (-((2 ^ b : Nat) : Int)))).length := by
  have hp : 0 < 2 ^ b := Nat.pow_pos (by omega)
  have e1 : zig ((2 ^ b : Nat) - 1 : Int) = 2 ^ (b + 1) - 2 := by unfold zig; rw [if_neg (by omega), Nat.pow_succ]; omega
  have e2 : zig (-((2 ^ b : Nat) : Int)) = 2 ^ (b + 1) - 1 := by unfold zig; rw [if_pos (by omega), Nat.pow_succ]; omega
  rw [e1, e2]
  cases b with
  | zero => rfl
  | succ b =>
    have hq : 0 < 2 ^ b := Nat.pow_pos (by omega)
    have e3 : 2 ^ (b + 1 + 1) = 4 * 2 ^ b := by rw [Nat.pow_succ, Nat.pow_succ]; omega
    have e4 : 2 ^ (b + 1) = 2 * 2 ^ b := by rw [Nat.pow_succ]; omega
    rw [enc_length (b := b + 1) (by omega) (by omega) (by omega), enc_length (b := b + 1) (by omega) (by omega) (by omega)]

/-! ### Bits -/
/-! What a reader answers at a place of a text: the number, the place behind, the code. -/
def gNum (bits : Nat) (l : List UInt8) (at_ : Int) : Nat := if at_ < 0 ∨ (l.length : Int) < at_ then 0 else (get bits (l.drop at_.toNat)).1
def gEnd (bits : Nat) (l : List UInt8) (at_ : Int) : Int := if at_ < 0 ∨ (l.length : Int) < at_ then 0 else if (get bits (l.drop at_.toNat)).2.2 = 0 then at_ + ((get bits (l.drop at_.toNat)).2.1 : Nat) else 0
def gCode (bits : Nat) (l : List UInt8) (at_ : Int) : Int := if at_ < 0 ∨ (l.length : Int) < at_ then 500 else if (get bits (l.drop at_.toNat)).2.2 = 0 then 0 else if (get bits (l.drop at_.toNat)).2.2 = 1 then 500 else 501

theorem g_out {bits : Nat} {l : List UInt8} {at_ : Int} (h : at_ < 0 ∨ (l.length : Int) < at_) : gNum bits l at_ = 0 ∧ gEnd bits l at_ = 0 ∧ gCode bits l at_ = 500 := by
  unfold gNum gEnd gCode; rw [if_pos h, if_pos h, if_pos h]; exact ⟨rfl, rfl, rfl⟩
theorem g_in {bits : Nat} {l : List UInt8} {a : Nat} (h : a ≤ l.length) {x n c : Nat} (hg : get bits (l.drop a) = (x, n, c)) :
    gNum bits l a = x ∧ gEnd bits l a = (if c = 0 then ((a + n : Nat) : Int) else 0) ∧ gCode bits l a = (if c = 0 then 0 else if c = 1 then 500 else 501) := by
  have h0 : ¬ ((a : Int) < 0 ∨ (l.length : Int) < (a : Int)) := by omega
  unfold gNum gEnd gCode
  rw [if_neg h0, if_neg h0, if_neg h0, Int.toNat_natCast, hg]
  exact ⟨rfl, by simp, rfl⟩
theorem g_cut {bits : Nat} {l : List UInt8} {a : Nat} (h : a ≤ l.length) (hc : (l.drop a).length ≤ cont (l.drop a)) : gNum bits l a = 0 ∧ gEnd bits l a = 0 ∧ gCode bits l a = 500 :=
  g_in h (x := 0) (n := 0) (c := 1) (by unfold get; rw [if_pos hc])
theorem g_form {bits : Nat} {l : List UInt8} {a : Nat} (h : a ≤ l.length) (hc : cont (l.drop a) < (l.drop a).length)
    (hf : 9 < cont (l.drop a) ∨ (0 < cont (l.drop a) ∧ ((l.drop a).getD (cont (l.drop a)) 0).toNat = 0) ∨ 2 ^ bits ≤ val ((l.drop a).take (cont (l.drop a) + 1))) : gNum bits l a = 0 ∧ gEnd bits l a = 0 ∧ gCode bits l a = 501 :=
  g_in h (x := 0) (n := 0) (c := 2) (by unfold get; rw [if_neg (by omega), if_pos hf])
theorem g_ok {bits : Nat} {l : List UInt8} {a : Nat} (h : a ≤ l.length) (hc : cont (l.drop a) < (l.drop a).length)
    (hf : ¬ (9 < cont (l.drop a) ∨ (0 < cont (l.drop a) ∧ ((l.drop a).getD (cont (l.drop a)) 0).toNat = 0) ∨ 2 ^ bits ≤ val ((l.drop a).take (cont (l.drop a) + 1)))) :
    gNum bits l a = val ((l.drop a).take (cont (l.drop a) + 1)) ∧ gEnd bits l a = ((a + (cont (l.drop a) + 1) : Nat) : Int) ∧ gCode bits l a = 0 :=
  g_in h (c := 0) (by unfold get; rw [if_neg (by omega), if_neg hf])
theorem get_lt (bits : Nat) (l : List UInt8) : (get bits l).1 < 2 ^ bits := by
  have hp : 0 < 2 ^ bits := Nat.pow_pos (by omega)
  unfold get
  split
  · exact hp
  · split
    · exact hp
    · rename_i h; exact Nat.lt_of_not_le fun h2 => h (.inr (.inr h2))
theorem gNum_lt (bits : Nat) (l : List UInt8) (at_ : Int) : gNum bits l at_ < 2 ^ bits := by
  unfold gNum; split
  · exact Nat.pow_pos (by omega)
  · exact get_lt _ _
theorem gEnd_le (bits : Nat) (l : List UInt8) (at_ : Int) : 0 ≤ gEnd bits l at_ ∧ gEnd bits l at_ ≤ l.length := by
  unfold gEnd; split
  · omega
  · rename_i h
    split
    · rename_i h0
      have : (get bits (l.drop at_.toNat)).2.1 ≤ (l.drop at_.toNat).length := by
        unfold get at h0 ⊢
        split
        · exact Nat.zero_le _
        · split
          · exact Nat.zero_le _
          · show _ + 1 ≤ _; omega
      rw [List.length_drop] at this
      omega
    · omega

/-- Too great: the tenth byte is more than 1. -/
theorem ten_big {l : List UInt8} (hc : cont l = 9) (hl : 9 < l.length) (h1 : 1 < (l.getD 9 0).toNat) : 2 ^ 64 ≤ val (l.take (cont l + 1)) := by
  have hlt := cont_lt (l := l) (by omega)
  rw [hc] at hlt ⊢
  rw [val_take_succ l 9 hl]
  unfold part
  rw [Nat.mod_eq_of_lt hlt]
  have : 128 ^ 9 * 2 ≤ 128 ^ 9 * (l.getD 9 0).toNat := Nat.mul_le_mul_left _ h1
  have e : (128 : Nat) ^ 9 * 2 = 2 ^ 64 := by decide
  omega
theorem few_small {l : List UInt8} (hc : cont l ≤ 9) (hl : cont l < l.length) (h1 : cont l = 9 → (l.getD 9 0).toNat ≤ 1) : val (l.take (cont l + 1)) < 2 ^ 64 := by
  by_cases h9 : cont l = 9
  · have h2 := h1 h9
    rw [h9, val_take_succ l 9 (by omega)]
    have h3 := val_take_lt l 9
    have h4 : part l 9 ≤ 1 := by unfold part; omega
    have : 128 ^ 9 * part l 9 ≤ 128 ^ 9 * 1 := Nat.mul_le_mul_left _ h4
    have e : (128 : Nat) ^ 9 + 128 ^ 9 * 1 = 2 ^ 64 := by decide
    omega
  · have h3 := val_take_lt l (cont l + 1)
    have h4 : 128 ^ (cont l + 1) ≤ 128 ^ 9 := Nat.pow_le_pow_right (by omega) (by omega)
    have e : (128 : Nat) ^ 9 < 2 ^ 64 := by decide
    omega
theorem part_take (l : List UInt8) (k i : Nat) (h : i < k) : part (l.take k) i = part l i := by
  unfold part; rw [List.getD_eq_getElem?_getD, List.getD_eq_getElem?_getD, List.getElem?_take, if_pos h]

/-! Numbers one behind the other. -/
def low (x : Int) : Nat := (x % 1048576).toNat
theorem low_lt (x : Int) : low x < 1048576 := by unfold low; omega
def row : List Int → List UInt8
  | [] => []
  | x :: xs => (enc (low x) ++ enc (zig x)) ++ row xs
theorem row_append (a b : List Int) : row (a ++ b) = row a ++ row b := by
  induction a with
  | nil => rfl
  | cons x a ih => simp only [List.cons_append, row, ih, List.append_assoc]
theorem row_snoc (a : List Int) (x : Int) : row (a ++ [x]) = row a ++ (enc (low x) ++ enc (zig x)) := by rw [row_append]; simp [row]
theorem enc_length_le (x : Nat) : (enc x).length ≤ 10 := put_length_le 9 x
theorem row_length_le (a : List Int) : (row a).length ≤ 20 * a.length := by
  induction a with
  | nil => exact Nat.le_refl _
  | cons x a ih =>
    have h1 := enc_length_le (low x)
    have h2 := enc_length_le (zig x)
    simp only [row, List.length_append, List.length_cons]; omega
theorem row_drop (xs : List Int) (i : Nat) : (row xs).drop (row (xs.take i)).length = row (xs.drop i) := by
  conv => lhs; rw [← List.take_append_drop i xs]
  rw [row_append]
  by_cases h : i ≤ xs.length
  · rw [List.take_append_of_le_length (by rw [List.length_take]; omega), List.take_take, Nat.min_self, List.drop_left]
  · rw [show xs.drop i = [] from List.drop_eq_nil_of_le (by omega), List.append_nil, List.take_take, Nat.min_self]
    simp [row]

theorem enc_get {bits x : Nat} (h : x < 18446744073709551616) (hb : x < 2 ^ bits) (r : List UInt8) : get bits (enc x ++ r) = (x, (enc x).length, 0) := get_put (fits h) hb (Nat.le_refl _) r
theorem enc_pos (x : Nat) : 0 < (enc x).length := put_length_pos 9 x
/-- Read where it stands. -/
theorem g_enc {bits x : Nat} {l p r : List UInt8} (hl : l = p ++ (enc x ++ r)) (h : x < 18446744073709551616) (hb : x < 2 ^ bits) :
    gNum bits l (p.length : Nat) = x ∧ gEnd bits l (p.length : Nat) = ((p.length + (enc x).length : Nat) : Int) ∧ gCode bits l (p.length : Nat) = 0 := by
  subst hl
  exact g_in (a := p.length) (l := p ++ (enc x ++ r)) (by simp) (c := 0) (by rw [List.drop_left]; exact enc_get h hb r)
theorem g_end (bits : Nat) (l : List UInt8) : gNum bits l (l.length : Nat) = 0 ∧ gEnd bits l (l.length : Nat) = 0 ∧ gCode bits l (l.length : Nat) = 500 :=
  g_in (a := l.length) (l := l) (Nat.le_refl _) (c := 1) (by rw [List.drop_length]; exact get_nil bits)
end Go.Proofs.YtgmemdedpklnhaaGreat.VarMath
