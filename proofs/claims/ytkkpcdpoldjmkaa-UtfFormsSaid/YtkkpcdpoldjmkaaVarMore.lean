/-
  MORE PLAIN ARITHMETIC OF CHAPTER 5: what the loops of the readers hold; sizes; forms that are none.
-/
import Derived.Test.YtkkpcdpoldjmkaaVarMath
namespace Go.Proofs.Ytkkpcdpoldjmkaa.VarMath

def part (l : List UInt8) (i : Nat) : Nat := (l.getD i 0).toNat % 128
theorem part_lt (l : List UInt8) (i : Nat) : part l i < 128 := Nat.mod_lt _ (by omega)
theorem pow128 (i : Nat) : 128 ^ i = 2 ^ (7 * i) := by rw [show (128 : Nat) = 2 ^ 7 from rfl, ← Nat.pow_mul]

theorem val_take_succ (l : List UInt8) (i : Nat) (h : i < l.length) : val (l.take (i + 1)) = val (l.take i) + 128 ^ i * part l i := by
  rw [List.take_succ_eq_append_getElem h, val_append, List.length_take, Nat.min_eq_left (by omega)]
  unfold part
  rw [List.getD_eq_getElem?_getD, List.getElem?_eq_getElem h]
  simp [val]
theorem val_take_lt (l : List UInt8) (i : Nat) : val (l.take i) < 128 ^ i := by
  have h1 := val_lt (l.take i)
  have h2 : (l.take i).length ≤ i := List.length_take_le _ _
  exact Nat.lt_of_lt_of_le h1 (Nat.pow_le_pow_right (by omega) h2)
theorem val_take_mono (l : List UInt8) {i j : Nat} (h : i ≤ j) : val (l.take i) ≤ val (l.take j) := by
  induction j with
  | zero => rw [show i = 0 by omega]; exact Nat.le_refl _
  | succ j ih =>
    by_cases e : i = j + 1
    · subst e; exact Nat.le_refl _
    · by_cases hl : j < l.length
      · rw [val_take_succ l j hl]; have := ih (by omega); omega
      · have e1 : l.take (j + 1) = l := List.take_of_length_le (by omega)
        have e2 : l.take j = l := List.take_of_length_le (by omega)
        have h3 := ih (by omega)
        rw [e1]; rw [e2] at h3; exact h3

/-- A part more: it fits where its own bits do. -/
theorem fit_step {v i p bits : Nat} (hv : v < 2 ^ bits) (hi : v < 2 ^ (7 * i)) (h1 : 7 * i < bits → p / 2 ^ (min 7 (bits - 7 * i)) = 0) (h2 : bits ≤ 7 * i → p = 0) (hp : p < 128) :
    v + 2 ^ (7 * i) * p < 2 ^ bits := by
  by_cases h : 7 * i < bits
  · have hd := h1 h
    have hp2 : p < 2 ^ (bits - 7 * i) := by
      by_cases hm : 7 ≤ bits - 7 * i
      · exact Nat.lt_of_lt_of_le hp (by rw [show 128 = 2 ^ 7 from rfl]; exact Nat.pow_le_pow_right (by omega) hm)
      · rw [Nat.min_eq_right (by omega)] at hd
        exact (Nat.div_eq_zero_iff_lt (Nat.pow_pos (by omega))).1 hd
    have e : 2 ^ bits = 2 ^ (7 * i) * 2 ^ (bits - 7 * i) := by rw [← Nat.pow_add]; congr 1; omega
    rw [e]
    have h3 : 2 ^ (7 * i) * (p + 1) ≤ 2 ^ (7 * i) * 2 ^ (bits - 7 * i) := Nat.mul_le_mul_left _ hp2
    rw [Nat.mul_succ] at h3
    omega
  · rw [h2 (by omega)]; simpa using hv
theorem fit_not {v i p bits : Nat} (h : (7 * i < bits ∧ p / 2 ^ (min 7 (bits - 7 * i)) ≠ 0) ∨ (bits ≤ 7 * i ∧ p ≠ 0)) (hp : p < 128) : 2 ^ bits ≤ v + 2 ^ (7 * i) * p := by
  rcases h with ⟨h1, h2⟩ | ⟨h1, h2⟩
  · have hd : 2 ^ (min 7 (bits - 7 * i)) ≤ p := by
      rcases Nat.lt_or_ge p (2 ^ (min 7 (bits - 7 * i))) with h3 | h3
      · exact absurd (Nat.div_eq_of_lt h3) h2
      · exact h3
    have hm : bits - 7 * i < 7 := by
      rcases Nat.lt_or_ge (bits - 7 * i) 7 with h3 | h3
      · exact h3
      · rw [Nat.min_eq_left h3] at hd; omega
    rw [Nat.min_eq_right (by omega)] at hd
    have h3 : 2 ^ (7 * i) * 2 ^ (bits - 7 * i) ≤ 2 ^ (7 * i) * p := Nat.mul_le_mul_left _ hd
    rw [← Nat.pow_add, show 7 * i + (bits - 7 * i) = bits by omega] at h3
    omega
  · have h3 : 2 ^ bits ≤ 2 ^ (7 * i) := Nat.pow_le_pow_right (by omega) h1
    have h4 : 2 ^ (7 * i) * 1 ≤ 2 ^ (7 * i) * p := Nat.mul_le_mul_left _ (by omega)
    omega

theorem or_disjoint {v i p : Nat} (hi : v < 2 ^ i) : v ||| (p * 2 ^ i) = v + 2 ^ i * p := by
  rw [Nat.or_comm, Nat.mul_comm p, ← Nat.two_pow_add_eq_or_of_lt hi, Nat.add_comm]

/-- From the end: what stands from a place on. -/
theorem val_drop (l : List UInt8) (i : Nat) (h : i < l.length) : val (l.drop i) = val (l.drop (i + 1)) * 128 + part l i := by
  rw [List.drop_eq_getElem_cons h]
  unfold part
  rw [List.getD_eq_getElem?_getD, List.getElem?_eq_getElem h]
  simp [val]; omega
theorem val_drop_le (l : List UInt8) (i : Nat) : val (l.drop i) * 128 ^ i ≤ val l := by
  induction i generalizing l with
  | zero => simp
  | succ i ih =>
    cases l with
    | nil => simp [val]
    | cons b l =>
      have := ih l
      simp only [List.drop_succ_cons, val]
      rw [Nat.pow_succ, ← Nat.mul_assoc]
      omega

theorem set_last_form {n x : Nat} (bits : Nat) (h : x < 128 ^ (n + 1)) (_hn : n ≤ 9) (c : UInt8) (hc : 128 ≤ c.toNat) : get bits ((put n x).set ((put n x).length - 1) c ++ [0]) = (0, 0, 2) := by
  have hl := put_length_pos n x
  have hcn : cont ((put n x).set ((put n x).length - 1) c ++ [0]) = (put n x).length := by
    refine cont_eq ?_ ?_ (by simp)
    · intro i hi
      rw [getD_append_left _ _ _ (by simpa using hi), List.getD_eq_getElem?_getD, List.getElem?_set]
      by_cases e : (put n x).length - 1 = i
      · rw [if_pos e, if_pos (by omega)]; exact hc
      · rw [if_neg e, ← List.getD_eq_getElem?_getD]
        have := cont_ge (l := put n x) (i := i) (by have := cont_put h []; rw [List.append_nil] at this; rw [this]; omega)
        exact this
    · intro _
      rw [List.getD_eq_getElem?_getD, List.getElem?_append_right (by simp)]
      simp
  unfold get
  rw [hcn, if_neg (by simp), if_pos]
  right; left
  refine ⟨hl, ?_⟩
  rw [List.getD_eq_getElem?_getD, List.getElem?_append_right (by simp)]
  simp

theorem cut_form {n x : Nat} (bits : Nat) (h : x < 128 ^ (n + 1)) : get bits ((put n x).take ((put n x).length - 1)) = (0, 0, 1) := by
  have hl := put_length_pos n x
  have hcn : cont ((put n x).take ((put n x).length - 1)) = (put n x).length - 1 := by
    refine cont_eq ?_ ?_ (by simp)
    · intro i hi
      have := cont_ge (l := put n x) (i := i) (by have := cont_put h []; rw [List.append_nil] at this; rw [this]; omega)
      rw [List.getD_eq_getElem?_getD, List.getElem?_take, if_pos hi, ← List.getD_eq_getElem?_getD]
      exact this
    · intro hi; simp at hi
  unfold get
  rw [hcn, if_pos (by simp)]

theorem get_nil (bits : Nat) : get bits [] = (0, 0, 1) := rfl

/-- Bits give bytes. -/
theorem enc_length {x b : Nat} (h1 : 2 ^ b ≤ x) (h2 : x < 2 ^ (b + 1)) (hb : b < 64) : (enc x).length = b / 7 + 1 := by
  refine put_length (k := b / 7) ?_ ?_ (by omega)
  · rw [pow128]; exact Nat.lt_of_lt_of_le h2 (Nat.pow_le_pow_right (by omega) (by omega))
  · right; rw [pow128]; exact Nat.le_trans (Nat.pow_le_pow_right (by omega) (by omega)) h1
theorem enc_small {x : Nat} (h : x < 128) : (enc x).length = 1 := put_length (k := 0) (by simpa using h) (.inl rfl) (by omega)

theorem size_pow {b : Nat} (hb : b < 63) : (enc (2 ^ b)).length = b / 7 + 1 := enc_length (Nat.le_refl _) (Nat.pow_lt_pow_right (by omega) (by omega)) (by omega)
theorem size_pred {b : Nat} (hb : b < 63) : (enc (2 ^ b - 1)).length = max 1 ((b + 6) / 7) := by
  cases b with
  | zero => rfl
  | succ b =>
    have hp : 0 < 2 ^ b := Nat.pow_pos (by omega)
    rw [enc_length (b := b) (by rw [Nat.pow_succ]; omega) (by have : 0 < 2 ^ (b + 1) := Nat.pow_pos (by omega); omega) (by omega)]
    omega
theorem size_zigs {b : Nat} (hb : b < 63) : (enc (zig ((2 ^ b : Nat) - 1 : Int))).length = (enc (zig (-((2 ^ b : Nat) : Int)))).length := by
  have hp : 0 < 2 ^ b := Nat.pow_pos (by omega)
  have e1 : zig ((2 ^ b : Nat) - 1 : Int) = 2 ^ (b + 1) - 2 := by unfold zig; rw [if_neg (by omega), Nat.pow_succ]; omega
  have e2 : zig (-((2 ^ b : Nat) : Int)) = 2 ^ (b + 1) - 1 := by unfold zig; rw [if_pos (by omega), Nat.pow_succ]; omega
  rw [e1, e2]
  cases b with
  | zero => rfl
  | succ b =>
    have hq : 0 < 2 ^ b := Nat.pow_pos (by omega)
    have e3 : 2 ^ (b + 1 + 1) = 4 * 2 ^ b := by rw [Nat.pow_succ, Nat.pow_succ]; omega
    have e4 : 2 ^ (b + 1) = 2 * 2 ^ b := by rw [Nat.pow_succ]; omega
    rw [enc_length (b := b + 1) (by omega) (by omega) (by omega), enc_length (b := b + 1) (by omega) (by omega) (by omega)]

/-! ### Bits -/
/-! What a reader answers at a place of a text: the number, the place behind, the code. -/
def gNum (bits : Nat) (l : List UInt8) (at_ : Int) : Nat := if at_ < 0 ∨ (l.length : Int) < at_ then 0 else (get bits (l.drop at_.toNat)).1
def gEnd (bits : Nat) (l : List UInt8) (at_ : Int) : Int := if at_ < 0 ∨ (l.length : Int) < at_ then 0 else if (get bits (l.drop at_.toNat)).2.2 = 0 then at_ + ((get bits (l.drop at_.toNat)).2.1 : Nat) else 0
def gCode (bits : Nat) (l : List UInt8) (at_ : Int) : Int := if at_ < 0 ∨ (l.length : Int) < at_ then 500 else if (get bits (l.drop at_.toNat)).2.2 = 0 then 0 else if (get bits (l.drop at_.toNat)).2.2 = 1 then 500 else 501

theorem g_out {bits : Nat} {l : List UInt8} {at_ : Int} (h : at_ < 0 ∨ (l.length : Int) < at_) : gNum bits l at_ = 0 ∧ gEnd bits l at_ = 0 ∧ gCode bits l at_ = 500 := by
  unfold gNum gEnd gCode; rw [if_pos h, if_pos h, if_pos h]; exact ⟨rfl, rfl, rfl⟩
theorem g_in {bits : Nat} {l : List UInt8} {a : Nat} (h : a ≤ l.length) {x n c : Nat} (hg : get bits (l.drop a) = (x, n, c)) :
    gNum bits l a = x ∧ gEnd bits l a = (if c = 0 then ((a + n : Nat) : Int) else 0) ∧ gCode bits l a = (if c = 0 then 0 else if c = 1 then 500 else 501) := by
  have h0 : ¬ ((a : Int) < 0 ∨ (l.length : Int) < (a : Int)) := by omega
  unfold gNum gEnd gCode
  rw [if_neg h0, if_neg h0, if_neg h0, Int.toNat_natCast, hg]
  exact ⟨rfl, by simp, rfl⟩
theorem g_cut {bits : Nat} {l : List UInt8} {a : Nat} (h : a ≤ l.length) (hc : (l.drop a).length ≤ cont (l.drop a)) : gNum bits l a = 0 ∧ gEnd bits l a = 0 ∧ gCode bits l a = 500 :=
  g_in h (x := 0) (n := 0) (c := 1) (by unfold get; rw [if_pos hc])
theorem g_form {bits : Nat} {l : List UInt8} {a : Nat} (h : a ≤ l.length) (hc : cont (l.drop a) < (l.drop a).length)
    (hf : 9 < cont (l.drop a) ∨ (0 < cont (l.drop a) ∧ ((l.drop a).getD (cont (l.drop a)) 0).toNat = 0) ∨ 2 ^ bits ≤ val ((l.drop a).take (cont (l.drop a) + 1))) : gNum bits l a = 0 ∧ gEnd bits l a = 0 ∧ gCode bits l a = 501 :=
  g_in h (x := 0) (n := 0) (c := 2) (by unfold get; rw [if_neg (by omega), if_pos hf])
theorem g_ok {bits : Nat} {l : List UInt8} {a : Nat} (h : a ≤ l.length) (hc : cont (l.drop a) < (l.drop a).length)
    (hf : ¬ (9 < cont (l.drop a) ∨ (0 < cont (l.drop a) ∧ ((l.drop a).getD (cont (l.drop a)) 0).toNat = 0) ∨ 2 ^ bits ≤ val ((l.drop a).take (cont (l.drop a) + 1)))) :
    gNum bits l a = val ((l.drop a).take (cont (l.drop a) + 1)) ∧ gEnd bits l a = ((a + (cont (l.drop a) + 1) : Nat) : Int) ∧ gCode bits l a = 0 :=
  g_in h (c := 0) (by unfold get; rw [if_neg (by omega), if_neg hf])
theorem get_lt (bits : Nat) (l : List UInt8) : (get bits l).1 < 2 ^ bits := by
  have hp : 0 < 2 ^ bits := Nat.pow_pos (by omega)
  unfold get
  split
  · exact hp
  · split
    · exact hp
    · rename_i h; exact Nat.lt_of_not_le fun h2 => h (.inr (.inr h2))
theorem gNum_lt (bits : Nat) (l : List UInt8) (at_ : Int) : gNum bits l at_ < 2 ^ bits := by
  unfold gNum; split
  · exact Nat.pow_pos (by omega)
  · exact get_lt _ _
theorem gEnd_le (bits : Nat) (l : List UInt8) (at_ : Int) : 0 ≤ gEnd bits l at_ ∧ gEnd bits l at_ ≤ l.length := by
  unfold gEnd; split
  · omega
  · rename_i h
    split
    · rename_i h0
      have : (get bits (l.drop at_.toNat)).2.1 ≤ (l.drop at_.toNat).length := by
        unfold get at h0 ⊢
        split
        · exact Nat.zero_le _
        · split
          · exact Nat.zero_le _
          · show _ + 1 ≤ _; omega
      rw [List.length_drop] at this
      omega
    · omega

/-- Too great: the tenth byte is more than 1. -/
theorem ten_big {l : List UInt8} (hc : cont l = 9) (hl : 9 < l.length) (h1 : 1 < (l.getD 9 0).toNat) : 2 ^ 64 ≤ val (l.take (cont l + 1)) := by
  have hlt := cont_lt (l := l) (by omega)
  rw [hc] at hlt ⊢
  rw [val_take_succ l 9 hl]
  unfold part
  rw [Nat.mod_eq_of_lt hlt]
  have : 128 ^ 9 * 2 ≤ 128 ^ 9 * (l.getD 9 0).toNat := Nat.mul_le_mul_left _ h1
  have e : (128 : Nat) ^ 9 * 2 = 2 ^ 64 := by decide
  omega
theorem few_small {l : List UInt8} (hc : cont l ≤ 9) (hl : cont l < l.length) (h1 : cont l = 9 → (l.getD 9 0).toNat ≤ 1) : val (l.take (cont l + 1)) < 2 ^ 64 := by
  by_cases h9 : cont l = 9
  · have h2 := h1 h9
    rw [h9, val_take_succ l 9 (by omega)]
    have h3 := val_take_lt l 9
    have h4 : part l 9 ≤ 1 := by unfold part; omega
    have : 128 ^ 9 * part l 9 ≤ 128 ^ 9 * 1 := Nat.mul_le_mul_left _ h4
    have e : (128 : Nat) ^ 9 + 128 ^ 9 * 1 = 2 ^ 64 := by decide
    omega
  · have h3 := val_take_lt l (cont l + 1)
    have h4 : 128 ^ (cont l + 1) ≤ 128 ^ 9 := Nat.pow_le_pow_right (by omega) (by omega)
    have e : (128 : Nat) ^ 9 < 2 ^ 64 := by decide
    omega
theorem part_take (l : List UInt8) (k i : Nat) (h : i < k) : part (l.take k) i = part l i := by
  unfold part; rw [List.getD_eq_getElem?_getD, List.getD_eq_getElem?_getD, List.getElem?_take, if_pos h]

/-! Numbers one behind the other. -/
def low (x : Int) : Nat := (x % 1048576).toNat
theorem low_lt (x : Int) : low x < 1048576 := by unfold low; omega
def row : List Int → List UInt8
  | [] => []
  | x :: xs => (enc (low x) ++ enc (zig x)) ++ row xs
theorem row_append (a b : List Int) : row (a ++ b) = row a ++ row b := by
  induction a with
  | nil => rfl
  | cons x a ih => simp only [List.cons_append, row, ih, List.append_assoc]
theorem row_snoc (a : List Int) (x : Int) : row (a ++ [x]) = row a ++ (enc (low x) ++ enc (zig x)) := by rw [row_append]; simp [row]
theorem enc_length_le (x : Nat) : (enc x).length ≤ 10 := put_length_le 9 x
theorem row_length_le (a : List Int) : (row a).length ≤ 20 * a.length := by
  induction a with
  | nil => exact Nat.le_refl _
  | cons x a ih =>
    have h1 := enc_length_le (low x)
    have h2 := enc_length_le (zig x)
    simp only [row, List.length_append, List.length_cons]; omega
theorem row_drop (xs : List Int) (i : Nat) : (row xs).drop (row (xs.take i)).length = row (xs.drop i) := by
  conv => lhs; rw [← List.take_append_drop i xs]
  rw [row_append]
  by_cases h : i ≤ xs.length
  · rw [List.take_append_of_le_length (by rw [List.length_take]; omega), List.take_take, Nat.min_self, List.drop_left]
  · rw [List.drop_eq_nil_of_le (as := xs) (by omega), List.append_nil, List.take_take, Nat.min_self]
    simp [row]

theorem enc_get {bits x : Nat} (h : x < 18446744073709551616) (hb : x < 2 ^ bits) (r : List UInt8) : get bits (enc x ++ r) = (x, (enc x).length, 0) := get_put (fits h) hb (Nat.le_refl _) r
theorem enc_pos (x : Nat) : 0 < (enc x).length := put_length_pos 9 x
/-- Read where it stands. -/
theorem g_enc {bits x : Nat} {l p r : List UInt8} (hl : l = p ++ (enc x ++ r)) (h : x < 18446744073709551616) (hb : x < 2 ^ bits) :
    gNum bits l (p.length : Nat) = x ∧ gEnd bits l (p.length : Nat) = ((p.length + (enc x).length : Nat) : Int) ∧ gCode bits l (p.length : Nat) = 0 := by
  subst hl
  exact g_in (a := p.length) (l := p ++ (enc x ++ r)) (by simp) (c := 0) (by rw [List.drop_left]; exact enc_get h hb r)
theorem g_end (bits : Nat) (l : List UInt8) : gNum bits l (l.length : Nat) = 0 ∧ gEnd bits l (l.length : Nat) = 0 ∧ gCode bits l (l.length : Nat) = 500 :=
  g_in (a := l.length) (l := l) (Nat.le_refl _) (c := 1) (by rw [List.drop_length]; exact get_nil bits)
end Go.Proofs.Ytkkpcdpoldjmkaa.VarMath
