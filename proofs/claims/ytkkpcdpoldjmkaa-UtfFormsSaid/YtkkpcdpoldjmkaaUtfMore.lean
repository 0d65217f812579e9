/-
  MORE PLAIN ARITHMETIC OF CHAPTER 2: a rune by its form (mask, head, least), as the program reads and writes it.
-/
import Derived.Test.YtkkpcdpoldjmkaaUtfMath
namespace Go.Proofs.Ytkkpcdpoldjmkaa.UtfMath

def maskOf : Nat → Nat
  | 1 => 128 | 2 => 224 | 3 => 240 | 4 => 248 | _ => 0
def headOf : Nat → Nat
  | 2 => 192 | 3 => 224 | 4 => 240 | _ => 0
def leastOf : Nat → Nat
  | 2 => 128 | 3 => 2048 | 4 => 65536 | _ => 0
/-- Does a rune of n bytes begin so? -/
def cls (n c : Nat) : Prop := (n = 1 ∧ c < 128) ∨ (n = 2 ∧ 192 ≤ c ∧ c < 224) ∨ (n = 3 ∧ 224 ≤ c ∧ c < 240) ∨ (n = 4 ∧ 240 ≤ c ∧ c < 248)
instance (n c : Nat) : Decidable (cls n c) := by unfold cls; infer_instance

set_option maxRecDepth 100000 in
theorem and_mask {n c : Nat} (h0 : 1 ≤ n) (h4 : n ≤ 4) (hc : c < 256) : (c &&& maskOf n = headOf n) ↔ cls n c := by
  have h : ∀ c : Fin 256, ((c.val &&& 128 = 0) ↔ c.val < 128) ∧ ((c.val &&& 224 = 192) ↔ 192 ≤ c.val ∧ c.val < 224) ∧ ((c.val &&& 240 = 224) ↔ 224 ≤ c.val ∧ c.val < 240) ∧ ((c.val &&& 248 = 240) ↔ 240 ≤ c.val ∧ c.val < 248) := by decide
  obtain ⟨a1, a2, a3, a4⟩ := h ⟨c, hc⟩
  simp only [] at a1 a2 a3 a4
  unfold cls
  match n, h0, h4 with
  | 1, _, _ => simp only [maskOf, headOf]; rw [a1]; simp
  | 2, _, _ => simp only [maskOf, headOf]; rw [a2]; simp
  | 3, _, _ => simp only [maskOf, headOf]; rw [a3]; simp
  | 4, _, _ => simp only [maskOf, headOf]; rw [a4]; simp
set_option maxRecDepth 100000 in
theorem andNot_mask {n c : Nat} (h0 : 1 ≤ n) (h4 : n ≤ 4) (hc : c < 256) : c &&& (18446744073709551615 - maskOf n) = c % (256 - maskOf n) := by
  have h : ∀ c : Fin 256, (c.val &&& (18446744073709551615 - 128) = c.val % 128) ∧ (c.val &&& (18446744073709551615 - 224) = c.val % 32) ∧ (c.val &&& (18446744073709551615 - 240) = c.val % 16) ∧ (c.val &&& (18446744073709551615 - 248) = c.val % 8) := by decide
  obtain ⟨a1, a2, a3, a4⟩ := h ⟨c, hc⟩
  match n, h0, h4 with
  | 1, _, _ => exact a1
  | 2, _, _ => exact a2
  | 3, _, _ => exact a3
  | 4, _, _ => exact a4
theorem mask_lt (n : Nat) : maskOf n < 256 := by unfold maskOf; split <;> omega
theorem head_lt (n : Nat) : headOf n < 256 := by unfold headOf; split <;> omega
theorem least_le (n : Nat) : leastOf n ≤ 65536 := by unfold leastOf; split <;> omega

/-- What is read behind j bytes that go on. -/
def acc (l : List UInt8) (n : Nat) : Nat → Nat
  | 0 => at_ l 0 % (256 - maskOf n)
  | j + 1 => acc l n j * 64 + at_ l (j + 1) % 64
theorem acc_lt (l : List UInt8) (n : Nat) (j : Nat) : acc l n j < 256 * 64 ^ j := by
  induction j with
  | zero =>
    have h1 := at_lt l 0
    have : acc l n 0 ≤ at_ l 0 := Nat.mod_le _ _
    simp only [Nat.pow_zero, Nat.mul_one]
    exact Nat.lt_of_le_of_lt this h1
  | succ j ih =>
    have : at_ l (j + 1) % 64 < 64 := Nat.mod_lt _ (by omega)
    simp only [acc, Nat.pow_succ]; omega

theorem rune_none {l : List UInt8} (h : ∀ n, 1 ≤ n → n ≤ 4 → ¬ cls n (at_ l 0)) : rune l = (0, 0) := by
  have h1 := h 1 (by omega) (by omega)
  have h2 := h 2 (by omega) (by omega)
  have h3 := h 3 (by omega) (by omega)
  have h4 := h 4 (by omega) (by omega)
  unfold cls at h1 h2 h3 h4
  unfold rune
  split
  · rfl
  · rw [if_neg (by omega), if_pos (by omega)]
theorem rune_cut {l : List UInt8} {n : Nat} (h : cls n (at_ l 0)) (hl : l.length < n) : rune l = (0, 0) := by
  unfold rune
  by_cases h0 : l.length = 0
  · rw [if_pos h0]
  rw [if_neg h0]
  rcases h with ⟨rfl, h⟩ | ⟨rfl, h1, h2⟩ | ⟨rfl, h1, h2⟩ | ⟨rfl, h1, h2⟩
  · omega
  · rw [if_neg (by omega)]
    split
    · rfl
    · rw [if_neg (fun g => by have := g.1; omega)]
  · rw [if_neg (by omega), if_neg (by omega), if_neg (by omega), if_pos h2, if_neg (fun g => by have := g.2.1.1; omega)]
  · rw [if_neg (by omega)]
    split
    · rfl
    · rw [if_neg (by omega), if_neg (by omega), if_neg (fun g => by have := g.2.2.1.1; omega)]
theorem rune_not_goes {l : List UInt8} {n j : Nat} (h : cls n (at_ l 0)) (h1 : 1 ≤ j) (h2 : j < n) (hg : ¬ goes l j) : rune l = (0, 0) := by
  unfold rune
  by_cases h0 : l.length = 0
  · rw [if_pos h0]
  rw [if_neg h0]
  rcases h with ⟨rfl, h⟩ | ⟨rfl, ha, hb⟩ | ⟨rfl, ha, hb⟩ | ⟨rfl, ha, hb⟩
  · omega
  · obtain rfl : j = 1 := by omega
    rw [if_neg (by omega)]
    split
    · rfl
    · rfl
  · rw [if_neg (by omega), if_neg (by omega), if_neg (by omega), if_pos (by omega), if_neg]
    rintro ⟨g1, g2, _⟩
    have : j = 1 ∨ j = 2 := by omega
    rcases this with rfl | rfl
    · exact hg g1
    · exact hg g2
  · rw [if_neg (by omega)]
    split
    · rfl
    · rw [if_neg (by omega), if_neg (by omega), if_neg]
      rintro ⟨g1, g2, g3, _⟩
      have : j = 1 ∨ j = 2 ∨ j = 3 := by omega
      rcases this with rfl | rfl | rfl
      · exact hg g1
      · exact hg g2
      · exact hg g3
/-- A whole form: the rune, or none. -/
theorem rune_whole {l : List UInt8} {n : Nat} (h : cls n (at_ l 0)) (hl : n ≤ l.length) (hg : ∀ j, 1 ≤ j → j < n → goes l j) :
    rune l = if acc l n (n - 1) < leastOf n ∨ ¬ may (acc l n (n - 1)) then (0, 0) else (acc l n (n - 1), n) := by
  have hc := at_lt l 0
  unfold rune may
  rcases h with ⟨rfl, h⟩ | ⟨rfl, ha, hb⟩ | ⟨rfl, ha, hb⟩ | ⟨rfl, ha, hb⟩
  · have e : acc l 1 (1 - 1) = at_ l 0 := by show at_ l 0 % 128 = _; omega
    have e2 : leastOf 1 = 0 := rfl
    rw [e, e2, if_neg (by omega), if_pos h, if_neg (by omega)]
  · have g1 := hg 1 (by omega) (by omega)
    have e : acc l 2 (2 - 1) = (at_ l 0 - 192) * 64 + (at_ l 1 - 128) := by
      show at_ l 0 % 32 * 64 + at_ l 1 % 64 = _
      have := g1.2; omega
    have e2 : leastOf 2 = 128 := rfl
    have := g1.2
    rw [e, e2, if_neg (by omega), if_neg (by omega)]
    by_cases c : at_ l 0 < 194
    · rw [if_pos (by omega), if_pos (by omega)]
    · rw [if_neg (by omega), if_pos hb, if_pos g1, if_neg (by omega)]
  · have g1 := hg 1 (by omega) (by omega)
    have g2 := hg 2 (by omega) (by omega)
    have e : acc l 3 (3 - 1) = (at_ l 0 - 224) * 4096 + (at_ l 1 - 128) * 64 + (at_ l 2 - 128) := by
      show (at_ l 0 % 16 * 64 + at_ l 1 % 64) * 64 + at_ l 2 % 64 = _
      have := g1.2; have := g2.2; omega
    have e2 : leastOf 3 = 2048 := rfl
    have := g1.2
    have := g2.2
    rw [e, e2, if_neg (by omega), if_neg (by omega), if_neg (by omega), if_neg (by omega), if_pos hb]
    by_cases c : 2048 ≤ (at_ l 0 - 224) * 4096 + (at_ l 1 - 128) * 64 + (at_ l 2 - 128) ∧ ((at_ l 0 - 224) * 4096 + (at_ l 1 - 128) * 64 + (at_ l 2 - 128) < 55296 ∨ 57343 < (at_ l 0 - 224) * 4096 + (at_ l 1 - 128) * 64 + (at_ l 2 - 128))
    · rw [if_pos ⟨g1, g2, c⟩, if_neg (by omega)]
    · rw [if_neg (fun x => c x.2.2), if_pos (by omega)]
  · have g1 := hg 1 (by omega) (by omega)
    have g2 := hg 2 (by omega) (by omega)
    have g3 := hg 3 (by omega) (by omega)
    have e : acc l 4 (4 - 1) = (at_ l 0 - 240) * 262144 + (at_ l 1 - 128) * 4096 + (at_ l 2 - 128) * 64 + (at_ l 3 - 128) := by
      show ((at_ l 0 % 8 * 64 + at_ l 1 % 64) * 64 + at_ l 2 % 64) * 64 + at_ l 3 % 64 = _
      have := g1.2; have := g2.2; have := g3.2; omega
    have e2 : leastOf 4 = 65536 := rfl
    have := g1.2
    have := g2.2
    have := g3.2
    rw [e, e2, if_neg (by omega), if_neg (by omega)]
    by_cases c5 : 244 < at_ l 0
    · rw [if_pos (by omega), if_pos (by omega)]
    rw [if_neg (by omega), if_neg (by omega), if_neg (by omega)]
    by_cases c : 65536 ≤ (at_ l 0 - 240) * 262144 + (at_ l 1 - 128) * 4096 + (at_ l 2 - 128) * 64 + (at_ l 3 - 128) ∧ (at_ l 0 - 240) * 262144 + (at_ l 1 - 128) * 4096 + (at_ l 2 - 128) * 64 + (at_ l 3 - 128) ≤ 1114111
    · rw [if_pos ⟨g1, g2, g3, c⟩, if_neg (by omega)]
    · rw [if_neg (fun x => c x.2.2.2), if_pos (by omega)]

/-! A rune's bytes by their places. -/
def sizeOf_ (r : Nat) : Nat := if r < 128 then 1 else if r < 2048 then 2 else if r < 65536 then 3 else 4
theorem put_size (r : Nat) : (put r).length = sizeOf_ r := put_length r
theorem size_bounds (r : Nat) : 1 ≤ sizeOf_ r ∧ sizeOf_ r ≤ 4 := by unfold sizeOf_; repeat' split
                                                                    all_goals omega
theorem size_least {r n : Nat} (h0 : 1 ≤ n) (h4 : n ≤ 4) (hn : sizeOf_ r ≤ n) : r < leastOf n ↔ sizeOf_ r < n := by
  unfold sizeOf_ at hn ⊢
  match n, h0, h4 with
  | 1, _, _ => simp only [leastOf]; repeat' split
               all_goals omega
  | 2, _, _ => simp only [leastOf]; revert hn; repeat' split
               all_goals omega
  | 3, _, _ => simp only [leastOf]; revert hn; repeat' split
               all_goals omega
  | 4, _, _ => simp only [leastOf]; revert hn; repeat' split
               all_goals omega
theorem put_low {r j : Nat} (h1 : 1 ≤ j) (h2 : j < sizeOf_ r) : at_ (put r) j = 128 + r / 64 ^ (sizeOf_ r - 1 - j) % 64 := by
  unfold sizeOf_ at h2 ⊢
  unfold put
  by_cases c1 : r < 128
  · simp only [c1, if_true] at h2; omega
  simp only [c1, if_false] at h2 ⊢
  by_cases c2 : r < 2048
  · simp only [c2, if_true] at h2 ⊢
    obtain rfl : j = 1 := by omega
    rw [at_cons_succ, at_cons_zero, nat_u8 (by omega)]; simp
  simp only [c2, if_false] at h2 ⊢
  by_cases c3 : r < 65536
  · simp only [c3, if_true] at h2 ⊢
    have : j = 1 ∨ j = 2 := by omega
    rcases this with rfl | rfl
    · rw [at_cons_succ, at_cons_zero, nat_u8 (by omega)]
    · rw [at_cons_succ, at_cons_succ, at_cons_zero, nat_u8 (by omega)]; simp
  simp only [c3, if_false] at h2 ⊢
  have : j = 1 ∨ j = 2 ∨ j = 3 := by omega
  rcases this with rfl | rfl | rfl
  · rw [at_cons_succ, at_cons_zero, nat_u8 (by omega)]
  · rw [at_cons_succ, at_cons_succ, at_cons_zero, nat_u8 (by omega)]
  · rw [at_cons_succ, at_cons_succ, at_cons_succ, at_cons_zero, nat_u8 (by omega)]; simp
theorem put_head {r : Nat} (h : r ≤ 1114111) : at_ (put r) 0 = headOf (sizeOf_ r) ||| (r / 64 ^ (sizeOf_ r - 1)) ∧ headOf (sizeOf_ r) ||| (r / 64 ^ (sizeOf_ r - 1)) < 256 := by
  have h192 : ∀ x : Fin 32, 192 ||| x.val = 192 + x.val := by decide
  have h224 : ∀ x : Fin 16, 224 ||| x.val = 224 + x.val := by decide
  have h240 : ∀ x : Fin 8, 240 ||| x.val = 240 + x.val := by decide
  unfold sizeOf_ put
  by_cases c1 : r < 128
  · simp only [c1, if_true]
    rw [at_cons_zero, nat_u8 (by omega)]
    simp [headOf]; omega
  simp only [c1, if_false]
  by_cases c2 : r < 2048
  · simp only [c2, if_true]
    have e := h192 ⟨r / 64, by omega⟩
    simp only [] at e
    rw [at_cons_zero, nat_u8 (by omega)]
    simp only [headOf, show (2 : Nat) - 1 = 1 from rfl, Nat.pow_one]
    rw [e]; omega
  simp only [c2, if_false]
  by_cases c3 : r < 65536
  · simp only [c3, if_true]
    have e := h224 ⟨r / 4096, by omega⟩
    simp only [] at e
    rw [at_cons_zero, nat_u8 (by omega)]
    simp only [headOf, show (3 : Nat) - 1 = 2 from rfl, show (64 : Nat) ^ 2 = 4096 from rfl]
    rw [e]; omega
  simp only [c3, if_false]
  have e := h240 ⟨r / 262144, by omega⟩
  simp only [] at e
  rw [at_cons_zero, nat_u8 (by omega)]
  simp only [headOf, show (4 : Nat) - 1 = 3 from rfl, show (64 : Nat) ^ 3 = 262144 from rfl]
  rw [e]; omega

/-! The laws' own forms. -/
theorem first_two {s t : List UInt8} (h : first s = -1) : first (s ++ t) = -1 ↔ first t = -1 := by
  rw [first_append h]
  have := first_ge (t.length + 1) 0 t
  constructor
  · intro h2
    split at h2
    · assumption
    · exfalso; have : (0 : Int) ≤ s.length := by omega
      unfold first at h2; unfold first at *; omega
  · intro h2; rw [if_pos h2]
end Go.Proofs.Ytkkpcdpoldjmkaa.UtfMath
