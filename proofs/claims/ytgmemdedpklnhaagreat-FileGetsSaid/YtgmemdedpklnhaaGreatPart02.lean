/-
  Lemmas of this claim, text behind text: BitMore, UtfMore, UnvMore, VecSizes. Each states its own conditions.
-/
import Derived.Test.YtgmemdedpklnhaaGreatPart01

/-
  MORE PLAIN ARITHMETIC OF CHAPTER 6: a window over the bits; bits laid one by one; what the readers answer.
-/

namespace Go.Proofs.YtgmemdedpklnhaaGreat.BitMath

/-! The window. -/
theorem win_lt {A T m : Nat} (hA : A < 2 ^ T) (hm : 8 * m ≤ T) : A / 256 ^ m < 2 ^ (T - 8 * m) := by
  rw [p256]
  refine Nat.div_lt_of_lt_mul ?_
  rw [← Nat.pow_add, show 8 * m + (T - 8 * m) = T by omega]; exact hA
theorem win_or {A x T m : Nat} (hA : A < 2 ^ T) (hm : 8 * m ≤ T) : (A / 256 ^ m) ||| x * 2 ^ (T - 8 * m) = (A + x * 2 ^ T) / 256 ^ m := by
  rw [or_bit (win_lt hA hm)]
  have e : x * 2 ^ T = 256 ^ m * (x * 2 ^ (T - 8 * m)) := by
    rw [p256, ← Nat.mul_assoc, Nat.mul_comm (2 ^ (8 * m)) x, Nat.mul_assoc, ← Nat.pow_add, show 8 * m + (T - 8 * m) = T by omega]
  rw [e, Nat.add_mul_div_left _ _ (Nat.pow_pos (by omega))]
theorem win_shift (A m : Nat) : A / 256 ^ m / 256 = A / 256 ^ (m + 1) := by rw [Nat.div_div_eq_div_mul, ← Nat.pow_succ]
theorem add_lt {A x T w : Nat} (hA : A < 2 ^ T) (hx : x < 2 ^ w) : A + x * 2 ^ T < 2 ^ (T + w) := by
  rw [Nat.pow_add, Nat.mul_comm (2 ^ T)]
  have h : x * 2 ^ T + 2 ^ T ≤ 2 ^ w * 2 ^ T := by
    have : (x + 1) * 2 ^ T ≤ 2 ^ w * 2 ^ T := Nat.mul_le_mul_right _ hx
    rw [Nat.succ_mul] at this; exact this
  omega

/-- Numbers of w bits, as bytes. -/
def packed (w : Nat) (ns : List Nat) : List UInt8 := bytes ((w * ns.length + 7) / 8) (all w ns)
theorem packed_length (w : Nat) (ns : List Nat) : (packed w ns).length = (w * ns.length + 7) / 8 := bytes_length _ _
def nats (xs : List Int) : List Nat := xs.map Int.toNat
theorem nats_length (xs : List Int) : (nats xs).length = xs.length := by simp [nats]
theorem nats_snoc (xs : List Int) (x : Int) : nats (xs ++ [x]) = nats xs ++ [x.toNat] := by simp [nats]
def fit (w : Nat) (xs : List Int) : Prop := ∀ x ∈ xs, 0 ≤ x ∧ x < ((2 ^ w : Nat) : Int)
instance (w : Nat) (xs : List Int) : Decidable (fit w xs) := by unfold fit; infer_instance
theorem fit_lt {w : Nat} {xs : List Int} (h : fit w xs) : ∀ x ∈ nats xs, x < 2 ^ w := by
  intro x hx
  simp only [nats, List.mem_map] at hx
  obtain ⟨y, hy, rfl⟩ := hx
  have := h y hy
  omega
theorem fit_snoc {w : Nat} {xs : List Int} {x : Int} (h : fit w xs) (h0 : 0 ≤ x) (h1 : x < ((2 ^ w : Nat) : Int)) : fit w (xs ++ [x]) := by
  intro y hy
  rw [List.mem_append, List.mem_singleton] at hy
  rcases hy with hy | rfl
  · exact h y hy
  · exact ⟨h0, h1⟩
theorem fit_take {w : Nat} {xs : List Int} (h : fit w xs) (k : Nat) : fit w (xs.take k) := fun x hx => h x (List.mem_of_mem_take hx)
def wide (width : Int) : Prop := width < 0 ∨ 16 < width
instance (width : Int) : Decidable (wide width) := by unfold wide; infer_instance
/-- What packing answers. -/
def packS (xs : List Int) (width : Int) : List UInt8 := if wide width then [] else if fit width.toNat xs then packed width.toNat (nats xs) else []
def packE (xs : List Int) (width : Int) : Int := if wide width then 600 else if fit width.toNat xs then 0 else 601
theorem pack_wide {xs : List Int} {width : Int} (h : wide width) : packS xs width = [] ∧ packE xs width = 600 := by
  unfold packS packE; rw [if_pos h, if_pos h]; exact ⟨rfl, rfl⟩
theorem pack_fit {xs : List Int} {w : Nat} (hw : w ≤ 16) (h : fit w xs) : packS xs (w : Int) = packed w (nats xs) ∧ packE xs (w : Int) = 0 := by
  have h0 : ¬ wide (w : Int) := by unfold wide; omega
  unfold packS packE; rw [if_neg h0, if_neg h0, Int.toNat_natCast, if_pos h, if_pos h]; exact ⟨rfl, rfl⟩
theorem pack_not {xs : List Int} {w : Nat} (hw : w ≤ 16) (h : ¬ fit w xs) : packS xs (w : Int) = [] ∧ packE xs (w : Int) = 601 := by
  have h0 : ¬ wide (w : Int) := by unfold wide; omega
  unfold packS packE; rw [if_neg h0, if_neg h0, Int.toNat_natCast, if_neg h, if_neg h]; exact ⟨rfl, rfl⟩
theorem not_fit_at {xs : List Int} {w i : Nat} (hi : i < xs.length) (h : xs[i] < 0 ∨ ((2 ^ w : Nat) : Int) ≤ xs[i]) : ¬ fit w xs := by
  intro hf
  have := hf xs[i] (List.getElem_mem hi)
  omega

/-! Bits laid one by one. -/
theorem num_replicate (n : Nat) : num (List.replicate n 0) = 0 := by
  induction n with
  | zero => rfl
  | succ n ih => rw [List.replicate_succ]; simp [num, ih]
theorem lay_bit {l : List UInt8} {t b : Nat} (hl : t / 8 < l.length) (hn : num l < 2 ^ t) (hb : b ≤ 1) :
    ((l.getD (t / 8) 0).toNat ||| b * 2 ^ (t % 8)) = (l.getD (t / 8) 0).toNat + b * 2 ^ (t % 8) ∧ (l.getD (t / 8) 0).toNat + b * 2 ^ (t % 8) < 256 ∧
    num (l.set (t / 8) (UInt8.ofNat ((l.getD (t / 8) 0).toNat + b * 2 ^ (t % 8)))) = num l + b * 2 ^ t ∧ num l + b * 2 ^ t < 2 ^ (t + 1) := by
  have hold : (l.getD (t / 8) 0).toNat < 2 ^ (t % 8) := by
    rw [num_at l _ hl]
    refine Nat.lt_of_le_of_lt (Nat.mod_le _ _) ?_
    have := win_lt (m := t / 8) hn (by omega)
    rw [show t - 8 * (t / 8) = t % 8 by omega] at this; exact this
  have h8 : 2 ^ (t % 8) ≤ 2 ^ 7 := Nat.pow_le_pow_right (by omega) (by omega)
  have hbm : b * 2 ^ (t % 8) ≤ 1 * 2 ^ (t % 8) := Nat.mul_le_mul_right _ hb
  refine ⟨or_bit hold, by omega, ?_, ?_⟩
  · have h := num_set l (t / 8) hl (UInt8.ofNat ((l.getD (t / 8) 0).toNat + b * 2 ^ (t % 8)))
    rw [UInt8.toNat_ofNat', Nat.mod_eq_of_lt (show (l.getD (t / 8) 0).toNat + b * 2 ^ (t % 8) < 2 ^ 8 by omega), Nat.add_mul] at h
    have e : b * 2 ^ (t % 8) * 256 ^ (t / 8) = b * 2 ^ t := by
      rw [p256, Nat.mul_assoc, ← Nat.pow_add, show t % 8 + 8 * (t / 8) = t by omega]
    omega
  · have : b * 2 ^ t ≤ 1 * 2 ^ t := Nat.mul_le_mul_right _ hb
    rw [Nat.pow_succ]; omega
/-- A bit more of a number. -/
theorem bit_more (x k : Nat) : x % 2 ^ (k + 1) = x % 2 ^ k + x / 2 ^ k % 2 * 2 ^ k := by
  rw [Nat.pow_succ, Nat.mod_mul, Nat.mul_comm (2 ^ k)]
theorem bytes_of_num {l : List UInt8} {n x : Nat} (hl : l.length = n) (hn : num l = x) : l = bytes n x := by
  subst hl; subst hn; exact (bytes_num l).symm

/-! How many bits. -/
def width (most : Int) : Nat := len 64 most.toNat
theorem len_zero (n : Nat) : len n 0 = 0 := by cases n <;> simp [len]
theorem len_succ {n x : Nat} (h : x ≠ 0) : len (n + 1) x = len n (x / 2) + 1 := by simp [len, h]
theorem len_more {n x : Nat} (h : x < 2 ^ n) (m : Nat) (hm : n ≤ m) : len m x = len n x := by
  induction n generalizing x m with
  | zero => simp at h; subst h; rw [len_zero, len_zero]
  | succ n ih =>
    cases m with
    | zero => omega
    | succ m =>
      by_cases h0 : x = 0
      · subst h0; rw [len_zero, len_zero]
      · rw [len_succ h0, len_succ h0, ih (by rw [Nat.pow_succ] at h; omega) m (by omega)]
theorem width_le {most : Int} {w : Nat} (h1 : most < 9223372036854775808) : width most ≤ w ↔ most < ((2 ^ w : Nat) : Int) := by
  unfold width
  have hp : 0 < 2 ^ w := Nat.pow_pos (by omega)
  rw [len_le (show most.toNat < 2 ^ 64 by omega)]
  omega
theorem width_le_63 {most : Int} (h1 : most < 9223372036854775808) : width most ≤ 63 := (width_le h1).2 (by omega)

/-! What unpacking answers. -/
def many_ (n many w : Nat) : List Int := (List.range many).map fun i => ((n / 2 ^ (w * i) % 2 ^ w : Nat) : Int)
theorem many_length (n many w : Nat) : (many_ n many w).length = many := by simp [many_]
theorem many_snoc (n i w : Nat) : many_ n (i + 1) w = many_ n i w ++ [((n / 2 ^ (w * i) % 2 ^ w : Nat) : Int)] := by simp [many_, List.range_succ]
def unpackE (s : List UInt8) (many width : Int) : Int :=
  if wide width then 600 else if many < 0 ∨ 65536 < many then 601 else if (s.length : Int) ≠ (many * width + 7) / 8 then 602
  else if num s / 2 ^ (width.toNat * many.toNat) ≠ 0 then 602 else 0
def unpackL (s : List UInt8) (many width : Int) : List Int := if unpackE s many width = 0 then many_ (num s) many.toNat width.toNat else []
theorem unpack_wide {s : List UInt8} {many width : Int} (h : wide width) : unpackL s many width = [] ∧ unpackE s many width = 600 := by
  have e : unpackE s many width = 600 := by unfold unpackE; rw [if_pos h]
  unfold unpackL; rw [e]; exact ⟨rfl, rfl⟩
theorem unpack_range {s : List UInt8} {many width : Int} (h : ¬ wide width) (h1 : many < 0 ∨ 65536 < many) : unpackL s many width = [] ∧ unpackE s many width = 601 := by
  have e : unpackE s many width = 601 := by unfold unpackE; rw [if_neg h, if_pos h1]
  unfold unpackL; rw [e]; exact ⟨rfl, rfl⟩
theorem unpack_cut {s : List UInt8} {m w : Nat} (hw : w ≤ 16) (hm : m ≤ 65536) (h : s.length ≠ (m * w + 7) / 8) : unpackL s m w = [] ∧ unpackE s m w = 602 := by
  have h0 : ¬ wide (w : Int) := by unfold wide; omega
  have e : unpackE s m w = 602 := by
    unfold unpackE
    rw [if_neg h0, if_neg (by omega), if_pos]
    rw [← Int.natCast_mul]; omega
  unfold unpackL; rw [e]; exact ⟨rfl, rfl⟩
theorem unpack_rest {s : List UInt8} {m w : Nat} (hw : w ≤ 16) (hm : m ≤ 65536) (hl : s.length = (m * w + 7) / 8) (h : num s / 2 ^ (w * m) ≠ 0) : unpackL s m w = [] ∧ unpackE s m w = 602 := by
  have h0 : ¬ wide (w : Int) := by unfold wide; omega
  have e : unpackE s m w = 602 := by
    unfold unpackE
    rw [if_neg h0, if_neg (by omega), if_neg (by rw [← Int.natCast_mul]; omega), if_pos]
    exact h
  unfold unpackL; rw [e]; exact ⟨rfl, rfl⟩
theorem unpack_ok {s : List UInt8} {m w : Nat} (hw : w ≤ 16) (hm : m ≤ 65536) (hl : s.length = (m * w + 7) / 8) (h : num s / 2 ^ (w * m) = 0) : unpackL s m w = many_ (num s) m w ∧ unpackE s m w = 0 := by
  have h0 : ¬ wide (w : Int) := by unfold wide; omega
  have e : unpackE s m w = 0 := by
    unfold unpackE
    rw [if_neg h0, if_neg (by omega), if_neg (by rw [← Int.natCast_mul]; omega), if_neg]
    simpa using h
  unfold unpackL; rw [e, if_pos rfl]; exact ⟨rfl, rfl⟩

/-- The reader's window: the bytes read, less the numbers taken. -/
theorem num_take_succ (l : List UInt8) (i : Nat) (h : i < l.length) : num (l.take (i + 1)) = num (l.take i) + (l.getD i 0).toNat * 256 ^ i := by
  induction l generalizing i with
  | nil => simp at h
  | cons b l ih =>
    cases i with
    | zero => simp [num]
    | succ i =>
      simp only [List.take_succ_cons, num, List.getD_cons_succ]
      rw [ih i (by simpa using h), Nat.mul_add, Nat.pow_succ]
      have : 256 * ((l.getD i 0).toNat * 256 ^ i) = (l.getD i 0).toNat * (256 ^ i * 256) := by rw [Nat.mul_comm 256, Nat.mul_assoc]
      omega
theorem num_take_mod (l : List UInt8) (i : Nat) : num (l.take i) = num l % 256 ^ i := by
  induction l generalizing i with
  | nil => simp [num]
  | cons b l ih =>
    have hb := u8_lt b
    cases i with
    | zero => simp [num, Nat.mod_one]
    | succ i =>
      simp only [List.take_succ_cons, num]
      rw [ih, Nat.pow_succ, Nat.mul_comm (256 ^ i) 256, Nat.mod_mul]
      rw [show (b.toNat + 256 * num l) % 256 = b.toNat by omega, show (b.toNat + 256 * num l) / 256 = num l by omega]
/-- A byte more in the window. -/
theorem read_or {l : List UInt8} {a d : Nat} (ha : a < l.length) (hd : d ≤ 8 * a) : (num (l.take a) / 2 ^ d) ||| ((l.getD a 0).toNat * 2 ^ (8 * a - d)) = num (l.take (a + 1)) / 2 ^ d ∧ num (l.take a) / 2 ^ d < 2 ^ (8 * a - d) := by
  have hlt : num (l.take a) < 2 ^ (8 * a) := by
    have := num_lt (l.take a)
    rw [p256, List.length_take, Nat.min_eq_left (by omega)] at this; exact this
  have h2 : num (l.take a) / 2 ^ d < 2 ^ (8 * a - d) := by
    refine Nat.div_lt_of_lt_mul ?_
    rw [← Nat.pow_add, show d + (8 * a - d) = 8 * a by omega]; exact hlt
  refine ⟨?_, h2⟩
  rw [or_bit h2, num_take_succ l a ha, p256]
  have e : (l.getD a 0).toNat * 2 ^ (8 * a) = 2 ^ d * ((l.getD a 0).toNat * 2 ^ (8 * a - d)) := by
    rw [← Nat.mul_assoc, Nat.mul_comm (2 ^ d), Nat.mul_assoc, ← Nat.pow_add, show d + (8 * a - d) = 8 * a by omega]
  rw [e, Nat.add_mul_div_left _ _ (Nat.pow_pos (by omega))]
/-- What the window's low bits are. -/
theorem read_low {l : List UInt8} {a d w : Nat} (h : d + w ≤ 8 * a) : num (l.take a) / 2 ^ d % 2 ^ w = num l / 2 ^ d % 2 ^ w := by
  rw [num_take_mod, p256]
  rw [← Nat.mod_mul_right_div_self, ← Nat.mod_mul_right_div_self (num l), ← Nat.pow_add, Nat.mod_mod_of_dvd]
  exact Nat.pow_dvd_pow _ h
theorem read_next (x d w : Nat) : x / 2 ^ d / 2 ^ w = x / 2 ^ (d + w) := by rw [Nat.div_div_eq_div_mul, ← Nat.pow_add]
/-- Packed, then unpacked. -/
theorem unpack_packed {xs : List Int} {w : Nat} (hw : w ≤ 16) (hm : xs.length ≤ 65536) (h : fit w xs) : unpackL (packed w (nats xs)) xs.length w = xs ∧ unpackE (packed w (nats xs)) xs.length w = 0 := by
  have hlt := all_lt (fit_lt h)
  rw [nats_length] at hlt
  have hn : num (packed w (nats xs)) = all w (nats xs) := by
    refine num_bytes ?_
    rw [p256, nats_length]
    exact Nat.lt_of_lt_of_le hlt (Nat.pow_le_pow_right (by omega) (by omega))
  obtain ⟨h1, h2⟩ := unpack_ok (s := packed w (nats xs)) (m := xs.length) hw hm (by rw [packed_length, nats_length, Nat.mul_comm]) (by rw [hn]; exact Nat.div_eq_of_lt hlt)
  refine ⟨?_, h2⟩
  rw [h1, hn]
  refine List.ext_getElem (by rw [many_length]) fun i hi1 hi2 => ?_
  simp only [many_, List.getElem_map, List.getElem_range]
  rw [all_at (fit_lt h) i (by rw [nats_length]; exact hi2), List.getD_eq_getElem?_getD, List.getElem?_eq_getElem (by rw [nats_length]; exact hi2)]
  have h0 := h xs[i] (List.getElem_mem hi2)
  simp [nats]; omega
end Go.Proofs.YtgmemdedpklnhaaGreat.BitMath

/-
  MORE PLAIN ARITHMETIC OF CHAPTER 2: a rune by its form (mask, head, least), as the program reads and writes it.
-/

namespace Go.Proofs.YtgmemdedpklnhaaGreat.UtfMath

def maskOf : Nat → Nat
  | 1 => 128 | 2 => 224 | 3 => 240 | 4 => 248 | _ => 0
def headOf : Nat → Nat
  | 2 => 192 | 3 => 224 | 4 => 240 | _ => 0
def leastOf : Nat → Nat
  | 2 => 128 | 3 => 2048 | 4 => 65536 | _ => 0
/-- Does a rune of n bytes begin so? -/
def cls (n c : Nat) : Prop := (n = 1 ∧ c < 128) ∨ (n = 2 ∧ 192 ≤ c ∧ c < 224) ∨ (n = 3 ∧ 224 ≤ c ∧ c < 240) ∨ (n = 4 ∧ 240 ≤ c ∧ c < 248)
instance (n c : Nat) : Decidable (cls n c) := by unfold cls; infer_instance

set_option maxRecDepth 100000 in
theorem and_mask {n c : Nat} (h0 : 1 ≤ n) (h4 : n ≤ 4) (hc : c < 256) : (c &&& maskOf n = headOf n) ↔ cls n c := by
  have h : ∀ c : Fin 256, ((c.val &&& 128 = 0) ↔ c.val < 128) ∧ ((c.val &&& 224 = 192) ↔ 192 ≤ c.val ∧ c.val < 224) ∧ ((c.val &&& 240 = 224) ↔ 224 ≤ c.val ∧ c.val < 240) ∧ ((c.val &&& 248 = 240) ↔ 240 ≤ c.val ∧ c.val < 248) := by decide
  obtain ⟨a1, a2, a3, a4⟩ := h ⟨c, hc⟩
  simp only [] at a1 a2 a3 a4
  unfold cls
  match n, h0, h4 with
  | 1, _, _ => simp only [maskOf, headOf]; rw [a1]; simp
  | 2, _, _ => simp only [maskOf, headOf]; rw [a2]; simp
  | 3, _, _ => simp only [maskOf, headOf]; rw [a3]; simp
  | 4, _, _ => simp only [maskOf, headOf]; rw [a4]; simp
set_option maxRecDepth 100000 in
theorem andNot_mask {n c : Nat} (h0 : 1 ≤ n) (h4 : n ≤ 4) (hc : c < 256) : c &&& (18446744073709551615 - maskOf n) = c % (256 - maskOf n) := by
  have h : ∀ c : Fin 256, (c.val &&& (18446744073709551615 - 128) = c.val % 128) ∧ (c.val &&& (18446744073709551615 - 224) = c.val % 32) ∧ (c.val &&& (18446744073709551615 - 240) = c.val % 16) ∧ (c.val &&& (18446744073709551615 - 248) = c.val % 8) := by decide
  obtain ⟨a1, a2, a3, a4⟩ := h ⟨c, hc⟩
  match n, h0, h4 with
  | 1, _, _ => exact a1
  | 2, _, _ => exact a2
  | 3, _, _ => exact a3
  | 4, _, _ => exact a4
theorem mask_lt (n : Nat) : maskOf n < 256 := by unfold maskOf; split <;> omega
theorem head_lt (n : Nat) : headOf n < 256 := by unfold headOf; split <;> omega
theorem least_le (n : Nat) : leastOf n ≤ 65536 := by unfold leastOf; split <;> omega

/-- What is read behind j bytes that go on. -/
def acc (l : List UInt8) (n : Nat) : Nat → Nat
  | 0 => at_ l 0 % (256 - maskOf n)
  | j + 1 => acc l n j * 64 + at_ l (j + 1) % 64
theorem acc_lt (l : List UInt8) (n : Nat) (j : Nat) : acc l n j < 256 * 64 ^ j := by
  induction j with
  | zero =>
    have h1 := at_lt l 0
    have : acc l n 0 ≤ at_ l 0 := Nat.mod_le _ _
    simp only [Nat.pow_zero, Nat.mul_one]
    exact Nat.lt_of_le_of_lt this h1
  | succ j ih =>
    have : at_ l (j + 1) % 64 < 64 := Nat.mod_lt _ (by omega)
    simp only [acc, Nat.pow_succ]; omega

theorem rune_none {l : List UInt8} (h : ∀ n, 1 ≤ n → n ≤ 4 → ¬ cls n (at_ l 0)) : rune l = (0, 0) := by
  have h1 := h 1 (by omega) (by omega)
  have h2 := h 2 (by omega) (by omega)
  have h3 := h 3 (by omega) (by omega)
  have h4 := h 4 (by omega) (by omega)
  unfold cls at h1 h2 h3 h4
  unfold rune
  split
  · rfl
  · rw [if_neg (by omega), if_pos (by omega)]
theorem rune_cut {l : List UInt8} {n : Nat} (h : cls n (at_ l 0)) (hl : l.length < n) : rune l = (0, 0) := by
  unfold rune
  by_cases h0 : l.length = 0
  · rw [if_pos h0]
  rw [if_neg h0]
  rcases h with ⟨rfl, h⟩ | ⟨rfl, h1, h2⟩ | ⟨rfl, h1, h2⟩ | ⟨rfl, h1, h2⟩
  · omega
  · rw [if_neg (by omega)]
    split
    · rfl
    · rw [if_neg (fun g => by have := g.1; omega)]
  · rw [if_neg (by omega), if_neg (by omega), if_neg (by omega), if_pos h2, if_neg (fun g => by have := g.2.1.1; omega)]
  · rw [if_neg (by omega)]
    split
    · rfl
    · rw [if_neg (by omega), if_neg (by omega), if_neg (fun g => by have := g.2.2.1.1; omega)]
theorem rune_not_goes {l : List UInt8} {n j : Nat} (h : cls n (at_ l 0)) (h1 : 1 ≤ j) (h2 : j < n) (hg : ¬ goes l j) : rune l = (0, 0) := by
  unfold rune
  by_cases h0 : l.length = 0
  · rw [if_pos h0]
  rw [if_neg h0]
  rcases h with ⟨rfl, h⟩ | ⟨rfl, ha, hb⟩ | ⟨rfl, ha, hb⟩ | ⟨rfl, ha, hb⟩
  · omega
  · obtain rfl : j = 1 := by omega
    rw [if_neg (by omega)]
    split
    · rfl
    · rfl
  · rw [if_neg (by omega), if_neg (by omega), if_neg (by omega), if_pos (by omega), if_neg]
    rintro ⟨g1, g2, _⟩
    have : j = 1 ∨ j = 2 := by omega
    rcases this with rfl | rfl
    · exact hg g1
    · exact hg g2
  · rw [if_neg (by omega)]
    split
    · rfl
    · rw [if_neg (by omega), if_neg (by omega), if_neg]
      rintro ⟨g1, g2, g3, _⟩
      have : j = 1 ∨ j = 2 ∨ j = 3 := by omega
      rcases this with rfl | rfl | rfl
      · exact hg g1
      · exact hg g2
      · exact hg g3
/-- A whole form: the rune, or none. -/
theorem rune_whole {l : List UInt8} {n : Nat} (h : cls n (at_ l 0)) (hl : n ≤ l.length) (hg : ∀ j, 1 ≤ j → j < n → goes l j) :
    rune l = if acc l n (n - 1) < leastOf n ∨ ¬ may (acc l n (n - 1)) then (0, 0) else (acc l n (n - 1), n) := by
  have hc := at_lt l 0
  unfold rune may
  rcases h with ⟨rfl, h⟩ | ⟨rfl, ha, hb⟩ | ⟨rfl, ha, hb⟩ | ⟨rfl, ha, hb⟩
  · have e : acc l 1 (1 - 1) = at_ l 0 := by show at_ l 0 % 128 = _; omega
    have e2 : leastOf 1 = 0 := rfl
    rw [e, e2, if_neg (by omega), if_pos h, if_neg (by omega)]
  · have g1 := hg 1 (by omega) (by omega)
    have e : acc l 2 (2 - 1) = (at_ l 0 - 192) * 64 + (at_ l 1 - 128) := by
      show at_ l 0 % 32 * 64 + at_ l 1 % 64 = _
      have := g1.2; omega
    have e2 : leastOf 2 = 128 := rfl
    have := g1.2
    rw [e, e2, if_neg (by omega), if_neg (by omega)]
    by_cases c : at_ l 0 < 194
    · rw [if_pos (by omega), if_pos (by omega)]
    · rw [if_neg (by omega), if_pos hb, if_pos g1, if_neg (by omega)]
  · have g1 := hg 1 (by omega) (by omega)
    have g2 := hg 2 (by omega) (by omega)
    have e : acc l 3 (3 - 1) = (at_ l 0 - 224) * 4096 + (at_ l 1 - 128) * 64 + (at_ l 2 - 128) := by
      show (at_ l 0 % 16 * 64 + at_ l 1 % 64) * 64 + at_ l 2 % 64 = _
      have := g1.2; have := g2.2; omega
    have e2 : leastOf 3 = 2048 := rfl
    have := g1.2
    have := g2.2
    rw [e, e2, if_neg (by omega), if_neg (by omega), if_neg (by omega), if_neg (by omega), if_pos hb]
    by_cases c : 2048 ≤ (at_ l 0 - 224) * 4096 + (at_ l 1 - 128) * 64 + (at_ l 2 - 128) ∧ ((at_ l 0 - 224) * 4096 + (at_ l 1 - 128) * 64 + (at_ l 2 - 128) < 55296 ∨ 57343 < (at_ l 0 - 224) * 4096 + (at_ l 1 - 128) * 64 + (at_ l 2 - 128))
    · rw [if_pos ⟨g1, g2, c⟩, if_neg (by omega)]
    · rw [if_neg (fun x => c x.2.2), if_pos (by omega)]
  · have g1 := hg 1 (by omega) (by omega)
    have g2 := hg 2 (by omega) (by omega)
    have g3 := hg 3 (by omega) (by omega)
    have e : acc l 4 (4 - 1) = (at_ l 0 - 240) * 262144 + (at_ l 1 - 128) * 4096 + (at_ l 2 - 128) * 64 + (at_ l 3 - 128) := by
      show ((at_ l 0 % 8 * 64 + at_ l 1 % 64) * 64 + at_ l 2 % 64) * 64 + at_ l 3 % 64 = _
      have := g1.2; have := g2.2; have := g3.2; omega
    have e2 : leastOf 4 = 65536 := rfl
    have := g1.2
    have := g2.2
    have := g3.2
    rw [e, e2, if_neg (by omega), if_neg (by omega)]
    by_cases c5 : 244 < at_ l 0
    · rw [if_pos (by omega), if_pos (by omega)]
    rw [if_neg (by omega), if_neg (by omega), if_neg (by omega)]
    by_cases c : 65536 ≤ (at_ l 0 - 240) * 262144 + (at_ l 1 - 128) * 4096 + (at_ l 2 - 128) * 64 + (at_ l 3 - 128) ∧ (at_ l 0 - 240) * 262144 + (at_ l 1 - 128) * 4096 + (at_ l 2 - 128) * 64 + (at_ l 3 - 128) ≤ 1114111
    · rw [if_pos ⟨g1, g2, g3, c⟩, if_neg (by omega)]
    · rw [if_neg (fun x => c x.2.2.2), if_pos (by omega)]

/-! A rune's bytes by their places. -/
def sizeOf_ (r : Nat) : Nat := if r < 128 then 1 else if r < 2048 then 2 else if r < 65536 then 3 else 4
theorem put_size (r : Nat) : (put r).length = sizeOf_ r := put_length r
theorem size_bounds (r : Nat) : 1 ≤ sizeOf_ r ∧ sizeOf_ r ≤ 4 := by unfold sizeOf_; repeat' split
                                                                    all_goals omega
theorem size_least {r n : Nat} (h0 : 1 ≤ n) (h4 : n ≤ 4) (hn : sizeOf_ r ≤ n) : r < leastOf n ↔ sizeOf_ r < n := by
  unfold sizeOf_ at hn ⊢
  match n, h0, h4 with
  | 1, _, _ => simp only [leastOf]; repeat' split
               all_goals omega
  | 2, _, _ => simp only [leastOf]; revert hn; repeat' split
               all_goals omega
  | 3, _, _ => simp only [leastOf]; revert hn; repeat' split
               all_goals omega
  | 4, _, _ => simp only [leastOf]; revert hn; repeat' split
               all_goals omega
theorem put_low {r j : Nat} (h1 : 1 ≤ j) (h2 : j < sizeOf_ r) : at_ (put r) j = 128 + r / 64 ^ (sizeOf_ r - 1 - j) % 64 := by
  unfold sizeOf_ at h2 ⊢
  unfold put
  by_cases c1 : r < 128
  · simp only [c1, if_true] at h2; omega
  simp only [c1, if_false] at h2 ⊢
  by_cases c2 : r < 2048
  · simp only [c2, if_true] at h2 ⊢
    obtain rfl : j = 1 := by omega
    rw [at_cons_succ, at_cons_zero, nat_u8 (by omega)]; simp
  simp only [c2, if_false] at h2 ⊢
  by_cases c3 : r < 65536
  · simp only [c3, if_true] at h2 ⊢
    have : j = 1 ∨ j = 2 := by omega
    rcases this with rfl | rfl
    · rw [at_cons_succ, at_cons_zero, nat_u8 (by omega)]
    · rw [at_cons_succ, at_cons_succ, at_cons_zero, nat_u8 (by omega)]; simp
  simp only [c3, if_false] at h2 ⊢
  have : j = 1 ∨ j = 2 ∨ j = 3 := by omega
  rcases this with rfl | rfl | rfl
  · rw [at_cons_succ, at_cons_zero, nat_u8 (by omega)]
  · rw [at_cons_succ, at_cons_succ, at_cons_zero, nat_u8 (by omega)]
  · rw [at_cons_succ, at_cons_succ, at_cons_succ, at_cons_zero, nat_u8 (by omega)]; simp
theorem put_head {r : Nat} (h : r ≤ 1114111) : at_ (put r) 0 = headOf (sizeOf_ r) ||| (r / 64 ^ (sizeOf_ r - 1)) ∧ headOf (sizeOf_ r) ||| (r / 64 ^ (sizeOf_ r - 1)) < 256 := by
  have h192 : ∀ x : Fin 32, 192 ||| x.val = 192 + x.val := by decide
  have h224 : ∀ x : Fin 16, 224 ||| x.val = 224 + x.val := by decide
  have h240 : ∀ x : Fin 8, 240 ||| x.val = 240 + x.val := by decide
  unfold sizeOf_ put
  by_cases c1 : r < 128
  · simp only [c1, if_true]
    rw [at_cons_zero, nat_u8 (by omega)]
    simp [headOf]; omega
  simp only [c1, if_false]
  by_cases c2 : r < 2048
  · simp only [c2, if_true]
    have e := h192 ⟨r / 64, by omega⟩
    simp only [] at e
    rw [at_cons_zero, nat_u8 (by omega)]
    simp only [headOf, show (2 : Nat) - 1 = 1 from rfl, Nat.pow_one]
    rw [e]; omega
  simp only [c2, if_false]
  by_cases c3 : r < 65536
  · simp only [c3, if_true]
    have e := h224 ⟨r / 4096, by omega⟩
    simp only [] at e
    rw [at_cons_zero, nat_u8 (by omega)]
    simp only [headOf, show (3 : Nat) - 1 = 2 from rfl, show (64 : Nat) ^ 2 = 4096 from rfl]
    rw [e]; omega
  simp only [c3, if_false]
  have e := h240 ⟨r / 262144, by omega⟩
  simp only [] at e
  rw [at_cons_zero, nat_u8 (by omega)]
  simp only [headOf, show (4 : Nat) - 1 = 3 from rfl, show (64 : Nat) ^ 3 = 262144 from rfl]
  rw [e]; omega

/-! The laws' own forms. -/
theorem first_two {s t : List UInt8} (h : first s = -1) : first (s ++ t) = -1 ↔ first t = -1 := by
  rw [first_append h]
  have := first_ge (t.length + 1) 0 t
  constructor
  · intro h2
    split at h2
    · assumption
    · exfalso; have : (0 : Int) ≤ s.length := by omega
      unfold first at h2; unfold first at *; omega
  · intro h2; rw [if_pos h2]
end Go.Proofs.YtgmemdedpklnhaaGreat.UtfMath

/-
  PLAIN LAW OF COLUMNS, the document's way back: what is amiss stays amiss. No program in sight.
-/

namespace Go.Proofs.YtgmemdedpklnhaaGreat.VecMath
open ValMath

theorem rdBytes_keep {n : Nat} {r : Rd} (h : r.bad = true) : (rdBytes n r).2.bad = true := by
  unfold rdBytes; rw [if_pos (.inl h)]; rfl
theorem rdNum_keep {n : Nat} {r : Rd} (h : r.bad = true) : (rdNum n r).2.bad = true := by
  unfold rdNum; rw [if_pos (.inl h)]; rfl
theorem rdVal_keep {k : Int} {r : Rd} (h : r.bad = true) : (rdVal k r).2.bad = true := by
  unfold rdVal
  split
  · rw [if_pos (.inl h)]; rfl
  · split
    · exact rdBytes_keep h
    · exact rdBytes_keep (rdNum_keep h)
theorem rdPackedR_keep {m w : Nat} {r : Rd} (h : r.bad = true) : (rdPackedR m w r).2.bad = true := by
  unfold rdPackedR; rw [if_pos (.inl h)]; rfl
theorem readValsR_keep {k : Int} {n : Nat} {r : Rd} (h : r.bad = true) : (readValsR k n r).2.bad = true := by
  induction n with
  | zero => exact h
  | succ n ih => simp only [readValsR]; rw [if_pos ih]; exact ih
theorem runsR_keep {k : Int} {m n : Nat} {r : Rd} (h : r.bad = true) : (runsR k m n r).2.bad = true := by
  induction n with
  | zero => exact h
  | succ n ih => simp only [runsR, runStepR]; rw [if_pos ih]; exact ih
theorem placesR_keep {ws : List Val} {l : List Nat} {r : Rd} (h : r.bad = true) : (placesR ws l r).2.bad = true := by
  cases l with
  | nil => exact h
  | cons a l => simp only [placesR]; rw [if_pos h]; exact h
theorem someR_keep {k : Int} {e m : Nat} {r : Rd} (h : r.bad = true) : (someR k e m r).2.bad = true := by
  unfold someR
  split
  · exact runsR_keep (rdNum_keep h)
  · split
    · unfold wordsR; exact placesR_keep (rdPackedR_keep (readValsR_keep (rdNum_keep h)))
    · split
      · exact rdPackedR_keep h
      · exact readValsR_keep h
theorem someR_was {k : Int} {e m : Nat} {r : Rd} (h : (someR k e m r).2.bad = false) : r.bad = false := by
  cases hb : r.bad with
  | false => rfl
  | true => rw [someR_keep hb] at h; cases h
theorem rdPackedR_full {m w : Nat} {r : Rd} (h : (rdPackedR m w r).2.bad = false) : (rdPackedR m w r).1.length = m := by
  unfold rdPackedR at h ⊢
  by_cases hc : r.bad = true ∨ 4096 < m
  · rw [if_pos hc] at h; cases h
  · rw [if_neg hc] at h ⊢
    unfold rdPackedP at h ⊢
    cases hu : unpack (rdBytes ((m * w + 7) / 8) r).1 m w with
    | none => rw [hu] at h; cases h
    | some xs => simp only []; exact unpack_length hu
theorem runsR_stop {k : Int} {m q : Nat} {r : Rd} (h : (runsR k m q r).2.bad = true) (j : Nat) : runsR k m (q + j) r = runsR k m q r := by
  induction j with
  | zero => rfl
  | succ j ih =>
    rw [← Nat.add_assoc]
    simp only [runsR, runStepR]
    rw [ih, if_pos h]
/-- Up to place q, all of them there. -/
theorem placesR_from {ws : List Val} {l : List Nat} {r : Rd} (hb : r.bad = false) {q : Nat} (h : ∀ a ∈ l.take q, a < ws.length) :
    placesR ws l r = ((l.take q).map (fun a => ws.getD a nul) ++ (placesR ws (l.drop q) r).1, (placesR ws (l.drop q) r).2) := by
  induction q generalizing l with
  | zero => rfl
  | succ q ih =>
    cases l with
    | nil => rfl
    | cons a l =>
      have ha := h a (by simp)
      have := ih (l := l) (fun b hb' => h b (by simp [hb']))
      simp only [placesR]
      rw [if_neg (by rw [hb]; simp), if_neg (by omega), this]
      rfl
theorem placesR_stop {ws : List Val} {l : List Nat} {r : Rd} (hb : r.bad = false) {q a : Nat} (h : ∀ a ∈ l.take q, a < ws.length) (ha : l[q]? = some a) (hx : ws.length ≤ a) :
    placesR ws l r = ((l.take q).map (fun a => ws.getD a nul), r.fail) := by
  rw [placesR_from hb h]
  have hl : q < l.length := (List.getElem?_eq_some_iff.1 ha).1
  rw [List.drop_eq_getElem_cons hl]
  rw [List.getElem?_eq_getElem hl] at ha; injection ha with ha
  rw [ha]
  simp only [placesR]
  rw [if_neg (by rw [hb]; simp), if_pos hx, List.append_nil]
theorem placesR_bad {ws : List Val} {l : List Nat} {r : Rd} (hb : r.bad = true) : placesR ws l r = ([], r) := by
  cases l with
  | nil => rfl
  | cons a l => simp only [placesR]; rw [if_pos hb]
end Go.Proofs.YtgmemdedpklnhaaGreat.VecMath

/-
  PLAIN LAW OF COLUMNS, sizes and limits: like values take few bytes, nulls a bit each; how many, how long. No program in sight.
-/

namespace Go.Proofs.YtgmemdedpklnhaaGreat.VecMath
open ValMath

theorem enc_one {x : Nat} (h : x < 128) : (VarMath.enc x).length = 1 := by
  unfold VarMath.enc; simp only [VarMath.put]; rw [if_pos h]; rfl
theorem enc_two {x : Nat} (h : x < 16384) : (VarMath.enc x).length ≤ 2 := by
  by_cases h1 : x < 128
  · rw [enc_one h1]; omega
  · unfold VarMath.enc; simp only [VarMath.put]; rw [if_neg h1, if_pos (show x / 128 < 128 by omega)]; simp
theorem enc_ten (x : Nat) : (VarMath.enc x).length ≤ 10 := VarMath.put_length_le 9 x
theorem enc_pos (x : Nat) : 1 ≤ (VarMath.enc x).length := VarMath.put_length_pos 9 x

def num1 (v : Int) : Val := ⟨1, v, false, ByteArray.empty⟩
theorem clean_num (v : Int) : clean (num1 v) = num1 v := by unfold clean num1; simp
theorem null_num (v : Int) : isNull (num1 v) = false := by unfold isNull; rw [clean_num]; rfl
theorem fits_num (v : Int) : fits 1 (num1 v) = true := by unfold fits; rw [clean_num]; simp [num1]; decide
theorem null_nul : isNull nul = true := by unfold isNull; rw [clean_nul]; rfl
theorem fits_nul (k : Int) : fits k nul = true := by unfold fits; rw [clean_nul]; rfl
theorem somes_num (v : Int) (k : Nat) : somes (List.replicate k (num1 v)) = List.replicate k (num1 v) := by
  unfold somes
  induction k with
  | zero => rfl
  | succ k ih => rw [List.replicate_succ, List.filter_cons, null_num]; simp only [Bool.not_false, if_true, List.map_cons, clean_num, ih]
theorem somes_nul (k : Nat) : somes (List.replicate k nul) = [] := by
  unfold somes
  induction k with
  | zero => rfl
  | succ k ih => rw [List.replicate_succ, List.filter_cons, null_nul]; simpa using ih
theorem cut_num (v : Int) (k : Nat) : cut (List.replicate (k + 1) (num1 v)) = [(k + 1, num1 v)] := by
  induction k with
  | zero =>
    show push [] (num1 v) = _
    rw [push_other (lastIs_nil _), clean_num]; rfl
  | succ k ih =>
    rw [List.replicate_succ', cut_snoc, ih]
    exact push_same (acc := []) (clean_num v).symm
theorem mayErr_all {k : Int} {vs : List Val} (hk : k = 1 ∨ k = 2 ∨ k = 3) (hl : vs.length ≤ 4096) (hf : ∀ v ∈ vs, fits k v = true) : mayErr k vs = 0 := by
  unfold mayErr
  rw [if_neg (by omega), if_neg (by omega), if_pos (by rw [List.all_eq_true]; exact hf)]
theorem seal_length (l : List UInt8) : (CrcMath.seal_ l).length = l.length + 4 := by unfold CrcMath.seal_; rw [List.length_append]; rfl
theorem body_length (k : Int) (vs : List Val) : (body k vs).length = 1 + (cnt vs.length).length + (vs.length + 7) / 8 + (best k vs).2.length := by
  have h3 := packed_length 1 (nulls vs)
  rw [nulls_length] at h3
  unfold body
  simp only [List.length_append, List.length_singleton]
  omega
theorem scalar_num (v : Int) : 1 ≤ (scalar (num1 v)).length ∧ (scalar (num1 v)).length ≤ 10 := by
  unfold scalar; rw [if_pos (show (num1 v).k = 1 from rfl)]; exact ⟨enc_pos _, enc_ten _⟩
theorem flat_num (v : Int) (k : Nat) : k ≤ ((List.replicate k (num1 v)).flatMap scalar).length := by
  induction k with
  | zero => simp
  | succ k ih =>
    rw [List.replicate_succ, List.flatMap_cons, List.length_append]
    have := (scalar_num v).1; omega
theorem short_num (v : Int) (k : Nat) (h1 : 64 ≤ k) (h2 : k ≤ 1087) :
    mayErr 1 (List.replicate k (num1 v)) = 0 ∧ encOf 1 (List.replicate k (num1 v)) ≠ 0 ∧ (put 1 (List.replicate k (num1 v))).length ≤ k / 8 + 24 := by
  have hm : mayErr 1 (List.replicate k (num1 v)) = 0 := mayErr_all (.inl rfl) (by rw [List.length_replicate]; omega) (fun u hu => by rw [List.mem_replicate] at hu; rw [hu.2]; exact fits_num v)
  refine ⟨hm, ?_, ?_⟩
  all_goals
    obtain ⟨j, rfl⟩ : ∃ j, k = j + 1 := ⟨k - 1, by omega⟩
    have hr : (encRuns (List.replicate (j + 1) (num1 v))).length ≤ 13 := by
      unfold encRuns
      rw [cut_num]
      simp only [List.length_append, List.flatMap_cons, List.flatMap_nil, List.length_nil, List.length_singleton]
      have a := enc_one (x := 1) (by omega)
      have b := enc_two (x := j + 1) (by omega)
      have c := (scalar_num v).2
      unfold cnt
      omega
    have hp : 64 ≤ (encPlain 1 (List.replicate (j + 1) (num1 v))).length := by
      unfold encPlain; rw [if_neg (by decide)]
      have := flat_num v (j + 1); omega
  · unfold encOf; rw [if_pos hm]; unfold best; rw [somes_num]; unfold best3
    rw [if_pos (by omega)]; split <;> simp
  · unfold put; rw [if_pos hm, seal_length, body_length, List.length_replicate]
    have hb : (best 1 (List.replicate (j + 1) (num1 v))).2.length ≤ 13 := by
      unfold best; rw [somes_num]; unfold best3
      rw [if_pos (by omega)]; split <;> simp only [] <;> omega
    have b := enc_two (x := j + 1) (by omega)
    unfold cnt
    omega
theorem short_nul (k : Nat) (h2 : k ≤ 1087) :
    mayErr 1 (List.replicate k nul) = 0 ∧ encOf 1 (List.replicate k nul) = 0 ∧ (put 1 (List.replicate k nul)).length ≤ k / 8 + 9 := by
  have hm : mayErr 1 (List.replicate k nul) = 0 := mayErr_all (.inl rfl) (by rw [List.length_replicate]; omega) (fun u hu => by rw [List.mem_replicate] at hu; rw [hu.2]; exact fits_nul 1)
  have hb : best 1 (List.replicate k nul) = (0, []) := by
    unfold best; rw [somes_nul]; unfold encPlain best3; rw [if_neg (by decide)]; rfl
  refine ⟨hm, ?_, ?_⟩
  · unfold encOf; rw [if_pos hm, hb]
  · unfold put; rw [if_pos hm, seal_length, body_length, List.length_replicate, hb]
    have b := enc_two (x := k) (by omega)
    unfold cnt
    simp only [List.length_nil]
    omega
theorem limit_many (k : Nat) : mayErr 2 (List.replicate k nul) = if k ≤ 4096 then 0 else 901 := by
  by_cases h : k ≤ 4096
  · rw [if_pos h]; exact mayErr_all (.inr (.inl rfl)) (by rw [List.length_replicate]; exact h) (fun u hu => by rw [List.mem_replicate] at hu; rw [hu.2]; exact fits_nul 2)
  · rw [if_neg h]; unfold mayErr; rw [if_neg (by decide), if_pos (by rw [List.length_replicate]; omega)]
theorem kind_limit {k : Int} (h : 3 < k ∨ k < 1) (vs : List Val) : mayErr k vs = 900 := by unfold mayErr; rw [if_pos (by omega)]
theorem unvec_empty (dec : Int → List UInt8 → Option (List Val)) (k : Int) : (unvec dec k []).2 ≠ 0 := by
  unfold unvec
  split
  · simp
  · rw [show CrcMath.open_ [] = none from by unfold CrcMath.open_; rfl]; simp
theorem clean_txt (s : ByteArray) : clean ⟨3, 0, false, s⟩ = ⟨3, 0, false, s⟩ := by unfold clean; simp
theorem fits_txt (s : ByteArray) : fits 3 ⟨3, 0, false, s⟩ = (decide (s.size ≤ 64) && UtfMath.valid s.data.toList) := by
  unfold fits; rw [clean_txt]; simp
theorem may_txt (s : ByteArray) : mayErr 3 [⟨3, 0, false, s⟩] = if s.size ≤ 64 ∧ UtfMath.valid s.data.toList = true then 0 else 901 := by
  unfold mayErr
  rw [if_neg (by decide), if_neg (by simp)]
  simp only [List.all_cons, List.all_nil, Bool.and_true, fits_txt, Bool.and_eq_true, decide_eq_true_eq]
theorem may_bad : mayErr 1 [⟨2, 0, false, ByteArray.empty⟩] = 901 := by decide
end Go.Proofs.YtgmemdedpklnhaaGreat.VecMath
