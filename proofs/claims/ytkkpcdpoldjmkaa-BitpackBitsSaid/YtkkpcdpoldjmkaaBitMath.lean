/-
  PLAIN ARITHMETIC OF CHAPTER 6: numbers in few bits, over lists of bytes and natural numbers. No program in sight.
-/
namespace Go.Proofs.Ytkkpcdpoldjmkaa.BitMath

theorem u8_lt (b : UInt8) : b.toNat < 256 := b.toNat_lt

/-- Bytes as one number, the least first. -/
def num : List UInt8 → Nat
  | [] => 0
  | b :: l => b.toNat + 256 * num l

/-- n bytes of a number. -/
def bytes : Nat → Nat → List UInt8
  | 0, _ => []
  | n + 1, x => UInt8.ofNat (x % 256) :: bytes n (x / 256)

/-- Numbers of w bits as one number. -/
def all (w : Nat) : List Nat → Nat
  | [] => 0
  | x :: xs => x + 2 ^ w * all w xs

/-- How many bits a number has. -/
def len : Nat → Nat → Nat
  | 0, _ => 0
  | n + 1, x => if x = 0 then 0 else len n (x / 2) + 1

theorem p256 (n : Nat) : 256 ^ n = 2 ^ (8 * n) := by rw [Nat.pow_mul]

theorem bytes_length (n x : Nat) : (bytes n x).length = n := by
  induction n generalizing x with
  | zero => rfl
  | succ n ih => simp [bytes, ih]

theorem num_lt (l : List UInt8) : num l < 256 ^ l.length := by
  induction l with
  | nil => simp [num]
  | cons b l ih =>
    have := u8_lt b
    simp only [num, List.length_cons, Nat.pow_succ]
    omega

theorem num_bytes {n x : Nat} (h : x < 256 ^ n) : num (bytes n x) = x := by
  induction n generalizing x with
  | zero => simp at h; simp [bytes, num, h]
  | succ n ih =>
    rw [Nat.pow_succ, Nat.mul_comm] at h
    simp only [bytes, num]
    rw [ih (Nat.div_lt_of_lt_mul h), UInt8.toNat_ofNat']
    omega

theorem bytes_num (l : List UInt8) : bytes l.length (num l) = l := by
  induction l with
  | nil => rfl
  | cons b l ih =>
    have hb := u8_lt b
    simp only [List.length_cons, bytes, num]
    rw [show (b.toNat + 256 * num l) / 256 = num l by omega, ih, show (b.toNat + 256 * num l) % 256 = b.toNat by omega]
    congr 1
    exact UInt8.ofNat_toNat

theorem bytes_inj {n x y : Nat} (hx : x < 256 ^ n) (hy : y < 256 ^ n) (h : bytes n x = bytes n y) : x = y := by
  rw [← num_bytes hx, ← num_bytes hy, h]

theorem bytes_succ (n x : Nat) : bytes (n + 1) x = bytes n x ++ [UInt8.ofNat (x / 256 ^ n % 256)] := by
  induction n generalizing x with
  | zero => simp [bytes]
  | succ n ih =>
    conv => lhs; unfold bytes
    rw [ih, Nat.div_div_eq_div_mul, Nat.mul_comm 256, ← Nat.pow_succ]
    rfl

/-- Only the low part counts. -/
theorem bytes_mod (n x y : Nat) (h : x % 256 ^ n = y % 256 ^ n) : bytes n x = bytes n y := by
  induction n generalizing x y with
  | zero => rfl
  | succ n ih =>
    simp only [bytes]
    have e1 : x % 256 = y % 256 := by
      have hx := Nat.mod_mod_of_dvd x (show 256 ∣ 256 ^ (n + 1) from ⟨256 ^ n, by rw [Nat.pow_succ, Nat.mul_comm]⟩)
      have hy := Nat.mod_mod_of_dvd y (show 256 ∣ 256 ^ (n + 1) from ⟨256 ^ n, by rw [Nat.pow_succ, Nat.mul_comm]⟩)
      rw [← hx, ← hy, h]
    have e2 : x / 256 % 256 ^ n = y / 256 % 256 ^ n := by
      rw [Nat.pow_succ, Nat.mul_comm] at h
      rw [← Nat.mod_mul_right_div_self, ← Nat.mod_mul_right_div_self, h]
    rw [e1, ih _ _ e2]

theorem all_lt {w : Nat} {xs : List Nat} (h : ∀ x ∈ xs, x < 2 ^ w) : all w xs < 2 ^ (w * xs.length) := by
  induction xs with
  | nil => simp [all]
  | cons x xs ih =>
    have h1 := h x (by simp)
    have h2 := ih fun y hy => h y (by simp [hy])
    simp only [all, List.length_cons, Nat.mul_succ, Nat.pow_add]
    calc x + 2 ^ w * all w xs < 2 ^ w + 2 ^ w * all w xs := by omega
      _ = 2 ^ w * (all w xs + 1) := by rw [Nat.mul_succ, Nat.add_comm]
      _ ≤ 2 ^ w * 2 ^ (w * xs.length) := Nat.mul_le_mul_left _ h2
      _ = 2 ^ (w * xs.length) * 2 ^ w := Nat.mul_comm _ _

theorem all_append (w : Nat) (xs ys : List Nat) : all w (xs ++ ys) = all w xs + 2 ^ (w * xs.length) * all w ys := by
  induction xs with
  | nil => simp [all]
  | cons x xs ih =>
    simp only [List.cons_append, all, ih, List.length_cons, Nat.mul_succ, Nat.pow_add, Nat.mul_add]
    rw [← Nat.mul_assoc, Nat.mul_comm (2 ^ w) (2 ^ (w * xs.length))]
    omega

theorem all_snoc (w : Nat) (xs : List Nat) (x : Nat) : all w (xs ++ [x]) = all w xs + x * 2 ^ (w * xs.length) := by
  rw [all_append]; simp [all, Nat.mul_comm]

theorem all_at {w : Nat} {xs : List Nat} (h : ∀ x ∈ xs, x < 2 ^ w) (i : Nat) (hi : i < xs.length) : all w xs / 2 ^ (w * i) % 2 ^ w = xs.getD i 0 := by
  induction xs generalizing i with
  | nil => simp at hi
  | cons x xs ih =>
    have h1 := h x (by simp)
    have hp : 0 < 2 ^ w := Nat.pow_pos (by omega)
    cases i with
    | zero =>
      simp only [all, Nat.mul_zero, Nat.pow_zero, Nat.div_one, List.getD_cons_zero]
      rw [Nat.add_mul_mod_self_left, Nat.mod_eq_of_lt h1]
    | succ i =>
      simp only [List.getD_cons_succ, all, Nat.mul_succ]
      rw [Nat.pow_add, Nat.mul_comm (2 ^ (w * i)), ← Nat.div_div_eq_div_mul, Nat.add_mul_div_left _ _ hp, Nat.div_eq_of_lt h1, Nat.zero_add]
      exact ih (fun y hy => h y (by simp [hy])) i (by simpa using hi)

/-- Where all beyond n numbers are nought, the numbers give it back. -/
theorem all_of (w n x : Nat) (h : x < 2 ^ (w * n)) : all w ((List.range n).map fun i => x / 2 ^ (w * i) % 2 ^ w) = x := by
  induction n with
  | zero => simp at h; simp [all, h]
  | succ n ih =>
    have key : ∀ m, all w ((List.range m).map fun i => x / 2 ^ (w * i) % 2 ^ w) = x % 2 ^ (w * m) := by
      intro m
      induction m with
      | zero => simp [all, Nat.mod_one]
      | succ m ihm =>
        rw [List.range_succ, List.map_append, List.map_cons, List.map_nil, all_snoc, ihm, List.length_map, List.length_range, Nat.mul_succ, Nat.pow_add, Nat.mod_mul, Nat.mul_comm (x / _ % _)]
    rw [key, Nat.mod_eq_of_lt h]

/-- Is a number below 2^w? -/
theorem len_le {n x w : Nat} (hx : x < 2 ^ n) : len n x ≤ w ↔ x < 2 ^ w := by
  induction n generalizing x w with
  | zero => simp at hx; subst hx; simp [len, Nat.pow_pos]
  | succ n ih =>
    simp only [len]
    split
    · rename_i h0; subst h0; simp [Nat.pow_pos]
    · rename_i h0
      rw [Nat.pow_succ] at hx
      cases w with
      | zero => simp; omega
      | succ w =>
        have := ih (x := x / 2) (w := w) (by omega)
        rw [Nat.pow_succ]
        constructor
        · intro h; have := this.1 (by omega); omega
        · intro h; have := this.2 (by omega); omega

theorem len_bounds {n x : Nat} (hx : x < 2 ^ n) : len n x ≤ n := (len_le hx).2 hx

/-- A byte of a number. -/
theorem num_at (l : List UInt8) (i : Nat) (h : i < l.length) : (l.getD i 0).toNat = num l / 256 ^ i % 256 := by
  induction l generalizing i with
  | nil => simp at h
  | cons b l ih =>
    have hb := u8_lt b
    cases i with
    | zero => simp only [num, List.getD_cons_zero, Nat.pow_zero, Nat.div_one]; omega
    | succ i =>
      simp only [List.getD_cons_succ, num]
      rw [ih i (by simpa using h), Nat.pow_succ, Nat.mul_comm (256 ^ i), ← Nat.div_div_eq_div_mul, show (b.toNat + 256 * num l) / 256 = num l by omega]

theorem num_set (l : List UInt8) (i : Nat) (h : i < l.length) (c : UInt8) : num (l.set i c) + (l.getD i 0).toNat * 256 ^ i = num l + c.toNat * 256 ^ i := by
  induction l generalizing i with
  | nil => simp at h
  | cons b l ih =>
    cases i with
    | zero => simp only [List.set_cons_zero, num, List.getD_cons_zero, Nat.pow_zero]; omega
    | succ i =>
      simp only [List.set_cons_succ, num, List.getD_cons_succ]
      have h1 := ih i (by simpa using h)
      have e1 : (l.getD i 0).toNat * 256 ^ (i + 1) = 256 * ((l.getD i 0).toNat * 256 ^ i) := by rw [Nat.pow_succ, ← Nat.mul_assoc, Nat.mul_comm]
      have e2 : c.toNat * 256 ^ (i + 1) = 256 * (c.toNat * 256 ^ i) := by rw [Nat.pow_succ, ← Nat.mul_assoc, Nat.mul_comm]
      rw [e1, e2]; omega

/-- A bit laid where none beyond is: the sum. -/
theorem or_bit {a t b : Nat} (ha : a < 2 ^ t) : a ||| b * 2 ^ t = a + b * 2 ^ t := by
  have := Nat.two_pow_add_eq_or_of_lt ha b
  rw [Nat.mul_comm] at this
  rw [Nat.or_comm, ← this, Nat.add_comm]

end Go.Proofs.Ytkkpcdpoldjmkaa.BitMath
