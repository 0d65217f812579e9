/-
  PLAIN ARITHMETIC OF CHAPTER 5: numbers in parts of seven bits, over lists of bytes and natural numbers. No program in sight.
-/
namespace Go.Proofs.Ytkkpcdpoldjmkaa.VarMath

/-- A number's bytes; n: how many bytes that go on there may be. -/
def put : Nat → Nat → List UInt8
  | 0, x => [UInt8.ofNat x]
  | n + 1, x => if x < 128 then [UInt8.ofNat x] else UInt8.ofNat (x % 128 + 128) :: put n (x / 128)

/-- The number of parts. -/
def val : List UInt8 → Nat
  | [] => 0
  | b :: l => b.toNat % 128 + 128 * val l

/-- How many bytes go on. -/
def cont : List UInt8 → Nat
  | [] => 0
  | b :: l => if 128 ≤ b.toNat then cont l + 1 else 0

/-- What is read at the head: the number, how many bytes it has, and 0; or 0, 0 and 1: it is cut off; 2: it is no form. -/
def get (bits : Nat) (l : List UInt8) : Nat × Nat × Nat :=
  if l.length ≤ cont l then (0, 0, 1)
  else if 9 < cont l ∨ (0 < cont l ∧ (l.getD (cont l) 0).toNat = 0) ∨ 2 ^ bits ≤ val (l.take (cont l + 1)) then (0, 0, 2)
  else (val (l.take (cont l + 1)), cont l + 1, 0)

theorem u8_lt (b : UInt8) : b.toNat < 256 := b.toNat_lt

theorem cont_le (l : List UInt8) : cont l ≤ l.length := by
  induction l with
  | nil => simp [cont]
  | cons b l ih => simp only [cont, List.length_cons]; split <;> omega

theorem cont_ge {l : List UInt8} {i : Nat} (h : i < cont l) : 128 ≤ (l.getD i 0).toNat := by
  induction l generalizing i with
  | nil => simp [cont] at h
  | cons b l ih =>
    simp only [cont] at h
    split at h
    · cases i with
      | zero => simpa
      | succ i => simpa using ih (by omega : i < cont l)
    · omega

theorem cont_lt {l : List UInt8} (h : cont l < l.length) : (l.getD (cont l) 0).toNat < 128 := by
  induction l with
  | nil => simp at h
  | cons b l ih =>
    simp only [cont] at h ⊢
    split
    · rename_i hb
      simp [hb] at h
      simpa using ih h
    · simp; omega

/-- What stands: so many that go on, then one that does not, or the end. -/
theorem cont_eq {l : List UInt8} {k : Nat} (h1 : ∀ i, i < k → 128 ≤ (l.getD i 0).toNat) (h2 : k < l.length → (l.getD k 0).toNat < 128) (h3 : k ≤ l.length) : cont l = k := by
  induction l generalizing k with
  | nil => simp at h3; simp [cont, h3]
  | cons b l ih =>
    simp only [cont]
    cases k with
    | zero =>
      have := h2 (by simp)
      simp at this
      rw [if_neg (by omega)]
    | succ k =>
      have h0 := h1 0 (by omega)
      simp at h0
      rw [if_pos h0, ih (k := k)]
      · intro i hi; simpa using h1 (i + 1) (by omega)
      · intro hk; simpa using h2 (by simp; omega)
      · simpa using h3

theorem val_lt (l : List UInt8) : val l < 128 ^ l.length := by
  induction l with
  | nil => simp [val]
  | cons b l ih =>
    simp only [val, List.length_cons, Nat.pow_succ]
    have := Nat.mod_lt b.toNat (show 128 > 0 by omega)
    omega

theorem val_append (l m : List UInt8) : val (l ++ m) = val l + 128 ^ l.length * val m := by
  induction l with
  | nil => simp [val]
  | cons b l ih =>
    simp only [List.cons_append, val, ih, List.length_cons, Nat.pow_succ]
    rw [Nat.mul_add, ← Nat.mul_assoc, Nat.mul_comm 128 (128 ^ l.length)]
    omega

theorem put_length_pos (n x : Nat) : 0 < (put n x).length := by
  cases n with
  | zero => simp [put]
  | succ n => simp only [put]; split <;> simp

theorem put_ne_nil (n x : Nat) : put n x ≠ [] := by
  have := put_length_pos n x
  intro h; simp [h] at this

theorem put_length_le (n x : Nat) : (put n x).length ≤ n + 1 := by
  induction n generalizing x with
  | zero => simp [put]
  | succ n ih =>
    simp only [put]
    split
    · simp
    · have := ih (x / 128); simp; omega

theorem pow_step (n : Nat) : 128 ^ (n + 2) = 128 * 128 ^ (n + 1) := by rw [Nat.pow_succ, Nat.mul_comm]

theorem div_lt_pow {x n : Nat} (h : x < 128 ^ (n + 2)) : x / 128 < 128 ^ (n + 1) := by
  rw [pow_step] at h
  exact Nat.div_lt_of_lt_mul h

theorem ofNat_toNat {x : Nat} (h : x < 256) : (UInt8.ofNat x).toNat = x := by
  rw [UInt8.toNat_ofNat']; omega

theorem val_put {n x : Nat} (h : x < 128 ^ (n + 1)) : val (put n x) = x := by
  induction n generalizing x with
  | zero => simp at h; simp [put, val]; omega
  | succ n ih =>
    simp only [put]
    split
    · rename_i hx; simp [val]; omega
    · simp only [val, ih (div_lt_pow h)]
      rw [ofNat_toNat (by omega)]; omega

theorem cont_put {n x : Nat} (h : x < 128 ^ (n + 1)) (r : List UInt8) : cont (put n x ++ r) = (put n x).length - 1 := by
  induction n generalizing x with
  | zero =>
    simp at h
    simp only [put, List.cons_append, cont]
    rw [ofNat_toNat (by omega), if_neg (by omega)]; simp
  | succ n ih =>
    simp only [put]
    split
    · rename_i hx
      simp only [List.cons_append, cont]
      rw [ofNat_toNat (by omega), if_neg (by omega)]; simp
    · simp only [List.cons_append, cont]
      rw [ofNat_toNat (by omega), if_pos (by omega), ih (div_lt_pow h)]
      have := put_length_pos n (x / 128)
      simp; omega

/-- The last byte: below 128; none where there are more. -/
theorem last_put {n x : Nat} (h : x < 128 ^ (n + 1)) : ((put n x).getD ((put n x).length - 1) 0).toNat < 128 ∧ (1 < (put n x).length → 0 < ((put n x).getD ((put n x).length - 1) 0).toNat) := by
  induction n generalizing x with
  | zero =>
    simp at h
    simp [put]; omega
  | succ n ih =>
    simp only [put]
    split
    · rename_i hx
      simp; omega
    · rename_i hx
      have h0 := ih (div_lt_pow h)
      have hl := put_length_pos n (x / 128)
      have e : (UInt8.ofNat (x % 128 + 128) :: put n (x / 128)).length - 1 = ((put n (x / 128)).length - 1) + 1 := by simp; omega
      rw [e, List.getD_cons_succ]
      refine ⟨h0.1, fun _ => ?_⟩
      by_cases h1 : 1 < (put n (x / 128)).length
      · exact h0.2 h1
      · have h2 : (put n (x / 128)).length = 1 := by omega
        have hv := val_put (div_lt_pow h)
        match hp : put n (x / 128), h2 with
        | [b], _ =>
          rw [hp] at hv
          rw [hp] at h0
          simp [val] at hv h0 ⊢
          omega

theorem getD_append_left (l r : List UInt8) (i : Nat) (h : i < l.length) : (l ++ r).getD i 0 = l.getD i 0 := by
  rw [List.getD_eq_getElem?_getD, List.getD_eq_getElem?_getD, List.getElem?_append_left h]

/-- Numbers come back. -/
theorem get_put {bits n x : Nat} (h : x < 128 ^ (n + 1)) (hb : x < 2 ^ bits) (hn : n ≤ 9) (r : List UInt8) : get bits (put n x ++ r) = (x, (put n x).length, 0) := by
  have hl := put_length_pos n x
  have hle := put_length_le n x
  have hc := cont_put h r
  have hlast := last_put h
  unfold get
  rw [hc, show (put n x).length - 1 + 1 = (put n x).length by omega, List.take_left, val_put h]
  have hg : (put n x ++ r).getD ((put n x).length - 1) 0 = (put n x).getD ((put n x).length - 1) 0 := getD_append_left _ _ _ (by omega)
  rw [if_neg (by simp; omega), hg, if_neg]
  rintro (h1 | ⟨h1, h2⟩ | h1)
  · omega
  · have := hlast.2 (by omega); omega
  · omega

/-- More fuel: the same bytes. -/
theorem put_more {n m x : Nat} (h : x < 128 ^ (n + 1)) (hm : n ≤ m) : put m x = put n x := by
  induction n generalizing m x with
  | zero =>
    simp at h
    cases m with
    | zero => rfl
    | succ m => simp [put, h]
  | succ n ih =>
    cases m with
    | zero => omega
    | succ m =>
      simp only [put]
      split
      · rfl
      · rw [ih (div_lt_pow h) (by omega)]

/-- A byte for each seven bits. -/
theorem put_length {n x k : Nat} (h : x < 128 ^ (k + 1)) (hl : k = 0 ∨ 128 ^ k ≤ x) (hk : k ≤ n) : (put n x).length = k + 1 := by
  induction k generalizing n x with
  | zero =>
    simp at h
    cases n with
    | zero => rfl
    | succ n => simp [put, h]
  | succ k ih =>
    cases n with
    | zero => omega
    | succ n =>
      have hx : 128 ^ (k + 1) ≤ x := by omega
      have h128 : 128 ≤ 128 ^ (k + 1) := by
        rw [Nat.pow_succ]
        have : 0 < 128 ^ k := Nat.pow_pos (by omega)
        omega
      simp only [put]
      rw [if_neg (by omega), List.length_cons, ih (n := n) (div_lt_pow h) ?_ (by omega)]
      cases k with
      | zero => exact .inl rfl
      | succ k =>
        right
        rw [pow_step] at hx
        exact (Nat.le_div_iff_mul_le (by omega)).2 (by omega)

/-- Of any number below 2^64. -/
def enc (x : Nat) : List UInt8 := put 9 x

theorem fits {x : Nat} (h : x < 18446744073709551616) : x < 128 ^ (9 + 1) := by
  have : (128 : Nat) ^ (9 + 1) = 1180591620717411303424 := by decide
  omega

/-- A number with its sign as one without. -/
def zig (x : Int) : Nat := if x < 0 then (-(x + 1)).toNat * 2 + 1 else x.toNat * 2
def zag (u : Nat) : Int := if u % 2 = 1 then -((u / 2 : Nat) : Int) - 1 else ((u / 2 : Nat) : Int)

theorem zag_zig (x : Int) : zag (zig x) = x := by
  unfold zag zig
  split <;> split <;> omega

theorem zig_lt {x : Int} (h1 : -9223372036854775808 ≤ x) (h2 : x < 9223372036854775808) : zig x < 18446744073709551616 := by
  unfold zig; split <;> omega

end Go.Proofs.Ytkkpcdpoldjmkaa.VarMath
