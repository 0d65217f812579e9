/-
  PLAIN ARITHMETIC OF THE SUM OF CHAPTER 4: eight bit steps of a byte, over natural numbers. No program in sight.
-/
namespace Go.Proofs.Ytkkpcdpoldjmkaa.CrcMath

/-- The polynomial. -/
def poly : Nat := 3988292384

/-- One bit step. -/
def step (x : Nat) : Nat := if x % 2 = 1 then (x / 2) ^^^ poly else x / 2

/-- n bit steps. -/
def steps : Nat → Nat → Nat
  | 0, x => x
  | n + 1, x => steps n (step x)

theorem steps_succ (n x : Nat) : steps (n + 1) x = step (steps n x) := by
  induction n generalizing x with
  | zero => rfl
  | succ n ih => exact ih (step x)

theorem xor_eq_zero {a b : Nat} (h : a ^^^ b = 0) : a = b := by
  have h2 : a ^^^ (a ^^^ b) = a := by rw [h, Nat.xor_zero]
  rw [← Nat.xor_assoc, Nat.xor_self, Nat.zero_xor] at h2
  exact h2.symm

theorem step_xor (a b : Nat) : step (a ^^^ b) = step a ^^^ step b := by
  unfold step
  rw [Nat.xor_div_two]
  have hx : (a ^^^ b) % 2 = 1 ↔ ¬(a % 2 = 1 ↔ b % 2 = 1) := Nat.xor_mod_two_eq_one
  by_cases ha : a % 2 = 1 <;> by_cases hb : b % 2 = 1 <;> simp only [ha, hb, hx, iff_self, not_true_eq_false, if_true, if_false, iff_true, iff_false, not_false_eq_true]
  · apply Nat.eq_of_testBit_eq
    intro i
    simp only [Nat.testBit_xor]
    cases (a / 2).testBit i <;> cases (b / 2).testBit i <;> cases poly.testBit i <;> rfl
  · apply Nat.eq_of_testBit_eq
    intro i
    simp only [Nat.testBit_xor]
    cases (a / 2).testBit i <;> cases (b / 2).testBit i <;> cases poly.testBit i <;> rfl
  · apply Nat.eq_of_testBit_eq
    intro i
    simp only [Nat.testBit_xor]
    cases (a / 2).testBit i <;> cases (b / 2).testBit i <;> cases poly.testBit i <;> rfl

theorem steps_xor (n a b : Nat) : steps n (a ^^^ b) = steps n a ^^^ steps n b := by
  induction n generalizing a b with
  | zero => rfl
  | succ n ih => show steps n (step (a ^^^ b)) = _; rw [step_xor, ih]; rfl

theorem step_even (k : Nat) : step (2 * k) = k := by
  unfold step
  rw [if_neg (by omega)]; omega

theorem steps8_high (k : Nat) : steps 8 (256 * k) = k := by
  show step (step (step (step (step (step (step (step (256 * k)))))))) = k
  rw [show 256 * k = 2 * (128 * k) by omega, step_even, show 128 * k = 2 * (64 * k) by omega, step_even, show 64 * k = 2 * (32 * k) by omega, step_even,
    show 32 * k = 2 * (16 * k) by omega, step_even, show 16 * k = 2 * (8 * k) by omega, step_even, show 8 * k = 2 * (4 * k) by omega, step_even,
    show 4 * k = 2 * (2 * k) by omega, step_even, step_even]

theorem split256 (x : Nat) : x = 256 * (x / 256) ^^^ x % 256 := by
  apply Nat.eq_of_testBit_eq
  intro i
  rw [Nat.testBit_xor, show (256 : Nat) = 2 ^ 8 from rfl, Nat.testBit_mod_two_pow, Nat.testBit_two_pow_mul, Nat.testBit_div_two_pow]
  by_cases h : i < 8
  · have : ¬ 8 ≤ i := by omega
    simp [h, this]
  · have h8 : 8 ≤ i := by omega
    simp [h, h8, show i - 8 + 8 = i by omega]

theorem step_zero : step 0 = 0 := rfl

theorem step_lt {x : Nat} (h : x < 4294967296) : step x < 4294967296 := by
  unfold step
  split
  · exact Nat.xor_lt_two_pow (n := 32) (by omega) (by unfold poly; omega)
  · omega

theorem steps_lt (n : Nat) {x : Nat} (h : x < 4294967296) : steps n x < 4294967296 := by
  induction n generalizing x with
  | zero => exact h
  | succ n ih => exact ih (step_lt h)

theorem step_eq_zero {z : Nat} (hz : z < 4294967296) (h : step z = 0) : z = 0 := by
  unfold step at h
  split at h
  · have : z / 2 = poly := xor_eq_zero h
    unfold poly at this; omega
  · omega

theorem step_inj {a b : Nat} (ha : a < 4294967296) (hb : b < 4294967296) (h : step a = step b) : a = b := by
  have h0 : step (a ^^^ b) = 0 := by rw [step_xor, h, Nat.xor_self]
  exact xor_eq_zero (step_eq_zero (Nat.xor_lt_two_pow (n := 32) ha hb) h0)

theorem steps_inj (n : Nat) {a b : Nat} (ha : a < 4294967296) (hb : b < 4294967296) (h : steps n a = steps n b) : a = b := by
  induction n generalizing a b with
  | zero => exact h
  | succ n ih => exact step_inj ha hb (ih (step_lt ha) (step_lt hb) h)

/-- A byte taken in. -/
def byteIn (x b : Nat) : Nat := steps 8 (x ^^^ b)

/-- The table's entry. -/
def tab (i : Nat) : Nat := steps 8 i

/-- By the table: the low byte alone is looked up. -/
theorem byteIn_tab (x b : Nat) : byteIn x b = x / 256 ^^^ tab (x % 256 ^^^ b) := by
  unfold byteIn tab
  conv => lhs; rw [split256 x, Nat.xor_assoc, steps_xor, steps8_high]

theorem byteIn_lt {x b : Nat} (hx : x < 4294967296) (hb : b < 256) : byteIn x b < 4294967296 :=
  steps_lt 8 (Nat.xor_lt_two_pow (n := 32) hx (by omega))

theorem xor_cancel_left {a b c : Nat} (h : a ^^^ b = a ^^^ c) : b = c := by
  have : a ^^^ (a ^^^ b) = a ^^^ (a ^^^ c) := by rw [h]
  simpa [← Nat.xor_assoc] using this

theorem xor_cancel_right {a b c : Nat} (h : a ^^^ c = b ^^^ c) : a = b := by
  rw [Nat.xor_comm a, Nat.xor_comm b] at h; exact xor_cancel_left h

theorem byteIn_inj_left {x y b : Nat} (hx : x < 4294967296) (hy : y < 4294967296) (hb : b < 256) (h : byteIn x b = byteIn y b) : x = y :=
  xor_cancel_right (steps_inj 8 (Nat.xor_lt_two_pow (n := 32) hx (by omega)) (Nat.xor_lt_two_pow (n := 32) hy (by omega)) h)

theorem byteIn_inj_right {x b c : Nat} (hx : x < 4294967296) (hb : b < 256) (hc : c < 256) (h : byteIn x b = byteIn x c) : b = c :=
  xor_cancel_left (steps_inj 8 (Nat.xor_lt_two_pow (n := 32) hx (by omega)) (Nat.xor_lt_two_pow (n := 32) hx (by omega)) h)

/-- The register behind a list of bytes. -/
def reg (x : Nat) (l : List UInt8) : Nat := l.foldl (fun x b => byteIn x b.toNat) x

theorem reg_nil (x : Nat) : reg x [] = x := rfl
theorem reg_cons (x : Nat) (b : UInt8) (l : List UInt8) : reg x (b :: l) = reg (byteIn x b.toNat) l := rfl
theorem reg_append (x : Nat) (l m : List UInt8) : reg x (l ++ m) = reg (reg x l) m := by simp [reg, List.foldl_append]
theorem reg_snoc (x : Nat) (l : List UInt8) (b : UInt8) : reg x (l ++ [b]) = byteIn (reg x l) b.toNat := by rw [reg_append]; rfl

theorem u8_lt (b : UInt8) : b.toNat < 256 := b.toNat_lt

theorem reg_lt {x : Nat} (hx : x < 4294967296) (l : List UInt8) : reg x l < 4294967296 := by
  induction l generalizing x with
  | nil => exact hx
  | cons b l ih => exact ih (byteIn_lt hx (u8_lt b))

theorem reg_inj {x y : Nat} (hx : x < 4294967296) (hy : y < 4294967296) (l : List UInt8) (h : reg x l = reg y l) : x = y := by
  induction l generalizing x y with
  | nil => exact h
  | cons b l ih => exact byteIn_inj_left hx hy (u8_lt b) (ih (byteIn_lt hx (u8_lt b)) (byteIn_lt hy (u8_lt b)) h)

/-- The sum of a list of bytes. -/
def crc (l : List UInt8) : Nat := reg 4294967295 l ^^^ 4294967295

theorem crc_lt (l : List UInt8) : crc l < 4294967296 := Nat.xor_lt_two_pow (n := 32) (reg_lt (by omega) l) (by omega)

/-- One byte turned: another sum. -/
theorem crc_set_ne (l : List UInt8) (k : Nat) (hk : k < l.length) (c : UInt8) (hc : c ≠ l[k]) : crc (l.set k c) ≠ crc l := by
  intro h
  have h1 : reg 4294967295 (l.set k c) = reg 4294967295 l := xor_cancel_right h
  have e1 : l.set k c = l.take k ++ c :: l.drop (k + 1) := List.set_eq_take_append_cons_drop.trans (if_pos hk)
  have e2 : l = l.take k ++ l[k] :: l.drop (k + 1) := by rw [← List.drop_eq_getElem_cons hk, List.take_append_drop]
  rw [e1] at h1
  conv at h1 => rhs; rw [e2]
  rw [reg_append, reg_append, reg_cons, reg_cons] at h1
  have hr := reg_lt (x := 4294967295) (by omega) (l.take k)
  have h2 := reg_inj (byteIn_lt hr (u8_lt _)) (byteIn_lt hr (u8_lt _)) _ h1
  exact hc (UInt8.toNat_inj.1 (byteIn_inj_right hr (u8_lt _) (u8_lt _) h2))

/-- The sum's four bytes, the greatest first. -/
def digits (x : Nat) : List UInt8 := [UInt8.ofNat (x / 16777216), UInt8.ofNat (x / 65536), UInt8.ofNat (x / 256), UInt8.ofNat x]

theorem digits_length (x : Nat) : (digits x).length = 4 := rfl

theorem digits_inj {x y : Nat} (hx : x < 4294967296) (hy : y < 4294967296) (h : digits x = digits y) : x = y := by
  simp only [digits, List.cons.injEq, and_true] at h
  obtain ⟨h0, h1, h2, h3⟩ := h
  have e0 := congrArg UInt8.toNat h0
  have e1 := congrArg UInt8.toNat h1
  have e2 := congrArg UInt8.toNat h2
  have e3 := congrArg UInt8.toNat h3
  simp only [UInt8.toNat_ofNat'] at e0 e1 e2 e3
  omega

/-- What is sealed. -/
def seal_ (l : List UInt8) : List UInt8 := l ++ digits (crc l)

/-- What opens: none where it does not. -/
def open_ (l : List UInt8) : Option (List UInt8) :=
  if l.length < 4 then none else if digits (crc (l.take (l.length - 4))) = l.drop (l.length - 4) then some (l.take (l.length - 4)) else none

theorem open_seal (l : List UInt8) : open_ (seal_ l) = some l := by
  have hl : (seal_ l).length = l.length + 4 := by simp [seal_, digits_length]
  unfold open_
  rw [if_neg (by omega), hl, show l.length + 4 - 4 = l.length by omega]
  have h1 : (seal_ l).take l.length = l := by simp [seal_]
  have h2 : (seal_ l).drop l.length = digits (crc l) := by simp [seal_]
  rw [h1, h2, if_pos rfl]

theorem open_some {l m : List UInt8} (h : open_ l = some m) : l = seal_ m := by
  unfold open_ at h
  split at h
  · cases h
  · split at h
    · rename_i h1 h2
      injection h with h
      subst h
      unfold seal_
      rw [h2, List.take_append_drop]
    · cases h

/-- One byte turned: it does not open. -/
theorem open_set_none (l : List UInt8) (k : Nat) (hk : k < (seal_ l).length) (c : UInt8) (hc : c ≠ (seal_ l)[k]) : open_ ((seal_ l).set k c) = none := by
  rcases ho : open_ ((seal_ l).set k c) with _ | m
  · rfl
  · exfalso
    have hm := open_some ho
    have hlen : (seal_ l).length = l.length + 4 := by simp [seal_, digits_length]
    have hml : m.length = l.length := by
      have := congrArg List.length hm
      rw [List.length_set, hlen] at this
      simp [seal_, digits_length] at this
      exact this.symm
    by_cases hkl : k < l.length
    · have e : (seal_ l).set k c = l.set k c ++ digits (crc l) := by
        unfold seal_; rw [List.set_append_left _ _ hkl]
      rw [e] at hm
      unfold seal_ at hm
      have h2 := List.append_inj hm (by rw [List.length_set, hml])
      have hcl : c ≠ l[k] := by
        intro hh; apply hc; simp only [seal_]; rw [List.getElem_append_left hkl]; exact hh
      have := digits_inj (crc_lt _) (crc_lt _) h2.2
      rw [← h2.1] at this
      exact crc_set_ne l k hkl c hcl this.symm
    · have e : (seal_ l).set k c = l ++ (digits (crc l)).set (k - l.length) c := by
        unfold seal_; rw [List.set_append_right _ _ (by omega)]
      rw [e] at hm
      unfold seal_ at hm
      have h2 := List.append_inj hm hml.symm
      have h3 := h2.2
      rw [← h2.1] at h3
      have hkd : k - l.length < (digits (crc l)).length := by rw [digits_length]; omega
      have h4 : ((digits (crc l)).set (k - l.length) c)[k - l.length]'(by rw [List.length_set]; exact hkd) = (digits (crc l))[k - l.length] := by
        congr 1
      rw [List.getElem_set_self] at h4
      apply hc
      simp only [seal_]
      rw [List.getElem_append_right (by omega)]
      exact h4

end Go.Proofs.Ytkkpcdpoldjmkaa.CrcMath
