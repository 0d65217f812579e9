/-
  MORE PLAIN ARITHMETIC OF CHAPTER 6: a window over the bits; bits laid one by one; what the readers answer.
-/
import Derived.Test.YtkkpcdpoldjmkaaBitMath
namespace Go.Proofs.Ytkkpcdpoldjmkaa.BitMath

/-! The window. -/
theorem win_lt {A T m : Nat} (hA : A < 2 ^ T) (hm : 8 * m ≤ T) : A / 256 ^ m < 2 ^ (T - 8 * m) := by
  rw [p256]
  refine Nat.div_lt_of_lt_mul ?_
  rw [← Nat.pow_add, show 8 * m + (T - 8 * m) = T by omega]; exact hA
theorem win_or {A x T m : Nat} (hA : A < 2 ^ T) (hm : 8 * m ≤ T) : (A / 256 ^ m) ||| x * 2 ^ (T - 8 * m) = (A + x * 2 ^ T) / 256 ^ m := by
  rw [or_bit (win_lt hA hm)]
  have e : x * 2 ^ T = 256 ^ m * (x * 2 ^ (T - 8 * m)) := by
    rw [p256, ← Nat.mul_assoc, Nat.mul_comm (2 ^ (8 * m)) x, Nat.mul_assoc, ← Nat.pow_add, show 8 * m + (T - 8 * m) = T by omega]
  rw [e, Nat.add_mul_div_left _ _ (Nat.pow_pos (by omega))]
theorem win_shift (A m : Nat) : A / 256 ^ m / 256 = A / 256 ^ (m + 1) := by rw [Nat.div_div_eq_div_mul, ← Nat.pow_succ]
theorem add_lt {A x T w : Nat} (hA : A < 2 ^ T) (hx : x < 2 ^ w) : A + x * 2 ^ T < 2 ^ (T + w) := by
  rw [Nat.pow_add, Nat.mul_comm (2 ^ T)]
  have h : x * 2 ^ T + 2 ^ T ≤ 2 ^ w * 2 ^ T := by
    have : (x + 1) * 2 ^ T ≤ 2 ^ w * 2 ^ T := Nat.mul_le_mul_right _ hx
    rw [Nat.succ_mul] at this; exact this
  omega

/-- Numbers of w bits, as bytes. -/
def packed (w : Nat) (ns : List Nat) : List UInt8 := bytes ((w * ns.length + 7) / 8) (all w ns)
theorem packed_length (w : Nat) (ns : List Nat) : (packed w ns).length = (w * ns.length + 7) / 8 := bytes_length _ _
def nats (xs : List Int) : List Nat := xs.map Int.toNat
theorem nats_length (xs : List Int) : (nats xs).length = xs.length := by simp [nats]
theorem nats_snoc (xs : List Int) (x : Int) : nats (xs ++ [x]) = nats xs ++ [x.toNat] := by simp [nats]
def fit (w : Nat) (xs : List Int) : Prop := ∀ x ∈ xs, 0 ≤ x ∧ x < ((2 ^ w : Nat) : Int)
instance (w : Nat) (xs : List Int) : Decidable (fit w xs) := by unfold fit; infer_instance
theorem fit_lt {w : Nat} {xs : List Int} (h : fit w xs) : ∀ x ∈ nats xs, x < 2 ^ w := by
  intro x hx
  simp only [nats, List.mem_map] at hx
  obtain ⟨y, hy, rfl⟩ := hx
  have := h y hy
  omega
theorem fit_snoc {w : Nat} {xs : List Int} {x : Int} (h : fit w xs) (h0 : 0 ≤ x) (h1 : x < ((2 ^ w : Nat) : Int)) : fit w (xs ++ [x]) := by
  intro y hy
  rw [List.mem_append, List.mem_singleton] at hy
  rcases hy with hy | rfl
  · exact h y hy
  · exact ⟨h0, h1⟩
theorem fit_take {w : Nat} {xs : List Int} (h : fit w xs) (k : Nat) : fit w (xs.take k) := fun x hx => h x (List.mem_of_mem_take hx)
def wide (width : Int) : Prop := width < 0 ∨ 16 < width
instance (width : Int) : Decidable (wide width) := by unfold wide; infer_instance
/-- What packing answers. -/
def packS (xs : List Int) (width : Int) : List UInt8 := if wide width then [] else if fit width.toNat xs then packed width.toNat (nats xs) else []
def packE (xs : List Int) (width : Int) : Int := if wide width then 600 else if fit width.toNat xs then 0 else 601
theorem pack_wide {xs : List Int} {width : Int} (h : wide width) : packS xs width = [] ∧ packE xs width = 600 := by
  unfold packS packE; rw [if_pos h, if_pos h]; exact ⟨rfl, rfl⟩
theorem pack_fit {xs : List Int} {w : Nat} (hw : w ≤ 16) (h : fit w xs) : packS xs (w : Int) = packed w (nats xs) ∧ packE xs (w : Int) = 0 := by
  have h0 : ¬ wide (w : Int) := by unfold wide; omega
  unfold packS packE; rw [if_neg h0, if_neg h0, Int.toNat_natCast, if_pos h, if_pos h]; exact ⟨rfl, rfl⟩
theorem pack_not {xs : List Int} {w : Nat} (hw : w ≤ 16) (h : ¬ fit w xs) : packS xs (w : Int) = [] ∧ packE xs (w : Int) = 601 := by
  have h0 : ¬ wide (w : Int) := by unfold wide; omega
  unfold packS packE; rw [if_neg h0, if_neg h0, Int.toNat_natCast, if_neg h, if_neg h]; exact ⟨rfl, rfl⟩
theorem not_fit_at {xs : List Int} {w i : Nat} (hi : i < xs.length) (h : xs[i] < 0 ∨ ((2 ^ w : Nat) : Int) ≤ xs[i]) : ¬ fit w xs := by
  intro hf
  have := hf xs[i] (List.getElem_mem hi)
  omega

/-! Bits laid one by one. -/
theorem num_replicate (n : Nat) : num (List.replicate n 0) = 0 := by
  induction n with
  | zero => rfl
  | succ n ih => rw [List.replicate_succ]; simp [num, ih]
theorem lay_bit {l : List UInt8} {t b : Nat} (hl : t / 8 < l.length) (hn : num l < 2 ^ t) (hb : b ≤ 1) :
    ((l.getD (t / 8) 0).toNat ||| b * 2 ^ (t % 8)) = (l.getD (t / 8) 0).toNat + b * 2 ^ (t % 8) ∧ (l.getD (t / 8) 0).toNat + b * 2 ^ (t % 8) < 256 ∧
    num (l.set (t / 8) (UInt8.ofNat ((l.getD (t / 8) 0).toNat + b * 2 ^ (t % 8)))) = num l + b * 2 ^ t ∧ num l + b * 2 ^ t < 2 ^ (t + 1) := by
  have hold : (l.getD (t / 8) 0).toNat < 2 ^ (t % 8) := by
    rw [num_at l _ hl]
    refine Nat.lt_of_le_of_lt (Nat.mod_le _ _) ?_
    have := win_lt (m := t / 8) hn (by omega)
    rw [show t - 8 * (t / 8) = t % 8 by omega] at this; exact this
  have h8 : 2 ^ (t % 8) ≤ 2 ^ 7 := Nat.pow_le_pow_right (by omega) (by omega)
  have hbm : b * 2 ^ (t % 8) ≤ 1 * 2 ^ (t % 8) := Nat.mul_le_mul_right _ hb
  refine ⟨or_bit hold, by omega, ?_, ?_⟩
  · have h := num_set l (t / 8) hl (UInt8.ofNat ((l.getD (t / 8) 0).toNat + b * 2 ^ (t % 8)))
    rw [UInt8.toNat_ofNat', Nat.mod_eq_of_lt (show (l.getD (t / 8) 0).toNat + b * 2 ^ (t % 8) < 2 ^ 8 by omega), Nat.add_mul] at h
    have e : b * 2 ^ (t % 8) * 256 ^ (t / 8) = b * 2 ^ t := by
      rw [p256, Nat.mul_assoc, ← Nat.pow_add, show t % 8 + 8 * (t / 8) = t by omega]
    omega
  · have : b * 2 ^ t ≤ 1 * 2 ^ t := Nat.mul_le_mul_right _ hb
    rw [Nat.pow_succ]; omega
/-- A bit more of a number. -/
theorem bit_more (x k : Nat) : x % 2 ^ (k + 1) = x % 2 ^ k + x / 2 ^ k % 2 * 2 ^ k := by
  rw [Nat.pow_succ, Nat.mod_mul, Nat.mul_comm (2 ^ k)]
theorem bytes_of_num {l : List UInt8} {n x : Nat} (hl : l.length = n) (hn : num l = x) : l = bytes n x := by
  subst hl; subst hn; exact (bytes_num l).symm

/-! How many bits. -/
def width (most : Int) : Nat := len 64 most.toNat
theorem len_zero (n : Nat) : len n 0 = 0 := by cases n <;> simp [len]
theorem len_succ {n x : Nat} (h : x ≠ 0) : len (n + 1) x = len n (x / 2) + 1 := by simp [len, h]
theorem len_more {n x : Nat} (h : x < 2 ^ n) (m : Nat) (hm : n ≤ m) : len m x = len n x := by
  induction n generalizing x m with
  | zero => simp at h; subst h; rw [len_zero, len_zero]
  | succ n ih =>
    cases m with
    | zero => omega
    | succ m =>
      by_cases h0 : x = 0
      · subst h0; rw [len_zero, len_zero]
      · rw [len_succ h0, len_succ h0, ih (by rw [Nat.pow_succ] at h; omega) m (by omega)]
theorem width_le {most : Int} {w : Nat} (h1 : most < 9223372036854775808) : width most ≤ w ↔ most < ((2 ^ w : Nat) : Int) := by
  unfold width
  have hp : 0 < 2 ^ w := Nat.pow_pos (by omega)
  rw [len_le (show most.toNat < 2 ^ 64 by omega)]
  omega
theorem width_le_63 {most : Int} (h1 : most < 9223372036854775808) : width most ≤ 63 := (width_le h1).2 (by omega)

/-! What unpacking answers. -/
def many_ (n many w : Nat) : List Int := (List.range many).map fun i => ((n / 2 ^ (w * i) % 2 ^ w : Nat) : Int)
theorem many_length (n many w : Nat) : (many_ n many w).length = many := by simp [many_]
theorem many_snoc (n i w : Nat) : many_ n (i + 1) w = many_ n i w ++ [((n / 2 ^ (w * i) % 2 ^ w : Nat) : Int)] := by simp [many_, List.range_succ]
def unpackE (s : List UInt8) (many width : Int) : Int :=
  if wide width then 600 else if many < 0 ∨ 65536 < many then 601 else if (s.length : Int) ≠ (many * width + 7) / 8 then 602
  else if num s / 2 ^ (width.toNat * many.toNat) ≠ 0 then 602 else 0
def unpackL (s : List UInt8) (many width : Int) : List Int := if unpackE s many width = 0 then many_ (num s) many.toNat width.toNat else []
theorem unpack_wide {s : List UInt8} {many width : Int} (h : wide width) : unpackL s many width = [] ∧ unpackE s many width = 600 := by
  have e : unpackE s many width = 600 := by unfold unpackE; rw [if_pos h]
  unfold unpackL; rw [e]; exact ⟨rfl, rfl⟩
theorem unpack_range {s : List UInt8} {many width : Int} (h : ¬ wide width) (h1 : many < 0 ∨ 65536 < many) : unpackL s many width = [] ∧ unpackE s many width = 601 := by
  have e : unpackE s many width = 601 := by unfold unpackE; rw [if_neg h, if_pos h1]
  unfold unpackL; rw [e]; exact ⟨rfl, rfl⟩
theorem unpack_cut {s : List UInt8} {m w : Nat} (hw : w ≤ 16) (hm : m ≤ 65536) (h : s.length ≠ (m * w + 7) / 8) : unpackL s m w = [] ∧ unpackE s m w = 602 := by
  have h0 : ¬ wide (w : Int) := by unfold wide; omega
  have e : unpackE s m w = 602 := by
    unfold unpackE
    rw [if_neg h0, if_neg (by omega), if_pos]
    rw [← Int.natCast_mul]; omega
  unfold unpackL; rw [e]; exact ⟨rfl, rfl⟩
theorem unpack_rest {s : List UInt8} {m w : Nat} (hw : w ≤ 16) (hm : m ≤ 65536) (hl : s.length = (m * w + 7) / 8) (h : num s / 2 ^ (w * m) ≠ 0) : unpackL s m w = [] ∧ unpackE s m w = 602 := by
  have h0 : ¬ wide (w : Int) := by unfold wide; omega
  have e : unpackE s m w = 602 := by
    unfold unpackE
    rw [if_neg h0, if_neg (by omega), if_neg (by rw [← Int.natCast_mul]; omega), if_pos]
    exact h
  unfold unpackL; rw [e]; exact ⟨rfl, rfl⟩
theorem unpack_ok {s : List UInt8} {m w : Nat} (hw : w ≤ 16) (hm : m ≤ 65536) (hl : s.length = (m * w + 7) / 8) (h : num s / 2 ^ (w * m) = 0) : unpackL s m w = many_ (num s) m w ∧ unpackE s m w = 0 := by
  have h0 : ¬ wide (w : Int) := by unfold wide; omega
  have e : unpackE s m w = 0 := by
    unfold unpackE
    rw [if_neg h0, if_neg (by omega), if_neg (by rw [← Int.natCast_mul]; omega), if_neg]
    simpa using h
  unfold unpackL; rw [e, if_pos rfl]; exact ⟨rfl, rfl⟩

/-- The reader's window: the bytes read, less the numbers taken. -/
theorem num_take_succ (l : List UInt8) (i : Nat) (h : i < l.length) : num (l.take (i + 1)) = num (l.take i) + (l.getD i 0).toNat * 256 ^ i := by
  induction l generalizing i with
  | nil => simp at h
  | cons b l ih =>
    cases i with
    | zero => simp [num]
    | succ i =>
      simp only [List.take_succ_cons, num, List.getD_cons_succ]
      rw [ih i (by simpa using h), Nat.mul_add, Nat.pow_succ]
      have : 256 * ((l.getD i 0).toNat * 256 ^ i) = (l.getD i 0).toNat * (256 ^ i * 256) := by rw [Nat.mul_comm 256, Nat.mul_assoc]
      omega
theorem num_take_mod (l : List UInt8) (i : Nat) : num (l.take i) = num l % 256 ^ i := by
  induction l generalizing i with
  | nil => simp [num]
  | cons b l ih =>
    have hb := u8_lt b
    cases i with
    | zero => simp [num, Nat.mod_one]
    | succ i =>
      simp only [List.take_succ_cons, num]
      rw [ih, Nat.pow_succ, Nat.mul_comm (256 ^ i) 256, Nat.mod_mul]
      rw [show (b.toNat + 256 * num l) % 256 = b.toNat by omega, show (b.toNat + 256 * num l) / 256 = num l by omega]
/-- A byte more in the window. -/
theorem read_or {l : List UInt8} {a d : Nat} (ha : a < l.length) (hd : d ≤ 8 * a) : (num (l.take a) / 2 ^ d) ||| ((l.getD a 0).toNat * 2 ^ (8 * a - d)) = num (l.take (a + 1)) / 2 ^ d ∧ num (l.take a) / 2 ^ d < 2 ^ (8 * a - d) := by
  have hlt : num (l.take a) < 2 ^ (8 * a) := by
    have := num_lt (l.take a)
    rw [p256, List.length_take, Nat.min_eq_left (by omega)] at this; exact this
  have h2 : num (l.take a) / 2 ^ d < 2 ^ (8 * a - d) := by
    refine Nat.div_lt_of_lt_mul ?_
    rw [← Nat.pow_add, show d + (8 * a - d) = 8 * a by omega]; exact hlt
  refine ⟨?_, h2⟩
  rw [or_bit h2, num_take_succ l a ha, p256]
  have e : (l.getD a 0).toNat * 2 ^ (8 * a) = 2 ^ d * ((l.getD a 0).toNat * 2 ^ (8 * a - d)) := by
    rw [← Nat.mul_assoc, Nat.mul_comm (2 ^ d), Nat.mul_assoc, ← Nat.pow_add, show d + (8 * a - d) = 8 * a by omega]
  rw [e, Nat.add_mul_div_left _ _ (Nat.pow_pos (by omega))]
/-- What the window's low bits are. -/
theorem read_low {l : List UInt8} {a d w : Nat} (h : d + w ≤ 8 * a) : num (l.take a) / 2 ^ d % 2 ^ w = num l / 2 ^ d % 2 ^ w := by
  rw [num_take_mod, p256]
  rw [← Nat.mod_mul_right_div_self, ← Nat.mod_mul_right_div_self (num l), ← Nat.pow_add, Nat.mod_mod_of_dvd]
  exact Nat.pow_dvd_pow _ h
theorem read_next (x d w : Nat) : x / 2 ^ d / 2 ^ w = x / 2 ^ (d + w) := by rw [Nat.div_div_eq_div_mul, ← Nat.pow_add]
/-- Packed, then unpacked. -/
theorem unpack_packed {xs : List Int} {w : Nat} (hw : w ≤ 16) (hm : xs.length ≤ 65536) (h : fit w xs) : unpackL (packed w (nats xs)) xs.length w = xs ∧ unpackE (packed w (nats xs)) xs.length w = 0 := by
  have hlt := all_lt (fit_lt h)
  rw [nats_length] at hlt
  have hn : num (packed w (nats xs)) = all w (nats xs) := by
    refine num_bytes ?_
    rw [p256, nats_length]
    exact Nat.lt_of_lt_of_le hlt (Nat.pow_le_pow_right (by omega) (by omega))
  obtain ⟨h1, h2⟩ := unpack_ok (s := packed w (nats xs)) (m := xs.length) hw hm (by rw [packed_length, nats_length, Nat.mul_comm]) (by rw [hn]; exact Nat.div_eq_of_lt hlt)
  refine ⟨?_, h2⟩
  rw [h1, hn]
  refine List.ext_getElem (by rw [many_length]) fun i hi1 hi2 => ?_
  simp only [many_, List.getElem_map, List.getElem_range]
  rw [all_at (fit_lt h) i (by rw [nats_length]; exact hi2), List.getD_eq_getElem?_getD, List.getElem?_eq_getElem (by rw [nats_length]; exact hi2)]
  have h0 := h xs[i] (List.getElem_mem hi2)
  simp [nats]; omega
end Go.Proofs.Ytkkpcdpoldjmkaa.BitMath
