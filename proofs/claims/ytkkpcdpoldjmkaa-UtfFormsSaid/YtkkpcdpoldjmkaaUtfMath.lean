/-
  PLAIN ARITHMETIC OF CHAPTER 2: runes as bytes, over lists of bytes and natural numbers. No program in sight.
-/
namespace Go.Proofs.Ytkkpcdpoldjmkaa.UtfMath

theorem u8_lt (b : UInt8) : b.toNat < 256 := b.toNat_lt

/-- Byte i as a number; 0 where there is none. -/
def at_ (l : List UInt8) (i : Nat) : Nat := (l.getD i 0).toNat

theorem at_lt (l : List UInt8) (i : Nat) : at_ l i < 256 := u8_lt _

/-- Is there a byte i that goes on? -/
def goes (l : List UInt8) (i : Nat) : Prop := i < l.length ∧ 128 ≤ at_ l i ∧ at_ l i < 192

instance (l : List UInt8) (i : Nat) : Decidable (goes l i) := by unfold goes; infer_instance

/-- Is there such a rune? -/
def may (r : Nat) : Prop := r ≤ 1114111 ∧ (r < 55296 ∨ 57343 < r)

instance (r : Nat) : Decidable (may r) := by unfold may; infer_instance

/-- The rune at the head, and how many bytes it has. -/
def rune (l : List UInt8) : Nat × Nat :=
  if l.length = 0 then (0, 0)
  else if at_ l 0 < 128 then (at_ l 0, 1)
  else if at_ l 0 < 194 ∨ 244 < at_ l 0 then (0, 0)
  else if at_ l 0 < 224 then (if goes l 1 then ((at_ l 0 - 192) * 64 + (at_ l 1 - 128), 2) else (0, 0))
  else if at_ l 0 < 240 then
    (if goes l 1 ∧ goes l 2 ∧ 2048 ≤ (at_ l 0 - 224) * 4096 + (at_ l 1 - 128) * 64 + (at_ l 2 - 128) ∧
        ((at_ l 0 - 224) * 4096 + (at_ l 1 - 128) * 64 + (at_ l 2 - 128) < 55296 ∨ 57343 < (at_ l 0 - 224) * 4096 + (at_ l 1 - 128) * 64 + (at_ l 2 - 128))
      then ((at_ l 0 - 224) * 4096 + (at_ l 1 - 128) * 64 + (at_ l 2 - 128), 3) else (0, 0))
  else
    (if goes l 1 ∧ goes l 2 ∧ goes l 3 ∧ 65536 ≤ (at_ l 0 - 240) * 262144 + (at_ l 1 - 128) * 4096 + (at_ l 2 - 128) * 64 + (at_ l 3 - 128) ∧
        (at_ l 0 - 240) * 262144 + (at_ l 1 - 128) * 4096 + (at_ l 2 - 128) * 64 + (at_ l 3 - 128) ≤ 1114111
      then ((at_ l 0 - 240) * 262144 + (at_ l 1 - 128) * 4096 + (at_ l 2 - 128) * 64 + (at_ l 3 - 128), 4) else (0, 0))

/-- A rune's bytes. -/
def put (r : Nat) : List UInt8 :=
  if r < 128 then [UInt8.ofNat r]
  else if r < 2048 then [UInt8.ofNat (192 + r / 64), UInt8.ofNat (128 + r % 64)]
  else if r < 65536 then [UInt8.ofNat (224 + r / 4096), UInt8.ofNat (128 + r / 64 % 64), UInt8.ofNat (128 + r % 64)]
  else [UInt8.ofNat (240 + r / 262144), UInt8.ofNat (128 + r / 4096 % 64), UInt8.ofNat (128 + r / 64 % 64), UInt8.ofNat (128 + r % 64)]

/-- The first place that is no rune's beginning, counted on from a; fuel: at most so many runes. -/
def firstFrom : Nat → Nat → List UInt8 → Int
  | 0, _, _ => -1
  | n + 1, a, l => if l.length ≤ a then -1 else if (rune (l.drop a)).2 = 0 then (a : Int) else firstFrom n (a + (rune (l.drop a)).2) l

def first (l : List UInt8) : Int := firstFrom (l.length + 1) 0 l

def valid (l : List UInt8) : Bool := decide (first l < 0)

theorem at_cons_zero (b : UInt8) (l : List UInt8) : at_ (b :: l) 0 = b.toNat := by simp [at_]
theorem at_cons_succ (b : UInt8) (l : List UInt8) (i : Nat) : at_ (b :: l) (i + 1) = at_ l i := by simp [at_]
theorem at_append (l m : List UInt8) (i : Nat) (h : i < l.length) : at_ (l ++ m) i = at_ l i := by
  unfold at_; rw [List.getD_eq_getElem?_getD, List.getD_eq_getElem?_getD, List.getElem?_append_left h]
theorem at_drop (l : List UInt8) (a i : Nat) : at_ (l.drop a) i = at_ l (a + i) := by
  unfold at_; rw [List.getD_eq_getElem?_getD, List.getD_eq_getElem?_getD, List.getElem?_drop]

theorem goes_lt {l : List UInt8} {i : Nat} (h : goes l i) : i < l.length := h.1

theorem rune_le (l : List UInt8) : (rune l).2 ≤ l.length := by
  unfold rune
  repeat' split
  all_goals first | omega | skip
  all_goals first | exact Nat.zero_le _ | skip
  all_goals show _ ≤ l.length
  · rename_i h; have := goes_lt h; omega
  · rename_i h; have := goes_lt h.2.1; omega
  · rename_i h; have := goes_lt h.2.2.1; omega

theorem rune_le4 (l : List UInt8) : (rune l).2 ≤ 4 := by
  unfold rune
  repeat' split
  all_goals simp

theorem goes_append {l m : List UInt8} {i : Nat} (h : goes l i) : goes (l ++ m) i ∧ at_ (l ++ m) i = at_ l i := by
  obtain ⟨h1, h2, h3⟩ := h
  have e := at_append l m i h1
  exact ⟨⟨by simp; omega, by rw [e]; exact ⟨h2, h3⟩⟩, e⟩

/-- More bytes behind a rune change nothing. -/
theorem rune_append {l : List UInt8} (m : List UInt8) (h : (rune l).2 ≠ 0) : rune (l ++ m) = rune l := by
  have hl : ¬ l.length = 0 := by
    intro h0; apply h; unfold rune; rw [if_pos h0]
  have e0 : at_ (l ++ m) 0 = at_ l 0 := at_append l m 0 (by omega)
  have hlm : ¬ (l ++ m).length = 0 := by simp; intro h; simp [h] at hl
  unfold rune at h ⊢
  rw [if_neg hl] at h ⊢
  rw [if_neg hlm, e0]
  by_cases c1 : at_ l 0 < 128
  · rw [if_pos c1, if_pos c1]
  rw [if_neg c1] at h ⊢
  rw [if_neg c1]
  by_cases c2 : at_ l 0 < 194 ∨ 244 < at_ l 0
  · rw [if_pos c2, if_pos c2]
  rw [if_neg c2] at h ⊢
  rw [if_neg c2]
  by_cases c3 : at_ l 0 < 224
  · rw [if_pos c3] at h ⊢
    rw [if_pos c3]
    by_cases g : goes l 1
    · obtain ⟨g1, e1⟩ := goes_append (m := m) g
      rw [if_pos g, if_pos g1, e1]
    · rw [if_neg g] at h; exact absurd rfl h
  rw [if_neg c3] at h ⊢
  rw [if_neg c3]
  by_cases c4 : at_ l 0 < 240
  · rw [if_pos c4] at h ⊢
    rw [if_pos c4]
    split at h
    · rename_i g
      obtain ⟨g1, e1⟩ := goes_append (m := m) g.1
      obtain ⟨g2, e2⟩ := goes_append (m := m) g.2.1
      rw [e1, e2, if_pos ⟨g1, g2, g.2.2⟩, if_pos g]
    · exact absurd rfl h
  rw [if_neg c4] at h ⊢
  rw [if_neg c4]
  split at h
  · rename_i g
    obtain ⟨g1, e1⟩ := goes_append (m := m) g.1
    obtain ⟨g2, e2⟩ := goes_append (m := m) g.2.1
    obtain ⟨g3, e3⟩ := goes_append (m := m) g.2.2.1
    rw [e1, e2, e3, if_pos ⟨g1, g2, g3, g.2.2.2⟩, if_pos g]
  · exact absurd rfl h

theorem nat_u8 {x : Nat} (h : x < 256) : (UInt8.ofNat x).toNat = x := by
  rw [UInt8.toNat_ofNat']; omega

theorem put_length (r : Nat) : (put r).length = if r < 128 then 1 else if r < 2048 then 2 else if r < 65536 then 3 else 4 := by
  unfold put
  repeat' split
  all_goals rfl

/-- A rune's bytes are it. -/
theorem rune_put {r : Nat} (h : may r) : rune (put r) = (r, (put r).length) := by
  obtain ⟨h1, h2⟩ := h
  rw [put_length]
  unfold put
  by_cases c1 : r < 128
  · simp only [c1, if_true]
    have e0 : at_ [UInt8.ofNat r] 0 = r := by rw [at_cons_zero, nat_u8 (by omega)]
    unfold rune
    rw [e0, if_neg (by simp), if_pos c1]
  simp only [c1, if_false]
  by_cases c2 : r < 2048
  · simp only [c2, if_true]
    have e0 : at_ [UInt8.ofNat (192 + r / 64), UInt8.ofNat (128 + r % 64)] 0 = 192 + r / 64 := by rw [at_cons_zero, nat_u8 (by omega)]
    have e1 : at_ [UInt8.ofNat (192 + r / 64), UInt8.ofNat (128 + r % 64)] 1 = 128 + r % 64 := by rw [at_cons_succ, at_cons_zero, nat_u8 (by omega)]
    have g1 : goes [UInt8.ofNat (192 + r / 64), UInt8.ofNat (128 + r % 64)] 1 := ⟨by simp, by omega, by omega⟩
    unfold rune
    have ev : (192 + r / 64 - 192) * 64 + (128 + r % 64 - 128) = r := by omega
    rw [if_pos g1, e0, e1, ev, if_neg (by simp), if_neg (by omega), if_neg (by omega), if_pos (by omega)]
  simp only [c2, if_false]
  by_cases c3 : r < 65536
  · simp only [c3, if_true]
    have e0 : at_ [UInt8.ofNat (224 + r / 4096), UInt8.ofNat (128 + r / 64 % 64), UInt8.ofNat (128 + r % 64)] 0 = 224 + r / 4096 := by rw [at_cons_zero, nat_u8 (by omega)]
    have e1 : at_ [UInt8.ofNat (224 + r / 4096), UInt8.ofNat (128 + r / 64 % 64), UInt8.ofNat (128 + r % 64)] 1 = 128 + r / 64 % 64 := by rw [at_cons_succ, at_cons_zero, nat_u8 (by omega)]
    have e2 : at_ [UInt8.ofNat (224 + r / 4096), UInt8.ofNat (128 + r / 64 % 64), UInt8.ofNat (128 + r % 64)] 2 = 128 + r % 64 := by rw [at_cons_succ, at_cons_succ, at_cons_zero, nat_u8 (by omega)]
    have ev : (224 + r / 4096 - 224) * 4096 + (128 + r / 64 % 64 - 128) * 64 + (128 + r % 64 - 128) = r := by omega
    have g1 : goes [UInt8.ofNat (224 + r / 4096), UInt8.ofNat (128 + r / 64 % 64), UInt8.ofNat (128 + r % 64)] 1 := ⟨by simp, by omega, by omega⟩
    have g2 : goes [UInt8.ofNat (224 + r / 4096), UInt8.ofNat (128 + r / 64 % 64), UInt8.ofNat (128 + r % 64)] 2 := ⟨by simp, by omega, by omega⟩
    unfold rune
    rw [e0, e1, e2, ev, if_neg (by simp), if_neg (by omega), if_neg (by omega), if_neg (by omega), if_pos (by omega), if_pos ⟨g1, g2, by omega, h2⟩]
  · simp only [c3, if_false]
    have e0 : at_ [UInt8.ofNat (240 + r / 262144), UInt8.ofNat (128 + r / 4096 % 64), UInt8.ofNat (128 + r / 64 % 64), UInt8.ofNat (128 + r % 64)] 0 = 240 + r / 262144 := by rw [at_cons_zero, nat_u8 (by omega)]
    have e1 : at_ [UInt8.ofNat (240 + r / 262144), UInt8.ofNat (128 + r / 4096 % 64), UInt8.ofNat (128 + r / 64 % 64), UInt8.ofNat (128 + r % 64)] 1 = 128 + r / 4096 % 64 := by rw [at_cons_succ, at_cons_zero, nat_u8 (by omega)]
    have e2 : at_ [UInt8.ofNat (240 + r / 262144), UInt8.ofNat (128 + r / 4096 % 64), UInt8.ofNat (128 + r / 64 % 64), UInt8.ofNat (128 + r % 64)] 2 = 128 + r / 64 % 64 := by rw [at_cons_succ, at_cons_succ, at_cons_zero, nat_u8 (by omega)]
    have e3 : at_ [UInt8.ofNat (240 + r / 262144), UInt8.ofNat (128 + r / 4096 % 64), UInt8.ofNat (128 + r / 64 % 64), UInt8.ofNat (128 + r % 64)] 3 = 128 + r % 64 := by rw [at_cons_succ, at_cons_succ, at_cons_succ, at_cons_zero, nat_u8 (by omega)]
    have ev : (240 + r / 262144 - 240) * 262144 + (128 + r / 4096 % 64 - 128) * 4096 + (128 + r / 64 % 64 - 128) * 64 + (128 + r % 64 - 128) = r := by omega
    have g1 : goes [UInt8.ofNat (240 + r / 262144), UInt8.ofNat (128 + r / 4096 % 64), UInt8.ofNat (128 + r / 64 % 64), UInt8.ofNat (128 + r % 64)] 1 := ⟨by simp, by omega, by omega⟩
    have g2 : goes [UInt8.ofNat (240 + r / 262144), UInt8.ofNat (128 + r / 4096 % 64), UInt8.ofNat (128 + r / 64 % 64), UInt8.ofNat (128 + r % 64)] 2 := ⟨by simp, by omega, by omega⟩
    have g3 : goes [UInt8.ofNat (240 + r / 262144), UInt8.ofNat (128 + r / 4096 % 64), UInt8.ofNat (128 + r / 64 % 64), UInt8.ofNat (128 + r % 64)] 3 := ⟨by simp, by omega, by omega⟩
    unfold rune
    rw [e0, e1, e2, e3, ev, if_neg (by simp), if_neg (by omega), if_neg (by omega), if_neg (by omega), if_neg (by omega), if_pos ⟨g1, g2, g3, by omega, h1⟩]

theorem put_pos (r : Nat) : 0 < (put r).length := by
  rw [put_length]; repeat' split
  all_goals omega

theorem firstFrom_more (n m a : Nat) (l : List UInt8) (h : l.length < a + n) (hm : n ≤ m) : firstFrom m a l = firstFrom n a l := by
  induction n generalizing m a with
  | zero =>
    cases m with
    | zero => rfl
    | succ m => simp only [firstFrom]; rw [if_pos (by omega)]
  | succ n ih =>
    cases m with
    | zero => omega
    | succ m =>
      simp only [firstFrom]
      split
      · rfl
      · split
        · rfl
        · exact ih m _ (by omega) (by omega)

theorem first_eq (n : Nat) (l : List UInt8) (h : l.length < n) : firstFrom n 0 l = first l :=
  firstFrom_more _ _ _ _ (by omega) (by omega)

/-- Behind a text of whole runes the first place is the rest's. -/
theorem firstFrom_append (n a : Nat) (s t : List UInt8) (hn : s.length < a + n) (ha : a ≤ s.length) (h : firstFrom n a s = -1) (m : Nat) (hm : s.length + t.length < a + m) :
    firstFrom m a (s ++ t) = firstFrom (t.length + 1) s.length (s ++ t) := by
  induction n generalizing a m with
  | zero => omega
  | succ n ih =>
    simp only [firstFrom] at h
    by_cases c : s.length ≤ a
    · obtain rfl : a = s.length := by omega
      exact firstFrom_more _ _ _ _ (by simp) (by omega)
    · rw [if_neg c] at h
      split at h
      · omega
      · rename_i h0
        have hle := rune_le (s.drop a)
        rw [List.length_drop] at hle
        cases m with
        | zero => omega
        | succ m =>
          conv => lhs; unfold firstFrom
          have hd : (s ++ t).drop a = s.drop a ++ t := by rw [List.drop_append_of_le_length (by omega)]
          rw [if_neg (by simp only [List.length_append]; omega), hd, rune_append t h0, if_neg h0]
          exact ih _ (by omega) (by omega) h m (by omega)

/-- The same, told of the rest alone. -/
theorem firstFrom_succ (n a : Nat) (l : List UInt8) :
    firstFrom (n + 1) a l = if l.length ≤ a then -1 else if (rune (l.drop a)).2 = 0 then (a : Int) else firstFrom n (a + (rune (l.drop a)).2) l := rfl

theorem firstFrom_shift (n : Nat) (s t : List UInt8) (b : Nat) (v : Int) (hv : firstFrom n b t = v) :
    firstFrom n (s.length + b) (s ++ t) = if v = -1 then -1 else v + s.length := by
  induction n generalizing b with
  | zero => subst hv; rfl
  | succ n ih =>
    rw [firstFrom_succ] at hv ⊢
    have hd : (s ++ t).drop (s.length + b) = t.drop b := by rw [List.drop_append]; simp
    rw [hd]
    by_cases c : t.length ≤ b
    · rw [if_pos c] at hv
      rw [if_pos (by simp only [List.length_append]; omega), ← hv]; rfl
    · rw [if_neg c] at hv
      rw [if_neg (by simp only [List.length_append]; omega)]
      split at hv
      · rename_i h0
        rw [if_pos h0, if_neg (by omega)]; omega
      · rename_i h0
        rw [if_neg h0, show s.length + b + (rune (t.drop b)).2 = s.length + (b + (rune (t.drop b)).2) by omega]
        exact ih _ hv

theorem first_append {s t : List UInt8} (h : first s = -1) : first (s ++ t) = if first t = -1 then -1 else first t + s.length := by
  have h1 := firstFrom_append (s.length + 1) 0 s t (by omega) (by omega) h ((s ++ t).length + 1) (by simp only [List.length_append]; omega)
  have h2 := firstFrom_shift (t.length + 1) s t 0 _ rfl
  unfold first
  rw [h1]
  exact h2

theorem first_put {r : Nat} (h : may r) : first (put r) = -1 := by
  have hp := put_pos r
  have hr := rune_put h
  unfold first
  conv => lhs; unfold firstFrom
  rw [if_neg (by omega), List.drop_zero, hr, if_neg (by show ¬ (put r).length = 0; omega)]
  cases hl : (put r).length with
  | zero => omega
  | succ k => simp only [firstFrom, Nat.zero_add]; rw [hl, if_pos (Nat.le_refl _)]

theorem first_ge (n a : Nat) (l : List UInt8) : -1 ≤ firstFrom n a l := by
  induction n generalizing a with
  | zero => simp [firstFrom]
  | succ n ih =>
    simp only [firstFrom]
    split
    · omega
    · split
      · omega
      · exact ih _

theorem first_bad {l : List UInt8} (hl : l ≠ []) (h : (rune l).2 = 0) : first l = 0 := by
  unfold first firstFrom
  have : 0 < l.length := List.length_pos_iff.2 hl
  rw [if_neg (by omega), List.drop_zero, if_pos h]; rfl

end Go.Proofs.Ytkkpcdpoldjmkaa.UtfMath
