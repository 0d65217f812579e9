/-
  THE WALK of UtfBack.
-/
import Derived.Test.YtkkpcdpoldjmkaaUtfLaws
namespace Go.Proofs.Ytkkpcdpoldjmkaa.Utf
open Go.RowKit UtfMath

theorem pre_append (s S : ByteArray) (l : List UInt8) (hS : S = str l) : (s ++ S).data.toList = s.data.toList ++ l := by
  subst hS; rw [append_toList, str_toList]
theorem runeAt_at (p l : List UInt8) (hl : 0 < l.length) : runeAt (p ++ l) (p.length : Nat) = rune l := by
  rw [runeAt_in (by rw [List.length_append]; omega), List.drop_left]

set_option maxRecDepth 100000 in
set_option maxHeartbeats 8000000 in
theorem utfBack_any (r : Int) (s : ByteArray) (w : World) (_hr : (Lit.int .i64 r).wf = true) (hs : s.size ≤ 140737488351232) :
    Calls Try.prog 23 #[.int .i64 r, .string s] w fun e w' => e = .returned (.bool true) ∧ Below w.heap.size w w' := by
  have hp := fun w => put_any r w
  unfold putS putE at hp
  by_cases hmy : mayI r = true
  · have hmn : may r.toNat ∧ (r.toNat : Int) = r := by
      unfold mayI at hmy; have := of_decide_eq_true hmy; unfold may; omega
    obtain ⟨hmn, hrn⟩ := hmn
    have hp1 := fun w => hp w
    simp only [hmy, if_true] at hp1
    have hl4 : (put r.toNat).length ≤ 4 := by have := size_bounds r.toNat; rw [put_size]; exact this.2
    have hl1 := put_pos r.toNat
    have hrp := rune_put hmn
    have hfp := first_put hmn
    have hz : (str (put r.toNat)).size = (put r.toNat).length := str_size _
    have hm1 : (str (put r.toNat)).size ≤ maxReach := by unfold maxReach; omega
    have hm2 : (s ++ str (put r.toNat)).size ≤ maxReach := by rw [ByteArray.size_append]; unfold maxReach; omega
    have hl : s.data.toList.length = s.size := by simp
    have h1 := fun w => rune_any (str (put r.toNat)) 0 w hm1
    have e1 : runeAt (str (put r.toNat)).data.toList 0 = (r.toNat, (put r.toNat).length) := by
      rw [str_toList]
      have := runeAt_in (l := put r.toNat) (a := 0) hl1
      rw [show ((0 : Nat) : Int) = 0 from rfl] at this
      rw [this, List.drop_zero, hrp]
    simp only [e1] at h1
    have h2 := fun w => rune_any (s ++ str (put r.toNat)) (s.size : Nat) w hm2
    have e2 : runeAt (s ++ str (put r.toNat)).data.toList (s.size : Nat) = (r.toNat, (put r.toNat).length) := by
      rw [pre_append _ _ _ rfl, ← hl, runeAt_at _ _ hl1, hrp]
    simp only [e2] at h2
    have h3 := fun w => first_any s w (by unfold maxReach; omega)
    have h4 := fun w => first_any (s ++ str (put r.toNat)) w hm2
    have hv : valid (str (put r.toNat)).data.toList = true := by rw [str_toList]; unfold valid; rw [hfp]; rfl
    have h5 := fun w => valid_any (str (put r.toNat)) w hm1
    simp only [hv] at h5
    have hG : first (s ++ str (put r.toNat)).data.toList = first s.data.toList ∨ 0 ≤ first s.data.toList := by
      rw [pre_append _ _ _ rfl]
      have hge := first_ge (s.data.toList.length + 1) 0 s.data.toList
      by_cases h : first s.data.toList = -1
      · left; rw [first_append h, hfp, if_pos rfl, h]
      · right; have : -1 ≤ first s.data.toList := hge; omega
    rw [hrn] at h1 h2
    have HPU := Lib.hid hp1
    have HR1 := Lib.hid h1
    have HR2 := Lib.hid h2
    have HF1 := Lib.hid h3
    have HF2 := Lib.hid h4
    have HV := Lib.hid h5
    clear hp hp1 h1 h2 h3 h4 h5 hv e1 e2 hl hm1 hm2 hfp hrp hmn hrn hmy
    generalize first (s ++ str (put r.toNat)).data.toList = G at *
    generalize first s.data.toList = F at *
    generalize str (put r.toNat) = T at *
    generalize (put r.toNat).length = m at *
    by_cases hGF : G = F
    · subst hGF
      clear hG
      go_enter Try.func23, Try.ntmps23
      go_wp2_with (first
        | (go_at_call 108; with_reducible refine (awake_any _).mono ?_; rintro e w1 ⟨rfl, hb1⟩)
        | (go_at_call 102; with_reducible refine (HPU.out _).mono ?_; rintro e w2 ⟨rfl, hb2⟩)
        | (go_at_call 100; with_reducible refine (HR1.out _).mono ?_; rintro e w3 ⟨rfl, hb3⟩)
        | (go_at_call 100; with_reducible refine (HR2.out _).mono ?_; rintro e w4 ⟨rfl, hb4⟩)
        | (go_at_call 104; with_reducible refine (HF1.out _).mono ?_; rintro e w5 ⟨rfl, hb5⟩)
        | (go_at_call 106; with_reducible refine (HV.out _).mono ?_; rintro e w6 ⟨rfl, hb6⟩)
        | (go_at_call 104; with_reducible refine (HF2.out _).mono ?_; rintro e w7 ⟨rfl, hb7⟩)
        | (go_at_call 56; with_reducible refine (boathouseNames.num_any _ _).mono ?_; rintro e w' ⟨rfl, rfl⟩))
      go_ret
      exact ⟨rfl, bthen (bthen (bthen (bthen (bthen (bthen hb1 hb2 (Nat.le_refl _)) hb3 (Nat.le_refl _)) hb4 (Nat.le_refl _)) hb5 (Nat.le_refl _)) hb6 (Nat.le_refl _)) hb7 (Nat.le_refl _)⟩
    · have hF : 0 ≤ F := hG.resolve_left hGF
      have hne : (G == F) = false := beq_eq_false_iff_ne.2 hGF
      clear hG hGF
      go_enter Try.func23, Try.ntmps23
      go_wp2_with (first
        | (go_at_call 108; with_reducible refine (awake_any _).mono ?_; rintro e w1 ⟨rfl, hb1⟩)
        | (go_at_call 102; with_reducible refine (HPU.out _).mono ?_; rintro e w2 ⟨rfl, hb2⟩)
        | (go_at_call 100; with_reducible refine (HR1.out _).mono ?_; rintro e w3 ⟨rfl, hb3⟩)
        | (go_at_call 100; with_reducible refine (HR2.out _).mono ?_; rintro e w4 ⟨rfl, hb4⟩)
        | (go_at_call 104; with_reducible refine (HF1.out _).mono ?_; rintro e w5 ⟨rfl, hb5⟩)
        | (go_at_call 106; with_reducible refine (HV.out _).mono ?_; rintro e w6 ⟨rfl, hb6⟩)
        | (go_at_call 104; with_reducible refine (HF2.out _).mono ?_; rintro e w7 ⟨rfl, hb7⟩)
        | (go_at_call 56; with_reducible refine (boathouseNames.num_any _ _).mono ?_; rintro e w' ⟨rfl, rfl⟩))
      go_ret
      exact ⟨rfl, bthen (bthen (bthen (bthen (bthen (bthen hb1 hb2 (Nat.le_refl _)) hb3 (Nat.le_refl _)) hb4 (Nat.le_refl _)) hb5 (Nat.le_refl _)) hb6 (Nat.le_refl _)) hb7 (Nat.le_refl _)⟩
  · have hmf : mayI r = false := by simpa using hmy
    have hp1 := fun w => hp w
    simp only [hmf, Bool.false_eq_true, if_false] at hp1
    have hn : ¬ (0 ≤ r ∧ r ≤ 1114111 ∧ (r < 55296 ∨ 57343 < r)) := by
      unfold mayI at hmf; exact of_decide_eq_false hmf
    have HPU : Hid (∀ w : World, Calls Try.prog 102 #[.int .i64 r] w fun e w' => e = .returned (.tuple #[.string { data := #[] }, .int .i64 200]) ∧ Below w.heap.size w w') := Lib.hid hp1
    clear hp hp1 hmf hmy
    by_cases h0 : r < 0
    · clear hn
      go_enter Try.func23, Try.ntmps23
      go_wp2_with (first
        | (go_at_call 108; with_reducible refine (awake_any _).mono ?_; rintro e w1 ⟨rfl, hb1⟩)
        | (go_at_call 102; with_reducible refine (HPU.out _).mono ?_; rintro e w2 ⟨rfl, hb2⟩)
        | (go_at_call 56; with_reducible refine (boathouseNames.num_any _ _).mono ?_; rintro e w' ⟨rfl, rfl⟩))
      go_ret
      exact ⟨rfl, bthen hb1 hb2 (Nat.le_refl _)⟩
    by_cases h1 : 1114111 < r
    · clear hn
      go_enter Try.func23, Try.ntmps23
      go_wp2_with (first
        | (go_at_call 108; with_reducible refine (awake_any _).mono ?_; rintro e w1 ⟨rfl, hb1⟩)
        | (go_at_call 102; with_reducible refine (HPU.out _).mono ?_; rintro e w2 ⟨rfl, hb2⟩)
        | (go_at_call 56; with_reducible refine (boathouseNames.num_any _ _).mono ?_; rintro e w' ⟨rfl, rfl⟩))
      go_ret
      exact ⟨rfl, bthen hb1 hb2 (Nat.le_refl _)⟩
    have h2 : 55296 ≤ r := by omega
    have h3 : r ≤ 57343 := by omega
    clear hn
    go_enter Try.func23, Try.ntmps23
    go_wp2_with (first
      | (go_at_call 108; with_reducible refine (awake_any _).mono ?_; rintro e w1 ⟨rfl, hb1⟩)
      | (go_at_call 102; with_reducible refine (HPU.out _).mono ?_; rintro e w2 ⟨rfl, hb2⟩)
      | (go_at_call 56; with_reducible refine (boathouseNames.num_any _ _).mono ?_; rintro e w' ⟨rfl, rfl⟩))
    go_ret
    exact ⟨rfl, bthen hb1 hb2 (Nat.le_refl _)⟩
end Go.Proofs.Ytkkpcdpoldjmkaa.Utf
