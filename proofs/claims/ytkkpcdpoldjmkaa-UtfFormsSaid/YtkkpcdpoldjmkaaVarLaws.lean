/-
  THE WALKS of chapter 5's laws: Varints, VarintBack, VarintSizes, VarintRow.
-/
import Derived.Test.YtkkpcdpoldjmkaaVarRef
import Derived.Test.YtkkpcdpoldjmkaaNamesWalks
import Derived.Test.YtkkpcdpoldjmkaaCrcLaws
namespace Go.Proofs.Ytkkpcdpoldjmkaa.Varint
open Go.RowKit VarMath Sl Go.ChangeShapes Go.WideShapes

set_option maxRecDepth 100000 in
set_option maxHeartbeats 1000000 in
theorem Unvarint_any (s : ByteArray) (at_ : Int) (w : World) (hs : s.size ≤ maxReach) (h1 : -9223372036854775808 ≤ at_) (h2 : at_ < 9223372036854775808) :
    Calls Try.prog 94 #[.string s, .int .i64 at_] w fun e w' => e = .returned (.tuple #[.int .i64 (gNum 63 s.data.toList at_ : Nat), .int .i64 (gEnd 63 s.data.toList at_), .int .i64 (gCode 63 s.data.toList at_)]) ∧ w = w' := by
  have H := fun w => refGet_any s at_ 63 w hs h1 h2 9223372036854775807 (by omega) (by decide)
  have hx := gNum_63 s.data.toList at_
  generalize gNum 63 s.data.toList at_ = x at H hx ⊢
  generalize gEnd 63 s.data.toList at_ = n at H ⊢
  generalize gCode 63 s.data.toList at_ = c at H ⊢
  have HH := Lib.hid H; clear H
  clear hs h1 h2
  go_enter Try.func94, Try.ntmps94
  go_wp2_with (go_at_call 151; with_reducible refine (HH.out _).mono ?_; rintro e w1 ⟨rfl, rfl⟩)
  go_ret3
  exact ⟨rfl, rfl⟩
set_option maxRecDepth 100000 in
set_option maxHeartbeats 1000000 in
theorem refZag_any (s : ByteArray) (at_ : Int) (w : World) (hs : s.size ≤ maxReach) (h1 : -9223372036854775808 ≤ at_) (h2 : at_ < 9223372036854775808) :
    Calls Try.prog 96 #[.string s, .int .i64 at_] w fun e w' => e = .returned (.tuple #[.int .i64 (zag (gNum 64 s.data.toList at_)), .int .i64 (gEnd 64 s.data.toList at_), .int .i64 (gCode 64 s.data.toList at_)]) ∧ w = w' := by
  have H := fun w => refGet_any s at_ 64 w hs h1 h2 18446744073709551615 (by omega) (by decide)
  have hx := gNum_64 s.data.toList at_
  generalize gNum 64 s.data.toList at_ = x at H hx ⊢
  generalize gEnd 64 s.data.toList at_ = n at H ⊢
  generalize gCode 64 s.data.toList at_ = c at H ⊢
  have HH := Lib.hid H; clear H
  clear hs h1 h2
  have hz : zag x = if x % 2 = 1 then -((x : Int) / 2) - 1 else (x : Int) / 2 := by unfold zag; split <;> omega
  by_cases hq : x % 2 = 1
  · rw [if_pos hq] at hz
    rw [hz]
    have hq2 : (x : Int) % 2 = 1 := by omega
    clear hz hq
    go_enter Try.func96, Try.ntmps96
    go_wp2_with (go_at_call 151; with_reducible refine (HH.out _).mono ?_; rintro e w1 ⟨rfl, rfl⟩)
    go_ret3
    exact ⟨rfl, rfl⟩
  · rw [if_neg hq] at hz
    rw [hz]
    have hq2 : (x : Int) % 2 = 0 := by omega
    clear hz hq
    go_enter Try.func96, Try.ntmps96
    go_wp2_with (go_at_call 151; with_reducible refine (HH.out _).mono ?_; rintro e w1 ⟨rfl, rfl⟩)
    go_ret3
    exact ⟨rfl, rfl⟩

/-- What Put answers to a number from 0 on. -/
theorem Put_of (x : Nat) (z : Int) (w : World) (hz : z = (x : Nat)) (hx : x < 9223372036854775808) : Calls Try.prog 91 #[.int .i64 z] w fun e w' => e = .returned (.tuple #[.string (str (enc x)), .int .i64 0]) ∧ Below w.heap.size w w' := by
  subst hz
  refine (Put_any (x : Nat) w (by omega)).mono fun e w' ⟨he, hb⟩ => ⟨?_, hb⟩
  rw [he, if_neg (by omega), if_neg (by omega), Int.toNat_natCast]

theorem p300 (w : World) : Calls Try.prog 91 #[.int .i64 300] w fun e w' => e = .returned (.tuple #[.string { data := #[172, 2] }, .int .i64 0]) ∧ Below w.heap.size w w' := by
  have h : str (enc 300) = { data := #[172, 2] } := by kernel_rfl
  have := Put_of 300 300 w rfl (by omega)
  rw [h] at this; exact this
theorem pneg (w : World) : Calls Try.prog 91 #[.int .i64 (-1)] w fun e w' => e = .returned (.tuple #[.string { data := #[] }, .int .i64 501]) ∧ Below w.heap.size w w' := Put_any (-1) w (by omega)
theorem g300 (w : World) : Calls Try.prog 93 #[.string { data := #[172, 2] }, .int .i64 0] w fun e w' => e = .returned (.tuple #[.int .i64 300, .int .i64 2, .int .i64 0]) ∧ w = w' := by
  have := Get_any { data := #[172, 2] } 0 w (by decide) (by omega) (by omega)
  have h1 : gNum 63 ({ data := #[172, 2] } : ByteArray).data.toList 0 = 300 := by kernel_rfl
  have h2 : gEnd 63 ({ data := #[172, 2] } : ByteArray).data.toList 0 = 2 := by kernel_rfl
  have h3 : gCode 63 ({ data := #[172, 2] } : ByteArray).data.toList 0 = 0 := by kernel_rfl
  rw [h1, h2, h3] at this; exact this
theorem z3 (w : World) : Calls Try.prog 97 #[.int .i64 (-3)] w fun e w' => e = .returned (.string { data := #[5] }) ∧ Below w.heap.size w w' := by
  have h : str (enc (zig (-3))) = { data := #[5] } := by kernel_rfl
  have := Zig_any (-3) w (by omega) (by omega)
  rw [h] at this; exact this
theorem zg3 (w : World) : Calls Try.prog 95 #[.string { data := #[5] }, .int .i64 0] w fun e w' => e = .returned (.tuple #[.int .i64 (-3), .int .i64 1, .int .i64 0]) ∧ w = w' := by
  have := Zag_any { data := #[5] } 0 w (by decide) (by omega) (by omega)
  have h1 : zag (gNum 64 ({ data := #[5] } : ByteArray).data.toList 0) = -3 := by kernel_rfl
  have h2 : gEnd 64 ({ data := #[5] } : ByteArray).data.toList 0 = 1 := by kernel_rfl
  have h3 : gCode 64 ({ data := #[5] } : ByteArray).data.toList 0 = 0 := by kernel_rfl
  rw [h1, h2, h3] at this; exact this

set_option maxRecDepth 100000 in
set_option maxHeartbeats 1000000 in
theorem awake_any (w : World) : Calls Try.prog 99 #[] w fun e w' => e = .returned (.bool true) ∧ Below w.heap.size w w' := by
  go_enter Try.func99, Try.ntmps99
  go_wp2_with (first
    | (go_at_call_of 91 (Value.int .i64 300); with_reducible refine (p300 _).mono ?_; rintro e w1 ⟨rfl, hb1⟩)
    | (go_at_call 93; with_reducible refine (g300 _).mono ?_; rintro e w' ⟨rfl, rfl⟩)
    | (go_at_call 91; with_reducible refine (pneg _).mono ?_; rintro e w2 ⟨rfl, hb2⟩)
    | (go_at_call 97; with_reducible refine (z3 _).mono ?_; rintro e w3 ⟨rfl, hb3⟩)
    | (go_at_call 95; with_reducible refine (zg3 _).mono ?_; rintro e w' ⟨rfl, rfl⟩)
    | (go_at_call 56; with_reducible refine (boathouseNames.num_any _ _).mono ?_; rintro e w' ⟨rfl, rfl⟩))
  go_ret
  exact ⟨rfl, bthen (bthen hb1 hb2 (Nat.le_refl _)) hb3 (Nat.le_refl _)⟩

theorem code_zero {bits : Nat} {l : List UInt8} {a : Int} (h : gCode bits l a ≠ 0) : gNum bits l a = 0 ∧ gEnd bits l a = 0 := by
  unfold gNum gEnd gCode at *
  by_cases h0 : a < 0 ∨ (l.length : Int) < a
  · rw [if_pos h0, if_pos h0]; exact ⟨rfl, rfl⟩
  · rw [if_neg h0] at h ⊢
    rw [if_neg h0]
    by_cases h1 : (VarMath.get bits (l.drop a.toNat)).2.2 = 0
    · rw [if_pos h1] at h; exact absurd rfl h
    · rw [if_neg h1]
      refine ⟨?_, rfl⟩
      unfold VarMath.get at h1 ⊢
      split
      · rfl
      · rename_i h2
        rw [if_neg h2] at h1
        split
        · rfl
        · rename_i h3; rw [if_neg h3] at h1; exact absurd rfl h1

set_option maxRecDepth 100000 in
set_option maxHeartbeats 8000000 in
theorem varints_any (x : Int) (s : ByteArray) (at_ : Int) (w : World) (hx : (Lit.int .i64 x).wf = true) (hs : s.size ≤ 140737488351232) (hat : (Lit.int .i64 at_).wf = true) :
    Calls Try.prog 18 #[.int .i64 x, .string s, .int .i64 at_] w fun e w' => e = .returned (.bool true) ∧ Below w.heap.size w w' := by
  have hr : s.size ≤ maxReach := by unfold maxReach; omega
  have b1 := bounds_i64 hx
  have b2 := bounds_i64 hat
  have HP := Lib.hid (fun w => Put_any x w (by omega))
  have HG := Lib.hid (fun w => Get_any s at_ w hr (by omega) (by omega))
  have HU := Lib.hid (fun w => Unvarint_any s at_ w hr (by omega) (by omega))
  have HZ := Lib.hid (fun w => Zag_any s at_ w hr (by omega) (by omega))
  have HR := Lib.hid (fun w => refZag_any s at_ w hr (by omega) (by omega))
  have HI := Lib.hid (fun w => Zig_any x w (by omega) (by omega))
  have HJ := Lib.hid (fun w => refZig_any x w (by omega) (by omega))
  have hc1 := fun h => code_zero (bits := 63) (l := s.data.toList) (a := at_) h
  have hc2 := fun h => code_zero (bits := 64) (l := s.data.toList) (a := at_) h
  have hzg0 : zag 0 = 0 := rfl
  generalize gNum 63 s.data.toList at_ = x1 at *
  generalize gEnd 63 s.data.toList at_ = n1 at *
  generalize gCode 63 s.data.toList at_ = k1 at *
  generalize gNum 64 s.data.toList at_ = x2 at *
  generalize gEnd 64 s.data.toList at_ = n2 at *
  generalize gCode 64 s.data.toList at_ = k2 at *
  generalize str (enc (zig x)) = Z at *
  have HW : 0 ≤ x → ∀ w, Calls Try.prog 92 #[.int .i64 x] w fun e w' => e = .returned (.string (str (enc x.toNat))) ∧ Below w.heap.size w w' := fun h0 w => by
    have := Varint_any x.toNat w (by omega)
    rw [show ((x.toNat : Nat) : Int) = x by omega] at this; exact this
  have HHW := Lib.hid HW; clear HW
  clear hx hat hr hs b2 b1
  have hz2 : k2 ≠ 0 → zag x2 = 0 ∧ n2 = 0 := fun h => by obtain ⟨h1, h2⟩ := hc2 h; rw [h1]; exact ⟨rfl, h2⟩
  generalize zag x2 = y2 at *
  have HZ1 := Lib.hid hc1
  have HZ2 := Lib.hid hz2
  clear hc1 hc2 hz2 hzg0
  have hk1 : k1 = 0 ∨ (k1 != 0) = true := by by_cases h : k1 = 0; exact .inl h; exact .inr (by rw [bne_iff_ne]; exact h)
  have hk2 : k2 = 0 ∨ (k2 != 0) = true := by by_cases h : k2 = 0; exact .inl h; exact .inr (by rw [bne_iff_ne]; exact h)
  have hx0 : x < 0 ∨ 0 ≤ x := by omega
  rcases hx0 with hx0 | hx0
  · have HPP := HP.out
    rw [if_pos hx0, if_pos hx0] at HPP
    have HQ := Lib.hid HPP; clear HPP HP
    rcases hk1 with rfl | hk1
    all_goals rcases hk2 with rfl | hk2
    all_goals
      (try (have hk1' := HZ1.out (by rw [bne_iff_ne] at hk1; exact hk1); obtain ⟨rfl, rfl⟩ := hk1'))
      (try (have hk2' := HZ2.out (by rw [bne_iff_ne] at hk2; exact hk2); obtain ⟨rfl, rfl⟩ := hk2'))
      go_enter Try.func18, Try.ntmps18
      go_wp2_with (first
        | (go_at_call 91; with_reducible refine (HQ.out _).mono ?_; rintro e w1 ⟨rfl, hb1⟩)
        | (go_at_call 92; with_reducible refine (HX.out _).mono ?_; rintro e w4 ⟨rfl, hb4⟩)
        | (go_at_call 93; with_reducible refine (HG.out _).mono ?_; rintro e w' ⟨rfl, rfl⟩)
        | (go_at_call 94; with_reducible refine (HU.out _).mono ?_; rintro e w' ⟨rfl, rfl⟩)
        | (go_at_call 95; with_reducible refine (HZ.out _).mono ?_; rintro e w' ⟨rfl, rfl⟩)
        | (go_at_call 96; with_reducible refine (HR.out _).mono ?_; rintro e w' ⟨rfl, rfl⟩)
        | (go_at_call 97; with_reducible refine (HI.out _).mono ?_; rintro e w2 ⟨rfl, hb2⟩)
        | (go_at_call 98; with_reducible refine (HJ.out _).mono ?_; rintro e w3 ⟨rfl, hb3⟩)
        | (go_at_call 99; with_reducible refine (awake_any _).mono ?_; rintro e w5 ⟨rfl, hb5⟩)
        | (go_at_call 56; with_reducible refine (boathouseNames.num_any _ _).mono ?_; rintro e w' ⟨rfl, rfl⟩))
      go_ret
      exact ⟨rfl, bthen (bthen (bthen hb1 hb2 (Nat.le_refl _)) hb3 (Nat.le_refl _)) hb5 (Nat.le_refl _)⟩
  · have HPP := HP.out
    rw [if_neg (by omega), if_neg (by omega)] at HPP
    generalize str (enc x.toNat) = S at HPP HHW
    have HQ := Lib.hid HPP; clear HPP HP
    have HX := Lib.hid (HHW.out hx0); clear HHW
    rcases hk1 with rfl | hk1
    all_goals rcases hk2 with rfl | hk2
    all_goals
      (try (have hk1' := HZ1.out (by rw [bne_iff_ne] at hk1; exact hk1); obtain ⟨rfl, rfl⟩ := hk1'))
      (try (have hk2' := HZ2.out (by rw [bne_iff_ne] at hk2; exact hk2); obtain ⟨rfl, rfl⟩ := hk2'))
      go_enter Try.func18, Try.ntmps18
      go_wp2_with (first
        | (go_at_call 91; with_reducible refine (HQ.out _).mono ?_; rintro e w1 ⟨rfl, hb1⟩)
        | (go_at_call 92; with_reducible refine (HX.out _).mono ?_; rintro e w4 ⟨rfl, hb4⟩)
        | (go_at_call 93; with_reducible refine (HG.out _).mono ?_; rintro e w' ⟨rfl, rfl⟩)
        | (go_at_call 94; with_reducible refine (HU.out _).mono ?_; rintro e w' ⟨rfl, rfl⟩)
        | (go_at_call 95; with_reducible refine (HZ.out _).mono ?_; rintro e w' ⟨rfl, rfl⟩)
        | (go_at_call 96; with_reducible refine (HR.out _).mono ?_; rintro e w' ⟨rfl, rfl⟩)
        | (go_at_call 97; with_reducible refine (HI.out _).mono ?_; rintro e w2 ⟨rfl, hb2⟩)
        | (go_at_call 98; with_reducible refine (HJ.out _).mono ?_; rintro e w3 ⟨rfl, hb3⟩)
        | (go_at_call 99; with_reducible refine (awake_any _).mono ?_; rintro e w5 ⟨rfl, hb5⟩)
        | (go_at_call 56; with_reducible refine (boathouseNames.num_any _ _).mono ?_; rintro e w' ⟨rfl, rfl⟩))
      go_ret
      exact ⟨rfl, bthen (bthen (bthen (bthen hb1 hb4 (Nat.le_refl _)) hb2 (Nat.le_refl _)) hb3 (Nat.le_refl _)) hb5 (Nat.le_refl _)⟩
end Go.Proofs.Ytkkpcdpoldjmkaa.Varint
