/-
  THE WALKS of chapter 2's laws: awake, Utfs.
-/
import Derived.Test.YtkkpcdpoldjmkaaUtfRef2
import Derived.Test.YtkkpcdpoldjmkaaVarLaws3
namespace Go.Proofs.Ytkkpcdpoldjmkaa.Utf
open Go.RowKit UtfMath

theorem a_euro (w : World) : Calls Try.prog 100 #[.string { data := #[226, 130, 172] }, .int .i64 0] w fun e w' => e = .returned (.tuple #[.int .i64 8364, .int .i64 3]) ∧ Below w.heap.size w w' := by
  have h : runeAt ({ data := #[226, 130, 172] } : ByteArray).data.toList 0 = (8364, 3) := by decide
  have := rune_any { data := #[226, 130, 172] } 0 w (by decide)
  rw [h] at this; exact this
theorem a_233 (w : World) : Calls Try.prog 102 #[.int .i64 233] w fun e w' => e = .returned (.tuple #[.string { data := #[195, 169] }, .int .i64 0]) ∧ Below w.heap.size w w' := by
  have h : putS 233 = [195, 169] := by decide
  have h2 : putE 233 = 0 := by decide
  have := put_any 233 w
  rw [h, h2] at this; exact this
theorem a_half (w : World) : Calls Try.prog 102 #[.int .i64 55296] w fun e w' => e = .returned (.tuple #[.string { data := #[] }, .int .i64 200]) ∧ Below w.heap.size w w' := by
  have h : putS 55296 = [] := by decide
  have h2 : putE 55296 = 200 := by decide
  have := put_any 55296 w
  rw [h, h2] at this; exact this
theorem a_a (w : World) : Calls Try.prog 106 #[.string { data := #[97] }] w fun e w' => e = .returned (.bool true) ∧ Below w.heap.size w w' := by
  have h : valid ({ data := #[97] } : ByteArray).data.toList = true := by decide
  have := valid_any { data := #[97] } w (by decide)
  rw [h] at this; exact this
theorem a_ff (w : World) : Calls Try.prog 106 #[.string { data := #[255] }] w fun e w' => e = .returned (.bool false) ∧ Below w.heap.size w w' := by
  have h : valid ({ data := #[255] } : ByteArray).data.toList = false := by decide
  have := valid_any { data := #[255] } w (by decide)
  rw [h] at this; exact this
theorem a_ab (w : World) : Calls Try.prog 104 #[.string { data := #[97, 98, 255] }] w fun e w' => e = .returned (.int .i64 2) ∧ Below w.heap.size w w' := by
  have h : first ({ data := #[97, 98, 255] } : ByteArray).data.toList = 2 := by decide
  have := first_any { data := #[97, 98, 255] } w (by decide)
  rw [h] at this; exact this
theorem a_none (w : World) : Calls Try.prog 106 #[.string { data := #[] }] w fun e w' => e = .returned (.bool true) ∧ Below w.heap.size w w' := by
  have h : valid ({ data := #[] } : ByteArray).data.toList = true := by decide
  have := valid_any { data := #[] } w (by decide)
  rw [h] at this; exact this

set_option maxRecDepth 100000 in
set_option maxHeartbeats 4000000 in
theorem awake_any (w : World) : Calls Try.prog 108 #[] w fun e w' => e = .returned (.bool true) ∧ Below w.heap.size w w' := by
  go_enter Try.func108, Try.ntmps108
  go_wp2_with (first
    | (go_at_call 100; with_reducible refine (a_euro _).mono ?_; rintro e w1 ⟨rfl, hb1⟩)
    | (go_at_call 102; with_reducible refine (a_233 _).mono ?_; rintro e w2 ⟨rfl, hb2⟩)
    | (go_at_call 102; with_reducible refine (a_half _).mono ?_; rintro e w3 ⟨rfl, hb3⟩)
    | (go_at_call 106; with_reducible refine (a_a _).mono ?_; rintro e w4 ⟨rfl, hb4⟩)
    | (go_at_call 106; with_reducible refine (a_ff _).mono ?_; rintro e w5 ⟨rfl, hb5⟩)
    | (go_at_call 104; with_reducible refine (a_ab _).mono ?_; rintro e w6 ⟨rfl, hb6⟩)
    | (go_at_call 56; with_reducible refine (boathouseNames.num_any _ _).mono ?_; rintro e w' ⟨rfl, rfl⟩))
  go_ret
  exact ⟨rfl, bthen (bthen (bthen (bthen (bthen hb1 hb2 (Nat.le_refl _)) hb3 (Nat.le_refl _)) hb4 (Nat.le_refl _)) hb5 (Nat.le_refl _)) hb6 (Nat.le_refl _)⟩

set_option maxRecDepth 100000 in
set_option maxHeartbeats 8000000 in
theorem utfs_any (s : ByteArray) (at_0 r : Int) (w : World) (hs : s.size ≤ 140737488351232) (_ha : (Lit.int .i64 at_0).wf = true) (_hr : (Lit.int .i64 r).wf = true) :
    Calls Try.prog 22 #[.string s, .int .i64 at_0, .int .i64 r] w fun e w' => e = .returned (.bool true) ∧ Below w.heap.size w w' := by
  have hm : s.size ≤ maxReach := by unfold maxReach; omega
  have HP := Lib.hid (fun (a : Int) w => rune_any s a w hm)
  have HQ := Lib.hid (fun (a : Int) w => refRune_any s a w hm)
  have HP2 := Lib.hid (fun w => HP.out at_0 w)
  have HQ2 := Lib.hid (fun w => HQ.out at_0 w)
  have HF := Lib.hid (fun w => first_any s w hm)
  have HFR := Lib.hid (fun w => refFirst_any s w hm)
  have HV := Lib.hid (fun w => valid_any s w hm)
  have HVR := Lib.hid (fun w => refValid_any s w hm)
  have HPU := Lib.hid (fun w => put_any r w)
  have HPR := Lib.hid (fun w => putRune_any r w)
  generalize ((runeAt s.data.toList at_0).1 : Nat) = p1 at HP2 HQ2
  generalize ((runeAt s.data.toList at_0).2 : Nat) = p2 at HP2 HQ2
  generalize first s.data.toList = F at HF HFR
  generalize valid s.data.toList = V at HV HVR
  generalize str (putS r) = T at HPU HPR
  generalize putE r = E at HPU HPR
  clear _ha _hr hm
  go_enter Try.func22, Try.ntmps22
  go_wp2
  go_loopw [7] (fun iv wr => ∃ i : Int, -1 ≤ i ∧ i ≤ 200 ∧ iv = .int .i64 i ∧ Below w.heap.size w wr) (fun iv _ => (201 - intOf iv).toNat)
  case atStart => exact ⟨-1, by omega, by omega, rfl, Below.refl _ _⟩
  case round =>
    obtain ⟨i, hi0, hi1, rfl, hb⟩ := hrel
    by_cases hl : i ≤ (s.size : Int)
    · by_cases h2 : i < 200
      · have hp := Lib.hid (fun w => HP.out i w)
        have hq := Lib.hid (fun w => HQ.out i w)
        generalize ((runeAt s.data.toList i).1 : Nat) = q1 at hp hq
        generalize ((runeAt s.data.toList i).2 : Nat) = q2 at hp hq
        go_wp2_with (first
          | (go_at_call 100; with_reducible refine (hp.out _).mono ?_; rintro e w1 ⟨rfl, hb1⟩)
          | (go_at_call 101; with_reducible refine (hq.out _).mono ?_; rintro e w' ⟨rfl, rfl⟩))
        go_roundw
        case rel => exact ⟨i + 1, by omega, by omega, by go_num, bthen hb hb1 (Nat.le_refl _)⟩
        case measure => simp [intOf]; omega
      ·
        go_wp2_with (first
          | (go_at_call 100; with_reducible refine (HP2.out _).mono ?_; rintro e w3 ⟨rfl, hb3⟩)
          | (go_at_call 101; with_reducible refine (HQ2.out _).mono ?_; rintro e w' ⟨rfl, rfl⟩)
          | (go_at_call 102; with_reducible refine (HPU.out _).mono ?_; rintro e w4 ⟨rfl, hb4⟩)
          | (go_at_call 103; with_reducible refine (HPR.out _).mono ?_; rintro e w5 ⟨rfl, hb5⟩)
          | (go_at_call 104; with_reducible refine (HF.out _).mono ?_; rintro e w6 ⟨rfl, hb6⟩)
          | (go_at_call 105; with_reducible refine (HFR.out _).mono ?_; rintro e w' ⟨rfl, rfl⟩)
          | (go_at_call 106; with_reducible refine (HV.out _).mono ?_; rintro e w7 ⟨rfl, hb7⟩)
          | (go_at_call 107; with_reducible refine (HVR.out _).mono ?_; rintro e w' ⟨rfl, rfl⟩)
          | (go_at_call 56; with_reducible refine (boathouseNames.num_any _ _).mono ?_; rintro e w' ⟨rfl, rfl⟩)
          | (go_at_call 108; with_reducible refine (awake_any _).mono ?_; rintro e w8 ⟨rfl, hb8⟩))
        go_ret
        exact ⟨rfl, bthen (bthen (bthen (bthen (bthen (bthen hb hb3 (Nat.le_refl _)) hb4 (Nat.le_refl _)) hb5 (Nat.le_refl _)) hb6 (Nat.le_refl _)) hb7 (Nat.le_refl _)) hb8 (Nat.le_refl _)⟩
    ·
      go_wp2_with (first
        | (go_at_call 100; with_reducible refine (HP2.out _).mono ?_; rintro e w3 ⟨rfl, hb3⟩)
        | (go_at_call 101; with_reducible refine (HQ2.out _).mono ?_; rintro e w' ⟨rfl, rfl⟩)
        | (go_at_call 102; with_reducible refine (HPU.out _).mono ?_; rintro e w4 ⟨rfl, hb4⟩)
        | (go_at_call 103; with_reducible refine (HPR.out _).mono ?_; rintro e w5 ⟨rfl, hb5⟩)
        | (go_at_call 104; with_reducible refine (HF.out _).mono ?_; rintro e w6 ⟨rfl, hb6⟩)
        | (go_at_call 105; with_reducible refine (HFR.out _).mono ?_; rintro e w' ⟨rfl, rfl⟩)
        | (go_at_call 106; with_reducible refine (HV.out _).mono ?_; rintro e w7 ⟨rfl, hb7⟩)
        | (go_at_call 107; with_reducible refine (HVR.out _).mono ?_; rintro e w' ⟨rfl, rfl⟩)
        | (go_at_call 56; with_reducible refine (boathouseNames.num_any _ _).mono ?_; rintro e w' ⟨rfl, rfl⟩)
        | (go_at_call 108; with_reducible refine (awake_any _).mono ?_; rintro e w8 ⟨rfl, hb8⟩))
      go_ret
      exact ⟨rfl, bthen (bthen (bthen (bthen (bthen (bthen hb hb3 (Nat.le_refl _)) hb4 (Nat.le_refl _)) hb5 (Nat.le_refl _)) hb6 (Nat.le_refl _)) hb7 (Nat.le_refl _)) hb8 (Nat.le_refl _)⟩
end Go.Proofs.Ytkkpcdpoldjmkaa.Utf
