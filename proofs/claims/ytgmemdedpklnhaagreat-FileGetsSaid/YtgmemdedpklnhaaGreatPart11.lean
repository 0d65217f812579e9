/-
  Lemmas of this claim, text behind text: UtfRef2. Each states its own conditions.
-/
import Derived.Test.YtgmemdedpklnhaaGreatPart10

/-
  THE WALKS of boathouseref1.First, Valid, PutRune.
-/

namespace Go.Proofs.YtgmemdedpklnhaaGreat.Utf
open Go.RowKit UtfMath

set_option maxRecDepth 100000 in
set_option maxHeartbeats 4000000 in
theorem refFirst_any (s : ByteArray) (w : World) (hs : s.size ≤ maxReach) :
    Calls Tryz.prog 96 #[.string s] w fun e w' => e = .returned (.int .i64 (first s.data.toList)) ∧ w = w' := by
  have hl : s.data.toList.length = s.size := by simp
  have HR := Lib.hid (fun (a : Int) w => refRune_any s a w hs)
  unfold maxReach at hs
  obtain ⟨F, hF⟩ : ∃ F, F = first s.data.toList := ⟨_, rfl⟩
  rw [← hF]
  have HF := Lib.hid hF; clear hF
  have HL := Lib.hid hl; clear hl
  go_enter Tryz.func96, Tryz.ntmps96
  go_wp2
  go_loop [3] (fun av => ∃ n a : Nat, a ≤ s.size ∧ av = .int .i64 a ∧ s.size < a + n ∧ Hid (firstFrom n a s.data.toList = first s.data.toList)) (fun av => s.size - (intOf av).toNat)
  case atStart => exact ⟨s.size + 1, 0, by omega, rfl, by omega, Lib.hid (by unfold first; rw [HL.out])⟩
  case round =>
    obtain ⟨n, a, ha, rfl, hn, hf⟩ := hrel
    by_cases hlt : a < s.size
    · obtain ⟨m, rfl⟩ : ∃ m, n = m + 1 := ⟨n - 1, by omega⟩
      have hf1 := hf.out
      simp only [firstFrom] at hf1
      rw [if_neg (by rw [HL.out]; omega)] at hf1
      have hrl := rune_le (s.data.toList.drop a)
      rw [List.length_drop, HL.out] at hrl
      have he : runeAt s.data.toList (a : Nat) = rune (s.data.toList.drop a) := runeAt_in (by rw [HL.out]; exact hlt)
      have hr := fun w => HR.out (a : Nat) w
      rw [he] at hr
      have HRA := Lib.hid hr; clear hr he hf
      by_cases h0 : (rune (s.data.toList.drop a)).2 = 0
      · rw [if_pos h0] at hf1
        have HF1 := Lib.hid hf1; clear hf1
        rw [h0] at HRA
        clear h0 hrl
        generalize ((rune (s.data.toList.drop a)).1 : Nat) = r1 at *
        go_wp2_with (go_at_call 114; with_reducible refine (HRA.out _).mono ?_; rintro e w1 ⟨rfl, rfl⟩)
        go_ret
        exact ⟨by rw [HF.out, ← HF1.out]; rfl, rfl⟩
      · rw [if_neg h0] at hf1
        have HF1 := Lib.hid hf1; clear hf1
        generalize (rune (s.data.toList.drop a)).2 = r2 at *
        generalize ((rune (s.data.toList.drop a)).1 : Nat) = r1 at *
        go_wp2_with (go_at_call 114; with_reducible refine (HRA.out _).mono ?_; rintro e w1 ⟨rfl, rfl⟩)
        go_round
        case rel => exact ⟨m, a + r2, by omega, by go_num, by omega, Lib.hid HF1.out⟩
        case measure => simp [intOf]; omega
    · obtain rfl : a = s.size := by omega
      have hf1 := hf.out
      have hz : firstFrom n s.size s.data.toList = -1 := by
        cases n with
        | zero => rfl
        | succ n => simp only [firstFrom]; rw [if_pos (by rw [HL.out]; exact Nat.le_refl _)]
      rw [hz] at hf1
      have HF1 := Lib.hid hf1; clear hf1 hz hf
      go_wp2
      go_ret
      exact ⟨by rw [HF.out, ← HF1.out]; rfl, rfl⟩
set_option maxRecDepth 100000 in
theorem refValid_any (s : ByteArray) (w : World) (hs : s.size ≤ maxReach) :
    Calls Tryz.prog 65 #[.string s] w fun e w' => e = .returned (.bool (valid s.data.toList)) ∧ w = w' := by
  have H := Lib.hid (fun w => refFirst_any s w hs)
  have hge := first_ge (s.data.toList.length + 1) 0 s.data.toList
  have hv : valid s.data.toList = (first s.data.toList == -1) := by
    unfold valid
    have : -1 ≤ first s.data.toList := hge
    by_cases h : first s.data.toList = -1
    · rw [h]; rfl
    · rw [decide_eq_false (by omega)]; exact (beq_eq_false_iff_ne.2 h).symm
  rw [hv]
  clear hv hge hs
  generalize first s.data.toList = F at *
  go_enter Tryz.func65, Tryz.ntmps65
  go_wp2_with (go_at_call 96; with_reducible refine (H.out _).mono ?_; rintro e w1 ⟨rfl, rfl⟩)
  go_ret
  exact ⟨rfl, rfl⟩

end Go.Proofs.YtgmemdedpklnhaaGreat.Utf
