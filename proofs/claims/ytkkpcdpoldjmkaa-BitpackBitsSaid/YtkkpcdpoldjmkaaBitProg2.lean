/-
  THE WALKS of bitpack.Unpack, Width, boathouseref1.Width.
-/
import Derived.Test.YtkkpcdpoldjmkaaBitProg
import Derived.Test.YtkkpcdpoldjmkaaShelf
import Derived.Test.YtkkpcdpoldjmkaaNamesWalks
namespace Go.Proofs.Ytkkpcdpoldjmkaa.Bitpack
open Go.RowKit BitMath Sl

theorem len_bitLen (x : Nat) : ∀ n, n ≤ 64 → x < 2 ^ n → len n x = Lib.bitLen x := by
  intro n
  induction n generalizing x with
  | zero => intro _ h; simp at h; subst h; rfl
  | succ n ih =>
    intro hn h
    have hp : 2 ^ (n + 1) ≤ 2 ^ 64 := Nat.pow_le_pow_right (by omega) hn
    by_cases h0 : x = 0
    · subst h0; rfl
    · rw [len_succ h0, ih _ (by omega) (by rw [Nat.pow_succ] at h; omega), Lib.bitLen_half x h0 (by omega)]; omega

set_option maxRecDepth 100000 in
theorem width_any (x : Int) (w : World) (h1 : x < 9223372036854775808) : Calls Try.prog 113 #[.int .i64 x] w fun e w' => e = .returned (.int .i64 (width x : Nat)) ∧ w = w' := by
  have H : ∀ (z : Int) w, 0 ≤ z → z = (x.toNat : Nat) → Calls Try.prog 155 #[.int .u64 z] w fun e w' => e = .returned (.int .i64 (width x : Nat)) ∧ w' = w := fun z w h0 hz => by
    have := Shelf.bits_Len z w h0 (by omega)
    rw [hz, Int.toNat_natCast, ← len_bitLen x.toNat 64 (by omega) (by omega)] at this
    rw [hz]; exact this
  generalize (width x : Nat) = r at *
  have HH := Lib.hid H; clear H
  by_cases h0 : 0 ≤ x
  · have hw : IntKind.u64.wrap x = x := by rw [IntKind.wrap_u64]; omega
    have hx : x = (x.toNat : Nat) := by omega
    have HX := Lib.hid hx; clear hx
    go_enter Try.func113, Try.ntmps113
    go_wp2_with (go_at_call 155; refine (HH.out _ _ (by omega) (by first | exact HX.out | omega)).mono ?_; rintro e w' ⟨rfl, rfl⟩)
    go_ret
    exact ⟨rfl, rfl⟩
  · have hx : (0 : Int) = (x.toNat : Nat) := by omega
    have HX := Lib.hid hx; clear hx
    go_enter Try.func113, Try.ntmps113
    go_wp2_with (go_at_call 155; refine (HH.out _ _ (by omega) (by first | exact HX.out | omega)).mono ?_; rintro e w' ⟨rfl, rfl⟩)
    go_ret
    exact ⟨rfl, rfl⟩

set_option maxRecDepth 100000 in
set_option maxHeartbeats 1000000 in
theorem refWidth_any (x : Int) (w : World) (h1 : x < 9223372036854775808) : Calls Try.prog 114 #[.int .i64 x] w fun e w' => e = .returned (.int .i64 (width x : Nat)) ∧ w = w' := by
  obtain ⟨R, hR⟩ : ∃ R, R = width x := ⟨_, rfl⟩
  rw [← hR]
  have HR := Lib.hid hR; clear hR
  go_enter Try.func114, Try.ntmps114
  go_wp2
  go_loop [0, 3] (fun mv kv => ∃ (n k : Nat) (m : Int), mv = .int .i64 m ∧ kv = .int .i64 k ∧ k + n = 64 ∧ m < 9223372036854775808 ∧ m.toNat < 2 ^ n ∧ Hid (R = k + len n m.toNat)) (fun mv _ => (intOf mv).toNat)
  case atStart => exact ⟨64, 0, x, rfl, rfl, by omega, h1, by omega, Lib.hid (by rw [HR.out]; unfold width; omega)⟩
  case round =>
    obtain ⟨n, k, m, rfl, rfl, hk, hm, hp, hr⟩ := hrel
    by_cases h0 : 0 < m
    · have hn : n ≠ 0 := by rintro rfl; simp at hp; omega
      obtain ⟨n', rfl⟩ : ∃ n', n = n' + 1 := ⟨n - 1, by omega⟩
      have hl := len_succ (n := n') (x := m.toNat) (by omega)
      have hh : (m / 2).toNat = m.toNat / 2 := by omega
      have hp2 : (m / 2).toNat < 2 ^ n' := by rw [hh]; rw [Nat.pow_succ] at hp; omega
      have HL := Lib.hid (And.intro hl (And.intro hh hp2)); clear hl hh hp2 hp
      go_wp2
      go_round
      case rel => exact ⟨n', k + 1, m / 2, by go_num, by go_num, by omega, by omega, HL.out.2.2, Lib.hid (by rw [HL.out.2.1, hr.out, HL.out.1]; omega)⟩
      case measure => simp [intOf]; omega
    · have hz : R = k := by
        have := hr.out
        rw [show m.toNat = 0 by omega, len_zero] at this; omega
      subst hz
      clear hp
      go_wp2
      go_ret
      exact ⟨rfl, rfl⟩
end Go.Proofs.Ytkkpcdpoldjmkaa.Bitpack
