/-
  THE WALKS of VarintBack, VarintSizes, VarintRow.
-/
import Derived.Test.YtkkpcdpoldjmkaaVarLaws
namespace Go.Proofs.Ytkkpcdpoldjmkaa.Varint
open Go.RowKit VarMath Sl Go.ChangeShapes Go.WideShapes

theorem enc_size (x : Nat) : (str (enc x)).size = (enc x).length := str_size _
theorem Get_of (s : ByteArray) (p r : List UInt8) (x : Nat) (z : Int) (w : World) (hs : s.size ≤ maxReach) (hl : s.data.toList = p ++ (enc x ++ r)) (hz : z = (p.length : Nat)) (hx : x < 9223372036854775808) :
    Calls Try.prog 93 #[.string s, .int .i64 z] w fun e w' => e = .returned (.tuple #[.int .i64 (x : Nat), .int .i64 ((p.length + (enc x).length : Nat) : Int), .int .i64 0]) ∧ w = w' := by
  subst hz
  have hll : p.length ≤ s.size := by rw [show s.size = s.data.toList.length by simp, hl]; simp
  unfold maxReach at hs
  obtain ⟨h1, h2, h3⟩ := g_enc (bits := 63) hl (by omega) (by omega)
  have := Get_any s (p.length : Nat) w (by unfold maxReach; omega) (by omega) (by omega)
  rw [h1, h2, h3] at this; exact this
theorem Zag_of (s : ByteArray) (p r : List UInt8) (x : Int) (z : Int) (w : World) (hs : s.size ≤ maxReach) (hl : s.data.toList = p ++ (enc (zig x) ++ r)) (hz : z = (p.length : Nat)) (h1 : -9223372036854775808 ≤ x) (h2 : x < 9223372036854775808) :
    Calls Try.prog 95 #[.string s, .int .i64 z] w fun e w' => e = .returned (.tuple #[.int .i64 x, .int .i64 ((p.length + (enc (zig x)).length : Nat) : Int), .int .i64 0]) ∧ w = w' := by
  subst hz
  have hll : p.length ≤ s.size := by rw [show s.size = s.data.toList.length by simp, hl]; simp
  unfold maxReach at hs
  obtain ⟨e1, e2, e3⟩ := g_enc (bits := 64) hl (zig_lt h1 h2) (zig_lt h1 h2)
  have := Zag_any s (p.length : Nat) w (by unfold maxReach; omega) (by omega) (by omega)
  rw [e1, e2, e3, zag_zig] at this; exact this
theorem Get_end (s : ByteArray) (z : Int) (w : World) (hs : s.size ≤ maxReach) (hz : z = (s.size : Nat)) :
    Calls Try.prog 93 #[.string s, .int .i64 z] w fun e w' => e = .returned (.tuple #[.int .i64 0, .int .i64 0, .int .i64 500]) ∧ w = w' := by
  subst hz
  unfold maxReach at hs
  obtain ⟨e1, e2, e3⟩ := g_end 63 s.data.toList
  rw [show s.data.toList.length = s.size by simp] at e1 e2 e3
  have := Get_any s (s.size : Nat) w (by unfold maxReach; omega) (by omega) (by omega)
  rw [e1, e2, e3] at this; exact this

set_option maxRecDepth 100000 in
set_option maxHeartbeats 8000000 in
theorem varintSizes_any (k more : Int) (w : World) (_h1 : (Lit.int .i64 k).wf = true) (_h2 : (Lit.int .i64 more).wf = true) :
    Calls Try.prog 20 #[.int .i64 k, .int .i64 more] w fun e w' => e = .returned (.bool true) ∧ Below w.heap.size w w' := by
  obtain ⟨b, hb, hb2⟩ := Crc.mod_nat k 63 (by omega)
  have hb2 : (IntKind.u64.wrap k).tmod 63 = (b : Int) := hb2
  have hp : 2 ^ b ≤ 2 ^ 62 := Nat.pow_le_pow_right (by omega) (by omega)
  have hp0 : 0 < 2 ^ b := Nat.pow_pos (by omega)
  have ha : bits .and .i64 more 127 = more % 128 := by
    have := and_mask_i64 more 7 (by omega); exact this
  obtain ⟨o, ho⟩ : ∃ o : Nat, o = (more % 128).toNat := ⟨_, rfl⟩
  have ho2 : more % 128 = (o : Int) := by omega
  rw [ho2] at ha
  have hol : o < 128 := by omega
  have z1 := size_pow hb
  have z2 := size_pred hb
  have z3 := size_zigs hb
  have z4 := enc_small hol
  have HP1 : ∀ (z : Int) w, z = ((2 ^ b : Nat) : Int) → Calls Try.prog 91 #[.int .i64 z] w fun e w' => e = .returned (.tuple #[.string (str (enc (2 ^ b))), .int .i64 0]) ∧ Below w.heap.size w w' := fun z w hz => Put_of _ z w hz (by omega)
  have HP2 : ∀ (z : Int) w, z = ((2 ^ b : Nat) : Int) - 1 → Calls Try.prog 91 #[.int .i64 z] w fun e w' => e = .returned (.tuple #[.string (str (enc (2 ^ b - 1))), .int .i64 0]) ∧ Below w.heap.size w w' := fun z w hz => Put_of _ z w (by omega) (by omega)
  have HP3 : ∀ (z : Int) w, z = (o : Int) → Calls Try.prog 91 #[.int .i64 z] w fun e w' => e = .returned (.tuple #[.string (str (enc o)), .int .i64 0]) ∧ Below w.heap.size w w' := fun z w hz => Put_of _ z w (by omega) (by omega)
  have HZ1 : ∀ (z : Int) w, z = ((2 ^ b : Nat) : Int) - 1 → Calls Try.prog 97 #[.int .i64 z] w fun e w' => e = .returned (.string (str (enc (zig (((2 ^ b : Nat) : Int) - 1))))) ∧ Below w.heap.size w w' := fun z w hz => by subst hz; exact Zig_any _ w (by omega) (by omega)
  have HZ2 : ∀ (z : Int) w, z = -((2 ^ b : Nat) : Int) → Calls Try.prog 97 #[.int .i64 z] w fun e w' => e = .returned (.string (str (enc (zig (-((2 ^ b : Nat) : Int)))))) ∧ Below w.heap.size w w' := fun z w hz => by subst hz; exact Zig_any _ w (by omega) (by omega)
  rw [← enc_size] at z1 z2 z3 z4
  rw [← enc_size] at z3
  have hshl : ((2 : Int) ^ b) = ((2 ^ b : Nat) : Int) := by push_cast; rfl
  generalize str (enc (2 ^ b - 1)) = S2 at *
  generalize str (enc (2 ^ b)) = S1 at *
  generalize str (enc o) = S3 at *
  generalize str (enc (zig (((2 ^ b : Nat) : Int) - 1))) = S4 at *
  generalize str (enc (zig (-((2 ^ b : Nat) : Int)))) = S5 at *
  generalize 2 ^ b = q at *
  have HHP1 := Lib.hid HP1; clear HP1
  have HHP2 := Lib.hid HP2; clear HP2
  have HHP3 := Lib.hid HP3; clear HP3
  have HHZ1 := Lib.hid HZ1; clear HZ1
  have HHZ2 := Lib.hid HZ2; clear HZ2
  have z2' : (S2.size : Int) = if (1 : Int) < ((b : Int) + 6) / 7 then ((b : Int) + 6) / 7 else 1 := by rw [z2]; split <;> omega
  clear z2 ho2 ho _h1 _h2
  have H3 := Lib.hid hol; clear hol
  go_enter Try.func20, Try.ntmps20
  go_wp2_with (first
    | (go_at_call 99; with_reducible refine (awake_any _).mono ?_; rintro e w1 ⟨rfl, hb1⟩)
    | (go_at_call 91; with_reducible refine (HHP1.out _ _ (by rfl)).mono ?_; rintro e w2 ⟨rfl, hb2⟩)
    | (go_at_call 91; with_reducible refine (HHP2.out _ _ (by rfl)).mono ?_; rintro e w3 ⟨rfl, hb3⟩)
    | (go_at_call 91; with_reducible refine (HHP3.out _ _ (by rfl)).mono ?_; rintro e w6 ⟨rfl, hb6⟩)
    | (go_at_call 97; with_reducible refine (HHZ1.out _ _ (by rfl)).mono ?_; rintro e w4 ⟨rfl, hb4⟩)
    | (go_at_call 97; with_reducible refine (HHZ2.out _ _ (by rfl)).mono ?_; rintro e w5 ⟨rfl, hb5⟩)
    | (go_at_call 56; with_reducible refine (boathouseNames.num_any _ _).mono ?_; rintro e w' ⟨rfl, rfl⟩))
  all_goals
    go_ret
    exact ⟨rfl, bthen (bthen (bthen (bthen (bthen hb1 hb2 (Nat.le_refl _)) hb3 (Nat.le_refl _)) hb4 (Nat.le_refl _)) hb5 (Nat.le_refl _)) hb6 (Nat.le_refl _)⟩
end Go.Proofs.Ytkkpcdpoldjmkaa.Varint
