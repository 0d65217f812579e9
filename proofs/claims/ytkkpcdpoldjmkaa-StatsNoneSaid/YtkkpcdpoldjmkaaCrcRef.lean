/-
  THE WALKS of the document's own sum: boathouseref1.Crc, Seal, Open.
-/
import Derived.Test.YtkkpcdpoldjmkaaBase
import Derived.Test.YtkkpcdpoldjmkaaCrcMath
namespace Go.Proofs.Ytkkpcdpoldjmkaa.Crc
open Go.RowKit CrcMath

set_option maxHeartbeats 400000 in
theorem refCrc_any (s : ByteArray) (w : World) (hs : s.size ≤ maxLen) :
    Calls Try.prog 53 #[.string s] w fun e w' => e = .returned (.int .i64 (crc s.data.toList)) ∧ w = w' := by
  unfold maxLen at hs
  go_enter Try.func53, Try.ntmps53
  go_wp2
  go_loop [3, 4] (fun c i => ∃ k : Nat, k ≤ s.size ∧ i = .int .i64 k ∧ c = .int .u32 (reg 4294967295 (s.data.toList.take k))) (fun _ i => s.size - (intOf i).toNat)
  case atStart => exact ⟨0, Nat.zero_le _, rfl, rfl⟩
  case round =>
    obtain ⟨k, hk, rfl, rfl⟩ := hrel
    have hr := reg_lt (x := 4294967295) (by omega) (s.data.toList.take k)
    by_cases hlt : k < s.size
    · have hb : s[k].toNat < 256 := u8_lt _
      obtain ⟨x0, hx0⟩ : ∃ x0 : Nat, x0 = reg 4294967295 (s.data.toList.take k) ^^^ s[k].toNat := ⟨_, rfl⟩
      have hx : bits .xor .u32 ((reg 4294967295 (s.data.toList.take k) : Nat) : Int) (s[k].toNat : Int) = (x0 : Int) := by
        rw [xor_u32 _ _ hr (by omega), hx0]
      have hxl : x0 < 4294967296 := by rw [hx0]; exact Nat.xor_lt_two_pow (n := 32) hr (by omega)
      have HX := Lib.hid hx0; clear hx0
      go_wp2
      clear hx
      go_loop [3, 5] (fun c j => ∃ m : Nat, m ≤ 8 ∧ j = .int .i64 m ∧ c = .int .u32 (steps m x0)) (fun _ j => 8 - (intOf j).toNat)
      case atStart => exact ⟨0, by omega, rfl, rfl⟩
      case round =>
        obtain ⟨m, hm, rfl, rfl⟩ := hrel
        by_cases hm8 : m < 8
        · obtain ⟨y, hy⟩ : ∃ y : Nat, y = steps m x0 := ⟨_, rfl⟩
          have hyl : y < 4294967296 := by rw [hy]; exact steps_lt m hxl
          have hs1 := steps_succ m x0
          rw [← hy] at hs1 ⊢
          have HS := Lib.hid hs1; clear hs1
          have HY := Lib.hid hy; clear hy
          by_cases hodd : y % 2 = 1
          · have ha : bits .and .u32 (y : Int) 1 = 1 := by rw [and1_u32 y hyl, hodd]; rfl
            have hz : bits .xor .u32 ((y : Int) / 2) 3988292384 = ((CrcMath.step y : Nat) : Int) := by
              have := xor_u32 (y / 2) 3988292384 (by omega) (by omega)
              unfold CrcMath.step; rw [if_pos hodd]; exact this
            clear hodd
            go_wp2
            go_round
            case rel => exact ⟨m + 1, by omega, by go_num, by rw [HS.out]⟩
            case measure => simp [intOf]; omega
          · have ha : bits .and .u32 (y : Int) 1 = 0 := by rw [and1_u32 y hyl]; omega
            have hz : ((CrcMath.step y : Nat) : Int) = (y : Int) / 2 := by unfold CrcMath.step; rw [if_neg hodd]; rfl
            have HZ := Lib.hid hz; clear hz hodd
            go_wp2
            go_round
            case rel => exact ⟨m + 1, by omega, by go_num, by rw [HS.out, HZ.out]⟩
            case measure => simp [intOf]; omega
        · obtain rfl : m = 8 := by omega
          have hts := take_snoc s k hlt
          have HT := Lib.hid hts; clear hts
          go_wp2
          go_round
          case rel => exact ⟨k + 1, by omega, by go_num, by rw [HT.out, reg_snoc, HX.out]; rfl⟩
          case measure => simp [intOf]; omega
    · have hx : bits .xor .u32 ((reg 4294967295 (s.data.toList.take k) : Nat) : Int) 4294967295 = ((crc s.data.toList : Nat) : Int) := by
        have := xor_u32 _ 4294967295 hr (by omega)
        rw [List.take_of_length_le (by simp; omega)] at this ⊢
        exact this
      have hc := crc_lt s.data.toList
      go_wp2
      go_ret
      exact ⟨rfl, rfl⟩

set_option maxHeartbeats 400000 in
theorem refSeal_any (s : ByteArray) (w : World) (hs : s.size ≤ maxReach) :
    Calls Try.prog 55 #[.string s] w fun e w' => e = .returned (.string (str (seal_ s.data.toList))) ∧ Below w.heap.size w w' := by
  have hc := crc_lt s.data.toList
  have H : ∀ w, Calls Try.prog 53 #[.string s] w fun e w' => e = .returned (.int .i64 (crc s.data.toList)) ∧ w = w' := fun w => refCrc_any s w (by unfold maxLen; unfold maxReach at hs; omega)
  unfold seal_
  generalize crc s.data.toList = c at hc H ⊢
  have HH := Lib.hid H; clear H
  have f1 : bits .and .i64 ((c : Int) / 65536) 255 = ((c : Int) / 65536) % 256 := and255_i64 (c / 65536) (by omega)
  have f2 : bits .and .i64 ((c : Int) / 256) 255 = ((c : Int) / 256) % 256 := and255_i64 (c / 256) (by omega)
  have f3 : bits .and .i64 (c : Int) 255 = (c : Int) % 256 := and255_i64 c (by omega)
  have kc := @run_str4 Try.prog 32 9 5 Try.underlying32 Try.underlying5 Try.underlying9
  have z4 := sz4
  unfold maxReach at hs
  go_enter Try.func55, Try.ntmps55
  go_wp2_with (go_at_call 53; refine (HH.out _).mono ?_; rintro e w' ⟨rfl, rfl⟩)
  go_ret
  refine ⟨ret_str (str_eq ?_), (Below.refl _ _).alloc (Nat.le_refl _) _⟩
  rw [append_toList, strOfNums_data]
  simp only [digits, List.map_cons, List.map_nil]
  rw [u8_of (m := c / 16777216) (by omega), u8_of (m := c / 65536) (by omega), u8_of (m := c / 256) (by omega), u8_of (m := c) (by omega)]

theorem seal_length (l : List UInt8) : (seal_ l).length = l.length + 4 := by simp [seal_, digits]

/-- What Open answers: the text and 0, or nothing and 400. -/
def opened (l : List UInt8) : List UInt8 := (open_ l).getD []
def code (l : List UInt8) : Int := if (open_ l).isSome then 0 else 400

theorem extract_str (s : ByteArray) (n : Nat) : s.extract 0 n = str (s.data.toList.take n) := by
  apply str_eq; simp [ByteArray.extract, ByteArray.copySlice]

theorem extract_end (s : ByteArray) (n : Nat) : s.extract n s.size = str (s.data.toList.drop n) := by
  apply str_eq
  rw [Lib.extract_data]
  exact List.take_of_length_le (by rw [List.length_drop]; exact Nat.le_refl _)

theorem open_eq (l : List UInt8) : open_ l = if l.length < 4 then none else if seal_ (l.take (l.length - 4)) = l then some (l.take (l.length - 4)) else none := by
  unfold open_
  by_cases h : l.length < 4
  · rw [if_pos h, if_pos h]
  · rw [if_neg h, if_neg h]
    have e : l.take (l.length - 4) ++ l.drop (l.length - 4) = l := List.take_append_drop _ _
    have hiff : digits (crc (l.take (l.length - 4))) = l.drop (l.length - 4) ↔ seal_ (l.take (l.length - 4)) = l := by
      unfold seal_
      constructor
      · intro h2; rw [h2, e]
      · intro h2
        have h3 := h2.trans e.symm
        exact List.append_cancel_left h3
    by_cases hd : digits (crc (l.take (l.length - 4))) = l.drop (l.length - 4)
    · rw [if_pos hd, if_pos (hiff.1 hd)]
    · rw [if_neg hd, if_neg (fun h2 => hd (hiff.2 h2))]

set_option maxHeartbeats 400000 in
theorem refOpen_any (s : ByteArray) (w : World) (hs : s.size ≤ maxReach) :
    Calls Try.prog 51 #[.string s] w fun e w' => e = .returned (.tuple #[.string (str (opened s.data.toList)), .int .i64 (code s.data.toList)]) ∧ Below w.heap.size w w' := by
  have H : ∀ w, Calls Try.prog 55 #[.string (str (s.data.toList.take (s.size - 4)))] w fun e w' => e = .returned (.string (str (seal_ (s.data.toList.take (s.size - 4))))) ∧ Below w.heap.size w w' := fun w =>
    refSeal_any _ w (by unfold maxReach at hs ⊢; rw [str_size, List.length_take]; omega)
  have hl : s.data.toList.length = s.size := by simp
  have ho := open_eq s.data.toList
  rw [hl] at ho
  unfold maxReach at hs
  have HH := Lib.hid H; clear H
  by_cases h4 : s.size < 4
  · rw [if_pos h4] at ho
    unfold opened code
    rw [ho]
    go_enter Try.func51, Try.ntmps51
    go_wp2
    go_ret2
    exact ⟨rfl, Below.refl _ _⟩
  · rw [if_neg h4] at ho
    have hx := extract_str s (s.size - 4)
    have hd : decide ((s.size : Int) < 4) = false := by simp; omega
    clear hl
    by_cases he : seal_ (s.data.toList.take (s.size - 4)) = s.data.toList
    · rw [if_pos he] at ho
      have ht : ((str (seal_ (s.data.toList.take (s.size - 4)))).toList == s.toList) = true := teq_true he
      unfold opened code
      rw [ho]
      clear ho he
      go_enter Try.func51, Try.ntmps51
      go_wp2_with (go_at_call 55; refine (HH.out _).mono ?_; rintro e w' ⟨rfl, hb⟩)
      go_ret2
      exact ⟨rfl, hb⟩
    · rw [if_neg he] at ho
      have ht : ((str (seal_ (s.data.toList.take (s.size - 4)))).toList == s.toList) = false := teq_false he
      unfold opened code
      rw [ho]
      clear ho he
      go_enter Try.func51, Try.ntmps51
      go_wp2_with (go_at_call 55; refine (HH.out _).mono ?_; rintro e w' ⟨rfl, hb⟩)
      go_ret2
      exact ⟨rfl, hb⟩
end Go.Proofs.Ytkkpcdpoldjmkaa.Crc
