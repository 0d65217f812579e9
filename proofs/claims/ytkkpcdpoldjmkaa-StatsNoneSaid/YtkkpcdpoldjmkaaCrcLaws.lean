/-
  THE WALKS of chapter 4's laws: Crcs, CrcOne, CrcSteps.
-/
import Derived.Test.YtkkpcdpoldjmkaaNamesWalks
import Derived.Test.YtkkpcdpoldjmkaaCrcProg
import Derived.Test.YtkkpcdpoldjmkaaBytes
namespace Go.Proofs.Ytkkpcdpoldjmkaa.Crc
open Go.RowKit CrcMath

def abc : ByteArray := { data := #[97, 98, 99] }
def nine : ByteArray := { data := #[49, 50, 51, 52, 53, 54, 55, 56, 57] }

theorem opened_seal (l : List UInt8) : opened (seal_ l) = l ∧ code (seal_ l) = 0 := by
  unfold opened code; rw [open_seal]; exact ⟨rfl, rfl⟩

theorem abc_open (w : World) : Calls Try.prog 50 #[.string { data := #[97, 98, 99] }] w fun e w' => e = .returned (.tuple #[.string (str []), .int .i64 400]) ∧ Below w.heap.size w w' := by
  have h := open_short (l := abc.data.toList) (by decide)
  refine (open_any abc w (by decide)).mono fun e w' ⟨he, hb⟩ => ⟨?_, hb⟩
  rw [he, h.1, h.2]

theorem nine_of (w : World) : Calls Try.prog 52 #[.string { data := #[49, 50, 51, 52, 53, 54, 55, 56, 57] }] w fun e w' => e = .returned (.int .i64 3421780262) ∧ Below w.heap.size w w' := by
  have h : crc nine.data.toList = 3421780262 := by kernel_rfl
  refine (of_any nine w (by decide)).mono fun e w' ⟨he, hb⟩ => ⟨?_, hb⟩
  rw [he, h]; rfl

set_option maxHeartbeats 400000 in
theorem awake_any (w : World) : Calls Try.prog 57 #[] w fun e w' => e = .returned (.bool true) ∧ Below w.heap.size w w' := by
  have H2 : ∃ S : ByteArray, (∀ w, Calls Try.prog 54 #[.string { data := #[97, 98, 99] }] w fun e w' => e = .returned (.string S) ∧ Below w.heap.size w w') ∧
      (∀ w, Calls Try.prog 50 #[.string S] w fun e w' => e = .returned (.tuple #[.string { data := #[97, 98, 99] }, .int .i64 0]) ∧ Below w.heap.size w w') := by
    refine ⟨str (seal_ abc.data.toList), fun w => seal_any abc w (by decide), fun w => ?_⟩
    have h := opened_seal abc.data.toList
    refine (open_any _ w (by rw [str_size, seal_length]; decide)).mono fun e w' ⟨he, hb⟩ => ⟨?_, hb⟩
    rw [he, str_toList, h.1, h.2]; rfl
  obtain ⟨S, hs, ho⟩ := H2
  have HS := Lib.hid hs; clear hs
  have HO := Lib.hid ho; clear ho
  go_enter Try.func57, Try.ntmps57
  go_wp2_with (first
    | (go_at_call_of 50 (Value.string S); with_reducible refine (HO.out _).mono ?_; rintro e w3 ⟨rfl, hb3⟩)
    | (go_at_call 50; with_reducible refine (abc_open _).mono ?_; rintro e w1 ⟨rfl, hb1⟩)
    | (go_at_call 54; with_reducible refine (HS.out _).mono ?_; rintro e w2 ⟨rfl, hb2⟩)
    | (go_at_call 52; with_reducible refine (nine_of _).mono ?_; rintro e w4 ⟨rfl, hb4⟩)
    | (go_at_call 56; with_reducible refine (boathouseNames.num_any _ _).mono ?_; rintro e w' ⟨rfl, rfl⟩))
  go_ret
  exact ⟨rfl, bthen (bthen (bthen hb1 hb2 (Nat.le_refl _)) hb3 (Nat.le_refl _)) hb4 (Nat.le_refl _)⟩

set_option maxHeartbeats 400000 in
theorem crcs_any (s : ByteArray) (w : World) (hs : s.size ≤ 140737488351232) :
    Calls Try.prog 4 #[.string s] w fun e w' => e = .returned (.bool true) ∧ Below w.heap.size w w' := by
  have hr : s.size ≤ maxReach := by unfold maxReach; omega
  have hm : s.size ≤ maxLen := by unfold maxLen; omega
  clear hs
  go_enter Try.func4, Try.ntmps4
  go_wp2_with (first
    | (go_at_call 50; with_reducible refine (open_any _ _ hr).mono ?_; rintro e w1 ⟨rfl, hb1⟩)
    | (go_at_call 51; with_reducible refine (refOpen_any _ _ hr).mono ?_; rintro e w2 ⟨rfl, hb2⟩)
    | (go_at_call 52; with_reducible refine (of_any _ _ hm).mono ?_; rintro e w3 ⟨rfl, hb3⟩)
    | (go_at_call 53; with_reducible refine (refCrc_any _ _ hm).mono ?_; rintro e w' ⟨rfl, rfl⟩)
    | (go_at_call 54; with_reducible refine (seal_any _ _ hr).mono ?_; rintro e w4 ⟨rfl, hb4⟩)
    | (go_at_call 55; with_reducible refine (refSeal_any _ _ hr).mono ?_; rintro e w5 ⟨rfl, hb5⟩)
    | (go_at_call 57; with_reducible refine (awake_any _).mono ?_; rintro e w6 ⟨rfl, hb6⟩)
    | (go_at_call 56; with_reducible refine (boathouseNames.num_any _ _).mono ?_; rintro e w' ⟨rfl, rfl⟩))
  go_ret
  exact ⟨rfl, bthen (bthen (bthen (bthen (bthen hb1 hb2 (Nat.le_refl _)) hb3 (Nat.le_refl _)) hb4 (Nat.le_refl _)) hb5 (Nat.le_refl _)) hb6 (Nat.le_refl _)⟩

theorem mod_nat (n : Int) (m : Nat) (h : 0 < m) : ∃ k : Nat, k < m ∧ (IntKind.u64.wrap n).tmod (m : Int) = (k : Int) := by
  rw [IntKind.wrap_u64]
  have h0 : 0 ≤ n % 18446744073709551616 := Int.emod_nonneg _ (by omega)
  rw [Int.tmod_eq_emod_of_nonneg h0]
  have h1 : 0 ≤ n % 18446744073709551616 % (m : Int) := Int.emod_nonneg _ (by omega)
  have h2 : n % 18446744073709551616 % (m : Int) < (m : Int) := Int.emod_lt_of_pos _ (by omega)
  exact ⟨(n % 18446744073709551616 % (m : Int)).toNat, by omega, by omega⟩

theorem turned_cells {W w1 : World} {g k n b : Nat} {L T : List UInt8} (hc : ∀ j, j < n → W.cell? ⟨g, j, none⟩ = some (.int .u8 (byteAt L j : Int)))
    (hb1 : Below (W.setCell ⟨g, k, none⟩ (.int .u8 (b : Int))).heap.size (W.setCell ⟨g, k, none⟩ (.int .u8 (b : Int))) w1) (hg : g < W.heap.size) (hk : k < n) (hb : b < 256)
    (hT : ∀ j, byteAt T j = if j = k then (UInt8.ofNat b).toNat else byteAt L j) : ∀ j, j < n → w1.cell? ⟨g, j, none⟩ = some (.int .u8 (byteAt T j : Int)) := by
  intro j hj
  rw [hb1.cell (p := ⟨g, j, none⟩) (by rw [World.size_setCell]; exact hg), hT j]
  by_cases hjk : j = k
  · subst hjk
    rw [if_pos rfl, World.cell?_setCell_same _ _ _ (hc j hj), UInt8.toNat_ofNat', Nat.mod_eq_of_lt hb]
  · rw [if_neg hjk, World.cell?_setCell_other _ _ _ _ (by intro e; injection e with _ e2; exact hjk e2.symm), hc j hj]

set_option maxRecDepth 20000 in
set_option maxHeartbeats 1000000 in
theorem crcOne_any (s : ByteArray) (at_ y : Int) (w : World) (hs : s.size ≤ 140737488351232) (_h1 : (Lit.int .i64 at_).wf = true) (_h2 : (Lit.int .i64 y).wf = true) :
    Calls Try.prog 5 #[.string s, .int .i64 at_, .int .i64 y] w fun e w' => e = .returned (.bool true) ∧ Below w.heap.size w w' := by
  have hr : s.size ≤ maxReach := by unfold maxReach; omega
  have hLl : (seal_ s.data.toList).length = s.size + 4 := by rw [seal_length]; simp
  have hz : (str (seal_ s.data.toList)).size = s.size + 4 := by rw [str_size, hLl]
  obtain ⟨k, hk, hk2⟩ := mod_nat at_ (s.size + 4) (by omega)
  obtain ⟨d, hd, hd2⟩ := mod_nat y 255 (by omega)
  rw [show (((s.size + 4 : Nat)) : Int) = (s.size : Int) + 4 from rfl] at hk2
  have hd2 : (IntKind.u64.wrap y).tmod 255 = (d : Int) := hd2
  have hB := byteAt_lt (seal_ s.data.toList) k
  obtain ⟨b, hb⟩ : ∃ b : Nat, b = byteAt (seal_ s.data.toList) k ^^^ (1 + d) := ⟨_, rfl⟩
  have hbl : b < 256 := by rw [hb]; exact Nat.xor_lt_two_pow (n := 8) hB (by omega)
  have hx : bits .xor .u8 ((byteAt (seal_ s.data.toList) k : Nat) : Int) (1 + (d : Int)) = (b : Int) := by
    rw [hb]; exact xor_u8 _ (1 + d) hB (by omega)
  have hT : opened ((seal_ s.data.toList).set k (UInt8.ofNat b)) = [] ∧ code ((seal_ s.data.toList).set k (UInt8.ofNat b)) = 400 := by
    have hn := open_set_none s.data.toList k (by rw [hLl]; exact hk) (UInt8.ofNat b) (by
      intro e
      have e2 := congrArg UInt8.toNat e
      rw [UInt8.toNat_ofNat', ← byteAt_get _ _ (by rw [hLl]; exact hk), Nat.mod_eq_of_lt hbl, hb] at e2
      have e3 : byteAt (seal_ s.data.toList) k ^^^ (1 + d) = byteAt (seal_ s.data.toList) k ^^^ 0 := by rw [Nat.xor_zero]; exact e2
      have := xor_cancel_left e3
      omega)
    unfold opened code; rw [hn]; exact ⟨rfl, rfl⟩
  have HS : ∀ w, Calls Try.prog 54 #[.string s] w fun e w' => e = .returned (.string (str (seal_ s.data.toList))) ∧ Below w.heap.size w w' := fun w => seal_any s w hr
  have HO : ∀ w, Calls Try.prog 50 #[.string (str (seal_ s.data.toList))] w fun e w' => e = .returned (.tuple #[.string s, .int .i64 0]) ∧ Below w.heap.size w w' := fun w => by
    have h := opened_seal s.data.toList
    refine (open_any _ w (by rw [hz]; unfold maxReach; omega)).mono fun e w' ⟨he, hb⟩ => ⟨?_, hb⟩
    rw [he, str_toList, h.1, h.2]; rfl
  have HU : ∀ w, Calls Try.prog 50 #[.string (str ((seal_ s.data.toList).set k (UInt8.ofNat b)))] w fun e w' => e = .returned (.tuple #[.string (str []), .int .i64 400]) ∧ Below w.heap.size w w' := fun w => by
    refine (open_any _ w (by rw [str_size, List.length_set, hLl]; unfold maxReach; omega)).mono fun e w' ⟨he, hb⟩ => ⟨?_, hb⟩
    rw [he, str_toList, hT.1, hT.2]
  clear hT hb
  have hset := fun j => byteAt_set (seal_ s.data.toList) k j (UInt8.ofNat b) (by rw [hLl]; exact hk)
  have hlen : ((seal_ s.data.toList).set k (UInt8.ofNat b)).length = s.size + 4 := by rw [List.length_set, hLl]
  generalize hTT : (seal_ s.data.toList).set k (UInt8.ofNat b) = T at HU hset hlen
  generalize hSS : seal_ s.data.toList = L at *
  clear hTT hSS
  have HHS := Lib.hid HS; clear HS
  have HHO := Lib.hid HO; clear HO
  have HHU := Lib.hid HU; clear HU
  have HSET := Lib.hid hset; clear hset
  have HLEN := Lib.hid hlen; clear hlen
  clear hLl
  go_enter Try.func5, Try.ntmps5
  go_wp2_with (first
    | (go_at_call_of 50 (Value.string (str L)); with_reducible refine (HHO.out _).mono ?_; rintro e w1 ⟨rfl, hb1⟩)
    | (go_at_call_of 50 (Value.string (str T)); with_reducible refine (HHU.out _).mono ?_; rintro e w2 ⟨rfl, hb2⟩)
    | (go_at_call 54; with_reducible refine (HHS.out _).mono ?_; rintro e w4 ⟨rfl, hb4⟩)
    | (refine wpList_to_bytes rfl 9 32 5 (.tmp 24) rfl (str L) rfl Try.underlying9 Try.underlying32 Try.underlying5 ?_; intro c W hcap hcells hfree hb5 hsz; rw [hz] at hcells hfree)
    | (refine wpList_to_string rfl 32 9 5 (.tmp 53) rfl w4.heap.size T (s.size + 4) c rfl HLEN.out Try.underlying32 Try.underlying5 Try.underlying9 (turned_cells hcells hb1 (by omega) hk hbl HSET.out) ?_)
    | (go_at_call 57; with_reducible refine (awake_any _).mono ?_; rintro e w6 ⟨rfl, hb6⟩)
    | (go_at_call 56; with_reducible refine (boathouseNames.num_any _ _).mono ?_; rintro e w' ⟨rfl, rfl⟩))
  go_ret
  refine ⟨rfl, ?_⟩
  have hb7 := bthen (bthen hb6 hb4 (Nat.le_refl _)) hb5 (Nat.le_refl _)
  have hb8 := hb7.setCell (p := ⟨w4.heap.size, k, none⟩) (by have := (bthen hb6 hb4 (Nat.le_refl _)).size; exact this) (.int .u8 (b : Int))
  exact bthen (bthen hb8 hb1 (Nat.le_refl _)) hb2 (Nat.le_refl _)

theorem nil_of (w : World) : Calls Try.prog 52 #[.string { data := #[] }] w fun e w' => e = .returned (.int .i64 0) ∧ Below w.heap.size w w' := by
  have h : crc (ByteArray.empty).data.toList = 0 := by kernel_rfl
  refine (of_any ByteArray.empty w (by decide)).mono fun e w' ⟨he, hb⟩ => ⟨?_, hb⟩
  rw [he, h]; rfl

set_option maxRecDepth 20000 in
set_option maxHeartbeats 1000000 in
theorem crcSteps_any (s : ByteArray) (c : Int) (w : World) (hs : s.size ≤ 140737488351232) (_h1 : (Lit.int .i64 c).wf = true) :
    Calls Try.prog 6 #[.string s, .int .i64 c] w fun e w' => e = .returned (.bool true) ∧ Below w.heap.size w w' := by
  have hm : s.size ≤ maxLen := by unfold maxLen; omega
  obtain ⟨d, hd⟩ : ∃ d : Nat, d = (c % 256).toNat := ⟨_, rfl⟩
  have hd0 : c % 256 = (d : Int) := by omega
  have hdl : d < 256 := by omega
  have ha : bits .and .i64 c 255 = (d : Int) := by rw [← hd0]; exact and_mask_i64 c 8 (by omega)
  have hC := crc_lt s.data.toList
  have hRl := reg_lt (x := 4294967295) (by omega) s.data.toList
  have hR : crc s.data.toList ^^^ 4294967295 = reg 4294967295 s.data.toList := by unfold crc; rw [Nat.xor_assoc, Nat.xor_self, Nat.xor_zero]
  have hT : crc (s.data.toList ++ [UInt8.ofNat d]) = steps 8 (reg 4294967295 s.data.toList ^^^ d) ^^^ 4294967295 := by
    unfold crc; rw [reg_snoc, UInt8.toNat_ofNat', Nat.mod_eq_of_lt hdl]; rfl
  have hx1 : bits .xor .i64 ((crc s.data.toList : Nat) : Int) 4294967295 = ((reg 4294967295 s.data.toList : Nat) : Int) := by
    rw [← hR]; exact xor_i64 _ 4294967295 (by omega) (by omega)
  have hx2 : bits .xor .i64 ((reg 4294967295 s.data.toList : Nat) : Int) (d : Int) = ((reg 4294967295 s.data.toList ^^^ d : Nat) : Int) := xor_i64 _ _ (by omega) (by omega)
  have hx0l : reg 4294967295 s.data.toList ^^^ d < 4294967296 := Nat.xor_lt_two_pow (n := 32) hRl (by omega)
  have HC : ∀ w, Calls Try.prog 52 #[.string s] w fun e w' => e = .returned (.int .i64 (crc s.data.toList)) ∧ Below w.heap.size w w' := fun w => of_any s w hm
  have HD : ∀ w, Calls Try.prog 52 #[.string (s ++ strOfNums [(d : Int)])] w fun e w' => e = .returned (.int .i64 ((steps 8 (reg 4294967295 s.data.toList ^^^ d) ^^^ 4294967295 : Nat) : Int)) ∧ Below w.heap.size w w' := fun w => by
    have e : (s ++ strOfNums [(d : Int)]).data.toList = s.data.toList ++ [UInt8.ofNat d] := by rw [append_toList, strOfNums_data]; rfl
    refine (of_any _ w (by rw [ByteArray.size_append, strOfNums_size]; unfold maxLen; simp; omega)).mono fun e' w' ⟨he, hb⟩ => ⟨?_, hb⟩
    rw [he, e, hT]
  clear hR hT hd
  generalize crc s.data.toList = C at *
  generalize reg 4294967295 s.data.toList ^^^ d = x0 at *
  generalize reg 4294967295 s.data.toList = R at *
  have HHC := Lib.hid HC; clear HC
  have HHD := Lib.hid HD; clear HD
  have kc := @run_str1 Try.prog 32 9 5 Try.underlying32 Try.underlying5 Try.underlying9
  have z1 := sz1
  go_enter Try.func6, Try.ntmps6
  go_wp2_with (first
    | (go_at_call 52; with_reducible refine (HHC.out _).mono ?_; rintro e w1 ⟨rfl, hb1⟩)
    | (go_at_call 57; with_reducible refine (awake_any _).mono ?_; rintro e w6 ⟨rfl, hb6⟩))
  go_loop [5, 6] (fun x i => ∃ m : Nat, m ≤ 8 ∧ i = .int .i64 m ∧ x = .int .i64 (steps m x0)) (fun _ i => 8 - (intOf i).toNat)
  case atStart => exact ⟨0, by omega, rfl, rfl⟩
  case round =>
    obtain ⟨m, hm8, rfl, rfl⟩ := hrel
    by_cases hlt : m < 8
    · obtain ⟨y, hy⟩ : ∃ y : Nat, y = steps m x0 := ⟨_, rfl⟩
      have hyl : y < 4294967296 := by rw [hy]; exact steps_lt m hx0l
      have hs1 := steps_succ m x0
      rw [← hy] at hs1 ⊢
      have HS := Lib.hid hs1; clear hs1
      have HY := Lib.hid hy; clear hy
      by_cases hodd : y % 2 = 1
      · have hb : bits .and .i64 (y : Int) 1 = 1 := by
          have := and_mask_i64 (y : Int) 1 (by omega)
          rw [show ((2 ^ 1 - 1 : Nat) : Int) = 1 from rfl] at this; rw [this]; omega
        have hz : bits .xor .i64 ((y : Int) / 2) 3988292384 = ((CrcMath.step y : Nat) : Int) := by
          have := xor_i64 (y / 2) 3988292384 (by omega) (by omega)
          unfold CrcMath.step; rw [if_pos hodd]; exact this
        clear hodd
        go_wp2
        go_round
        case rel => exact ⟨m + 1, by omega, by go_num, by rw [HS.out]⟩
        case measure => simp [intOf]; omega
      · have hb : bits .and .i64 (y : Int) 1 = 0 := by
          have := and_mask_i64 (y : Int) 1 (by omega)
          rw [show ((2 ^ 1 - 1 : Nat) : Int) = 1 from rfl] at this; rw [this]; omega
        have hz : ((CrcMath.step y : Nat) : Int) = (y : Int) / 2 := by unfold CrcMath.step; rw [if_neg hodd]; rfl
        have HZ := Lib.hid hz; clear hz hodd
        go_wp2
        go_round
        case rel => exact ⟨m + 1, by omega, by go_num, by rw [HS.out, HZ.out]⟩
        case measure => simp [intOf]; omega
    · obtain rfl : m = 8 := by omega
      have hl8 := steps_lt 8 hx0l
      have hx3 : bits .xor .i64 ((steps 8 x0 : Nat) : Int) 4294967295 = ((steps 8 x0 ^^^ 4294967295 : Nat) : Int) := xor_i64 _ 4294967295 (by omega) (by omega)
      generalize steps 8 x0 = y8 at *
      go_wp2_with (first
        | (go_at_call_of 52 (Value.string { data := #[] }); with_reducible refine (nil_of _).mono ?_; rintro e w3 ⟨rfl, hb3⟩)
        | (go_at_call 52; with_reducible refine (HHD.out _).mono ?_; rintro e w2 ⟨rfl, hb2⟩)
        | (go_at_call 56; with_reducible refine (boathouseNames.num_any _ _).mono ?_; rintro e w' ⟨rfl, rfl⟩))
      go_ret
      refine ⟨rfl, ?_⟩
      have hb5 := (bthen hb6 hb1 (Nat.le_refl _)).alloc (bthen hb6 hb1 (Nat.le_refl _)).size (.cells #[.int .u8 (d : Int)] 5)
      exact bthen (bthen hb5 hb2 (Nat.le_refl _)) hb3 (Nat.le_refl _)
end Go.Proofs.Ytkkpcdpoldjmkaa.Crc
