/-
  THE WALKS of package crc: table, Of, digits, Seal, Open.
-/
import Derived.Test.YtkkpcdpoldjmkaaCrcRef
import Derived.Deep.RegionHeld3
import Derived.Deep.DeepCutAuto
namespace Go.Proofs.Ytkkpcdpoldjmkaa.Crc
open Go.RowKit CrcMath

/-- The table's first k entries laid, the others nought. -/
def tabs (k : Nat) : Array Value := ((List.range 256).map fun i => Value.int .u32 (if i < k then ((tab i : Nat) : Int) else 0)).toArray
theorem tabs_zero : tabs 0 = Try.zeroCells134 := by kernel_rfl
theorem tabs_size (k : Nat) : (tabs k).size = 256 := by simp [tabs]
theorem tabs_at (k i : Nat) (h : i < 256) : (tabs k)[i]? = some (.int .u32 (if i < k then ((tab i : Nat) : Int) else 0)) := by
  simp [tabs, List.getElem?_range h]
theorem tabs_step (k : Nat) (h : k < 256) : (tabs k).setIfInBounds k (.int .u32 (tab k)) = tabs (k + 1) := by
  apply Array.ext_getElem?
  intro i
  rw [Array.getElem?_setIfInBounds]
  by_cases hi : i < 256
  · rw [tabs_at _ _ hi, tabs_at _ _ hi]
    by_cases hk : k = i
    · subst hk; simp [tabs_size, h]
    · rw [if_neg hk]
      by_cases h1 : i < k
      · simp [h1, show i < k + 1 by omega]
      · simp [h1, show ¬ i < k + 1 by omega]
  · rw [Array.getElem?_eq_none (by rw [tabs_size]; omega), Array.getElem?_eq_none (by rw [tabs_size]; omega), if_neg (by omega)]

theorem tabs_row : (Try.prog.info? 134).map (·.size) = some (tabs 256).size := by rw [tabs_size]; kernel_rfl
theorem tabs_one (k : Nat) : (tabs k).all (·.oneCell') = true := by
  rw [Array.all_eq_true_iff_forall_mem]; intro x hx; simp [tabs] at hx; obtain ⟨i, _, rfl⟩ := hx; rfl

theorem xor_step (y : Nat) (hyl : y < 4294967296) (h : y % 2 = 1) : bits .xor .u32 ((y : Int) / 2) 3988292384 = ((CrcMath.step y : Nat) : Int) := by
  have := xor_u32 (y / 2) 3988292384 (by omega) (by omega)
  unfold CrcMath.step; rw [if_pos h]; exact this

set_option maxRecDepth 20000 in
set_option maxHeartbeats 400000 in
theorem table_any (w : World) :
    Calls Try.prog 127 #[] w fun e w' => e = .returned (.agg (tabs 256)) ∧ Below w.heap.size w w' := by
  have hg1 := heap_alloc2_new w (.cells (tabs 0) 134) (.cells (tabs 256) 134)
  have hg0 := heap_alloc2_old w (.cells (tabs 0) 134) (.cells (tabs 256) 134)
  have H1 := Lib.hid hg1; clear hg1
  have H0 := Lib.hid hg0; clear hg0
  go_enter Try.func127, Try.ntmps127
  go_wp2
  rw [← tabs_zero]
  go_loopw [3, 4] (fun _ i wr => ∃ k : Nat, k ≤ 256 ∧ i = .int .i64 k ∧ wr = (w.alloc (.cells (tabs 0) 134)).alloc (.cells (tabs k) 134)) (fun _ i _ => 256 - (intOf i).toNat)
  case atStart => exact ⟨0, by omega, rfl, rfl⟩
  case round =>
    obtain ⟨k, hk, rfl, rfl⟩ := hrel
    by_cases hlt : k < 256
    · have hx : (tabs k)[k]? = some (.int .u32 0) := by rw [tabs_at k k hlt, if_neg (by omega)]
      have hst := tabs_step k hlt
      have HST := Lib.hid hst; clear hst
      go_wp2
      go_loop [3, 9] (fun c j => ∃ m : Nat, m ≤ 8 ∧ j = .int .i64 m ∧ c = .int .u32 (steps m k)) (fun _ j => 8 - (intOf j).toNat)
      case atStart => exact ⟨0, by omega, rfl, rfl⟩
      case round =>
        obtain ⟨m, hm, rfl, rfl⟩ := hrel
        by_cases hm8 : m < 8
        · obtain ⟨y, hy⟩ : ∃ y : Nat, y = steps m k := ⟨_, rfl⟩
          have hyl : y < 4294967296 := by rw [hy]; exact steps_lt m (by omega)
          have hs1 := steps_succ m k
          rw [← hy] at hs1 ⊢
          have HS := Lib.hid hs1; clear hs1
          have HY := Lib.hid hy; clear hy
          by_cases hodd : y % 2 = 1
          · have ha : bits .and .u32 (y : Int) 1 = 1 := by rw [and1_u32 y hyl, hodd]; rfl
            have hz := xor_step y hyl hodd
            clear hodd
            go_wp2
            go_round
            case rel => exact ⟨m + 1, by omega, by go_num, by rw [HS.out]⟩
            case measure => simp [intOf]; omega
          · have ha : bits .and .u32 (y : Int) 1 = 0 := by rw [and1_u32 y hyl]; omega
            have hz : ((CrcMath.step y : Nat) : Int) = (y : Int) / 2 := by unfold CrcMath.step; rw [if_neg hodd]; rfl
            have HZ := Lib.hid hz; clear hz hodd
            go_wp2
            go_round
            case rel => exact ⟨m + 1, by omega, by go_num, by rw [HS.out, HZ.out]⟩
            case measure => simp [intOf]; omega
        · obtain rfl : m = 8 := by omega
          go_wp2
          go_roundw
          case rel => exact ⟨k + 1, by omega, by go_num, by rw [← HST.out]; rfl⟩
          case measure => simp [intOf]; omega
    · obtain rfl : k = 256 := by omega
      go_wp2_with (first
        | (refine wpList_load_row rfl 134 (.tmp 1) rfl (w.heap.size + 1) rfl 134 (tabs 256) (0, 0) _ H1.out Try.underlying134 rfl tabs_row ?_)
        | (refine wpList_store_row rfl 134 (.tmp 0) (.tmp 24) rfl w.heap.size (tabs 256) rfl rfl 134 (tabs 0) H0.out tabs_row (by rw [tabs_size, tabs_size]) (tabs_one _) ?_))
      refine bodyPost_ret (results_cell_row rfl _ _ w.heap.size 134 (tabs 256) (0, 0) _ rfl (heap_setRow_same _ _ _ _ _ _ H0.out) Try.underlying134 rfl tabs_row) rfl ⟨rfl, ?_⟩
      exact below_setRow (((Below.refl _ _).alloc (Nat.le_refl _) _).alloc (by simp) _) (Nat.le_refl _) _

set_option maxRecDepth 20000 in
set_option maxHeartbeats 400000 in
theorem of_any (s : ByteArray) (w : World) (hs : s.size ≤ maxLen) :
    Calls Try.prog 52 #[.string s] w fun e w' => e = .returned (.int .i64 (crc s.data.toList)) ∧ Below w.heap.size w w' := by
  unfold maxLen at hs
  go_enter Try.func52, Try.ntmps52
  go_wp2_with (first
    | (go_at_call 127; refine (table_any _).mono ?_; rintro e W ⟨rfl, hb⟩)
    | (refine wpList_store_row rfl 134 (.tmp 3) (.tmp 6) rfl W.heap.size (tabs 256) rfl rfl 134 Try.zeroCells134 (heap_alloc_last W _) tabs_row (by rw [tabs_size]; kernel_rfl) (tabs_one _) ?_; rw [World.setRow_alloc_new]))
  go_loop [4, 9] (fun c i => ∃ k : Nat, k ≤ s.size ∧ i = .int .i64 k ∧ c = .int .u32 (reg 4294967295 (s.data.toList.take k))) (fun _ i => s.size - (intOf i).toNat)
  case atStart => exact ⟨0, Nat.zero_le _, rfl, rfl⟩
  case round =>
    obtain ⟨k, hk, rfl, rfl⟩ := hrel
    have hr := reg_lt (x := 4294967295) (by omega) (s.data.toList.take k)
    by_cases hlt : k < s.size
    · have hb : s[k].toNat < 256 := u8_lt _
      have hts := take_snoc s k hlt
      have hbt := byteIn_tab (reg 4294967295 (s.data.toList.take k)) s[k].toNat
      have hrs := reg_snoc 4294967295 (s.data.toList.take k) s[k]
      rw [← hts] at hrs
      have HT := Lib.hid hrs; clear hts hrs
      generalize reg 4294967295 (s.data.toList.take k) = x at hr hbt HT ⊢
      obtain ⟨j, hj⟩ : ∃ j : Nat, j = x % 256 ^^^ s[k].toNat := ⟨_, rfl⟩
      have hjl : j < 256 := by rw [hj]; exact Nat.xor_lt_two_pow (n := 8) (by omega) hb
      have hx : bits .xor .u8 ((x : Int) % 256) (s[k].toNat : Int) = (j : Int) := by rw [hj]; exact xor_u8 (x % 256) _ (by omega) hb
      rw [← hj] at hbt
      have htl : tab j < 4294967296 := steps_lt 8 (by omega)
      have hy : bits .xor .u32 ((x : Int) / 256) ((tab j : Nat) : Int) = ((byteIn x s[k].toNat : Nat) : Int) := by
        rw [hbt]; exact xor_u32 (x / 256) _ (by omega) htl
      have hc : (tabs 256)[j]? = some (.int .u32 ((tab j : Nat) : Int)) := by rw [tabs_at 256 j hjl, if_pos (by omega)]
      clear hbt hj htl
      go_wp2
      go_round
      case rel => exact ⟨k + 1, by omega, by go_num, by rw [HT.out]⟩
      case measure => simp [intOf]; omega
    · have hx : bits .xor .u32 IntKind.u32.max ((reg 4294967295 (s.data.toList.take k) : Nat) : Int) = ((crc s.data.toList : Nat) : Int) := by
        have := xor_u32 4294967295 _ (by omega) hr
        rw [Nat.xor_comm] at this
        rw [List.take_of_length_le (by simp; omega)] at this ⊢
        exact this
      have hc := crc_lt s.data.toList
      have hu : IntKind.u32.signed = false := rfl
      go_wp2
      go_ret
      exact ⟨rfl, hb.alloc hb.size _⟩

set_option maxHeartbeats 400000 in
theorem digits_any (c : Nat) (w : World) (hc : c < 4294967296) :
    Calls Try.prog 126 #[.int .i64 c] w fun e w' => e = .returned (.string (str (digits c))) ∧ Below w.heap.size w w' := by
  have kc := @run_str4 Try.prog 32 9 5 Try.underlying32 Try.underlying5 Try.underlying9
  go_enter Try.func126, Try.ntmps126
  go_wp2
  go_ret
  refine ⟨ret_str (str_eq ?_), (Below.refl _ _).alloc (Nat.le_refl _) _⟩
  rw [strOfNums_data]
  simp only [digits, List.map_cons, List.map_nil]
  rw [u8_of (m := c / 16777216) (by omega), u8_of (m := c / 65536) (by omega), u8_of (m := c / 256) (by omega), u8_of (m := c) (by omega)]

set_option maxHeartbeats 400000 in
theorem seal_any (s : ByteArray) (w : World) (hs : s.size ≤ maxReach) :
    Calls Try.prog 54 #[.string s] w fun e w' => e = .returned (.string (str (seal_ s.data.toList))) ∧ Below w.heap.size w w' := by
  have hc := crc_lt s.data.toList
  have H : ∀ w, Calls Try.prog 52 #[.string s] w fun e w' => e = .returned (.int .i64 (crc s.data.toList)) ∧ Below w.heap.size w w' := fun w => of_any s w (by unfold maxLen; unfold maxReach at hs; omega)
  unfold seal_
  generalize crc s.data.toList = c at hc H ⊢
  have HH := Lib.hid H; clear H
  have hz : (str (digits c)).size = 4 := by rw [str_size, digits_length]
  unfold maxReach at hs
  go_enter Try.func54, Try.ntmps54
  go_wp2_with (first
    | (go_at_call 52; refine (HH.out _).mono ?_; rintro e w1 ⟨rfl, hb1⟩)
    | (go_at_call 126; refine (digits_any _ _ hc).mono ?_; rintro e w2 ⟨rfl, hb2⟩))
  go_ret
  refine ⟨ret_str (str_eq ?_), hb1.trans (hb2.mono hb1.size)⟩
  rw [append_toList]; rfl

theorem open_short {l : List UInt8} (h : l.length < 4) : opened l = [] ∧ code l = 400 := by
  unfold opened code open_; rw [if_pos h]; exact ⟨rfl, rfl⟩
theorem open_yes {l : List UInt8} (h : ¬ l.length < 4) (hd : digits (crc (l.take (l.length - 4))) = l.drop (l.length - 4)) : opened l = l.take (l.length - 4) ∧ code l = 0 := by
  unfold opened code open_; rw [if_neg h, if_pos hd]; exact ⟨rfl, rfl⟩
theorem open_no {l : List UInt8} (h : ¬ l.length < 4) (hd : ¬ digits (crc (l.take (l.length - 4))) = l.drop (l.length - 4)) : opened l = [] ∧ code l = 400 := by
  unfold opened code open_; rw [if_neg h, if_neg hd]; exact ⟨rfl, rfl⟩

set_option maxRecDepth 20000 in
set_option maxHeartbeats 1000000 in
theorem open_any (s : ByteArray) (w : World) (hs : s.size ≤ maxReach) :
    Calls Try.prog 50 #[.string s] w fun e w' => e = .returned (.tuple #[.string (str (opened s.data.toList)), .int .i64 (code s.data.toList)]) ∧ Below w.heap.size w w' := by
  have H : ∀ w, Calls Try.prog 52 #[.string (str (s.data.toList.take (s.size - 4)))] w fun e w' => e = .returned (.int .i64 (crc (s.data.toList.take (s.size - 4)))) ∧ Below w.heap.size w w' := fun w =>
    of_any _ w (by unfold maxLen; unfold maxReach at hs; rw [str_size, List.length_take]; omega)
  have HH := Lib.hid H; clear H
  have hl : s.data.toList.length = s.size := by simp
  have HL := Lib.hid hl; clear hl
  unfold maxReach at hs
  by_cases h4 : s.size < 4
  · have ho := open_short (l := s.data.toList) (by rw [HL.out]; exact h4)
    have HO := Lib.hid ho; clear ho
    have hd : decide ((s.size : Int) - 4 < 0) = true := by simp; omega
    go_enter Try.func50, Try.ntmps50
    go_wp2
    go_quiet (fail)
    go_wp2
    go_ret2
    exact ⟨by rw [HO.out.1, HO.out.2]; rfl, below_drewN (Below.refl _ _) _⟩
  · have hy := open_yes (l := s.data.toList) (by rw [HL.out]; exact h4)
    have hn0 := open_no (l := s.data.toList) (by rw [HL.out]; exact h4)
    rw [HL.out] at hy hn0
    have hx := extract_str s (s.size - 4)
    have hx2 := extract_end s (s.size - 4)
    have hn : ((s.size : Int) - 4).toNat = s.size - 4 := by omega
    have hb0 : (4 : Int) ≤ (s.size : Int) := by omega
    have hb1 : (0 : Int) ≤ (s.size : Int) - 4 := by omega
    have hb2 : (s.size : Int) - 4 ≤ (s.size : Int) := by omega
    have hd : decide ((s.size : Int) - 4 < 0) = false := by simp; omega
    have hq : ∃ c0 : Bool, ((str (digits (crc (s.data.toList.take (s.size - 4))))).toList == (str (s.data.toList.drop (s.size - 4))).toList) = c0 ∧
        (c0 = true ↔ digits (crc (s.data.toList.take (s.size - 4))) = s.data.toList.drop (s.size - 4)) := by
      refine ⟨_, rfl, ?_⟩
      rw [Lib.toList_data, Lib.toList_data]; simp
    obtain ⟨c0, ht, hiff⟩ := hq
    have HI : Hid (if c0 = true then opened s.data.toList = s.data.toList.take (s.size - 4) ∧ code s.data.toList = 0 else opened s.data.toList = [] ∧ code s.data.toList = 400) := by
      show (if c0 = true then _ else _)
      split
      · rename_i h; exact hy (hiff.1 h)
      · rename_i h; exact hn0 fun h2 => h (hiff.2 h2)
    clear hiff hy hn0
    go_enter Try.func50, Try.ntmps50
    go_upto_region 2 with fail
    go_cut [20] (fun c wx => c = .bool (!c0) ∧ Below w.heap.size w wx)
    case first =>
      go_region_held3 (fun _ => True) (exact trivial) (first
        | (go_at_call 52; with_reducible refine (HH.out _).mono ?_; rintro e w1 ⟨rfl, hb1⟩)
        | (go_at_call 126; with_reducible refine (digits_any _ _ (crc_lt _)).mono ?_; rintro e w2 ⟨rfl, hb2⟩))
      all_goals (have hb := ((Below.refl w.heap.size w).drew.trans hb1).trans (hb2.mono hb1.size))
      all_goals (clear hb1 hb2 hx hx2 hn hd ht HH; go_wp2_with fail; go_meet; exact ⟨rfl, hb⟩)
    case rest =>
      obtain ⟨rfl, hb⟩ := hcut
      cases c0 with
      | true =>
        have h := HI.out; clear HI
        rw [if_pos rfl] at h
        have HI := Lib.hid h; clear h
        go_wp2
        go_ret2
        exact ⟨by rw [HI.out.1, HI.out.2]; rfl, hb⟩
      | false =>
        have h := HI.out; clear HI
        rw [if_neg (by simp)] at h
        have HI := Lib.hid h; clear h
        go_wp2
        go_ret2
        exact ⟨by rw [HI.out.1, HI.out.2]; rfl, hb⟩
end Go.Proofs.Ytkkpcdpoldjmkaa.Crc
