/-
  THE WALKS of package utf: may, forms, Rune, First, Valid.
-/
import Derived.Test.YtkkpcdpoldjmkaaPush
import Derived.Test.YtkkpcdpoldjmkaaBits
import Derived.Test.YtkkpcdpoldjmkaaUtfMore
namespace Go.Proofs.Ytkkpcdpoldjmkaa.Utf
open Go.RowKit UtfMath

/-- The rune at a place. -/
def runeAt (l : List UInt8) (a : Int) : Nat × Nat := if a < 0 ∨ (l.length : Int) ≤ a then (0, 0) else rune (l.drop a.toNat)
def mayI (r : Int) : Bool := decide (0 ≤ r ∧ r ≤ 1114111 ∧ (r < 55296 ∨ 57343 < r))
theorem mayI_nat (r : Nat) : mayI (r : Int) = decide (may r) := by
  unfold mayI; exact decide_eq_decide.2 (by unfold may; omega)

set_option maxRecDepth 100000 in
theorem may_any (r : Int) (w : World) : Calls Try.prog 153 #[.int .i64 r] w fun e w' => e = .returned (.bool (mayI r)) ∧ w = w' := by
  unfold mayI
  by_cases h0 : 0 ≤ r
  · by_cases h1 : r ≤ 1114111
    · by_cases h2 : r < 55296
      · have e : decide (0 ≤ r ∧ r ≤ 1114111 ∧ (r < 55296 ∨ 57343 < r)) = true := decide_eq_true ⟨h0, h1, .inl h2⟩
        rw [e]
        go_enter Try.func153, Try.ntmps153
        go_wp2
        go_ret
        exact ⟨rfl, rfl⟩
      · by_cases h3 : 57343 < r
        · have e : decide (0 ≤ r ∧ r ≤ 1114111 ∧ (r < 55296 ∨ 57343 < r)) = true := decide_eq_true ⟨h0, h1, .inr h3⟩
          rw [e]
          go_enter Try.func153, Try.ntmps153
          go_wp2
          go_ret
          exact ⟨rfl, rfl⟩
        · have e : decide (0 ≤ r ∧ r ≤ 1114111 ∧ (r < 55296 ∨ 57343 < r)) = false := decide_eq_false (by omega)
          rw [e]
          have d : decide (57343 < r) = false := decide_eq_false h3
          go_enter Try.func153, Try.ntmps153
          go_wp2
          go_ret
          exact ⟨rfl, rfl⟩
    · have e : decide (0 ≤ r ∧ r ≤ 1114111 ∧ (r < 55296 ∨ 57343 < r)) = false := decide_eq_false (by omega)
      rw [e]
      go_enter Try.func153, Try.ntmps153
      go_wp2
      go_ret
      exact ⟨rfl, rfl⟩
  · have e : decide (0 ≤ r ∧ r ≤ 1114111 ∧ (r < 55296 ∨ 57343 < r)) = false := decide_eq_false (by omega)
    rw [e]
    go_enter Try.func153, Try.ntmps153
    go_wp2
    go_ret
    exact ⟨rfl, rfl⟩

def formsV : Value := .agg #[.int .i64 0, .int .i64 0, .int .i64 0, .int .i64 128, .int .i64 0, .int .i64 0, .int .i64 224, .int .i64 192, .int .i64 128, .int .i64 240, .int .i64 224, .int .i64 2048, .int .i64 248, .int .i64 240, .int .i64 65536]

set_option maxRecDepth 100000 in
theorem forms_any (w : World) : Calls Try.prog 152 #[] w fun e w' => e = .returned formsV ∧ Below w.heap.size w w' := by
  unfold formsV
  go_enter Try.func152, Try.ntmps152
  go_wp2
  refine bodyPost_ret (results_cell_row rfl _ _ w.heap.size 169 _ (0, 0) _ rfl (heap_alloc_new w _) Try.underlying169 rfl (by kernel_rfl)) rfl ?_
  exact ⟨rfl, (Below.refl _ _).alloc (Nat.le_refl _) _⟩

theorem idx0 (W : World) : (Instr.index 169 (.agg #[.int .i64 0, .int .i64 0, .int .i64 0, .int .i64 128, .int .i64 0, .int .i64 0, .int .i64 224, .int .i64 192, .int .i64 128, .int .i64 240, .int .i64 224, .int .i64 2048, .int .i64 248, .int .i64 240, .int .i64 65536]) (.int .i64 0)).run Try.prog W = .ok (.agg #[.int .i64 0, .int .i64 0, .int .i64 0]) W := by kernel_rfl
theorem idx1 (W : World) : (Instr.index 169 (.agg #[.int .i64 0, .int .i64 0, .int .i64 0, .int .i64 128, .int .i64 0, .int .i64 0, .int .i64 224, .int .i64 192, .int .i64 128, .int .i64 240, .int .i64 224, .int .i64 2048, .int .i64 248, .int .i64 240, .int .i64 65536]) (.int .i64 1)).run Try.prog W = .ok (.agg #[.int .i64 128, .int .i64 0, .int .i64 0]) W := by kernel_rfl
theorem idx2 (W : World) : (Instr.index 169 (.agg #[.int .i64 0, .int .i64 0, .int .i64 0, .int .i64 128, .int .i64 0, .int .i64 0, .int .i64 224, .int .i64 192, .int .i64 128, .int .i64 240, .int .i64 224, .int .i64 2048, .int .i64 248, .int .i64 240, .int .i64 65536]) (.int .i64 2)).run Try.prog W = .ok (.agg #[.int .i64 224, .int .i64 192, .int .i64 128]) W := by kernel_rfl
theorem idx3 (W : World) : (Instr.index 169 (.agg #[.int .i64 0, .int .i64 0, .int .i64 0, .int .i64 128, .int .i64 0, .int .i64 0, .int .i64 224, .int .i64 192, .int .i64 128, .int .i64 240, .int .i64 224, .int .i64 2048, .int .i64 248, .int .i64 240, .int .i64 65536]) (.int .i64 3)).run Try.prog W = .ok (.agg #[.int .i64 240, .int .i64 224, .int .i64 2048]) W := by kernel_rfl
theorem idx4 (W : World) : (Instr.index 169 (.agg #[.int .i64 0, .int .i64 0, .int .i64 0, .int .i64 128, .int .i64 0, .int .i64 0, .int .i64 224, .int .i64 192, .int .i64 128, .int .i64 240, .int .i64 224, .int .i64 2048, .int .i64 248, .int .i64 240, .int .i64 65536]) (.int .i64 4)).run Try.prog W = .ok (.agg #[.int .i64 248, .int .i64 240, .int .i64 65536]) W := by kernel_rfl
theorem runeAt_in {l : List UInt8} {a : Nat} (h : a < l.length) : runeAt l (a : Nat) = rune (l.drop a) := by
  unfold runeAt; rw [if_neg (by omega), Int.toNat_natCast]
theorem at_byte (l : List UInt8) (a j : Nat) : byteAt l (a + j) = at_ (l.drop a) j := by rw [at_drop]; rfl

theorem acc_or {x y : Nat} (hx : x < 1099511627776) (hy : y < 64) : bits .or .i64 ((x : Int) * 64) (y : Int) = ((x * 64 + y : Nat) : Int) := by
  have e : ((x : Int) * 64) = ((x * 64 : Nat) : Int) := by push_cast; rfl
  rw [e, or_i64 _ _ (by omega) (by omega)]
  have := Nat.two_pow_add_eq_or_of_lt (show y < 2 ^ 6 by omega) x
  rw [show x * 64 = 2 ^ 6 * x by omega, ← this]


set_option maxRecDepth 1000000 in
set_option maxHeartbeats 16000000 in
theorem rune_any (s : ByteArray) (at_0 : Int) (w : World) (hs : s.size ≤ maxReach) :
    Calls Try.prog 100 #[.string s, .int .i64 at_0] w fun e w' => e = .returned (.tuple #[.int .i64 ((runeAt s.data.toList at_0).1 : Nat), .int .i64 ((runeAt s.data.toList at_0).2 : Nat)]) ∧ Below w.heap.size w w' := by
  unfold maxReach at hs
  have hl : s.data.toList.length = s.size := by simp
  by_cases hout : at_0 < 0 ∨ (s.size : Int) ≤ at_0
  · have e : runeAt s.data.toList at_0 = (0, 0) := by unfold runeAt; rw [if_pos (by rw [hl]; exact hout)]
    rw [e]
    clear e hl
    go_enter Try.func100, Try.ntmps100
    rcases hout with h | h
    · go_wp2
      go_ret2
      exact ⟨rfl, Below.refl _ _⟩
    · by_cases h0 : at_0 < 0
      · go_wp2
        go_ret2
        exact ⟨rfl, Below.refl _ _⟩
      · go_wp2
        go_ret2
        exact ⟨rfl, Below.refl _ _⟩
  obtain ⟨a, rfl⟩ : ∃ a : Nat, at_0 = (a : Nat) := ⟨at_0.toNat, by omega⟩
  have ha : a < s.size := by omega
  clear hout
  rw [runeAt_in (by rw [hl]; exact ha)]
  have hdl : (s.data.toList.drop a).length = s.size - a := by rw [List.length_drop, hl]
  have HDL := Lib.hid hdl; clear hdl hl
  obtain ⟨c, hc⟩ : ∃ c, at_ (s.data.toList.drop a) 0 = c := ⟨_, rfl⟩
  have hc256 : c < 256 := by rw [← hc]; exact at_lt _ _
  have hat := run_at s (a : Nat) a rfl ha
  have hbc : byteAt s.data.toList a = c := by rw [← hc]; have := at_byte s.data.toList a 0; rw [Nat.add_zero] at this; exact this
  rw [hbc] at hat
  have HC := Lib.hid hc; clear hc hbc
  obtain ⟨R, hR⟩ : ∃ R, R = rune (s.data.toList.drop a) := ⟨_, rfl⟩
  rw [← hR]
  have HF := Lib.hid forms_any
  have h1024 : True := trivial
  clear h1024
  have hRR := hR
  have HRR := Lib.hid hRR; clear hRR hR
  go_enter Try.func100, Try.ntmps100
  go_wp2_with (go_at_call 152; with_reducible refine (HF.out _).mono ?_; unfold formsV; rintro e w1 ⟨rfl, hb1⟩)
  go_loopw [19] (fun iv wr => ∃ k : Nat, k ≤ 5 ∧ iv = .int .i64 k ∧ (∀ n, 1 ≤ n → n < k → ¬ cls n c) ∧ Below w.heap.size w wr) (fun iv _ => 5 - (intOf iv).toNat)
  case atStart => exact ⟨0, by omega, rfl, fun n h1 h2 => by omega, hb1⟩
  case round =>
    obtain ⟨k, hk, rfl, hno, hb⟩ := hrel
    have HNO := Lib.hid hno; clear hno
    have hks : k = 0 ∨ k = 1 ∨ k = 2 ∨ k = 3 ∨ k = 4 ∨ k = 5 := by omega
    clear hk
    rcases hks with rfl | rfl | rfl | rfl | rfl | rfl
    · have hix := idx0
      go_wp2
      go_quiet (fail)
      go_wp2
      go_roundw
      case rel => exact ⟨1, by omega, by go_num, fun n h1 h2 => by omega, below_drewN (hb.alloc hb.size _) _⟩
      case measure => simp [intOf]
    ·
      have hix := idx1
      by_cases hcl : cls 1 c
      · have ha : bits .and .i64 (c : Int) 128 = 0 := by
          have h1 := and_i64 c 128 (by omega) (by omega)
          have h2 := (and_mask (n := 1) (by omega) (by omega) hc256).2 hcl
          rw [show maskOf 1 = 128 from rfl, show headOf 1 = 0 from rfl] at h2
          rw [h2] at h1; exact h1
        have hn : bits .andNot .i64 (c : Int) 128 = (acc (s.data.toList.drop a) 1 0 : Nat) := by
          have h1 := andNot_i64 c 128 (by omega) (by omega)
          have h2 := andNot_mask (n := 1) (by omega) (by omega) hc256
          rw [show maskOf 1 = 128 from rfl] at h2
          rw [h2] at h1
          rw [show acc (s.data.toList.drop a) 1 0 = c % (256 - 128) from by show at_ _ 0 % _ = _; rw [HC.out]; rfl]
          exact h1
        have hcl' : cls 1 (at_ (s.data.toList.drop a) 0) := by rw [HC.out]; exact hcl
        have HCL := Lib.hid hcl'; clear hcl' hcl
        by_cases hlen : s.size - a < 1
        · (try (exfalso; omega))
          all_goals
            have hr := rune_cut HCL.out (by rw [HDL.out]; exact hlen)
            have hlen2 : (s.size : Int) - (a : Int) < 1 := by omega
            have HR := Lib.hid hr; clear hr
            go_wp2
            go_quiet (fail)
            go_wp2
            go_ret2
            exact ⟨by rw [HRR.out, HR.out]; rfl, below_drewN (hb.alloc hb.size _) _⟩
        · have hlen2 : (1 : Int) ≤ (s.size : Int) - (a : Int) := by omega
          have hac := acc_lt (s.data.toList.drop a) 1 0
          have HN := Lib.hid hn
          go_wp2
          go_quiet (fail)
          go_wp2
          go_quiet (fail)
          go_wp2
          go_loop [8, 9] (fun rv iv => ∃ j : Nat, 1 ≤ j ∧ j ≤ 1 ∧ iv = .int .i64 ((a : Int) + (j : Int)) ∧ rv = .int .i64 (acc (s.data.toList.drop a) 1 (j - 1) : Nat) ∧ ∀ i, 1 ≤ i → i < j → goes (s.data.toList.drop a) i) (fun _ iv => a + 5 - (intOf iv).toNat)
          case atStart => exact ⟨1, by omega, by omega, by go_num, rfl, fun i h1 h2 => by omega⟩
          case round =>
            obtain ⟨j, hj1, hj2, rfl, rfl, hgo⟩ := hrel
            have hal := acc_lt (s.data.toList.drop a) 1 (j - 1)
            have hpw : 64 ^ (j - 1) ≤ 64 ^ 3 := Nat.pow_le_pow_right (by omega) (by omega)
            have HGO := Lib.hid hgo; clear hgo
            by_cases hjk : j < 1
            · (try (exfalso; omega))
              all_goals
                have hat2 := run_at s ((a : Int) + (j : Int)) (a + j) (by omega) (by omega)
                have hy := byteAt_lt s.data.toList (a + j)
                have hyb := at_byte s.data.toList a j
                have hacc : acc (s.data.toList.drop a) 1 j = acc (s.data.toList.drop a) 1 (j - 1) * 64 + at_ (s.data.toList.drop a) j % 64 := by
                  obtain ⟨q, rfl⟩ : ∃ q, j = q + 1 := ⟨j - 1, by omega⟩
                  rfl
                have hgj : goes (s.data.toList.drop a) j ↔ 128 ≤ at_ (s.data.toList.drop a) j ∧ at_ (s.data.toList.drop a) j < 192 := by
                  unfold goes; rw [HDL.out]; constructor
                  · exact fun h => h.2
                  · exact fun h => ⟨by omega, h⟩
                rw [← hyb] at hacc hgj
                clear hyb
                generalize byteAt s.data.toList (a + j) = y at *
                have h192 := and192_u8 y hy
                have h63 := and63_u8 y hy
                have hor := acc_or (x := acc (s.data.toList.drop a) 1 (j - 1)) (y := y % 64) (by omega) (Nat.mod_lt _ (by omega))
                have hw1 : acc (s.data.toList.drop a) 1 (j - 1) < 67108864 := by omega
                rw [← hacc] at hor
                have HACC := Lib.hid hacc; clear hacc
                have hy64 : y % 64 < 64 := Nat.mod_lt _ (by omega)
                generalize y % 64 = y6 at *
                generalize hA : acc (s.data.toList.drop a) 1 (j - 1) = A at *
                generalize hA' : acc (s.data.toList.drop a) 1 j = A' at *
                have HA := Lib.hid (And.intro hA hA'); clear hA hA'
                by_cases hg : 128 ≤ y ∧ y < 192
                · have hh : y / 64 * 64 = 128 := by omega
                  have hgg := hgj.2 hg
                  rw [hh] at h192
                  have HGG := Lib.hid hgg; clear hgg hgj hg hh
                  go_wp2
                  go_round
                  case rel => exact ⟨j + 1, by omega, by omega, by go_num, by rw [Nat.add_sub_cancel, HA.out.2], fun i h1 h2 => by rcases Nat.lt_or_ge i j with h | h; exact HGO.out i h1 h; exact (show i = j by omega) ▸ HGG.out⟩
                  case measure => simp [intOf]; omega
                · have hr := rune_not_goes HCL.out hj1 hjk (fun h => hg (hgj.1 h))
                  have HR := Lib.hid hr; clear hr
                  have hh : (((y / 64 * 64 : Nat) : Int) != 128) = true := by rw [bne_iff_ne]; omega
                  generalize y / 64 * 64 = yh at *
                  clear hgj hg
                  go_wp2
                  go_ret2
                  exact ⟨by rw [HRR.out, HR.out]; rfl, below_drewN (hb.alloc hb.size _) _⟩
            · obtain rfl : j = 1 := by omega
              have hr := rune_whole HCL.out (by rw [HDL.out]; omega) HGO.out
              have hm := fun w => may_any (acc (s.data.toList.drop a) 1 (1 - 1) : Nat) w
              rw [mayI_nat] at hm
              have hLL : UtfMath.leastOf 1 = 0 := rfl
              rw [hLL] at hr
              clear hal hpw hac hn HN
              generalize acc (s.data.toList.drop a) 1 (1 - 1) = A at *
              have HM := Lib.hid hm; clear hm
              by_cases hls : A < 0
              · (try (exfalso; omega))
                all_goals
                  rw [if_pos (.inl hls)] at hr
                  have HR := Lib.hid hr; clear hr
                  have hls2 : (A : Int) < 0 := by omega
                  clear hls
                  go_wp2
                  all_goals
                    go_ret2
                    exact ⟨by rw [HRR.out, HR.out]; rfl, below_drewN (hb.alloc hb.size _) _⟩
              · by_cases hmy : may A
                · rw [if_neg (fun h => h.elim hls (fun h2 => h2 hmy))] at hr
                  have HR := Lib.hid hr; clear hr
                  have hd : decide (may A) = true := decide_eq_true hmy
                  have hls2 : (0 : Int) ≤ (A : Int) := by omega
                  clear hmy hls
                  go_wp2_with (go_at_call 153; with_reducible refine (HM.out _).mono ?_; rintro e w' ⟨rfl, rfl⟩)
                  all_goals
                    go_ret2
                    exact ⟨by rw [HRR.out, HR.out]; rfl, below_drewN (hb.alloc hb.size _) _⟩
                · rw [if_pos (.inr hmy)] at hr
                  have HR := Lib.hid hr; clear hr
                  have hd : decide (may A) = false := decide_eq_false hmy
                  have hls2 : (0 : Int) ≤ (A : Int) := by omega
                  clear hmy hls
                  go_wp2_with (go_at_call 153; with_reducible refine (HM.out _).mono ?_; rintro e w' ⟨rfl, rfl⟩)
                  all_goals
                    go_ret2
                    exact ⟨by rw [HRR.out, HR.out]; rfl, below_drewN (hb.alloc hb.size _) _⟩
      · have ha : (bits .and .i64 (c : Int) 128 != 0) = true := by
          have h1 := and_i64 c 128 (by omega) (by omega)
          have h2 := fun h => hcl ((and_mask (n := 1) (by omega) (by omega) hc256).1 h)
          rw [show maskOf 1 = 128 from rfl, show headOf 1 = 0 from rfl] at h2
          rw [bne_iff_ne]
          intro h
          rw [show ((128 : Nat) : Int) = 128 from rfl] at h1
          rw [h1] at h
          exact h2 (by exact_mod_cast h)
        have hno : ∀ n, 1 ≤ n → n < 1 + 1 → ¬ cls n c := fun n h1 h2 => by rcases Nat.lt_or_ge n 1 with h | h; exact HNO.out n h1 h; exact (show n = 1 by omega) ▸ hcl
        have HNO2 := Lib.hid hno; clear hno
        go_wp2
        go_quiet (fail)
        go_wp2
        go_roundw
        case rel => exact ⟨1 + 1, by omega, by go_num, HNO2.out, below_drewN (hb.alloc hb.size _) _⟩
        case measure => simp [intOf]
    ·
      have hix := idx2
      by_cases hcl : cls 2 c
      · have ha : bits .and .i64 (c : Int) 224 = 192 := by
          have h1 := and_i64 c 224 (by omega) (by omega)
          have h2 := (and_mask (n := 2) (by omega) (by omega) hc256).2 hcl
          rw [show maskOf 2 = 224 from rfl, show headOf 2 = 192 from rfl] at h2
          rw [h2] at h1; exact h1
        have hn : bits .andNot .i64 (c : Int) 224 = (acc (s.data.toList.drop a) 2 0 : Nat) := by
          have h1 := andNot_i64 c 224 (by omega) (by omega)
          have h2 := andNot_mask (n := 2) (by omega) (by omega) hc256
          rw [show maskOf 2 = 224 from rfl] at h2
          rw [h2] at h1
          rw [show acc (s.data.toList.drop a) 2 0 = c % (256 - 224) from by show at_ _ 0 % _ = _; rw [HC.out]; rfl]
          exact h1
        have hcl' : cls 2 (at_ (s.data.toList.drop a) 0) := by rw [HC.out]; exact hcl
        have HCL := Lib.hid hcl'; clear hcl' hcl
        by_cases hlen : s.size - a < 2
        · (try (exfalso; omega))
          all_goals
            have hr := rune_cut HCL.out (by rw [HDL.out]; exact hlen)
            have hlen2 : (s.size : Int) - (a : Int) < 2 := by omega
            have HR := Lib.hid hr; clear hr
            go_wp2
            go_quiet (fail)
            go_wp2
            go_ret2
            exact ⟨by rw [HRR.out, HR.out]; rfl, below_drewN (hb.alloc hb.size _) _⟩
        · have hlen2 : (2 : Int) ≤ (s.size : Int) - (a : Int) := by omega
          have hac := acc_lt (s.data.toList.drop a) 2 0
          have HN := Lib.hid hn
          go_wp2
          go_quiet (fail)
          go_wp2
          go_quiet (fail)
          go_wp2
          go_loop [8, 9] (fun rv iv => ∃ j : Nat, 1 ≤ j ∧ j ≤ 2 ∧ iv = .int .i64 ((a : Int) + (j : Int)) ∧ rv = .int .i64 (acc (s.data.toList.drop a) 2 (j - 1) : Nat) ∧ ∀ i, 1 ≤ i → i < j → goes (s.data.toList.drop a) i) (fun _ iv => a + 5 - (intOf iv).toNat)
          case atStart => exact ⟨1, by omega, by omega, by go_num, rfl, fun i h1 h2 => by omega⟩
          case round =>
            obtain ⟨j, hj1, hj2, rfl, rfl, hgo⟩ := hrel
            have hal := acc_lt (s.data.toList.drop a) 2 (j - 1)
            have hpw : 64 ^ (j - 1) ≤ 64 ^ 3 := Nat.pow_le_pow_right (by omega) (by omega)
            have HGO := Lib.hid hgo; clear hgo
            by_cases hjk : j < 2
            · (try (exfalso; omega))
              all_goals
                have hat2 := run_at s ((a : Int) + (j : Int)) (a + j) (by omega) (by omega)
                have hy := byteAt_lt s.data.toList (a + j)
                have hyb := at_byte s.data.toList a j
                have hacc : acc (s.data.toList.drop a) 2 j = acc (s.data.toList.drop a) 2 (j - 1) * 64 + at_ (s.data.toList.drop a) j % 64 := by
                  obtain ⟨q, rfl⟩ : ∃ q, j = q + 1 := ⟨j - 1, by omega⟩
                  rfl
                have hgj : goes (s.data.toList.drop a) j ↔ 128 ≤ at_ (s.data.toList.drop a) j ∧ at_ (s.data.toList.drop a) j < 192 := by
                  unfold goes; rw [HDL.out]; constructor
                  · exact fun h => h.2
                  · exact fun h => ⟨by omega, h⟩
                rw [← hyb] at hacc hgj
                clear hyb
                generalize byteAt s.data.toList (a + j) = y at *
                have h192 := and192_u8 y hy
                have h63 := and63_u8 y hy
                have hor := acc_or (x := acc (s.data.toList.drop a) 2 (j - 1)) (y := y % 64) (by omega) (Nat.mod_lt _ (by omega))
                have hw1 : acc (s.data.toList.drop a) 2 (j - 1) < 67108864 := by omega
                rw [← hacc] at hor
                have HACC := Lib.hid hacc; clear hacc
                have hy64 : y % 64 < 64 := Nat.mod_lt _ (by omega)
                generalize y % 64 = y6 at *
                generalize hA : acc (s.data.toList.drop a) 2 (j - 1) = A at *
                generalize hA' : acc (s.data.toList.drop a) 2 j = A' at *
                have HA := Lib.hid (And.intro hA hA'); clear hA hA'
                by_cases hg : 128 ≤ y ∧ y < 192
                · have hh : y / 64 * 64 = 128 := by omega
                  have hgg := hgj.2 hg
                  rw [hh] at h192
                  have HGG := Lib.hid hgg; clear hgg hgj hg hh
                  go_wp2
                  go_round
                  case rel => exact ⟨j + 1, by omega, by omega, by go_num, by rw [Nat.add_sub_cancel, HA.out.2], fun i h1 h2 => by rcases Nat.lt_or_ge i j with h | h; exact HGO.out i h1 h; exact (show i = j by omega) ▸ HGG.out⟩
                  case measure => simp [intOf]; omega
                · have hr := rune_not_goes HCL.out hj1 hjk (fun h => hg (hgj.1 h))
                  have HR := Lib.hid hr; clear hr
                  have hh : (((y / 64 * 64 : Nat) : Int) != 128) = true := by rw [bne_iff_ne]; omega
                  generalize y / 64 * 64 = yh at *
                  clear hgj hg
                  go_wp2
                  go_ret2
                  exact ⟨by rw [HRR.out, HR.out]; rfl, below_drewN (hb.alloc hb.size _) _⟩
            · obtain rfl : j = 2 := by omega
              have hr := rune_whole HCL.out (by rw [HDL.out]; omega) HGO.out
              have hm := fun w => may_any (acc (s.data.toList.drop a) 2 (2 - 1) : Nat) w
              rw [mayI_nat] at hm
              have hLL : UtfMath.leastOf 2 = 128 := rfl
              rw [hLL] at hr
              clear hal hpw hac hn HN
              generalize acc (s.data.toList.drop a) 2 (2 - 1) = A at *
              have HM := Lib.hid hm; clear hm
              by_cases hls : A < 128
              · (try (exfalso; omega))
                all_goals
                  rw [if_pos (.inl hls)] at hr
                  have HR := Lib.hid hr; clear hr
                  have hls2 : (A : Int) < 128 := by omega
                  clear hls
                  go_wp2
                  all_goals
                    go_ret2
                    exact ⟨by rw [HRR.out, HR.out]; rfl, below_drewN (hb.alloc hb.size _) _⟩
              · by_cases hmy : may A
                · rw [if_neg (fun h => h.elim hls (fun h2 => h2 hmy))] at hr
                  have HR := Lib.hid hr; clear hr
                  have hd : decide (may A) = true := decide_eq_true hmy
                  have hls2 : (128 : Int) ≤ (A : Int) := by omega
                  clear hmy hls
                  go_wp2_with (go_at_call 153; with_reducible refine (HM.out _).mono ?_; rintro e w' ⟨rfl, rfl⟩)
                  all_goals
                    go_ret2
                    exact ⟨by rw [HRR.out, HR.out]; rfl, below_drewN (hb.alloc hb.size _) _⟩
                · rw [if_pos (.inr hmy)] at hr
                  have HR := Lib.hid hr; clear hr
                  have hd : decide (may A) = false := decide_eq_false hmy
                  have hls2 : (128 : Int) ≤ (A : Int) := by omega
                  clear hmy hls
                  go_wp2_with (go_at_call 153; with_reducible refine (HM.out _).mono ?_; rintro e w' ⟨rfl, rfl⟩)
                  all_goals
                    go_ret2
                    exact ⟨by rw [HRR.out, HR.out]; rfl, below_drewN (hb.alloc hb.size _) _⟩
      · have ha : (bits .and .i64 (c : Int) 224 != 192) = true := by
          have h1 := and_i64 c 224 (by omega) (by omega)
          have h2 := fun h => hcl ((and_mask (n := 2) (by omega) (by omega) hc256).1 h)
          rw [show maskOf 2 = 224 from rfl, show headOf 2 = 192 from rfl] at h2
          rw [bne_iff_ne]
          intro h
          rw [show ((224 : Nat) : Int) = 224 from rfl] at h1
          rw [h1] at h
          exact h2 (by exact_mod_cast h)
        have hno : ∀ n, 1 ≤ n → n < 2 + 1 → ¬ cls n c := fun n h1 h2 => by rcases Nat.lt_or_ge n 2 with h | h; exact HNO.out n h1 h; exact (show n = 2 by omega) ▸ hcl
        have HNO2 := Lib.hid hno; clear hno
        go_wp2
        go_quiet (fail)
        go_wp2
        go_roundw
        case rel => exact ⟨2 + 1, by omega, by go_num, HNO2.out, below_drewN (hb.alloc hb.size _) _⟩
        case measure => simp [intOf]
    ·
      have hix := idx3
      by_cases hcl : cls 3 c
      · have ha : bits .and .i64 (c : Int) 240 = 224 := by
          have h1 := and_i64 c 240 (by omega) (by omega)
          have h2 := (and_mask (n := 3) (by omega) (by omega) hc256).2 hcl
          rw [show maskOf 3 = 240 from rfl, show headOf 3 = 224 from rfl] at h2
          rw [h2] at h1; exact h1
        have hn : bits .andNot .i64 (c : Int) 240 = (acc (s.data.toList.drop a) 3 0 : Nat) := by
          have h1 := andNot_i64 c 240 (by omega) (by omega)
          have h2 := andNot_mask (n := 3) (by omega) (by omega) hc256
          rw [show maskOf 3 = 240 from rfl] at h2
          rw [h2] at h1
          rw [show acc (s.data.toList.drop a) 3 0 = c % (256 - 240) from by show at_ _ 0 % _ = _; rw [HC.out]; rfl]
          exact h1
        have hcl' : cls 3 (at_ (s.data.toList.drop a) 0) := by rw [HC.out]; exact hcl
        have HCL := Lib.hid hcl'; clear hcl' hcl
        by_cases hlen : s.size - a < 3
        · (try (exfalso; omega))
          all_goals
            have hr := rune_cut HCL.out (by rw [HDL.out]; exact hlen)
            have hlen2 : (s.size : Int) - (a : Int) < 3 := by omega
            have HR := Lib.hid hr; clear hr
            go_wp2
            go_quiet (fail)
            go_wp2
            go_ret2
            exact ⟨by rw [HRR.out, HR.out]; rfl, below_drewN (hb.alloc hb.size _) _⟩
        · have hlen2 : (3 : Int) ≤ (s.size : Int) - (a : Int) := by omega
          have hac := acc_lt (s.data.toList.drop a) 3 0
          have HN := Lib.hid hn
          go_wp2
          go_quiet (fail)
          go_wp2
          go_quiet (fail)
          go_wp2
          go_loop [8, 9] (fun rv iv => ∃ j : Nat, 1 ≤ j ∧ j ≤ 3 ∧ iv = .int .i64 ((a : Int) + (j : Int)) ∧ rv = .int .i64 (acc (s.data.toList.drop a) 3 (j - 1) : Nat) ∧ ∀ i, 1 ≤ i → i < j → goes (s.data.toList.drop a) i) (fun _ iv => a + 5 - (intOf iv).toNat)
          case atStart => exact ⟨1, by omega, by omega, by go_num, rfl, fun i h1 h2 => by omega⟩
          case round =>
            obtain ⟨j, hj1, hj2, rfl, rfl, hgo⟩ := hrel
            have hal := acc_lt (s.data.toList.drop a) 3 (j - 1)
            have hpw : 64 ^ (j - 1) ≤ 64 ^ 3 := Nat.pow_le_pow_right (by omega) (by omega)
            have HGO := Lib.hid hgo; clear hgo
            by_cases hjk : j < 3
            · (try (exfalso; omega))
              all_goals
                have hat2 := run_at s ((a : Int) + (j : Int)) (a + j) (by omega) (by omega)
                have hy := byteAt_lt s.data.toList (a + j)
                have hyb := at_byte s.data.toList a j
                have hacc : acc (s.data.toList.drop a) 3 j = acc (s.data.toList.drop a) 3 (j - 1) * 64 + at_ (s.data.toList.drop a) j % 64 := by
                  obtain ⟨q, rfl⟩ : ∃ q, j = q + 1 := ⟨j - 1, by omega⟩
                  rfl
                have hgj : goes (s.data.toList.drop a) j ↔ 128 ≤ at_ (s.data.toList.drop a) j ∧ at_ (s.data.toList.drop a) j < 192 := by
                  unfold goes; rw [HDL.out]; constructor
                  · exact fun h => h.2
                  · exact fun h => ⟨by omega, h⟩
                rw [← hyb] at hacc hgj
                clear hyb
                generalize byteAt s.data.toList (a + j) = y at *
                have h192 := and192_u8 y hy
                have h63 := and63_u8 y hy
                have hor := acc_or (x := acc (s.data.toList.drop a) 3 (j - 1)) (y := y % 64) (by omega) (Nat.mod_lt _ (by omega))
                have hw1 : acc (s.data.toList.drop a) 3 (j - 1) < 67108864 := by omega
                rw [← hacc] at hor
                have HACC := Lib.hid hacc; clear hacc
                have hy64 : y % 64 < 64 := Nat.mod_lt _ (by omega)
                generalize y % 64 = y6 at *
                generalize hA : acc (s.data.toList.drop a) 3 (j - 1) = A at *
                generalize hA' : acc (s.data.toList.drop a) 3 j = A' at *
                have HA := Lib.hid (And.intro hA hA'); clear hA hA'
                by_cases hg : 128 ≤ y ∧ y < 192
                · have hh : y / 64 * 64 = 128 := by omega
                  have hgg := hgj.2 hg
                  rw [hh] at h192
                  have HGG := Lib.hid hgg; clear hgg hgj hg hh
                  go_wp2
                  go_round
                  case rel => exact ⟨j + 1, by omega, by omega, by go_num, by rw [Nat.add_sub_cancel, HA.out.2], fun i h1 h2 => by rcases Nat.lt_or_ge i j with h | h; exact HGO.out i h1 h; exact (show i = j by omega) ▸ HGG.out⟩
                  case measure => simp [intOf]; omega
                · have hr := rune_not_goes HCL.out hj1 hjk (fun h => hg (hgj.1 h))
                  have HR := Lib.hid hr; clear hr
                  have hh : (((y / 64 * 64 : Nat) : Int) != 128) = true := by rw [bne_iff_ne]; omega
                  generalize y / 64 * 64 = yh at *
                  clear hgj hg
                  go_wp2
                  go_ret2
                  exact ⟨by rw [HRR.out, HR.out]; rfl, below_drewN (hb.alloc hb.size _) _⟩
            · obtain rfl : j = 3 := by omega
              have hr := rune_whole HCL.out (by rw [HDL.out]; omega) HGO.out
              have hm := fun w => may_any (acc (s.data.toList.drop a) 3 (3 - 1) : Nat) w
              rw [mayI_nat] at hm
              have hLL : UtfMath.leastOf 3 = 2048 := rfl
              rw [hLL] at hr
              clear hal hpw hac hn HN
              generalize acc (s.data.toList.drop a) 3 (3 - 1) = A at *
              have HM := Lib.hid hm; clear hm
              by_cases hls : A < 2048
              · (try (exfalso; omega))
                all_goals
                  rw [if_pos (.inl hls)] at hr
                  have HR := Lib.hid hr; clear hr
                  have hls2 : (A : Int) < 2048 := by omega
                  clear hls
                  go_wp2
                  all_goals
                    go_ret2
                    exact ⟨by rw [HRR.out, HR.out]; rfl, below_drewN (hb.alloc hb.size _) _⟩
              · by_cases hmy : may A
                · rw [if_neg (fun h => h.elim hls (fun h2 => h2 hmy))] at hr
                  have HR := Lib.hid hr; clear hr
                  have hd : decide (may A) = true := decide_eq_true hmy
                  have hls2 : (2048 : Int) ≤ (A : Int) := by omega
                  clear hmy hls
                  go_wp2_with (go_at_call 153; with_reducible refine (HM.out _).mono ?_; rintro e w' ⟨rfl, rfl⟩)
                  all_goals
                    go_ret2
                    exact ⟨by rw [HRR.out, HR.out]; rfl, below_drewN (hb.alloc hb.size _) _⟩
                · rw [if_pos (.inr hmy)] at hr
                  have HR := Lib.hid hr; clear hr
                  have hd : decide (may A) = false := decide_eq_false hmy
                  have hls2 : (2048 : Int) ≤ (A : Int) := by omega
                  clear hmy hls
                  go_wp2_with (go_at_call 153; with_reducible refine (HM.out _).mono ?_; rintro e w' ⟨rfl, rfl⟩)
                  all_goals
                    go_ret2
                    exact ⟨by rw [HRR.out, HR.out]; rfl, below_drewN (hb.alloc hb.size _) _⟩
      · have ha : (bits .and .i64 (c : Int) 240 != 224) = true := by
          have h1 := and_i64 c 240 (by omega) (by omega)
          have h2 := fun h => hcl ((and_mask (n := 3) (by omega) (by omega) hc256).1 h)
          rw [show maskOf 3 = 240 from rfl, show headOf 3 = 224 from rfl] at h2
          rw [bne_iff_ne]
          intro h
          rw [show ((240 : Nat) : Int) = 240 from rfl] at h1
          rw [h1] at h
          exact h2 (by exact_mod_cast h)
        have hno : ∀ n, 1 ≤ n → n < 3 + 1 → ¬ cls n c := fun n h1 h2 => by rcases Nat.lt_or_ge n 3 with h | h; exact HNO.out n h1 h; exact (show n = 3 by omega) ▸ hcl
        have HNO2 := Lib.hid hno; clear hno
        go_wp2
        go_quiet (fail)
        go_wp2
        go_roundw
        case rel => exact ⟨3 + 1, by omega, by go_num, HNO2.out, below_drewN (hb.alloc hb.size _) _⟩
        case measure => simp [intOf]
    ·
      have hix := idx4
      by_cases hcl : cls 4 c
      · have ha : bits .and .i64 (c : Int) 248 = 240 := by
          have h1 := and_i64 c 248 (by omega) (by omega)
          have h2 := (and_mask (n := 4) (by omega) (by omega) hc256).2 hcl
          rw [show maskOf 4 = 248 from rfl, show headOf 4 = 240 from rfl] at h2
          rw [h2] at h1; exact h1
        have hn : bits .andNot .i64 (c : Int) 248 = (acc (s.data.toList.drop a) 4 0 : Nat) := by
          have h1 := andNot_i64 c 248 (by omega) (by omega)
          have h2 := andNot_mask (n := 4) (by omega) (by omega) hc256
          rw [show maskOf 4 = 248 from rfl] at h2
          rw [h2] at h1
          rw [show acc (s.data.toList.drop a) 4 0 = c % (256 - 248) from by show at_ _ 0 % _ = _; rw [HC.out]; rfl]
          exact h1
        have hcl' : cls 4 (at_ (s.data.toList.drop a) 0) := by rw [HC.out]; exact hcl
        have HCL := Lib.hid hcl'; clear hcl' hcl
        by_cases hlen : s.size - a < 4
        · (try (exfalso; omega))
          all_goals
            have hr := rune_cut HCL.out (by rw [HDL.out]; exact hlen)
            have hlen2 : (s.size : Int) - (a : Int) < 4 := by omega
            have HR := Lib.hid hr; clear hr
            go_wp2
            go_quiet (fail)
            go_wp2
            go_ret2
            exact ⟨by rw [HRR.out, HR.out]; rfl, below_drewN (hb.alloc hb.size _) _⟩
        · have hlen2 : (4 : Int) ≤ (s.size : Int) - (a : Int) := by omega
          have hac := acc_lt (s.data.toList.drop a) 4 0
          have HN := Lib.hid hn
          go_wp2
          go_quiet (fail)
          go_wp2
          go_quiet (fail)
          go_wp2
          go_loop [8, 9] (fun rv iv => ∃ j : Nat, 1 ≤ j ∧ j ≤ 4 ∧ iv = .int .i64 ((a : Int) + (j : Int)) ∧ rv = .int .i64 (acc (s.data.toList.drop a) 4 (j - 1) : Nat) ∧ ∀ i, 1 ≤ i → i < j → goes (s.data.toList.drop a) i) (fun _ iv => a + 5 - (intOf iv).toNat)
          case atStart => exact ⟨1, by omega, by omega, by go_num, rfl, fun i h1 h2 => by omega⟩
          case round =>
            obtain ⟨j, hj1, hj2, rfl, rfl, hgo⟩ := hrel
            have hal := acc_lt (s.data.toList.drop a) 4 (j - 1)
            have hpw : 64 ^ (j - 1) ≤ 64 ^ 3 := Nat.pow_le_pow_right (by omega) (by omega)
            have HGO := Lib.hid hgo; clear hgo
            by_cases hjk : j < 4
            · (try (exfalso; omega))
              all_goals
                have hat2 := run_at s ((a : Int) + (j : Int)) (a + j) (by omega) (by omega)
                have hy := byteAt_lt s.data.toList (a + j)
                have hyb := at_byte s.data.toList a j
                have hacc : acc (s.data.toList.drop a) 4 j = acc (s.data.toList.drop a) 4 (j - 1) * 64 + at_ (s.data.toList.drop a) j % 64 := by
                  obtain ⟨q, rfl⟩ : ∃ q, j = q + 1 := ⟨j - 1, by omega⟩
                  rfl
                have hgj : goes (s.data.toList.drop a) j ↔ 128 ≤ at_ (s.data.toList.drop a) j ∧ at_ (s.data.toList.drop a) j < 192 := by
                  unfold goes; rw [HDL.out]; constructor
                  · exact fun h => h.2
                  · exact fun h => ⟨by omega, h⟩
                rw [← hyb] at hacc hgj
                clear hyb
                generalize byteAt s.data.toList (a + j) = y at *
                have h192 := and192_u8 y hy
                have h63 := and63_u8 y hy
                have hor := acc_or (x := acc (s.data.toList.drop a) 4 (j - 1)) (y := y % 64) (by omega) (Nat.mod_lt _ (by omega))
                have hw1 : acc (s.data.toList.drop a) 4 (j - 1) < 67108864 := by omega
                rw [← hacc] at hor
                have HACC := Lib.hid hacc; clear hacc
                have hy64 : y % 64 < 64 := Nat.mod_lt _ (by omega)
                generalize y % 64 = y6 at *
                generalize hA : acc (s.data.toList.drop a) 4 (j - 1) = A at *
                generalize hA' : acc (s.data.toList.drop a) 4 j = A' at *
                have HA := Lib.hid (And.intro hA hA'); clear hA hA'
                by_cases hg : 128 ≤ y ∧ y < 192
                · have hh : y / 64 * 64 = 128 := by omega
                  have hgg := hgj.2 hg
                  rw [hh] at h192
                  have HGG := Lib.hid hgg; clear hgg hgj hg hh
                  go_wp2
                  go_round
                  case rel => exact ⟨j + 1, by omega, by omega, by go_num, by rw [Nat.add_sub_cancel, HA.out.2], fun i h1 h2 => by rcases Nat.lt_or_ge i j with h | h; exact HGO.out i h1 h; exact (show i = j by omega) ▸ HGG.out⟩
                  case measure => simp [intOf]; omega
                · have hr := rune_not_goes HCL.out hj1 hjk (fun h => hg (hgj.1 h))
                  have HR := Lib.hid hr; clear hr
                  have hh : (((y / 64 * 64 : Nat) : Int) != 128) = true := by rw [bne_iff_ne]; omega
                  generalize y / 64 * 64 = yh at *
                  clear hgj hg
                  go_wp2
                  go_ret2
                  exact ⟨by rw [HRR.out, HR.out]; rfl, below_drewN (hb.alloc hb.size _) _⟩
            · obtain rfl : j = 4 := by omega
              have hr := rune_whole HCL.out (by rw [HDL.out]; omega) HGO.out
              have hm := fun w => may_any (acc (s.data.toList.drop a) 4 (4 - 1) : Nat) w
              rw [mayI_nat] at hm
              have hLL : UtfMath.leastOf 4 = 65536 := rfl
              rw [hLL] at hr
              clear hal hpw hac hn HN
              generalize acc (s.data.toList.drop a) 4 (4 - 1) = A at *
              have HM := Lib.hid hm; clear hm
              by_cases hls : A < 65536
              · (try (exfalso; omega))
                all_goals
                  rw [if_pos (.inl hls)] at hr
                  have HR := Lib.hid hr; clear hr
                  have hls2 : (A : Int) < 65536 := by omega
                  clear hls
                  go_wp2
                  all_goals
                    go_ret2
                    exact ⟨by rw [HRR.out, HR.out]; rfl, below_drewN (hb.alloc hb.size _) _⟩
              · by_cases hmy : may A
                · rw [if_neg (fun h => h.elim hls (fun h2 => h2 hmy))] at hr
                  have HR := Lib.hid hr; clear hr
                  have hd : decide (may A) = true := decide_eq_true hmy
                  have hls2 : (65536 : Int) ≤ (A : Int) := by omega
                  clear hmy hls
                  go_wp2_with (go_at_call 153; with_reducible refine (HM.out _).mono ?_; rintro e w' ⟨rfl, rfl⟩)
                  all_goals
                    go_ret2
                    exact ⟨by rw [HRR.out, HR.out]; rfl, below_drewN (hb.alloc hb.size _) _⟩
                · rw [if_pos (.inr hmy)] at hr
                  have HR := Lib.hid hr; clear hr
                  have hd : decide (may A) = false := decide_eq_false hmy
                  have hls2 : (65536 : Int) ≤ (A : Int) := by omega
                  clear hmy hls
                  go_wp2_with (go_at_call 153; with_reducible refine (HM.out _).mono ?_; rintro e w' ⟨rfl, rfl⟩)
                  all_goals
                    go_ret2
                    exact ⟨by rw [HRR.out, HR.out]; rfl, below_drewN (hb.alloc hb.size _) _⟩
      · have ha : (bits .and .i64 (c : Int) 248 != 240) = true := by
          have h1 := and_i64 c 248 (by omega) (by omega)
          have h2 := fun h => hcl ((and_mask (n := 4) (by omega) (by omega) hc256).1 h)
          rw [show maskOf 4 = 248 from rfl, show headOf 4 = 240 from rfl] at h2
          rw [bne_iff_ne]
          intro h
          rw [show ((248 : Nat) : Int) = 248 from rfl] at h1
          rw [h1] at h
          exact h2 (by exact_mod_cast h)
        have hno : ∀ n, 1 ≤ n → n < 4 + 1 → ¬ cls n c := fun n h1 h2 => by rcases Nat.lt_or_ge n 4 with h | h; exact HNO.out n h1 h; exact (show n = 4 by omega) ▸ hcl
        have HNO2 := Lib.hid hno; clear hno
        go_wp2
        go_quiet (fail)
        go_wp2
        go_roundw
        case rel => exact ⟨4 + 1, by omega, by go_num, HNO2.out, below_drewN (hb.alloc hb.size _) _⟩
        case measure => simp [intOf]
    · have hr := rune_none (l := s.data.toList.drop a) (fun n h1 h2 => by rw [HC.out]; exact HNO.out n h1 (by omega))
      have HR := Lib.hid hr; clear hr
      go_wp2
      go_ret2
      exact ⟨by rw [HRR.out, HR.out]; rfl, hb⟩
end Go.Proofs.Ytkkpcdpoldjmkaa.Utf
