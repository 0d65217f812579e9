/-
  Lemmas of this claim, text behind text: UtfProg, CrcRef, CrcProg, UtfProg2. Each states its own conditions.
-/
import Derived.Deep.RegionHeld3
import Derived.Deep.DeepCutAuto
import Derived.Test.YtgmemdedpklnhaaGreatPart01
import Derived.Test.YtgmemdedpklnhaaGreatPart02
import Derived.Test.YtgmemdedpklnhaaGreatPart03

/-
  THE WALKS of package utf: may, forms, Rune, First, Valid.
-/



namespace Go.Proofs.YtgmemdedpklnhaaGreat.Utf
open Go.RowKit UtfMath

/-- The rune at a place. -/
def runeAt (l : List UInt8) (a : Int) : Nat × Nat := if a < 0 ∨ (l.length : Int) ≤ a then (0, 0) else rune (l.drop a.toNat)
def mayI (r : Int) : Bool := decide (0 ≤ r ∧ r ≤ 1114111 ∧ (r < 55296 ∨ 57343 < r))
theorem mayI_nat (r : Nat) : mayI (r : Int) = decide (may r) := by
  unfold mayI; exact decide_eq_decide.2 (by unfold may; omega)

set_option maxRecDepth 100000 in
theorem may_any (r : Int) (w : World) : Calls Tryz.prog 121 #[.int .i64 r] w fun e w' => e = .returned (.bool (mayI r)) ∧ w = w' := by
  unfold mayI
  by_cases h0 : 0 ≤ r
  · by_cases h1 : r ≤ 1114111
    · by_cases h2 : r < 55296
      · have e : decide (0 ≤ r ∧ r ≤ 1114111 ∧ (r < 55296 ∨ 57343 < r)) = true := decide_eq_true ⟨h0, h1, .inl h2⟩
        rw [e]
        go_enter Tryz.func121, Tryz.ntmps121
        go_wp2
        go_ret
        exact ⟨rfl, rfl⟩
      · by_cases h3 : 57343 < r
        · have e : decide (0 ≤ r ∧ r ≤ 1114111 ∧ (r < 55296 ∨ 57343 < r)) = true := decide_eq_true ⟨h0, h1, .inr h3⟩
          rw [e]
          go_enter Tryz.func121, Tryz.ntmps121
          go_wp2
          go_ret
          exact ⟨rfl, rfl⟩
        · have e : decide (0 ≤ r ∧ r ≤ 1114111 ∧ (r < 55296 ∨ 57343 < r)) = false := decide_eq_false (by omega)
          rw [e]
          have d : decide (57343 < r) = false := decide_eq_false h3
          go_enter Tryz.func121, Tryz.ntmps121
          go_wp2
          go_ret
          exact ⟨rfl, rfl⟩
    · have e : decide (0 ≤ r ∧ r ≤ 1114111 ∧ (r < 55296 ∨ 57343 < r)) = false := decide_eq_false (by omega)
      rw [e]
      go_enter Tryz.func121, Tryz.ntmps121
      go_wp2
      go_ret
      exact ⟨rfl, rfl⟩
  · have e : decide (0 ≤ r ∧ r ≤ 1114111 ∧ (r < 55296 ∨ 57343 < r)) = false := decide_eq_false (by omega)
    rw [e]
    go_enter Tryz.func121, Tryz.ntmps121
    go_wp2
    go_ret
    exact ⟨rfl, rfl⟩

def formsV : Value := .agg #[.int .i64 0, .int .i64 0, .int .i64 0, .int .i64 128, .int .i64 0, .int .i64 0, .int .i64 224, .int .i64 192, .int .i64 128, .int .i64 240, .int .i64 224, .int .i64 2048, .int .i64 248, .int .i64 240, .int .i64 65536]

set_option maxRecDepth 100000 in
theorem forms_any (w : World) : Calls Tryz.prog 120 #[] w fun e w' => e = .returned formsV ∧ Below w.heap.size w w' := by
  unfold formsV
  go_enter Tryz.func120, Tryz.ntmps120
  go_wp2
  refine bodyPost_ret (results_cell_row rfl _ _ w.heap.size 159 _ (0, 0) _ rfl (heap_alloc_new w _) Tryz.underlying159 rfl (by kernel_rfl)) rfl ?_
  exact ⟨rfl, (Below.refl _ _).alloc (Nat.le_refl _) _⟩

theorem idx0 (W : World) : (Instr.index 159 (.agg #[.int .i64 0, .int .i64 0, .int .i64 0, .int .i64 128, .int .i64 0, .int .i64 0, .int .i64 224, .int .i64 192, .int .i64 128, .int .i64 240, .int .i64 224, .int .i64 2048, .int .i64 248, .int .i64 240, .int .i64 65536]) (.int .i64 0)).run Tryz.prog W = .ok (.agg #[.int .i64 0, .int .i64 0, .int .i64 0]) W := by kernel_rfl
theorem idx1 (W : World) : (Instr.index 159 (.agg #[.int .i64 0, .int .i64 0, .int .i64 0, .int .i64 128, .int .i64 0, .int .i64 0, .int .i64 224, .int .i64 192, .int .i64 128, .int .i64 240, .int .i64 224, .int .i64 2048, .int .i64 248, .int .i64 240, .int .i64 65536]) (.int .i64 1)).run Tryz.prog W = .ok (.agg #[.int .i64 128, .int .i64 0, .int .i64 0]) W := by kernel_rfl
theorem idx2 (W : World) : (Instr.index 159 (.agg #[.int .i64 0, .int .i64 0, .int .i64 0, .int .i64 128, .int .i64 0, .int .i64 0, .int .i64 224, .int .i64 192, .int .i64 128, .int .i64 240, .int .i64 224, .int .i64 2048, .int .i64 248, .int .i64 240, .int .i64 65536]) (.int .i64 2)).run Tryz.prog W = .ok (.agg #[.int .i64 224, .int .i64 192, .int .i64 128]) W := by kernel_rfl
theorem idx3 (W : World) : (Instr.index 159 (.agg #[.int .i64 0, .int .i64 0, .int .i64 0, .int .i64 128, .int .i64 0, .int .i64 0, .int .i64 224, .int .i64 192, .int .i64 128, .int .i64 240, .int .i64 224, .int .i64 2048, .int .i64 248, .int .i64 240, .int .i64 65536]) (.int .i64 3)).run Tryz.prog W = .ok (.agg #[.int .i64 240, .int .i64 224, .int .i64 2048]) W := by kernel_rfl
theorem idx4 (W : World) : (Instr.index 159 (.agg #[.int .i64 0, .int .i64 0, .int .i64 0, .int .i64 128, .int .i64 0, .int .i64 0, .int .i64 224, .int .i64 192, .int .i64 128, .int .i64 240, .int .i64 224, .int .i64 2048, .int .i64 248, .int .i64 240, .int .i64 65536]) (.int .i64 4)).run Tryz.prog W = .ok (.agg #[.int .i64 248, .int .i64 240, .int .i64 65536]) W := by kernel_rfl
theorem runeAt_in {l : List UInt8} {a : Nat} (h : a < l.length) : runeAt l (a : Nat) = rune (l.drop a) := by
  unfold runeAt; rw [if_neg (by omega), Int.toNat_natCast]
theorem at_byte (l : List UInt8) (a j : Nat) : byteAt l (a + j) = at_ (l.drop a) j := by rw [at_drop]; rfl

theorem acc_or {x y : Nat} (hx : x < 1099511627776) (hy : y < 64) : bits .or .i64 ((x : Int) * 64) (y : Int) = ((x * 64 + y : Nat) : Int) := by
  have e : ((x : Int) * 64) = ((x * 64 : Nat) : Int) := by push_cast; rfl
  rw [e, or_i64 _ _ (by omega) (by omega)]
  have := Nat.two_pow_add_eq_or_of_lt (show y < 2 ^ 6 by omega) x
  rw [show x * 64 = 2 ^ 6 * x by omega, ← this]


set_option maxRecDepth 1000000 in
set_option maxHeartbeats 16000000 in
theorem rune_any (s : ByteArray) (at_0 : Int) (w : World) (hs : s.size ≤ maxReach) :
    Calls Tryz.prog 115 #[.string s, .int .i64 at_0] w fun e w' => e = .returned (.tuple #[.int .i64 ((runeAt s.data.toList at_0).1 : Nat), .int .i64 ((runeAt s.data.toList at_0).2 : Nat)]) ∧ Below w.heap.size w w' := by
  unfold maxReach at hs
  have hl : s.data.toList.length = s.size := by simp
  by_cases hout : at_0 < 0 ∨ (s.size : Int) ≤ at_0
  · have e : runeAt s.data.toList at_0 = (0, 0) := by unfold runeAt; rw [if_pos (by rw [hl]; exact hout)]
    rw [e]
    clear e hl
    go_enter Tryz.func115, Tryz.ntmps115
    rcases hout with h | h
    · go_wp2
      go_ret2
      exact ⟨rfl, Below.refl _ _⟩
    · by_cases h0 : at_0 < 0
      · go_wp2
        go_ret2
        exact ⟨rfl, Below.refl _ _⟩
      · go_wp2
        go_ret2
        exact ⟨rfl, Below.refl _ _⟩
  obtain ⟨a, rfl⟩ : ∃ a : Nat, at_0 = (a : Nat) := ⟨at_0.toNat, by omega⟩
  have ha : a < s.size := by omega
  clear hout
  rw [runeAt_in (by rw [hl]; exact ha)]
  have hdl : (s.data.toList.drop a).length = s.size - a := by rw [List.length_drop, hl]
  have HDL := Lib.hid hdl; clear hdl hl
  obtain ⟨c, hc⟩ : ∃ c, at_ (s.data.toList.drop a) 0 = c := ⟨_, rfl⟩
  have hc256 : c < 256 := by rw [← hc]; exact at_lt _ _
  have hat := run_at s (a : Nat) a rfl ha
  have hbc : byteAt s.data.toList a = c := by rw [← hc]; have := at_byte s.data.toList a 0; rw [Nat.add_zero] at this; exact this
  rw [hbc] at hat
  have HC := Lib.hid hc; clear hc hbc
  obtain ⟨R, hR⟩ : ∃ R, R = rune (s.data.toList.drop a) := ⟨_, rfl⟩
  rw [← hR]
  have HF := Lib.hid forms_any
  have h1024 : True := trivial
  clear h1024
  have hRR := hR
  have HRR := Lib.hid hRR; clear hRR hR
  go_enter Tryz.func115, Tryz.ntmps115
  go_wp2_with (go_at_call 120; with_reducible refine (HF.out _).mono ?_; unfold formsV; rintro e w1 ⟨rfl, hb1⟩)
  go_loopw [19] (fun iv wr => ∃ k : Nat, k ≤ 5 ∧ iv = .int .i64 k ∧ (∀ n, 1 ≤ n → n < k → ¬ cls n c) ∧ Below w.heap.size w wr) (fun iv _ => 5 - (intOf iv).toNat)
  case atStart => exact ⟨0, by omega, rfl, fun n h1 h2 => by omega, hb1⟩
  case round =>
    obtain ⟨k, hk, rfl, hno, hb⟩ := hrel
    have HNO := Lib.hid hno; clear hno
    have hks : k = 0 ∨ k = 1 ∨ k = 2 ∨ k = 3 ∨ k = 4 ∨ k = 5 := by omega
    clear hk
    rcases hks with rfl | rfl | rfl | rfl | rfl | rfl
    · have hix := idx0
      go_wp2
      go_quiet (fail)
      go_wp2
      go_roundw
      case rel => exact ⟨1, by omega, by go_num, fun n h1 h2 => by omega, below_drewN (hb.alloc hb.size _) _⟩
      case measure => simp [intOf]
    ·
      have hix := idx1
      by_cases hcl : cls 1 c
      · have ha : bits .and .i64 (c : Int) 128 = 0 := by
          have h1 := and_i64 c 128 (by omega) (by omega)
          have h2 := (and_mask (n := 1) (by omega) (by omega) hc256).2 hcl
          rw [show maskOf 1 = 128 from rfl, show headOf 1 = 0 from rfl] at h2
          rw [h2] at h1; exact h1
        have hn : bits .andNot .i64 (c : Int) 128 = (acc (s.data.toList.drop a) 1 0 : Nat) := by
          have h1 := andNot_i64 c 128 (by omega) (by omega)
          have h2 := andNot_mask (n := 1) (by omega) (by omega) hc256
          rw [show maskOf 1 = 128 from rfl] at h2
          rw [h2] at h1
          rw [show acc (s.data.toList.drop a) 1 0 = c % (256 - 128) from by show at_ _ 0 % _ = _; rw [HC.out]; rfl]
          exact h1
        have hcl' : cls 1 (at_ (s.data.toList.drop a) 0) := by rw [HC.out]; exact hcl
        have HCL := Lib.hid hcl'; clear hcl' hcl
        by_cases hlen : s.size - a < 1
        · (try (exfalso; omega))
          all_goals
            have hr := rune_cut HCL.out (by rw [HDL.out]; exact hlen)
            have hlen2 : (s.size : Int) - (a : Int) < 1 := by omega
            have HR := Lib.hid hr; clear hr
            go_wp2
            go_quiet (fail)
            go_wp2
            go_ret2
            exact ⟨by rw [HRR.out, HR.out]; rfl, below_drewN (hb.alloc hb.size _) _⟩
        · have hlen2 : (1 : Int) ≤ (s.size : Int) - (a : Int) := by omega
          have hac := acc_lt (s.data.toList.drop a) 1 0
          have HN := Lib.hid hn
          go_wp2
          go_quiet (fail)
          go_wp2
          go_quiet (fail)
          go_wp2
          go_loop [8, 9] (fun rv iv => ∃ j : Nat, 1 ≤ j ∧ j ≤ 1 ∧ iv = .int .i64 ((a : Int) + (j : Int)) ∧ rv = .int .i64 (acc (s.data.toList.drop a) 1 (j - 1) : Nat) ∧ ∀ i, 1 ≤ i → i < j → goes (s.data.toList.drop a) i) (fun _ iv => a + 5 - (intOf iv).toNat)
          case atStart => exact ⟨1, by omega, by omega, by go_num, rfl, fun i h1 h2 => by omega⟩
          case round =>
            obtain ⟨j, hj1, hj2, rfl, rfl, hgo⟩ := hrel
            have hal := acc_lt (s.data.toList.drop a) 1 (j - 1)
            have hpw : 64 ^ (j - 1) ≤ 64 ^ 3 := Nat.pow_le_pow_right (by omega) (by omega)
            have HGO := Lib.hid hgo; clear hgo
            by_cases hjk : j < 1
            · (try (exfalso; omega))
              all_goals
                have hat2 := run_at s ((a : Int) + (j : Int)) (a + j) (by omega) (by omega)
                have hy := byteAt_lt s.data.toList (a + j)
                have hyb := at_byte s.data.toList a j
                have hacc : acc (s.data.toList.drop a) 1 j = acc (s.data.toList.drop a) 1 (j - 1) * 64 + at_ (s.data.toList.drop a) j % 64 := by
                  obtain ⟨q, rfl⟩ : ∃ q, j = q + 1 := ⟨j - 1, by omega⟩
                  rfl
                have hgj : goes (s.data.toList.drop a) j ↔ 128 ≤ at_ (s.data.toList.drop a) j ∧ at_ (s.data.toList.drop a) j < 192 := by
                  unfold goes; rw [HDL.out]; constructor
                  · exact fun h => h.2
                  · exact fun h => ⟨by omega, h⟩
                rw [← hyb] at hacc hgj
                clear hyb
                generalize byteAt s.data.toList (a + j) = y at *
                have h192 := and192_u8 y hy
                have h63 := and63_u8 y hy
                have hor := acc_or (x := acc (s.data.toList.drop a) 1 (j - 1)) (y := y % 64) (by omega) (Nat.mod_lt _ (by omega))
                have hw1 : acc (s.data.toList.drop a) 1 (j - 1) < 67108864 := by omega
                rw [← hacc] at hor
                have HACC := Lib.hid hacc; clear hacc
                have hy64 : y % 64 < 64 := Nat.mod_lt _ (by omega)
                generalize y % 64 = y6 at *
                generalize hA : acc (s.data.toList.drop a) 1 (j - 1) = A at *
                generalize hA' : acc (s.data.toList.drop a) 1 j = A' at *
                have HA := Lib.hid (And.intro hA hA'); clear hA hA'
                by_cases hg : 128 ≤ y ∧ y < 192
                · have hh : y / 64 * 64 = 128 := by omega
                  have hgg := hgj.2 hg
                  rw [hh] at h192
                  have HGG := Lib.hid hgg; clear hgg hgj hg hh
                  go_wp2
                  go_round
                  case rel => exact ⟨j + 1, by omega, by omega, by go_num, by rw [Nat.add_sub_cancel, HA.out.2], fun i h1 h2 => by rcases Nat.lt_or_ge i j with h | h; exact HGO.out i h1 h; exact (show i = j by omega) ▸ HGG.out⟩
                  case measure => simp [intOf]; omega
                · have hr := rune_not_goes HCL.out hj1 hjk (fun h => hg (hgj.1 h))
                  have HR := Lib.hid hr; clear hr
                  have hh : (((y / 64 * 64 : Nat) : Int) != 128) = true := by rw [bne_iff_ne]; omega
                  generalize y / 64 * 64 = yh at *
                  clear hgj hg
                  go_wp2
                  go_ret2
                  exact ⟨by rw [HRR.out, HR.out]; rfl, below_drewN (hb.alloc hb.size _) _⟩
            · obtain rfl : j = 1 := by omega
              have hr := rune_whole HCL.out (by rw [HDL.out]; omega) HGO.out
              have hm := fun w => may_any (acc (s.data.toList.drop a) 1 (1 - 1) : Nat) w
              rw [mayI_nat] at hm
              have hLL : UtfMath.leastOf 1 = 0 := rfl
              rw [hLL] at hr
              clear hal hpw hac hn HN
              generalize acc (s.data.toList.drop a) 1 (1 - 1) = A at *
              have HM := Lib.hid hm; clear hm
              by_cases hls : A < 0
              · (try (exfalso; omega))
                all_goals
                  rw [if_pos (.inl hls)] at hr
                  have HR := Lib.hid hr; clear hr
                  have hls2 : (A : Int) < 0 := by omega
                  clear hls
                  go_wp2
                  all_goals
                    go_ret2
                    exact ⟨by rw [HRR.out, HR.out]; rfl, below_drewN (hb.alloc hb.size _) _⟩
              · by_cases hmy : may A
                · rw [if_neg (fun h => h.elim hls (fun h2 => h2 hmy))] at hr
                  have HR := Lib.hid hr; clear hr
                  have hd : decide (may A) = true := decide_eq_true hmy
                  have hls2 : (0 : Int) ≤ (A : Int) := by omega
                  clear hmy hls
                  go_wp2_with (go_at_call 121; with_reducible refine (HM.out _).mono ?_; rintro e w' ⟨rfl, rfl⟩)
                  all_goals
                    go_ret2
                    exact ⟨by rw [HRR.out, HR.out]; rfl, below_drewN (hb.alloc hb.size _) _⟩
                · rw [if_pos (.inr hmy)] at hr
                  have HR := Lib.hid hr; clear hr
                  have hd : decide (may A) = false := decide_eq_false hmy
                  have hls2 : (0 : Int) ≤ (A : Int) := by omega
                  clear hmy hls
                  go_wp2_with (go_at_call 121; with_reducible refine (HM.out _).mono ?_; rintro e w' ⟨rfl, rfl⟩)
                  all_goals
                    go_ret2
                    exact ⟨by rw [HRR.out, HR.out]; rfl, below_drewN (hb.alloc hb.size _) _⟩
      · have ha : (bits .and .i64 (c : Int) 128 != 0) = true := by
          have h1 := and_i64 c 128 (by omega) (by omega)
          have h2 := fun h => hcl ((and_mask (n := 1) (by omega) (by omega) hc256).1 h)
          rw [show maskOf 1 = 128 from rfl, show headOf 1 = 0 from rfl] at h2
          rw [bne_iff_ne]
          intro h
          rw [show ((128 : Nat) : Int) = 128 from rfl] at h1
          rw [h1] at h
          exact h2 (by exact_mod_cast h)
        have hno : ∀ n, 1 ≤ n → n < 1 + 1 → ¬ cls n c := fun n h1 h2 => by rcases Nat.lt_or_ge n 1 with h | h; exact HNO.out n h1 h; exact (show n = 1 by omega) ▸ hcl
        have HNO2 := Lib.hid hno; clear hno
        go_wp2
        go_quiet (fail)
        go_wp2
        go_roundw
        case rel => exact ⟨1 + 1, by omega, by go_num, HNO2.out, below_drewN (hb.alloc hb.size _) _⟩
        case measure => simp [intOf]
    ·
      have hix := idx2
      by_cases hcl : cls 2 c
      · have ha : bits .and .i64 (c : Int) 224 = 192 := by
          have h1 := and_i64 c 224 (by omega) (by omega)
          have h2 := (and_mask (n := 2) (by omega) (by omega) hc256).2 hcl
          rw [show maskOf 2 = 224 from rfl, show headOf 2 = 192 from rfl] at h2
          rw [h2] at h1; exact h1
        have hn : bits .andNot .i64 (c : Int) 224 = (acc (s.data.toList.drop a) 2 0 : Nat) := by
          have h1 := andNot_i64 c 224 (by omega) (by omega)
          have h2 := andNot_mask (n := 2) (by omega) (by omega) hc256
          rw [show maskOf 2 = 224 from rfl] at h2
          rw [h2] at h1
          rw [show acc (s.data.toList.drop a) 2 0 = c % (256 - 224) from by show at_ _ 0 % _ = _; rw [HC.out]; rfl]
          exact h1
        have hcl' : cls 2 (at_ (s.data.toList.drop a) 0) := by rw [HC.out]; exact hcl
        have HCL := Lib.hid hcl'; clear hcl' hcl
        by_cases hlen : s.size - a < 2
        · (try (exfalso; omega))
          all_goals
            have hr := rune_cut HCL.out (by rw [HDL.out]; exact hlen)
            have hlen2 : (s.size : Int) - (a : Int) < 2 := by omega
            have HR := Lib.hid hr; clear hr
            go_wp2
            go_quiet (fail)
            go_wp2
            go_ret2
            exact ⟨by rw [HRR.out, HR.out]; rfl, below_drewN (hb.alloc hb.size _) _⟩
        · have hlen2 : (2 : Int) ≤ (s.size : Int) - (a : Int) := by omega
          have hac := acc_lt (s.data.toList.drop a) 2 0
          have HN := Lib.hid hn
          go_wp2
          go_quiet (fail)
          go_wp2
          go_quiet (fail)
          go_wp2
          go_loop [8, 9] (fun rv iv => ∃ j : Nat, 1 ≤ j ∧ j ≤ 2 ∧ iv = .int .i64 ((a : Int) + (j : Int)) ∧ rv = .int .i64 (acc (s.data.toList.drop a) 2 (j - 1) : Nat) ∧ ∀ i, 1 ≤ i → i < j → goes (s.data.toList.drop a) i) (fun _ iv => a + 5 - (intOf iv).toNat)
          case atStart => exact ⟨1, by omega, by omega, by go_num, rfl, fun i h1 h2 => by omega⟩
          case round =>
            obtain ⟨j, hj1, hj2, rfl, rfl, hgo⟩ := hrel
            have hal := acc_lt (s.data.toList.drop a) 2 (j - 1)
            have hpw : 64 ^ (j - 1) ≤ 64 ^ 3 := Nat.pow_le_pow_right (by omega) (by omega)
            have HGO := Lib.hid hgo; clear hgo
            by_cases hjk : j < 2
            · (try (exfalso; omega))
              all_goals
                have hat2 := run_at s ((a : Int) + (j : Int)) (a + j) (by omega) (by omega)
                have hy := byteAt_lt s.data.toList (a + j)
                have hyb := at_byte s.data.toList a j
                have hacc : acc (s.data.toList.drop a) 2 j = acc (s.data.toList.drop a) 2 (j - 1) * 64 + at_ (s.data.toList.drop a) j % 64 := by
                  obtain ⟨q, rfl⟩ : ∃ q, j = q + 1 := ⟨j - 1, by omega⟩
                  rfl
                have hgj : goes (s.data.toList.drop a) j ↔ 128 ≤ at_ (s.data.toList.drop a) j ∧ at_ (s.data.toList.drop a) j < 192 := by
                  unfold goes; rw [HDL.out]; constructor
                  · exact fun h => h.2
                  · exact fun h => ⟨by omega, h⟩
                rw [← hyb] at hacc hgj
                clear hyb
                generalize byteAt s.data.toList (a + j) = y at *
                have h192 := and192_u8 y hy
                have h63 := and63_u8 y hy
                have hor := acc_or (x := acc (s.data.toList.drop a) 2 (j - 1)) (y := y % 64) (by omega) (Nat.mod_lt _ (by omega))
                have hw1 : acc (s.data.toList.drop a) 2 (j - 1) < 67108864 := by omega
                rw [← hacc] at hor
                have HACC := Lib.hid hacc; clear hacc
                have hy64 : y % 64 < 64 := Nat.mod_lt _ (by omega)
                generalize y % 64 = y6 at *
                generalize hA : acc (s.data.toList.drop a) 2 (j - 1) = A at *
                generalize hA' : acc (s.data.toList.drop a) 2 j = A' at *
                have HA := Lib.hid (And.intro hA hA'); clear hA hA'
                by_cases hg : 128 ≤ y ∧ y < 192
                · have hh : y / 64 * 64 = 128 := by omega
                  have hgg := hgj.2 hg
                  rw [hh] at h192
                  have HGG := Lib.hid hgg; clear hgg hgj hg hh
                  go_wp2
                  go_round
                  case rel => exact ⟨j + 1, by omega, by omega, by go_num, by rw [Nat.add_sub_cancel, HA.out.2], fun i h1 h2 => by rcases Nat.lt_or_ge i j with h | h; exact HGO.out i h1 h; exact (show i = j by omega) ▸ HGG.out⟩
                  case measure => simp [intOf]; omega
                · have hr := rune_not_goes HCL.out hj1 hjk (fun h => hg (hgj.1 h))
                  have HR := Lib.hid hr; clear hr
                  have hh : (((y / 64 * 64 : Nat) : Int) != 128) = true := by rw [bne_iff_ne]; omega
                  generalize y / 64 * 64 = yh at *
                  clear hgj hg
                  go_wp2
                  go_ret2
                  exact ⟨by rw [HRR.out, HR.out]; rfl, below_drewN (hb.alloc hb.size _) _⟩
            · obtain rfl : j = 2 := by omega
              have hr := rune_whole HCL.out (by rw [HDL.out]; omega) HGO.out
              have hm := fun w => may_any (acc (s.data.toList.drop a) 2 (2 - 1) : Nat) w
              rw [mayI_nat] at hm
              have hLL : UtfMath.leastOf 2 = 128 := rfl
              rw [hLL] at hr
              clear hal hpw hac hn HN
              generalize acc (s.data.toList.drop a) 2 (2 - 1) = A at *
              have HM := Lib.hid hm; clear hm
              by_cases hls : A < 128
              · (try (exfalso; omega))
                all_goals
                  rw [if_pos (.inl hls)] at hr
                  have HR := Lib.hid hr; clear hr
                  have hls2 : (A : Int) < 128 := by omega
                  clear hls
                  go_wp2
                  all_goals
                    go_ret2
                    exact ⟨by rw [HRR.out, HR.out]; rfl, below_drewN (hb.alloc hb.size _) _⟩
              · by_cases hmy : may A
                · rw [if_neg (fun h => h.elim hls (fun h2 => h2 hmy))] at hr
                  have HR := Lib.hid hr; clear hr
                  have hd : decide (may A) = true := decide_eq_true hmy
                  have hls2 : (128 : Int) ≤ (A : Int) := by omega
                  clear hmy hls
                  go_wp2_with (go_at_call 121; with_reducible refine (HM.out _).mono ?_; rintro e w' ⟨rfl, rfl⟩)
                  all_goals
                    go_ret2
                    exact ⟨by rw [HRR.out, HR.out]; rfl, below_drewN (hb.alloc hb.size _) _⟩
                · rw [if_pos (.inr hmy)] at hr
                  have HR := Lib.hid hr; clear hr
                  have hd : decide (may A) = false := decide_eq_false hmy
                  have hls2 : (128 : Int) ≤ (A : Int) := by omega
                  clear hmy hls
                  go_wp2_with (go_at_call 121; with_reducible refine (HM.out _).mono ?_; rintro e w' ⟨rfl, rfl⟩)
                  all_goals
                    go_ret2
                    exact ⟨by rw [HRR.out, HR.out]; rfl, below_drewN (hb.alloc hb.size _) _⟩
      · have ha : (bits .and .i64 (c : Int) 224 != 192) = true := by
          have h1 := and_i64 c 224 (by omega) (by omega)
          have h2 := fun h => hcl ((and_mask (n := 2) (by omega) (by omega) hc256).1 h)
          rw [show maskOf 2 = 224 from rfl, show headOf 2 = 192 from rfl] at h2
          rw [bne_iff_ne]
          intro h
          rw [show ((224 : Nat) : Int) = 224 from rfl] at h1
          rw [h1] at h
          exact h2 (by exact_mod_cast h)
        have hno : ∀ n, 1 ≤ n → n < 2 + 1 → ¬ cls n c := fun n h1 h2 => by rcases Nat.lt_or_ge n 2 with h | h; exact HNO.out n h1 h; exact (show n = 2 by omega) ▸ hcl
        have HNO2 := Lib.hid hno; clear hno
        go_wp2
        go_quiet (fail)
        go_wp2
        go_roundw
        case rel => exact ⟨2 + 1, by omega, by go_num, HNO2.out, below_drewN (hb.alloc hb.size _) _⟩
        case measure => simp [intOf]
    ·
      have hix := idx3
      by_cases hcl : cls 3 c
      · have ha : bits .and .i64 (c : Int) 240 = 224 := by
          have h1 := and_i64 c 240 (by omega) (by omega)
          have h2 := (and_mask (n := 3) (by omega) (by omega) hc256).2 hcl
          rw [show maskOf 3 = 240 from rfl, show headOf 3 = 224 from rfl] at h2
          rw [h2] at h1; exact h1
        have hn : bits .andNot .i64 (c : Int) 240 = (acc (s.data.toList.drop a) 3 0 : Nat) := by
          have h1 := andNot_i64 c 240 (by omega) (by omega)
          have h2 := andNot_mask (n := 3) (by omega) (by omega) hc256
          rw [show maskOf 3 = 240 from rfl] at h2
          rw [h2] at h1
          rw [show acc (s.data.toList.drop a) 3 0 = c % (256 - 240) from by show at_ _ 0 % _ = _; rw [HC.out]; rfl]
          exact h1
        have hcl' : cls 3 (at_ (s.data.toList.drop a) 0) := by rw [HC.out]; exact hcl
        have HCL := Lib.hid hcl'; clear hcl' hcl
        by_cases hlen : s.size - a < 3
        · (try (exfalso; omega))
          all_goals
            have hr := rune_cut HCL.out (by rw [HDL.out]; exact hlen)
            have hlen2 : (s.size : Int) - (a : Int) < 3 := by omega
            have HR := Lib.hid hr; clear hr
            go_wp2
            go_quiet (fail)
            go_wp2
            go_ret2
            exact ⟨by rw [HRR.out, HR.out]; rfl, below_drewN (hb.alloc hb.size _) _⟩
        · have hlen2 : (3 : Int) ≤ (s.size : Int) - (a : Int) := by omega
          have hac := acc_lt (s.data.toList.drop a) 3 0
          have HN := Lib.hid hn
          go_wp2
          go_quiet (fail)
          go_wp2
          go_quiet (fail)
          go_wp2
          go_loop [8, 9] (fun rv iv => ∃ j : Nat, 1 ≤ j ∧ j ≤ 3 ∧ iv = .int .i64 ((a : Int) + (j : Int)) ∧ rv = .int .i64 (acc (s.data.toList.drop a) 3 (j - 1) : Nat) ∧ ∀ i, 1 ≤ i → i < j → goes (s.data.toList.drop a) i) (fun _ iv => a + 5 - (intOf iv).toNat)
          case atStart => exact ⟨1, by omega, by omega, by go_num, rfl, fun i h1 h2 => by omega⟩
          case round =>
            obtain ⟨j, hj1, hj2, rfl, rfl, hgo⟩ := hrel
            have hal := acc_lt (s.data.toList.drop a) 3 (j - 1)
            have hpw : 64 ^ (j - 1) ≤ 64 ^ 3 := Nat.pow_le_pow_right (by omega) (by omega)
            have HGO := Lib.hid hgo; clear hgo
            by_cases hjk : j < 3
            · (try (exfalso; omega))
              all_goals
                have hat2 := run_at s ((a : Int) + (j : Int)) (a + j) (by omega) (by omega)
                have hy := byteAt_lt s.data.toList (a + j)
                have hyb := at_byte s.data.toList a j
                have hacc : acc (s.data.toList.drop a) 3 j = acc (s.data.toList.drop a) 3 (j - 1) * 64 + at_ (s.data.toList.drop a) j % 64 := by
                  obtain ⟨q, rfl⟩ : ∃ q, j = q + 1 := ⟨j - 1, by omega⟩
                  rfl
                have hgj : goes (s.data.toList.drop a) j ↔ 128 ≤ at_ (s.data.toList.drop a) j ∧ at_ (s.data.toList.drop a) j < 192 := by
                  unfold goes; rw [HDL.out]; constructor
                  · exact fun h => h.2
                  · exact fun h => ⟨by omega, h⟩
                rw [← hyb] at hacc hgj
                clear hyb
                generalize byteAt s.data.toList (a + j) = y at *
                have h192 := and192_u8 y hy
                have h63 := and63_u8 y hy
                have hor := acc_or (x := acc (s.data.toList.drop a) 3 (j - 1)) (y := y % 64) (by omega) (Nat.mod_lt _ (by omega))
                have hw1 : acc (s.data.toList.drop a) 3 (j - 1) < 67108864 := by omega
                rw [← hacc] at hor
                have HACC := Lib.hid hacc; clear hacc
                have hy64 : y % 64 < 64 := Nat.mod_lt _ (by omega)
                generalize y % 64 = y6 at *
                generalize hA : acc (s.data.toList.drop a) 3 (j - 1) = A at *
                generalize hA' : acc (s.data.toList.drop a) 3 j = A' at *
                have HA := Lib.hid (And.intro hA hA'); clear hA hA'
                by_cases hg : 128 ≤ y ∧ y < 192
                · have hh : y / 64 * 64 = 128 := by omega
                  have hgg := hgj.2 hg
                  rw [hh] at h192
                  have HGG := Lib.hid hgg; clear hgg hgj hg hh
                  go_wp2
                  go_round
                  case rel => exact ⟨j + 1, by omega, by omega, by go_num, by rw [Nat.add_sub_cancel, HA.out.2], fun i h1 h2 => by rcases Nat.lt_or_ge i j with h | h; exact HGO.out i h1 h; exact (show i = j by omega) ▸ HGG.out⟩
                  case measure => simp [intOf]; omega
                · have hr := rune_not_goes HCL.out hj1 hjk (fun h => hg (hgj.1 h))
                  have HR := Lib.hid hr; clear hr
                  have hh : (((y / 64 * 64 : Nat) : Int) != 128) = true := by rw [bne_iff_ne]; omega
                  generalize y / 64 * 64 = yh at *
                  clear hgj hg
                  go_wp2
                  go_ret2
                  exact ⟨by rw [HRR.out, HR.out]; rfl, below_drewN (hb.alloc hb.size _) _⟩
            · obtain rfl : j = 3 := by omega
              have hr := rune_whole HCL.out (by rw [HDL.out]; omega) HGO.out
              have hm := fun w => may_any (acc (s.data.toList.drop a) 3 (3 - 1) : Nat) w
              rw [mayI_nat] at hm
              have hLL : UtfMath.leastOf 3 = 2048 := rfl
              rw [hLL] at hr
              clear hal hpw hac hn HN
              generalize acc (s.data.toList.drop a) 3 (3 - 1) = A at *
              have HM := Lib.hid hm; clear hm
              by_cases hls : A < 2048
              · (try (exfalso; omega))
                all_goals
                  rw [if_pos (.inl hls)] at hr
                  have HR := Lib.hid hr; clear hr
                  have hls2 : (A : Int) < 2048 := by omega
                  clear hls
                  go_wp2
                  all_goals
                    go_ret2
                    exact ⟨by rw [HRR.out, HR.out]; rfl, below_drewN (hb.alloc hb.size _) _⟩
              · by_cases hmy : may A
                · rw [if_neg (fun h => h.elim hls (fun h2 => h2 hmy))] at hr
                  have HR := Lib.hid hr; clear hr
                  have hd : decide (may A) = true := decide_eq_true hmy
                  have hls2 : (2048 : Int) ≤ (A : Int) := by omega
                  clear hmy hls
                  go_wp2_with (go_at_call 121; with_reducible refine (HM.out _).mono ?_; rintro e w' ⟨rfl, rfl⟩)
                  all_goals
                    go_ret2
                    exact ⟨by rw [HRR.out, HR.out]; rfl, below_drewN (hb.alloc hb.size _) _⟩
                · rw [if_pos (.inr hmy)] at hr
                  have HR := Lib.hid hr; clear hr
                  have hd : decide (may A) = false := decide_eq_false hmy
                  have hls2 : (2048 : Int) ≤ (A : Int) := by omega
                  clear hmy hls
                  go_wp2_with (go_at_call 121; with_reducible refine (HM.out _).mono ?_; rintro e w' ⟨rfl, rfl⟩)
                  all_goals
                    go_ret2
                    exact ⟨by rw [HRR.out, HR.out]; rfl, below_drewN (hb.alloc hb.size _) _⟩
      · have ha : (bits .and .i64 (c : Int) 240 != 224) = true := by
          have h1 := and_i64 c 240 (by omega) (by omega)
          have h2 := fun h => hcl ((and_mask (n := 3) (by omega) (by omega) hc256).1 h)
          rw [show maskOf 3 = 240 from rfl, show headOf 3 = 224 from rfl] at h2
          rw [bne_iff_ne]
          intro h
          rw [show ((240 : Nat) : Int) = 240 from rfl] at h1
          rw [h1] at h
          exact h2 (by exact_mod_cast h)
        have hno : ∀ n, 1 ≤ n → n < 3 + 1 → ¬ cls n c := fun n h1 h2 => by rcases Nat.lt_or_ge n 3 with h | h; exact HNO.out n h1 h; exact (show n = 3 by omega) ▸ hcl
        have HNO2 := Lib.hid hno; clear hno
        go_wp2
        go_quiet (fail)
        go_wp2
        go_roundw
        case rel => exact ⟨3 + 1, by omega, by go_num, HNO2.out, below_drewN (hb.alloc hb.size _) _⟩
        case measure => simp [intOf]
    ·
      have hix := idx4
      by_cases hcl : cls 4 c
      · have ha : bits .and .i64 (c : Int) 248 = 240 := by
          have h1 := and_i64 c 248 (by omega) (by omega)
          have h2 := (and_mask (n := 4) (by omega) (by omega) hc256).2 hcl
          rw [show maskOf 4 = 248 from rfl, show headOf 4 = 240 from rfl] at h2
          rw [h2] at h1; exact h1
        have hn : bits .andNot .i64 (c : Int) 248 = (acc (s.data.toList.drop a) 4 0 : Nat) := by
          have h1 := andNot_i64 c 248 (by omega) (by omega)
          have h2 := andNot_mask (n := 4) (by omega) (by omega) hc256
          rw [show maskOf 4 = 248 from rfl] at h2
          rw [h2] at h1
          rw [show acc (s.data.toList.drop a) 4 0 = c % (256 - 248) from by show at_ _ 0 % _ = _; rw [HC.out]; rfl]
          exact h1
        have hcl' : cls 4 (at_ (s.data.toList.drop a) 0) := by rw [HC.out]; exact hcl
        have HCL := Lib.hid hcl'; clear hcl' hcl
        by_cases hlen : s.size - a < 4
        · (try (exfalso; omega))
          all_goals
            have hr := rune_cut HCL.out (by rw [HDL.out]; exact hlen)
            have hlen2 : (s.size : Int) - (a : Int) < 4 := by omega
            have HR := Lib.hid hr; clear hr
            go_wp2
            go_quiet (fail)
            go_wp2
            go_ret2
            exact ⟨by rw [HRR.out, HR.out]; rfl, below_drewN (hb.alloc hb.size _) _⟩
        · have hlen2 : (4 : Int) ≤ (s.size : Int) - (a : Int) := by omega
          have hac := acc_lt (s.data.toList.drop a) 4 0
          have HN := Lib.hid hn
          go_wp2
          go_quiet (fail)
          go_wp2
          go_quiet (fail)
          go_wp2
          go_loop [8, 9] (fun rv iv => ∃ j : Nat, 1 ≤ j ∧ j ≤ 4 ∧ iv = .int .i64 ((a : Int) + (j : Int)) ∧ rv = .int .i64 (acc (s.data.toList.drop a) 4 (j - 1) : Nat) ∧ ∀ i, 1 ≤ i → i < j → goes (s.data.toList.drop a) i) (fun _ iv => a + 5 - (intOf iv).toNat)
          case atStart => exact ⟨1, by omega, by omega, by go_num, rfl, fun i h1 h2 => by omega⟩
          case round =>
            obtain ⟨j, hj1, hj2, rfl, rfl, hgo⟩ := hrel
            have hal := acc_lt (s.data.toList.drop a) 4 (j - 1)
            have hpw : 64 ^ (j - 1) ≤ 64 ^ 3 := Nat.pow_le_pow_right (by omega) (by omega)
            have HGO := Lib.hid hgo; clear hgo
            by_cases hjk : j < 4
            · (try (exfalso; omega))
              all_goals
                have hat2 := run_at s ((a : Int) + (j : Int)) (a + j) (by omega) (by omega)
                have hy := byteAt_lt s.data.toList (a + j)
                have hyb := at_byte s.data.toList a j
                have hacc : acc (s.data.toList.drop a) 4 j = acc (s.data.toList.drop a) 4 (j - 1) * 64 + at_ (s.data.toList.drop a) j % 64 := by
                  obtain ⟨q, rfl⟩ : ∃ q, j = q + 1 := ⟨j - 1, by omega⟩
                  rfl
                have hgj : goes (s.data.toList.drop a) j ↔ 128 ≤ at_ (s.data.toList.drop a) j ∧ at_ (s.data.toList.drop a) j < 192 := by
                  unfold goes; rw [HDL.out]; constructor
                  · exact fun h => h.2
                  · exact fun h => ⟨by omega, h⟩
                rw [← hyb] at hacc hgj
                clear hyb
                generalize byteAt s.data.toList (a + j) = y at *
                have h192 := and192_u8 y hy
                have h63 := and63_u8 y hy
                have hor := acc_or (x := acc (s.data.toList.drop a) 4 (j - 1)) (y := y % 64) (by omega) (Nat.mod_lt _ (by omega))
                have hw1 : acc (s.data.toList.drop a) 4 (j - 1) < 67108864 := by omega
                rw [← hacc] at hor
                have HACC := Lib.hid hacc; clear hacc
                have hy64 : y % 64 < 64 := Nat.mod_lt _ (by omega)
                generalize y % 64 = y6 at *
                generalize hA : acc (s.data.toList.drop a) 4 (j - 1) = A at *
                generalize hA' : acc (s.data.toList.drop a) 4 j = A' at *
                have HA := Lib.hid (And.intro hA hA'); clear hA hA'
                by_cases hg : 128 ≤ y ∧ y < 192
                · have hh : y / 64 * 64 = 128 := by omega
                  have hgg := hgj.2 hg
                  rw [hh] at h192
                  have HGG := Lib.hid hgg; clear hgg hgj hg hh
                  go_wp2
                  go_round
                  case rel => exact ⟨j + 1, by omega, by omega, by go_num, by rw [Nat.add_sub_cancel, HA.out.2], fun i h1 h2 => by rcases Nat.lt_or_ge i j with h | h; exact HGO.out i h1 h; exact (show i = j by omega) ▸ HGG.out⟩
                  case measure => simp [intOf]; omega
                · have hr := rune_not_goes HCL.out hj1 hjk (fun h => hg (hgj.1 h))
                  have HR := Lib.hid hr; clear hr
                  have hh : (((y / 64 * 64 : Nat) : Int) != 128) = true := by rw [bne_iff_ne]; omega
                  generalize y / 64 * 64 = yh at *
                  clear hgj hg
                  go_wp2
                  go_ret2
                  exact ⟨by rw [HRR.out, HR.out]; rfl, below_drewN (hb.alloc hb.size _) _⟩
            · obtain rfl : j = 4 := by omega
              have hr := rune_whole HCL.out (by rw [HDL.out]; omega) HGO.out
              have hm := fun w => may_any (acc (s.data.toList.drop a) 4 (4 - 1) : Nat) w
              rw [mayI_nat] at hm
              have hLL : UtfMath.leastOf 4 = 65536 := rfl
              rw [hLL] at hr
              clear hal hpw hac hn HN
              generalize acc (s.data.toList.drop a) 4 (4 - 1) = A at *
              have HM := Lib.hid hm; clear hm
              by_cases hls : A < 65536
              · (try (exfalso; omega))
                all_goals
                  rw [if_pos (.inl hls)] at hr
                  have HR := Lib.hid hr; clear hr
                  have hls2 : (A : Int) < 65536 := by omega
                  clear hls
                  go_wp2
                  all_goals
                    go_ret2
                    exact ⟨by rw [HRR.out, HR.out]; rfl, below_drewN (hb.alloc hb.size _) _⟩
              · by_cases hmy : may A
                · rw [if_neg (fun h => h.elim hls (fun h2 => h2 hmy))] at hr
                  have HR := Lib.hid hr; clear hr
                  have hd : decide (may A) = true := decide_eq_true hmy
                  have hls2 : (65536 : Int) ≤ (A : Int) := by omega
                  clear hmy hls
                  go_wp2_with (go_at_call 121; with_reducible refine (HM.out _).mono ?_; rintro e w' ⟨rfl, rfl⟩)
                  all_goals
                    go_ret2
                    exact ⟨by rw [HRR.out, HR.out]; rfl, below_drewN (hb.alloc hb.size _) _⟩
                · rw [if_pos (.inr hmy)] at hr
                  have HR := Lib.hid hr; clear hr
                  have hd : decide (may A) = false := decide_eq_false hmy
                  have hls2 : (65536 : Int) ≤ (A : Int) := by omega
                  clear hmy hls
                  go_wp2_with (go_at_call 121; with_reducible refine (HM.out _).mono ?_; rintro e w' ⟨rfl, rfl⟩)
                  all_goals
                    go_ret2
                    exact ⟨by rw [HRR.out, HR.out]; rfl, below_drewN (hb.alloc hb.size _) _⟩
      · have ha : (bits .and .i64 (c : Int) 248 != 240) = true := by
          have h1 := and_i64 c 248 (by omega) (by omega)
          have h2 := fun h => hcl ((and_mask (n := 4) (by omega) (by omega) hc256).1 h)
          rw [show maskOf 4 = 248 from rfl, show headOf 4 = 240 from rfl] at h2
          rw [bne_iff_ne]
          intro h
          rw [show ((248 : Nat) : Int) = 248 from rfl] at h1
          rw [h1] at h
          exact h2 (by exact_mod_cast h)
        have hno : ∀ n, 1 ≤ n → n < 4 + 1 → ¬ cls n c := fun n h1 h2 => by rcases Nat.lt_or_ge n 4 with h | h; exact HNO.out n h1 h; exact (show n = 4 by omega) ▸ hcl
        have HNO2 := Lib.hid hno; clear hno
        go_wp2
        go_quiet (fail)
        go_wp2
        go_roundw
        case rel => exact ⟨4 + 1, by omega, by go_num, HNO2.out, below_drewN (hb.alloc hb.size _) _⟩
        case measure => simp [intOf]
    · have hr := rune_none (l := s.data.toList.drop a) (fun n h1 h2 => by rw [HC.out]; exact HNO.out n h1 (by omega))
      have HR := Lib.hid hr; clear hr
      go_wp2
      go_ret2
      exact ⟨by rw [HRR.out, HR.out]; rfl, hb⟩
end Go.Proofs.YtgmemdedpklnhaaGreat.Utf

/-
  THE WALKS of the document's own sum: boathouseref1.Crc, Seal, Open.
-/


namespace Go.Proofs.YtgmemdedpklnhaaGreat.Crc
open Go.RowKit CrcMath

set_option maxHeartbeats 400000 in
theorem refCrc_any (s : ByteArray) (w : World) (hs : s.size ≤ maxLen) :
    Calls Tryz.prog 40 #[.string s] w fun e w' => e = .returned (.int .i64 (crc s.data.toList)) ∧ w = w' := by
  unfold maxLen at hs
  go_enter Tryz.func40, Tryz.ntmps40
  go_wp2
  go_loop [3, 4] (fun c i => ∃ k : Nat, k ≤ s.size ∧ i = .int .i64 k ∧ c = .int .u32 (reg 4294967295 (s.data.toList.take k))) (fun _ i => s.size - (intOf i).toNat)
  case atStart => exact ⟨0, Nat.zero_le _, rfl, rfl⟩
  case round =>
    obtain ⟨k, hk, rfl, rfl⟩ := hrel
    have hr := reg_lt (x := 4294967295) (by omega) (s.data.toList.take k)
    by_cases hlt : k < s.size
    · have hb : s[k].toNat < 256 := u8_lt _
      obtain ⟨x0, hx0⟩ : ∃ x0 : Nat, x0 = reg 4294967295 (s.data.toList.take k) ^^^ s[k].toNat := ⟨_, rfl⟩
      have hx : bits .xor .u32 ((reg 4294967295 (s.data.toList.take k) : Nat) : Int) (s[k].toNat : Int) = (x0 : Int) := by
        rw [xor_u32 _ _ hr (by omega), hx0]
      have hxl : x0 < 4294967296 := by rw [hx0]; exact Nat.xor_lt_two_pow (n := 32) hr (by omega)
      have HX := Lib.hid hx0; clear hx0
      go_wp2
      clear hx
      go_loop [3, 5] (fun c j => ∃ m : Nat, m ≤ 8 ∧ j = .int .i64 m ∧ c = .int .u32 (steps m x0)) (fun _ j => 8 - (intOf j).toNat)
      case atStart => exact ⟨0, by omega, rfl, rfl⟩
      case round =>
        obtain ⟨m, hm, rfl, rfl⟩ := hrel
        by_cases hm8 : m < 8
        · obtain ⟨y, hy⟩ : ∃ y : Nat, y = steps m x0 := ⟨_, rfl⟩
          have hyl : y < 4294967296 := by rw [hy]; exact steps_lt m hxl
          have hs1 := steps_succ m x0
          rw [← hy] at hs1 ⊢
          have HS := Lib.hid hs1; clear hs1
          have HY := Lib.hid hy; clear hy
          by_cases hodd : y % 2 = 1
          · have ha : bits .and .u32 (y : Int) 1 = 1 := by rw [and1_u32 y hyl, hodd]; rfl
            have hz : bits .xor .u32 ((y : Int) / 2) 3988292384 = ((CrcMath.step y : Nat) : Int) := by
              have := xor_u32 (y / 2) 3988292384 (by omega) (by omega)
              unfold CrcMath.step; rw [if_pos hodd]; exact this
            clear hodd
            go_wp2
            go_round
            case rel => exact ⟨m + 1, by omega, by go_num, by rw [HS.out]⟩
            case measure => simp [intOf]; omega
          · have ha : bits .and .u32 (y : Int) 1 = 0 := by rw [and1_u32 y hyl]; omega
            have hz : ((CrcMath.step y : Nat) : Int) = (y : Int) / 2 := by unfold CrcMath.step; rw [if_neg hodd]; rfl
            have HZ := Lib.hid hz; clear hz hodd
            go_wp2
            go_round
            case rel => exact ⟨m + 1, by omega, by go_num, by rw [HS.out, HZ.out]⟩
            case measure => simp [intOf]; omega
        · obtain rfl : m = 8 := by omega
          have hts := take_snoc s k hlt
          have HT := Lib.hid hts; clear hts
          go_wp2
          go_round
          case rel => exact ⟨k + 1, by omega, by go_num, by rw [HT.out, reg_snoc, HX.out]; rfl⟩
          case measure => simp [intOf]; omega
    · have hx : bits .xor .u32 ((reg 4294967295 (s.data.toList.take k) : Nat) : Int) 4294967295 = ((crc s.data.toList : Nat) : Int) := by
        have := xor_u32 _ 4294967295 hr (by omega)
        rw [List.take_of_length_le (by simp; omega)] at this ⊢
        exact this
      have hc := crc_lt s.data.toList
      go_wp2
      go_ret
      exact ⟨rfl, rfl⟩

set_option maxHeartbeats 400000 in
theorem refSeal_any (s : ByteArray) (w : World) (hs : s.size ≤ maxReach) :
    Calls Tryz.prog 14 #[.string s] w fun e w' => e = .returned (.string (str (seal_ s.data.toList))) ∧ Below w.heap.size w w' := by
  have hc := crc_lt s.data.toList
  have H : ∀ w, Calls Tryz.prog 40 #[.string s] w fun e w' => e = .returned (.int .i64 (crc s.data.toList)) ∧ w = w' := fun w => refCrc_any s w (by unfold maxLen; unfold maxReach at hs; omega)
  unfold seal_
  generalize crc s.data.toList = c at hc H ⊢
  have HH := Lib.hid H; clear H
  have f1 : bits .and .i64 ((c : Int) / 65536) 255 = ((c : Int) / 65536) % 256 := and255_i64 (c / 65536) (by omega)
  have f2 : bits .and .i64 ((c : Int) / 256) 255 = ((c : Int) / 256) % 256 := and255_i64 (c / 256) (by omega)
  have f3 : bits .and .i64 (c : Int) 255 = (c : Int) % 256 := and255_i64 c (by omega)
  have kc := @run_str4 Tryz.prog 54 9 5 Tryz.underlying54 Tryz.underlying5 Tryz.underlying9
  have z4 := sz4
  unfold maxReach at hs
  go_enter Tryz.func14, Tryz.ntmps14
  go_wp2_with (go_at_call 40; refine (HH.out _).mono ?_; rintro e w' ⟨rfl, rfl⟩)
  go_ret
  refine ⟨ret_str (str_eq ?_), (Below.refl _ _).alloc (Nat.le_refl _) _⟩
  rw [append_toList, strOfNums_data]
  simp only [digits, List.map_cons, List.map_nil]
  rw [u8_of (m := c / 16777216) (by omega), u8_of (m := c / 65536) (by omega), u8_of (m := c / 256) (by omega), u8_of (m := c) (by omega)]

theorem seal_length (l : List UInt8) : (seal_ l).length = l.length + 4 := by simp [seal_, digits]

/-- What Open answers: the text and 0, or nothing and 400. -/
def opened (l : List UInt8) : List UInt8 := (open_ l).getD []
def code (l : List UInt8) : Int := if (open_ l).isSome then 0 else 400

theorem extract_str (s : ByteArray) (n : Nat) : s.extract 0 n = str (s.data.toList.take n) := by
  apply str_eq; simp [ByteArray.extract, ByteArray.copySlice]

theorem extract_end (s : ByteArray) (n : Nat) : s.extract n s.size = str (s.data.toList.drop n) := by
  apply str_eq
  rw [Lib.extract_data]
  exact List.take_of_length_le (by rw [List.length_drop]; exact Nat.le_refl _)

theorem open_eq (l : List UInt8) : open_ l = if l.length < 4 then none else if seal_ (l.take (l.length - 4)) = l then some (l.take (l.length - 4)) else none := by
  unfold open_
  by_cases h : l.length < 4
  · rw [if_pos h, if_pos h]
  · rw [if_neg h, if_neg h]
    have e : l.take (l.length - 4) ++ l.drop (l.length - 4) = l := List.take_append_drop _ _
    have hiff : digits (crc (l.take (l.length - 4))) = l.drop (l.length - 4) ↔ seal_ (l.take (l.length - 4)) = l := by
      unfold seal_
      constructor
      · intro h2; rw [h2, e]
      · intro h2
        have h3 := h2.trans e.symm
        exact List.append_cancel_left h3
    by_cases hd : digits (crc (l.take (l.length - 4))) = l.drop (l.length - 4)
    · rw [if_pos hd, if_pos (hiff.1 hd)]
    · rw [if_neg hd, if_neg (fun h2 => hd (hiff.2 h2))]

set_option maxHeartbeats 400000 in
theorem refOpen_any (s : ByteArray) (w : World) (hs : s.size ≤ maxReach) :
    Calls Tryz.prog 47 #[.string s] w fun e w' => e = .returned (.tuple #[.string (str (opened s.data.toList)), .int .i64 (code s.data.toList)]) ∧ Below w.heap.size w w' := by
  have H : ∀ w, Calls Tryz.prog 14 #[.string (str (s.data.toList.take (s.size - 4)))] w fun e w' => e = .returned (.string (str (seal_ (s.data.toList.take (s.size - 4))))) ∧ Below w.heap.size w w' := fun w =>
    refSeal_any _ w (by unfold maxReach at hs ⊢; rw [str_size, List.length_take]; omega)
  have hl : s.data.toList.length = s.size := by simp
  have ho := open_eq s.data.toList
  rw [hl] at ho
  unfold maxReach at hs
  have HH := Lib.hid H; clear H
  by_cases h4 : s.size < 4
  · rw [if_pos h4] at ho
    unfold opened code
    rw [ho]
    go_enter Tryz.func47, Tryz.ntmps47
    go_wp2
    go_ret2
    exact ⟨rfl, Below.refl _ _⟩
  · rw [if_neg h4] at ho
    have hx := extract_str s (s.size - 4)
    have hd : decide ((s.size : Int) < 4) = false := by simp; omega
    clear hl
    by_cases he : seal_ (s.data.toList.take (s.size - 4)) = s.data.toList
    · rw [if_pos he] at ho
      have ht : ((str (seal_ (s.data.toList.take (s.size - 4)))).toList == s.toList) = true := teq_true he
      unfold opened code
      rw [ho]
      clear ho he
      go_enter Tryz.func47, Tryz.ntmps47
      go_wp2_with (go_at_call 14; refine (HH.out _).mono ?_; rintro e w' ⟨rfl, hb⟩)
      go_ret2
      exact ⟨rfl, hb⟩
    · rw [if_neg he] at ho
      have ht : ((str (seal_ (s.data.toList.take (s.size - 4)))).toList == s.toList) = false := teq_false he
      unfold opened code
      rw [ho]
      clear ho he
      go_enter Tryz.func47, Tryz.ntmps47
      go_wp2_with (go_at_call 14; refine (HH.out _).mono ?_; rintro e w' ⟨rfl, hb⟩)
      go_ret2
      exact ⟨rfl, hb⟩
end Go.Proofs.YtgmemdedpklnhaaGreat.Crc

/-
  THE WALKS of package crc: table, Of, digits, Seal, Open.
-/



namespace Go.Proofs.YtgmemdedpklnhaaGreat.Crc
open Go.RowKit CrcMath

/-- The table's first k entries laid, the others nought. -/
def tabs (k : Nat) : Array Value := ((List.range 256).map fun i => Value.int .u32 (if i < k then ((tab i : Nat) : Int) else 0)).toArray
theorem tabs_zero : tabs 0 = Tryz.zeroCells132 := by kernel_rfl
theorem tabs_size (k : Nat) : (tabs k).size = 256 := by simp [tabs]
theorem tabs_at (k i : Nat) (h : i < 256) : (tabs k)[i]? = some (.int .u32 (if i < k then ((tab i : Nat) : Int) else 0)) := by
  simp [tabs, List.getElem?_range h]
theorem tabs_step (k : Nat) (h : k < 256) : (tabs k).setIfInBounds k (.int .u32 (tab k)) = tabs (k + 1) := by
  apply Array.ext_getElem?
  intro i
  rw [Array.getElem?_setIfInBounds]
  by_cases hi : i < 256
  · rw [tabs_at _ _ hi, tabs_at _ _ hi]
    by_cases hk : k = i
    · subst hk; simp [tabs_size, h]
    · rw [if_neg hk]
      by_cases h1 : i < k
      · simp [h1, show i < k + 1 by omega]
      · simp [h1, show ¬ i < k + 1 by omega]
  · rw [Array.getElem?_eq_none (by rw [tabs_size]; omega), Array.getElem?_eq_none (by rw [tabs_size]; omega), if_neg (by omega)]

theorem tabs_row : (Tryz.prog.info? 132).map (·.size) = some (tabs 256).size := by rw [tabs_size]; kernel_rfl
theorem tabs_one (k : Nat) : (tabs k).all (·.oneCell') = true := by
  rw [Array.all_eq_true_iff_forall_mem]; intro x hx; simp [tabs] at hx; obtain ⟨i, _, rfl⟩ := hx; rfl

theorem xor_step (y : Nat) (hyl : y < 4294967296) (h : y % 2 = 1) : bits .xor .u32 ((y : Int) / 2) 3988292384 = ((CrcMath.step y : Nat) : Int) := by
  have := xor_u32 (y / 2) 3988292384 (by omega) (by omega)
  unfold CrcMath.step; rw [if_pos h]; exact this

set_option maxRecDepth 20000 in
set_option maxHeartbeats 400000 in
theorem table_any (w : World) :
    Calls Tryz.prog 94 #[] w fun e w' => e = .returned (.agg (tabs 256)) ∧ Below w.heap.size w w' := by
  have hg1 := heap_alloc2_new w (.cells (tabs 0) 132) (.cells (tabs 256) 132)
  have hg0 := heap_alloc2_old w (.cells (tabs 0) 132) (.cells (tabs 256) 132)
  have H1 := Lib.hid hg1; clear hg1
  have H0 := Lib.hid hg0; clear hg0
  go_enter Tryz.func94, Tryz.ntmps94
  go_wp2
  rw [← tabs_zero]
  go_loopw [3, 4] (fun _ i wr => ∃ k : Nat, k ≤ 256 ∧ i = .int .i64 k ∧ wr = (w.alloc (.cells (tabs 0) 132)).alloc (.cells (tabs k) 132)) (fun _ i _ => 256 - (intOf i).toNat)
  case atStart => exact ⟨0, by omega, rfl, rfl⟩
  case round =>
    obtain ⟨k, hk, rfl, rfl⟩ := hrel
    by_cases hlt : k < 256
    · have hx : (tabs k)[k]? = some (.int .u32 0) := by rw [tabs_at k k hlt, if_neg (by omega)]
      have hst := tabs_step k hlt
      have HST := Lib.hid hst; clear hst
      go_wp2
      go_loop [3, 9] (fun c j => ∃ m : Nat, m ≤ 8 ∧ j = .int .i64 m ∧ c = .int .u32 (steps m k)) (fun _ j => 8 - (intOf j).toNat)
      case atStart => exact ⟨0, by omega, rfl, rfl⟩
      case round =>
        obtain ⟨m, hm, rfl, rfl⟩ := hrel
        by_cases hm8 : m < 8
        · obtain ⟨y, hy⟩ : ∃ y : Nat, y = steps m k := ⟨_, rfl⟩
          have hyl : y < 4294967296 := by rw [hy]; exact steps_lt m (by omega)
          have hs1 := steps_succ m k
          rw [← hy] at hs1 ⊢
          have HS := Lib.hid hs1; clear hs1
          have HY := Lib.hid hy; clear hy
          by_cases hodd : y % 2 = 1
          · have ha : bits .and .u32 (y : Int) 1 = 1 := by rw [and1_u32 y hyl, hodd]; rfl
            have hz := xor_step y hyl hodd
            clear hodd
            go_wp2
            go_round
            case rel => exact ⟨m + 1, by omega, by go_num, by rw [HS.out]⟩
            case measure => simp [intOf]; omega
          · have ha : bits .and .u32 (y : Int) 1 = 0 := by rw [and1_u32 y hyl]; omega
            have hz : ((CrcMath.step y : Nat) : Int) = (y : Int) / 2 := by unfold CrcMath.step; rw [if_neg hodd]; rfl
            have HZ := Lib.hid hz; clear hz hodd
            go_wp2
            go_round
            case rel => exact ⟨m + 1, by omega, by go_num, by rw [HS.out, HZ.out]⟩
            case measure => simp [intOf]; omega
        · obtain rfl : m = 8 := by omega
          go_wp2
          go_roundw
          case rel => exact ⟨k + 1, by omega, by go_num, by rw [← HST.out]; rfl⟩
          case measure => simp [intOf]; omega
    · obtain rfl : k = 256 := by omega
      go_wp2_with (first
        | (refine wpList_load_row rfl 132 (.tmp 1) rfl (w.heap.size + 1) rfl 132 (tabs 256) (0, 0) _ H1.out Tryz.underlying132 rfl tabs_row ?_)
        | (refine wpList_store_row rfl 132 (.tmp 0) (.tmp 24) rfl w.heap.size (tabs 256) rfl rfl 132 (tabs 0) H0.out tabs_row (by rw [tabs_size, tabs_size]) (tabs_one _) ?_))
      refine bodyPost_ret (results_cell_row rfl _ _ w.heap.size 132 (tabs 256) (0, 0) _ rfl (heap_setRow_same _ _ _ _ _ _ H0.out) Tryz.underlying132 rfl tabs_row) rfl ⟨rfl, ?_⟩
      exact below_setRow (((Below.refl _ _).alloc (Nat.le_refl _) _).alloc (by simp) _) (Nat.le_refl _) _

set_option maxRecDepth 20000 in
set_option maxHeartbeats 400000 in
theorem of_any (s : ByteArray) (w : World) (hs : s.size ≤ maxLen) :
    Calls Tryz.prog 62 #[.string s] w fun e w' => e = .returned (.int .i64 (crc s.data.toList)) ∧ Below w.heap.size w w' := by
  unfold maxLen at hs
  go_enter Tryz.func62, Tryz.ntmps62
  go_wp2_with (first
    | (go_at_call 94; refine (table_any _).mono ?_; rintro e W ⟨rfl, hb⟩)
    | (refine wpList_store_row rfl 132 (.tmp 3) (.tmp 6) rfl W.heap.size (tabs 256) rfl rfl 132 Tryz.zeroCells132 (heap_alloc_last W _) tabs_row (by rw [tabs_size]; kernel_rfl) (tabs_one _) ?_; rw [World.setRow_alloc_new]))
  go_loop [4, 9] (fun c i => ∃ k : Nat, k ≤ s.size ∧ i = .int .i64 k ∧ c = .int .u32 (reg 4294967295 (s.data.toList.take k))) (fun _ i => s.size - (intOf i).toNat)
  case atStart => exact ⟨0, Nat.zero_le _, rfl, rfl⟩
  case round =>
    obtain ⟨k, hk, rfl, rfl⟩ := hrel
    have hr := reg_lt (x := 4294967295) (by omega) (s.data.toList.take k)
    by_cases hlt : k < s.size
    · have hb : s[k].toNat < 256 := u8_lt _
      have hts := take_snoc s k hlt
      have hbt := byteIn_tab (reg 4294967295 (s.data.toList.take k)) s[k].toNat
      have hrs := reg_snoc 4294967295 (s.data.toList.take k) s[k]
      rw [← hts] at hrs
      have HT := Lib.hid hrs; clear hts hrs
      generalize reg 4294967295 (s.data.toList.take k) = x at hr hbt HT ⊢
      obtain ⟨j, hj⟩ : ∃ j : Nat, j = x % 256 ^^^ s[k].toNat := ⟨_, rfl⟩
      have hjl : j < 256 := by rw [hj]; exact Nat.xor_lt_two_pow (n := 8) (by omega) hb
      have hx : bits .xor .u8 ((x : Int) % 256) (s[k].toNat : Int) = (j : Int) := by rw [hj]; exact xor_u8 (x % 256) _ (by omega) hb
      rw [← hj] at hbt
      have htl : tab j < 4294967296 := steps_lt 8 (by omega)
      have hy : bits .xor .u32 ((x : Int) / 256) ((tab j : Nat) : Int) = ((byteIn x s[k].toNat : Nat) : Int) := by
        rw [hbt]; exact xor_u32 (x / 256) _ (by omega) htl
      have hc : (tabs 256)[j]? = some (.int .u32 ((tab j : Nat) : Int)) := by rw [tabs_at 256 j hjl, if_pos (by omega)]
      clear hbt hj htl
      go_wp2
      go_round
      case rel => exact ⟨k + 1, by omega, by go_num, by rw [HT.out]⟩
      case measure => simp [intOf]; omega
    · have hx : bits .xor .u32 IntKind.u32.max ((reg 4294967295 (s.data.toList.take k) : Nat) : Int) = ((crc s.data.toList : Nat) : Int) := by
        have := xor_u32 4294967295 _ (by omega) hr
        rw [Nat.xor_comm] at this
        rw [List.take_of_length_le (by simp; omega)] at this ⊢
        exact this
      have hc := crc_lt s.data.toList
      have hu : IntKind.u32.signed = false := rfl
      go_wp2
      go_ret
      exact ⟨rfl, hb.alloc hb.size _⟩

set_option maxHeartbeats 400000 in
theorem digits_any (c : Nat) (w : World) (hc : c < 4294967296) :
    Calls Tryz.prog 61 #[.int .i64 c] w fun e w' => e = .returned (.string (str (digits c))) ∧ Below w.heap.size w w' := by
  have kc := @run_str4 Tryz.prog 54 9 5 Tryz.underlying54 Tryz.underlying5 Tryz.underlying9
  go_enter Tryz.func61, Tryz.ntmps61
  go_wp2
  go_ret
  refine ⟨ret_str (str_eq ?_), (Below.refl _ _).alloc (Nat.le_refl _) _⟩
  rw [strOfNums_data]
  simp only [digits, List.map_cons, List.map_nil]
  rw [u8_of (m := c / 16777216) (by omega), u8_of (m := c / 65536) (by omega), u8_of (m := c / 256) (by omega), u8_of (m := c) (by omega)]

set_option maxHeartbeats 400000 in
theorem seal_any (s : ByteArray) (w : World) (hs : s.size ≤ maxReach) :
    Calls Tryz.prog 30 #[.string s] w fun e w' => e = .returned (.string (str (seal_ s.data.toList))) ∧ Below w.heap.size w w' := by
  have hc := crc_lt s.data.toList
  have H : ∀ w, Calls Tryz.prog 62 #[.string s] w fun e w' => e = .returned (.int .i64 (crc s.data.toList)) ∧ Below w.heap.size w w' := fun w => of_any s w (by unfold maxLen; unfold maxReach at hs; omega)
  unfold seal_
  generalize crc s.data.toList = c at hc H ⊢
  have HH := Lib.hid H; clear H
  have hz : (str (digits c)).size = 4 := by rw [str_size, digits_length]
  unfold maxReach at hs
  go_enter Tryz.func30, Tryz.ntmps30
  go_wp2_with (first
    | (go_at_call 62; refine (HH.out _).mono ?_; rintro e w1 ⟨rfl, hb1⟩)
    | (go_at_call 61; refine (digits_any _ _ hc).mono ?_; rintro e w2 ⟨rfl, hb2⟩))
  go_ret
  refine ⟨ret_str (str_eq ?_), hb1.trans (hb2.mono hb1.size)⟩
  rw [append_toList]; rfl

theorem open_short {l : List UInt8} (h : l.length < 4) : opened l = [] ∧ code l = 400 := by
  unfold opened code open_; rw [if_pos h]; exact ⟨rfl, rfl⟩
theorem open_yes {l : List UInt8} (h : ¬ l.length < 4) (hd : digits (crc (l.take (l.length - 4))) = l.drop (l.length - 4)) : opened l = l.take (l.length - 4) ∧ code l = 0 := by
  unfold opened code open_; rw [if_neg h, if_pos hd]; exact ⟨rfl, rfl⟩
theorem open_no {l : List UInt8} (h : ¬ l.length < 4) (hd : ¬ digits (crc (l.take (l.length - 4))) = l.drop (l.length - 4)) : opened l = [] ∧ code l = 400 := by
  unfold opened code open_; rw [if_neg h, if_neg hd]; exact ⟨rfl, rfl⟩

set_option maxRecDepth 20000 in
set_option maxHeartbeats 1000000 in
theorem open_any (s : ByteArray) (w : World) (hs : s.size ≤ maxReach) :
    Calls Tryz.prog 41 #[.string s] w fun e w' => e = .returned (.tuple #[.string (str (opened s.data.toList)), .int .i64 (code s.data.toList)]) ∧ Below w.heap.size w w' := by
  have H : ∀ w, Calls Tryz.prog 62 #[.string (str (s.data.toList.take (s.size - 4)))] w fun e w' => e = .returned (.int .i64 (crc (s.data.toList.take (s.size - 4)))) ∧ Below w.heap.size w w' := fun w =>
    of_any _ w (by unfold maxLen; unfold maxReach at hs; rw [str_size, List.length_take]; omega)
  have HH := Lib.hid H; clear H
  have hl : s.data.toList.length = s.size := by simp
  have HL := Lib.hid hl; clear hl
  unfold maxReach at hs
  by_cases h4 : s.size < 4
  · have ho := open_short (l := s.data.toList) (by rw [HL.out]; exact h4)
    have HO := Lib.hid ho; clear ho
    have hd : decide ((s.size : Int) - 4 < 0) = true := by simp; omega
    go_enter Tryz.func41, Tryz.ntmps41
    go_wp2
    go_quiet (fail)
    go_wp2
    go_ret2
    exact ⟨by rw [HO.out.1, HO.out.2]; rfl, below_drewN (Below.refl _ _) _⟩
  · have hy := open_yes (l := s.data.toList) (by rw [HL.out]; exact h4)
    have hn0 := open_no (l := s.data.toList) (by rw [HL.out]; exact h4)
    rw [HL.out] at hy hn0
    have hx := extract_str s (s.size - 4)
    have hx2 := extract_end s (s.size - 4)
    have hn : ((s.size : Int) - 4).toNat = s.size - 4 := by omega
    have hb0 : (4 : Int) ≤ (s.size : Int) := by omega
    have hb1 : (0 : Int) ≤ (s.size : Int) - 4 := by omega
    have hb2 : (s.size : Int) - 4 ≤ (s.size : Int) := by omega
    have hd : decide ((s.size : Int) - 4 < 0) = false := by simp; omega
    have hq : ∃ c0 : Bool, ((str (digits (crc (s.data.toList.take (s.size - 4))))).toList == (str (s.data.toList.drop (s.size - 4))).toList) = c0 ∧
        (c0 = true ↔ digits (crc (s.data.toList.take (s.size - 4))) = s.data.toList.drop (s.size - 4)) := by
      refine ⟨_, rfl, ?_⟩
      rw [Lib.toList_data, Lib.toList_data]; simp
    obtain ⟨c0, ht, hiff⟩ := hq
    have HI : Hid (if c0 = true then opened s.data.toList = s.data.toList.take (s.size - 4) ∧ code s.data.toList = 0 else opened s.data.toList = [] ∧ code s.data.toList = 400) := by
      show (if c0 = true then _ else _)
      split
      · rename_i h; exact hy (hiff.1 h)
      · rename_i h; exact hn0 fun h2 => h (hiff.2 h2)
    clear hiff hy hn0
    go_enter Tryz.func41, Tryz.ntmps41
    go_upto_region 2 with fail
    go_cut [20] (fun c wx => c = .bool (!c0) ∧ Below w.heap.size w wx)
    case first =>
      go_region_held3 (fun _ => True) (exact trivial) (first
        | (go_at_call 62; with_reducible refine (HH.out _).mono ?_; rintro e w1 ⟨rfl, hb1⟩)
        | (go_at_call 61; with_reducible refine (digits_any _ _ (crc_lt _)).mono ?_; rintro e w2 ⟨rfl, hb2⟩))
      all_goals (have hb := ((Below.refl w.heap.size w).drew.trans hb1).trans (hb2.mono hb1.size))
      all_goals (clear hb1 hb2 hx hx2 hn hd ht HH; go_wp2_with fail; go_meet; exact ⟨rfl, hb⟩)
    case rest =>
      obtain ⟨rfl, hb⟩ := hcut
      cases c0 with
      | true =>
        have h := HI.out; clear HI
        rw [if_pos rfl] at h
        have HI := Lib.hid h; clear h
        go_wp2
        go_ret2
        exact ⟨by rw [HI.out.1, HI.out.2]; rfl, hb⟩
      | false =>
        have h := HI.out; clear HI
        rw [if_neg (by simp)] at h
        have HI := Lib.hid h; clear h
        go_wp2
        go_ret2
        exact ⟨by rw [HI.out.1, HI.out.2]; rfl, hb⟩
end Go.Proofs.YtgmemdedpklnhaaGreat.Crc

/-
  THE WALKS of package utf: First, Valid, Put.
-/


namespace Go.Proofs.YtgmemdedpklnhaaGreat.Utf
open Go.RowKit UtfMath

set_option maxRecDepth 100000 in
set_option maxHeartbeats 4000000 in
theorem first_any (s : ByteArray) (w : World) (hs : s.size ≤ maxReach) :
    Calls Tryz.prog 102 #[.string s] w fun e w' => e = .returned (.int .i64 (first s.data.toList)) ∧ Below w.heap.size w w' := by
  have hl : s.data.toList.length = s.size := by simp
  have HR := Lib.hid (fun (a : Int) w => rune_any s a w hs)
  unfold maxReach at hs
  obtain ⟨F, hF⟩ : ∃ F, F = first s.data.toList := ⟨_, rfl⟩
  rw [← hF]
  have HF := Lib.hid hF; clear hF
  have HL := Lib.hid hl; clear hl
  go_enter Tryz.func102, Tryz.ntmps102
  go_wp2
  go_loopw [3] (fun av wr => ∃ n a : Nat, a ≤ s.size ∧ av = .int .i64 a ∧ s.size < a + n ∧ Hid (firstFrom n a s.data.toList = first s.data.toList) ∧ Below w.heap.size w wr) (fun av _ => s.size - (intOf av).toNat)
  case atStart => exact ⟨s.size + 1, 0, by omega, rfl, by omega, Lib.hid (by unfold first; rw [HL.out]), Below.refl _ _⟩
  case round =>
    obtain ⟨n, a, ha, rfl, hn, hf, hb⟩ := hrel
    by_cases hlt : a < s.size
    · obtain ⟨m, rfl⟩ : ∃ m, n = m + 1 := ⟨n - 1, by omega⟩
      have hf1 := hf.out
      simp only [firstFrom] at hf1
      rw [if_neg (by rw [HL.out]; omega)] at hf1
      have hrl := rune_le (s.data.toList.drop a)
      rw [List.length_drop, HL.out] at hrl
      have he : runeAt s.data.toList (a : Nat) = rune (s.data.toList.drop a) := runeAt_in (by rw [HL.out]; exact hlt)
      have hr := fun w => HR.out (a : Nat) w
      rw [he] at hr
      have HRA := Lib.hid hr; clear hr he hf
      by_cases h0 : (rune (s.data.toList.drop a)).2 = 0
      · rw [if_pos h0] at hf1
        have HF1 := Lib.hid hf1; clear hf1
        rw [h0] at HRA
        clear h0 hrl
        generalize ((rune (s.data.toList.drop a)).1 : Nat) = r1 at *
        go_wp2_with (go_at_call 115; with_reducible refine (HRA.out _).mono ?_; rintro e w1 ⟨rfl, hb1⟩)
        go_ret
        exact ⟨by rw [HF.out, ← HF1.out]; rfl, bthen hb hb1 (Nat.le_refl _)⟩
      · rw [if_neg h0] at hf1
        have HF1 := Lib.hid hf1; clear hf1
        generalize (rune (s.data.toList.drop a)).2 = r2 at *
        generalize ((rune (s.data.toList.drop a)).1 : Nat) = r1 at *
        go_wp2_with (go_at_call 115; with_reducible refine (HRA.out _).mono ?_; rintro e w1 ⟨rfl, hb1⟩)
        go_roundw
        case rel => exact ⟨m, a + r2, by omega, by go_num, by omega, Lib.hid HF1.out, bthen hb hb1 (Nat.le_refl _)⟩
        case measure => simp [intOf]; omega
    · obtain rfl : a = s.size := by omega
      have hf1 := hf.out
      have hz : firstFrom n s.size s.data.toList = -1 := by
        cases n with
        | zero => rfl
        | succ n => simp only [firstFrom]; rw [if_pos (by rw [HL.out]; exact Nat.le_refl _)]
      rw [hz] at hf1
      have HF1 := Lib.hid hf1; clear hf1 hz hf
      go_wp2
      go_ret
      exact ⟨by rw [HF.out, ← HF1.out]; rfl, hb⟩
set_option maxRecDepth 100000 in
theorem valid_any (s : ByteArray) (w : World) (hs : s.size ≤ maxReach) :
    Calls Tryz.prog 72 #[.string s] w fun e w' => e = .returned (.bool (valid s.data.toList)) ∧ Below w.heap.size w w' := by
  have H := Lib.hid (fun w => first_any s w hs)
  unfold valid
  generalize first s.data.toList = F at *
  clear hs
  go_enter Tryz.func72, Tryz.ntmps72
  go_wp2_with (go_at_call 102; with_reducible refine (H.out _).mono ?_; rintro e w1 ⟨rfl, hb1⟩)
  go_ret
  exact ⟨rfl, hb1⟩
end Go.Proofs.YtgmemdedpklnhaaGreat.Utf
