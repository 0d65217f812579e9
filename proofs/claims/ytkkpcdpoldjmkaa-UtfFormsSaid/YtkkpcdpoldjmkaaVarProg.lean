/-
  THE WALKS of package varint: put, get, Put, Get, Zig, Zag.
-/
import Derived.Test.YtkkpcdpoldjmkaaPush
import Derived.Test.YtkkpcdpoldjmkaaBits
import Derived.Test.YtkkpcdpoldjmkaaVarMore
namespace Go.Proofs.Ytkkpcdpoldjmkaa.Varint
open Go.RowKit VarMath

theorem put_stop {n z : Nat} (h : z < 128) : put n z = [UInt8.ofNat z] := by
  cases n with
  | zero => rfl
  | succ n => simp [put, h]
theorem put_go {n z : Nat} (h : 128 ≤ z) : put (n + 1) z = UInt8.ofNat (z % 128 + 128) :: put n (z / 128) := by
  simp only [put]; rw [if_neg (by omega)]
theorem bv_nat {x : Nat} (h : x < 256) : bv (UInt8.ofNat x) = .int .u8 (x : Int) := by
  unfold bv; rw [UInt8.toNat_ofNat', Nat.mod_eq_of_lt (by omega)]
/-- What the loop of put holds. -/
def PutAt (x B : Nat) (xv ov : Value) (w wr : World) : Prop := ∃ (n z : Nat) (l : List UInt8), n + l.length = 9 ∧ z < 128 ^ (n + 1) ∧ z < 18446744073709551616 ∧ xv = .int .u64 (z : Nat) ∧ enc x = l ++ put n z ∧ OwnB wr B ov l ∧ Below B w wr

set_option maxRecDepth 20000 in
set_option maxHeartbeats 1000000 in
theorem put_any (x : Nat) (w : World) (hx : x < 18446744073709551616) :
    Calls Try.prog 148 #[.int .u64 (x : Nat)] w fun e w' => e = .returned (.string (str (enc x))) ∧ Below w.heap.size w w' := by
  go_enter Try.func148, Try.ntmps148
  go_wp2
  go_loopw [0, 3] (fun xv ov wr => PutAt x w.heap.size xv ov w wr) (fun xv _ _ => (intOf xv).toNat)
  case atStart => exact ⟨9, x, [], rfl, fits hx, hx, rfl, rfl, OwnB.nil _ _, Below.refl _ _⟩
  case round =>
    obtain ⟨n, z, l, hn, hz, hz2, rfl, hl, hO, hb⟩ := hrel
    have HO := Lib.hid hO; clear hO
    by_cases hlt : z < 128
    · rw [put_stop hlt] at hl
      have HL := Lib.hid hl; clear hl
      have hbv := bv_nat (x := z) (by omega)
      have hw8 : IntKind.u8.wrap (z : Int) = (z : Int) := by rw [IntKind.wrap_u8]; omega
      go_wp2_with (first
        | (refine wpList_push_byte rfl _ _ rfl w.heap.size _ l (UInt8.ofNat z) wr.heap.size 1 rfl rfl (t := 5) (fr := (0, 0)) (by rw [hbv]; exact heap_alloc_new wr _) (HO.out.alloc _) (by unfold fewB; omega) (by have := hb.size; simp; omega) ?_; intro u wA hA hgA hatA; have HA := Lib.hid hA; clear hA)
        | (refine wpList_own_string rfl _ _ 5 _ rfl u rfl w.heap.size (l ++ [UInt8.ofNat z]) HA.out Try.underlying32 Try.underlying5 Try.underlying9 ?_))
      go_ret
      refine ⟨by rw [HL.out]; rfl, ?_⟩
      exact (hb.alloc hb.size _).grown hgA (by have := hb.size; simp; omega) (own_base HO.out)
    · have h1 : n ≠ 0 := by rintro rfl; simp at hz; omega
      obtain ⟨m, rfl⟩ : ∃ m, n = m + 1 := ⟨n - 1, by omega⟩
      rw [put_go (by omega)] at hl
      have hz3 := div_lt_pow hz
      have HL := Lib.hid hl; clear hl
      have HZ := Lib.hid hz3; clear hz3 hz
      have hor := or128_u8 (z % 256) (by omega)
      rw [show z % 256 % 128 = z % 128 by omega, show ((z % 256 : Nat) : Int) = (z : Int) % 256 by omega] at hor
      have hbv := bv_nat (x := z % 128 + 128) (by omega)
      have hcl : z % 128 + 128 < 256 := by omega
      generalize z % 128 + 128 = c at *
      go_wp2_with (first
        | (refine wpList_push_byte rfl _ _ rfl w.heap.size _ l (UInt8.ofNat c) wr.heap.size 1 rfl rfl (t := 5) (fr := (0, 0)) (by rw [hbv]; exact heap_alloc_new wr _) (HO.out.alloc _) (by unfold fewB; omega) (by have := hb.size; simp; omega) ?_; intro u wA hA hgA hatA; have HA := Lib.hid hA; clear hA))
      go_roundw
      case rel => exact ⟨m, z / 128, l ++ [UInt8.ofNat c], by simp; omega, HZ.out, by omega, by go_num, by rw [HL.out]; simp, HA.out, (hb.alloc hb.size _).grown hgA (by have := hb.size; simp; omega) (own_base HO.out)⟩
      case measure => simp [intOf]; omega

theorem drop_at (l : List UInt8) (a j : Nat) : byteAt l (a + j) = byteAt (l.drop a) j := by
  unfold byteAt; rw [List.getD_eq_getElem?_getD, List.getD_eq_getElem?_getD, List.getElem?_drop]
theorem or_part {v j p b : Nat} (hv2 : v < 2 ^ (7 * j)) (hfit : v + 2 ^ (7 * j) * p < 2 ^ b) (hb : b = 63 ∨ b = 64) :
    bits .or .u64 (v : Int) (IntKind.u64.wrap ((p : Int) * 2 ^ (7 * j))) = ((v + 2 ^ (7 * j) * p : Nat) : Int) := by
  rw [IntKind.wrap_u64]
  have h64 : 2 ^ b ≤ 2 ^ 64 := Nat.pow_le_pow_right (by omega) (by omega)
  have e : (p : Int) * 2 ^ (7 * j) % 18446744073709551616 = ((p * 2 ^ (7 * j) : Nat) : Int) := by
    rw [Nat.mul_comm] at hfit
    have : ((p : Int) * 2 ^ (7 * j)) = ((p * 2 ^ (7 * j) : Nat) : Int) := by push_cast; rfl
    rw [this]; omega
  rw [e, or_u64 _ _ (by omega) (by rw [Nat.mul_comm]; omega), or_disjoint hv2]
theorem part_byte (l : List UInt8) (i : Nat) : VarMath.part l i = byteAt l i % 128 := rfl

set_option maxRecDepth 200000 in
set_option maxHeartbeats 4000000 in
theorem get_any (s : ByteArray) (at_ : Int) (b : Nat) (w : World) (hs : s.size ≤ maxReach) (h1 : -9223372036854775808 ≤ at_) (h2 : at_ < 9223372036854775808) (hb : b = 63 ∨ b = 64) :
    Calls Try.prog 150 #[.string s, .int .i64 at_, .int .i64 (b : Nat)] w fun e w' => e = .returned (.tuple #[.int .u64 (gNum b s.data.toList at_ : Nat), .int .i64 (gEnd b s.data.toList at_), .int .i64 (gCode b s.data.toList at_)]) ∧ w = w' := by
  unfold maxReach at hs
  have hl : s.data.toList.length = s.size := by simp
  by_cases hout : at_ < 0 ∨ (s.size : Int) < at_
  · obtain ⟨e1, e2, e3⟩ := g_out (bits := b) (l := s.data.toList) (by rw [hl]; exact hout)
    rw [e1, e2, e3]
    clear e1 e2 e3 hl
    go_enter Try.func150, Try.ntmps150
    by_cases h0 : at_ < 0
    · go_wp2
      go_ret3
      exact ⟨rfl, rfl⟩
    · have h3 : (s.size : Int) < at_ := by omega
      go_wp2
      go_ret3
      exact ⟨rfl, rfl⟩
  obtain ⟨a, rfl⟩ : ∃ a : Nat, at_ = (a : Nat) := ⟨at_.toNat, by omega⟩
  have ha : a ≤ s.size := by omega
  clear h1 h2
  have hdl : (s.data.toList.drop a).length = s.size - a := by rw [List.length_drop, hl]
  obtain ⟨c, hc⟩ : ∃ c, c = cont (s.data.toList.drop a) := ⟨_, rfl⟩
  have hcl := cont_le (s.data.toList.drop a)
  rw [hdl, ← hc] at hcl
  have hge : ∀ j, j < c → 128 ≤ byteAt s.data.toList (a + j) := fun j hj => by
    rw [drop_at]; exact cont_ge (by rw [← hc]; exact hj)
  have hlt : c < s.size - a → byteAt s.data.toList (a + c) < 128 := fun h => by
    have := cont_lt (l := s.data.toList.drop a) (by rw [← hc, hdl]; exact h)
    rw [← hc] at this
    rw [drop_at]; exact this
  have HC := Lib.hid hc; clear hc
  have HG := Lib.hid (And.intro hge hlt); clear hge hlt
  have HDL := Lib.hid (And.intro hl hdl); clear hl hdl hout
  obtain ⟨m, hm⟩ : ∃ m, m = a + c := ⟨_, rfl⟩
  have HM := Lib.hid hm; clear hm
  go_enter Try.func150, Try.ntmps150
  go_wp2
  have hm1 : m ≤ a + c := by rw [HM.out]; exact Nat.le_refl _
  have hm2 : a + c ≤ m := by rw [HM.out]; exact Nat.le_refl _
  go_loop [9] (fun e => ∃ k : Nat, a ≤ k ∧ k ≤ m ∧ e = .int .i64 k) (fun e => s.size - (intOf e).toNat)
  case atStart => exact ⟨a, Nat.le_refl _, by omega, rfl⟩
  case round =>
    obtain ⟨k, hk0, hk, rfl⟩ := hrel
    by_cases hkm : k < m
    · have hks : k < s.size := by omega
      have hat := run_at s (k : Nat) k rfl hks
      have hx := HG.out.1 (k - a) (by omega)
      rw [show a + (k - a) = k by omega] at hx
      have hxb := byteAt_lt s.data.toList k
      generalize byteAt s.data.toList k = x at hat hx hxb
      go_wp2
      go_round
      case rel => exact ⟨k + 1, by omega, by omega, by go_num⟩
      case measure => simp [intOf]; omega
    · obtain rfl : k = m := by omega
      by_cases hend : c < s.size - a
      · have hks : k < s.size := by omega
        have hat := run_at s (k : Nat) k rfl hks
        have hx := HG.out.2 hend
        rw [← HM.out] at hx
        obtain ⟨x, hxx⟩ : ∃ x, x = byteAt s.data.toList k := ⟨_, rfl⟩
        have hlast : x = ((s.data.toList.drop a).getD (cont (s.data.toList.drop a)) 0).toNat := by
          rw [hxx, HM.out, drop_at, ← HC.out]; rfl
        rw [← hxx] at hat hx
        have HX := Lib.hid (And.intro hxx hlast); clear hxx hlast
        by_cases h9 : 9 < c
        · obtain ⟨e1, e2, e3⟩ := g_form (bits := b) (l := s.data.toList) (a := a) (by rw [HDL.out.1]; exact ha) (by rw [← HC.out, HDL.out.2]; exact hend) (.inl (by rw [← HC.out]; exact h9))
          have HE := Lib.hid (And.intro e1 (And.intro e2 e3))
          clear e1 e2 e3
          go_wp2
          go_ret3
          exact ⟨by rw [HE.out.1, HE.out.2.1, HE.out.2.2]; rfl, rfl⟩
        by_cases h0 : 0 < c ∧ x = 0
        · obtain ⟨h0, hx0⟩ := h0
          obtain ⟨e1, e2, e3⟩ := g_form (bits := b) (l := s.data.toList) (a := a) (by rw [HDL.out.1]; exact ha) (by rw [← HC.out, HDL.out.2]; exact hend) (.inr (.inl ⟨by rw [← HC.out]; exact h0, by rw [← HX.out.2]; exact hx0⟩))
          have HE := Lib.hid (And.intro e1 (And.intro e2 e3))
          clear e1 e2 e3
          subst hx0
          go_wp2
          go_ret3
          exact ⟨by rw [HE.out.1, HE.out.2.1, HE.out.2.2]; rfl, rfl⟩
        · have h09 : c ≤ 9 := by omega
          have hx0 : ¬ (0 < c ∧ x = 0) := h0
          have hcn : c + 1 ≤ (s.data.toList.drop a).length := by rw [HDL.out.2]; omega
          have HCN := Lib.hid hcn; clear hcn
          have hxc : (decide ((1 : Int) < (k : Int) + 1 - (a : Int)) && ((x : Int) == 0)) = false := by
            rcases Nat.eq_zero_or_pos c with h | h
            · subst h; rw [decide_eq_false (by omega)]; rfl
            · have : ((x : Int) == 0) = false := by rw [beq_eq_false_iff_ne]; intro e; exact h0 ⟨h, by omega⟩
              rw [this, Bool.and_false]
          clear h0
          have hc2 : (k : Int) + 1 - (a : Int) ≤ 1 ∨ (0 < c ∧ ((x : Int) == 0) = false) := by
            rcases Nat.eq_zero_or_pos c with h | h
            · exact .inl (by omega)
            · exact .inr ⟨h, by rw [beq_eq_false_iff_ne]; intro e; exact hx0 ⟨h, by omega⟩⟩
          rcases hc2 with hc2 | ⟨hc2, hxz⟩
          all_goals
            go_wp2
            go_loop [11, 56] (fun xv iv => ∃ j : Nat, j ≤ c + 1 ∧ iv = .int .i64 j ∧ xv = .int .u64 (val ((s.data.toList.drop a).take j) : Nat) ∧ val ((s.data.toList.drop a).take j) < 2 ^ b) (fun _ iv => 20 - (intOf iv).toNat)
            case atStart => exact ⟨0, by omega, rfl, rfl, Nat.pow_pos (by omega)⟩
            case round =>
              obtain ⟨j, hj, rfl, rfl, hv⟩ := hrel
              by_cases hjc : j < c + 1
              · have hat2 := run_at s ((a : Int) + (j : Int)) (a + j) (by omega) (by omega)
                have hy := byteAt_lt s.data.toList (a + j)
                have hpt : VarMath.part (s.data.toList.drop a) j = byteAt s.data.toList (a + j) % 128 := by rw [drop_at]; rfl
                have hts := val_take_succ (s.data.toList.drop a) j (Nat.lt_of_lt_of_le hjc HCN.out)
                have hv2 := val_take_lt (s.data.toList.drop a) j
                have hmono := val_take_mono (s.data.toList.drop a) (i := j + 1) (j := c + 1) (by omega)
                rw [pow128] at hv2 hts
                rw [hpt] at hts
                generalize byteAt s.data.toList (a + j) = y at hat2 hy hts
                have hand := and127_u8 y hy
                have hp : y % 128 < 128 := Nat.mod_lt _ (by omega)
                generalize y % 128 = p at hand hp hts
                generalize val ((s.data.toList.drop a).take j) = v at hv hv2 hts ⊢
                have HTS := Lib.hid (And.intro hts hmono); clear hts hpt hmono
                have HV := Lib.hid (And.intro hv hv2); clear hv hv2
                by_cases hA : 7 * j < b
                · by_cases hm : b < 7 * j + 7
                  · by_cases hz : p / 2 ^ (b - 7 * j) = 0
                    · have hfit := fit_step HV.out.1 HV.out.2 (fun _ => by rw [Nat.min_eq_right (by omega)]; exact hz) (fun h => by omega) hp
                      have hor := or_part HV.out.2 hfit hb
                      have hzi : (p : Int) / 2 ^ (b - 7 * j) = 0 := by exact_mod_cast hz
                      have hv64 := HV.out.1
                      have htx := HTS.out.1
                      generalize v + 2 ^ (7 * j) * p = v' at hfit hor htx
                      have HF := Lib.hid (And.intro hfit htx); clear hfit hv64 htx hz
                      go_wp2
                      all_goals
                        go_round
                        case rel => exact ⟨j + 1, by omega, by go_num, by rw [HF.out.2], by rw [HF.out.2]; exact HF.out.1⟩
                        case measure => simp [intOf]; omega
                    · have hnf := fit_not (v := v) (.inl ⟨hA, by rw [Nat.min_eq_right (by omega)]; exact hz⟩) hp
                      have hzi : ¬ (p : Int) / 2 ^ (b - 7 * j) = 0 := by exact_mod_cast hz
                      rw [← HTS.out.1] at hnf
                      obtain ⟨e1, e2, e3⟩ := g_form (bits := b) (l := s.data.toList) (a := a) (by rw [HDL.out.1]; exact ha) (by rw [← HC.out, HDL.out.2]; exact hend) (.inr (.inr (by rw [← HC.out]; exact Nat.le_trans hnf HTS.out.2)))
                      have HE := Lib.hid (And.intro e1 (And.intro e2 e3))
                      clear e1 e2 e3 hnf hz
                      go_wp2
                      all_goals
                        go_ret3
                        exact ⟨by rw [HE.out.1, HE.out.2.1, HE.out.2.2]; rfl, rfl⟩
                  · have hfit := fit_step HV.out.1 HV.out.2 (fun _ => by rw [Nat.min_eq_left (by omega)]; exact Nat.div_eq_of_lt hp) (fun h => by omega) hp
                    have hor := or_part HV.out.2 hfit hb
                    have htx := HTS.out.1
                    generalize v + 2 ^ (7 * j) * p = v' at hfit hor htx
                    have HF := Lib.hid (And.intro hfit htx); clear hfit htx
                    go_wp2
                    all_goals
                      go_round
                      case rel => exact ⟨j + 1, by omega, by go_num, by rw [HF.out.2], by rw [HF.out.2]; exact HF.out.1⟩
                      case measure => simp [intOf]; omega
                · by_cases hp0 : p = 0
                  · subst hp0
                    have hbl : 2 ^ b ≤ 2 ^ 64 := Nat.pow_le_pow_right (by omega) (by omega)
                    have hvv := HV.out.1
                    have hor : bits .or .u64 (v : Int) 0 = (v : Int) := by have := or_u64 v 0 (by omega) (by omega); rw [Nat.or_zero] at this; exact this
                    have htx : val (List.take (j + 1) (List.drop a s.data.toList)) = v := HTS.out.1.trans (by simp)
                    have HF := Lib.hid (And.intro hvv htx); clear hvv htx hbl
                    go_wp2
                    all_goals
                      go_round
                      case rel => exact ⟨j + 1, by omega, by go_num, by rw [HF.out.2], by rw [HF.out.2]; exact HF.out.1⟩
                      case measure => simp [intOf]; omega
                  · have hnf := fit_not (v := v) (i := j) (bits := b) (.inr ⟨by omega, hp0⟩) hp
                    rw [← HTS.out.1] at hnf
                    obtain ⟨e1, e2, e3⟩ := g_form (bits := b) (l := s.data.toList) (a := a) (by rw [HDL.out.1]; exact ha) (by rw [← HC.out, HDL.out.2]; exact hend) (.inr (.inr (by rw [← HC.out]; exact Nat.le_trans hnf HTS.out.2)))
                    have HE := Lib.hid (And.intro e1 (And.intro e2 e3))
                    clear e1 e2 e3 hnf
                    go_wp2
                    all_goals
                      go_ret3
                      exact ⟨by rw [HE.out.1, HE.out.2.1, HE.out.2.2]; rfl, rfl⟩
              · obtain rfl : j = c + 1 := by omega
                obtain ⟨e1, e2, e3⟩ := g_ok (bits := b) (l := s.data.toList) (a := a) (by rw [HDL.out.1]; exact ha) (by rw [← HC.out, HDL.out.2]; exact hend) (by have hq := HX.out.2; rw [← HC.out] at hq ⊢; rw [← hq]; omega)
                rw [← HC.out] at e1 e2
                have HE := Lib.hid (And.intro e1 (And.intro e2 e3))
                clear e1 e2 e3 hv
                go_wp2
                go_ret3
                have hres : gEnd b s.data.toList (a : Nat) = (k : Int) + 1 := by rw [HE.out.2.1]; omega
                refine ⟨?_, rfl⟩
                rw [HE.out.1, hres, HE.out.2.2]; rfl
      · obtain ⟨e1, e2, e3⟩ := g_cut (bits := b) (l := s.data.toList) (a := a) (by rw [HDL.out.1]; exact ha) (by rw [← HC.out, HDL.out.2]; omega)
        have HE := Lib.hid (And.intro e1 (And.intro e2 e3))
        clear e1 e2 e3
        have hks : k = s.size := by omega
        go_wp2
        go_ret3
        exact ⟨by rw [HE.out.1, HE.out.2.1, HE.out.2.2]; rfl, rfl⟩

set_option maxRecDepth 100000 in
set_option maxHeartbeats 1000000 in
theorem Put_any (x : Int) (w : World) (h2 : x < 9223372036854775808) :
    Calls Try.prog 91 #[.int .i64 x] w fun e w' => e = .returned (.tuple #[.string (if x < 0 then ⟨#[]⟩ else str (enc x.toNat)), .int .i64 (if x < 0 then 501 else 0)]) ∧ Below w.heap.size w w' := by
  by_cases h0 : x < 0
  · rw [if_pos h0, if_pos h0]
    go_enter Try.func91, Try.ntmps91
    go_wp2
    go_ret2
    exact ⟨rfl, Below.refl _ _⟩
  · rw [if_neg h0, if_neg h0]
    have H := fun w => put_any x.toNat w (by omega)
    rw [show ((x.toNat : Nat) : Int) = x by omega] at H
    generalize str (enc x.toNat) = S at H
    have HH := Lib.hid H; clear H
    have hw : IntKind.u64.wrap x = x := by rw [IntKind.wrap_u64]; omega
    go_enter Try.func91, Try.ntmps91
    go_wp2_with (go_at_call 148; with_reducible refine (HH.out _).mono ?_; rintro e w1 ⟨rfl, hb1⟩)
    go_ret2
    exact ⟨rfl, hb1⟩
theorem zig_words (x : Int) (h1 : -9223372036854775808 ≤ x) (h2 : x < 9223372036854775808) :
    bits .xor .u64 (IntKind.u64.wrap (IntKind.u64.wrap x * 2)) (IntKind.u64.wrap (x / 9223372036854775808)) = (zig x : Int) := by
  rw [IntKind.wrap_u64, IntKind.wrap_u64, IntKind.wrap_u64]
  by_cases h : x < 0
  · have e1 : x / 9223372036854775808 % 18446744073709551616 = 18446744073709551615 := by omega
    have e2 : x % 18446744073709551616 * 2 % 18446744073709551616 = ((2 * x + 18446744073709551616).toNat : Int) := by omega
    rw [e1, e2, xor_ones_u64 _ (by omega)]
    unfold zig; rw [if_pos h]; omega
  · have e1 : x / 9223372036854775808 % 18446744073709551616 = ((0 : Nat) : Int) := by omega
    have e2 : x % 18446744073709551616 * 2 % 18446744073709551616 = ((2 * x).toNat : Int) := by omega
    rw [e1, e2, xor_u64 _ _ (by omega) (by omega), Nat.xor_zero]
    unfold zig; rw [if_neg h]; omega
set_option maxRecDepth 100000 in
set_option maxHeartbeats 1000000 in
theorem Zig_any (x : Int) (w : World) (h1 : -9223372036854775808 ≤ x) (h2 : x < 9223372036854775808) :
    Calls Try.prog 97 #[.int .i64 x] w fun e w' => e = .returned (.string (str (enc (zig x)))) ∧ Below w.heap.size w w' := by
  have H := fun w => put_any (zig x) w (zig_lt h1 h2)
  have hz := zig_words x h1 h2
  generalize str (enc (zig x)) = S at H ⊢
  generalize (zig x : Int) = z at H hz
  have HH := Lib.hid H; clear H
  clear h1 h2
  go_enter Try.func97, Try.ntmps97
  go_wp2_with (go_at_call 148; with_reducible refine (HH.out _).mono ?_; rintro e w1 ⟨rfl, hb1⟩)
  go_ret
  exact ⟨rfl, hb1⟩
theorem gNum_63 (l : List UInt8) (at_ : Int) : gNum 63 l at_ < 9223372036854775808 := gNum_lt 63 l at_
theorem gNum_64 (l : List UInt8) (at_ : Int) : gNum 64 l at_ < 18446744073709551616 := gNum_lt 64 l at_
set_option maxRecDepth 100000 in
set_option maxHeartbeats 1000000 in
theorem Get_any (s : ByteArray) (at_ : Int) (w : World) (hs : s.size ≤ maxReach) (h1 : -9223372036854775808 ≤ at_) (h2 : at_ < 9223372036854775808) :
    Calls Try.prog 93 #[.string s, .int .i64 at_] w fun e w' => e = .returned (.tuple #[.int .i64 (gNum 63 s.data.toList at_ : Nat), .int .i64 (gEnd 63 s.data.toList at_), .int .i64 (gCode 63 s.data.toList at_)]) ∧ w = w' := by
  have H := fun w => get_any s at_ 63 w hs h1 h2 (.inl rfl)
  simp only [show ((63 : Nat) : Int) = 63 from rfl] at H
  have hx := gNum_63 s.data.toList at_
  generalize gNum 63 s.data.toList at_ = x at H hx ⊢
  generalize gEnd 63 s.data.toList at_ = n at H ⊢
  generalize gCode 63 s.data.toList at_ = c at H ⊢
  have HH := Lib.hid H; clear H
  clear hs h1 h2
  go_enter Try.func93, Try.ntmps93
  go_wp2_with (go_at_call 150; with_reducible refine (HH.out _).mono ?_; rintro e w1 ⟨rfl, rfl⟩)
  go_ret3
  exact ⟨rfl, rfl⟩
theorem zag_words (x : Nat) (hx : x < 18446744073709551616) : bits .xor .i64 ((x : Int) / 2) (-((x % 2 : Nat) : Int)) = zag x := by
  unfold zag
  by_cases h : x % 2 = 1
  · rw [h, if_pos rfl, show -((1 : Nat) : Int) = -1 from rfl, xor_neg1_i64 _ (by omega) (by omega)]; omega
  · rw [if_neg h, show x % 2 = 0 by omega, show -((0 : Nat) : Int) = 0 from rfl, xor_zero_i64 _ (by omega) (by omega)]; omega
set_option maxRecDepth 100000 in
set_option maxHeartbeats 1000000 in
theorem Zag_any (s : ByteArray) (at_ : Int) (w : World) (hs : s.size ≤ maxReach) (h1 : -9223372036854775808 ≤ at_) (h2 : at_ < 9223372036854775808) :
    Calls Try.prog 95 #[.string s, .int .i64 at_] w fun e w' => e = .returned (.tuple #[.int .i64 (zag (gNum 64 s.data.toList at_)), .int .i64 (gEnd 64 s.data.toList at_), .int .i64 (gCode 64 s.data.toList at_)]) ∧ w = w' := by
  have H := fun w => get_any s at_ 64 w hs h1 h2 (.inr rfl)
  simp only [show ((64 : Nat) : Int) = 64 from rfl] at H
  have hx := gNum_64 s.data.toList at_
  generalize gNum 64 s.data.toList at_ = x at H hx ⊢
  generalize gEnd 64 s.data.toList at_ = n at H ⊢
  generalize gCode 64 s.data.toList at_ = c at H ⊢
  have hz := zag_words x hx
  generalize zag x = z at hz ⊢
  have ha := and1_u64 x hx
  have hq : x % 2 < 2 := Nat.mod_lt _ (by omega)
  generalize x % 2 = q at ha hq hz
  have HH := Lib.hid H; clear H
  clear hs h1 h2
  go_enter Try.func95, Try.ntmps95
  go_wp2_with (go_at_call 150; with_reducible refine (HH.out _).mono ?_; rintro e w1 ⟨rfl, rfl⟩)
  go_ret3
  exact ⟨rfl, rfl⟩
end Go.Proofs.Ytkkpcdpoldjmkaa.Varint
