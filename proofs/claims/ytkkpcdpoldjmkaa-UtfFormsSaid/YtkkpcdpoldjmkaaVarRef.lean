/-
  THE WALKS of the document's own numbers: boathouseref1.parts, Varint, get, Unvarint, Zig, Zag.
-/
import Derived.Test.YtkkpcdpoldjmkaaVarProg
namespace Go.Proofs.Ytkkpcdpoldjmkaa.Varint
open Go.RowKit VarMath

set_option maxRecDepth 20000 in
set_option maxHeartbeats 1000000 in
theorem parts_any (x : Nat) (w : World) (hx : x < 18446744073709551616) :
    Calls Try.prog 149 #[.int .u64 (x : Nat)] w fun e w' => e = .returned (.string (str (enc x))) ∧ Below w.heap.size w w' := by
  go_enter Try.func149, Try.ntmps149
  go_wp2
  go_loopw [0, 3] (fun xv ov wr => PutAt x w.heap.size xv ov w wr) (fun xv _ _ => (intOf xv).toNat)
  case atStart => exact ⟨9, x, [], rfl, fits hx, hx, rfl, rfl, OwnB.nil _ _, Below.refl _ _⟩
  case round =>
    obtain ⟨n, z, l, hn, hz, hz2, rfl, hl, hO, hb⟩ := hrel
    have HO := Lib.hid hO; clear hO
    by_cases hlt : z < 128
    · rw [put_stop hlt] at hl
      have HL := Lib.hid hl; clear hl
      have hbv := bv_nat (x := z) (by omega)
      go_wp2_with (first
        | (refine wpList_push_byte rfl _ _ rfl w.heap.size _ l (UInt8.ofNat z) wr.heap.size 1 rfl rfl (t := 5) (fr := (0, 0)) (by rw [hbv]; exact heap_alloc_new wr _) (HO.out.alloc _) (by unfold fewB; omega) (by have := hb.size; simp; omega) ?_; intro u wA hA hgA hatA; have HA := Lib.hid hA; clear hA)
        | (refine wpList_own_string rfl _ _ 5 _ rfl u rfl w.heap.size (l ++ [UInt8.ofNat z]) HA.out Try.underlying32 Try.underlying5 Try.underlying9 ?_))
      go_ret
      refine ⟨by rw [HL.out]; rfl, ?_⟩
      exact (hb.alloc hb.size _).grown hgA (by have := hb.size; simp; omega) (own_base HO.out)
    · have h1 : n ≠ 0 := by rintro rfl; simp at hz; omega
      obtain ⟨m, rfl⟩ : ∃ m, n = m + 1 := ⟨n - 1, by omega⟩
      rw [put_go (by omega)] at hl
      have hz3 := div_lt_pow hz
      have HL := Lib.hid hl; clear hl
      have HZ := Lib.hid hz3; clear hz3 hz
      have hbv := bv_nat (x := z % 128 + 128) (by omega)
      have hcz : (z : Int) % 128 + 128 = ((z % 128 + 128 : Nat) : Int) := by omega
      have hcl : z % 128 + 128 < 256 := by omega
      generalize z % 128 + 128 = c at *
      go_wp2_with (first
        | (refine wpList_push_byte rfl _ _ rfl w.heap.size _ l (UInt8.ofNat c) wr.heap.size 1 rfl rfl (t := 5) (fr := (0, 0)) (by rw [hbv]; exact heap_alloc_new wr _) (HO.out.alloc _) (by unfold fewB; omega) (by have := hb.size; simp; omega) ?_; intro u wA hA hgA hatA; have HA := Lib.hid hA; clear hA))
      go_roundw
      case rel => exact ⟨m, z / 128, l ++ [UInt8.ofNat c], by simp; omega, HZ.out, by omega, by go_num, by rw [HL.out]; simp, HA.out, (hb.alloc hb.size _).grown hgA (by have := hb.size; simp; omega) (own_base HO.out)⟩
      case measure => simp [intOf]; omega

set_option maxRecDepth 100000 in
set_option maxHeartbeats 1000000 in
theorem Varint_any (x : Nat) (w : World) (hx : x < 9223372036854775808) :
    Calls Try.prog 92 #[.int .i64 (x : Nat)] w fun e w' => e = .returned (.string (str (enc x))) ∧ Below w.heap.size w w' := by
  have H := fun w => parts_any x w (by omega)
  generalize str (enc x) = S at H ⊢
  have HH := Lib.hid H; clear H
  go_enter Try.func92, Try.ntmps92
  go_wp2_with (go_at_call 149; with_reducible refine (HH.out _).mono ?_; rintro e w1 ⟨rfl, hb1⟩)
  go_ret
  exact ⟨rfl, hb1⟩
set_option maxRecDepth 100000 in
set_option maxHeartbeats 1000000 in
theorem refZig_any (x : Int) (w : World) (h1 : -9223372036854775808 ≤ x) (h2 : x < 9223372036854775808) :
    Calls Try.prog 98 #[.int .i64 x] w fun e w' => e = .returned (.string (str (enc (zig x)))) ∧ Below w.heap.size w w' := by
  have H := fun w => parts_any (zig x) w (zig_lt h1 h2)
  have hz : (zig x : Int) = if x < 0 then -(x + 1) * 2 + 1 else x * 2 := by unfold zig; split <;> omega
  generalize str (enc (zig x)) = S at H ⊢
  generalize (zig x : Int) = z at H hz
  have HH := Lib.hid H; clear H
  by_cases h0 : x < 0
  · rw [if_pos h0] at hz
    subst hz
    go_enter Try.func98, Try.ntmps98
    go_wp2_with (go_at_call 149; with_reducible refine (HH.out _).mono ?_; rintro e w1 ⟨rfl, hb1⟩)
    go_ret
    exact ⟨rfl, hb1⟩
  · rw [if_neg h0] at hz
    subst hz
    go_enter Try.func98, Try.ntmps98
    go_wp2_with (go_at_call 149; with_reducible refine (HH.out _).mono ?_; rintro e w1 ⟨rfl, hb1⟩)
    go_ret
    exact ⟨rfl, hb1⟩

theorem or_shift {v p : Nat} (hp : p < 128) (hv : v * 128 + p < 18446744073709551616) : bits .or .u64 (IntKind.u64.wrap ((v : Int) * 128)) (p : Int) = ((v * 128 + p : Nat) : Int) := by
  have e : IntKind.u64.wrap ((v : Int) * 128) = ((v * 128 : Nat) : Int) := by rw [IntKind.wrap_u64]; omega
  rw [e, or_u64 _ _ (by omega) (by omega), Nat.or_comm]
  have := or_disjoint (v := p) (i := 7) (p := v) (by omega)
  rw [show v * 128 = v * 2 ^ 7 by omega, this]; omega

set_option maxRecDepth 200000 in
set_option maxHeartbeats 4000000 in
theorem refGet_any (s : ByteArray) (at_ : Int) (b : Nat) (w : World) (hs : s.size ≤ maxReach) (h1 : -9223372036854775808 ≤ at_) (h2 : at_ < 9223372036854775808) (most : Int) (hb : b ≤ 64) (hmo : most = ((2 ^ b : Nat) : Int) - 1) :
    Calls Try.prog 151 #[.string s, .int .i64 at_, .int .u64 most] w fun e w' => e = .returned (.tuple #[.int .u64 (gNum b s.data.toList at_ : Nat), .int .i64 (gEnd b s.data.toList at_), .int .i64 (gCode b s.data.toList at_)]) ∧ w = w' := by
  unfold maxReach at hs
  have hl : s.data.toList.length = s.size := by simp
  have HB := Lib.hid (And.intro hb hmo); clear hb hmo
  by_cases hout : at_ < 0 ∨ (s.size : Int) < at_
  · obtain ⟨e1, e2, e3⟩ := g_out (bits := b) (l := s.data.toList) (by rw [hl]; exact hout)
    rw [e1, e2, e3]
    clear e1 e2 e3 hl
    go_enter Try.func151, Try.ntmps151
    by_cases h0 : at_ < 0
    · go_wp2
      go_ret3
      exact ⟨rfl, rfl⟩
    · have h3 : (s.size : Int) < at_ := by omega
      go_wp2
      go_ret3
      exact ⟨rfl, rfl⟩
  obtain ⟨a, rfl⟩ : ∃ a : Nat, at_ = (a : Nat) := ⟨at_.toNat, by omega⟩
  have ha : a ≤ s.size := by omega
  clear h1 h2
  have hdl : (s.data.toList.drop a).length = s.size - a := by rw [List.length_drop, hl]
  obtain ⟨c, hc⟩ : ∃ c, c = cont (s.data.toList.drop a) := ⟨_, rfl⟩
  have hcl := cont_le (s.data.toList.drop a)
  rw [hdl, ← hc] at hcl
  have hge : ∀ j, j < c → 128 ≤ byteAt s.data.toList (a + j) := fun j hj => by
    rw [drop_at]; exact cont_ge (by rw [← hc]; exact hj)
  have hlt : c < s.size - a → byteAt s.data.toList (a + c) < 128 := fun h => by
    have := cont_lt (l := s.data.toList.drop a) (by rw [← hc, hdl]; exact h)
    rw [← hc] at this
    rw [drop_at]; exact this
  have HC := Lib.hid hc; clear hc
  have HG := Lib.hid (And.intro hge hlt); clear hge hlt
  have HDL := Lib.hid (And.intro hl hdl); clear hl hdl hout
  go_enter Try.func151, Try.ntmps151
  go_wp2
  go_loop [9] (fun e => ∃ k : Nat, k ≤ c ∧ e = .int .i64 k) (fun e => s.size - (intOf e).toNat)
  case atStart => exact ⟨0, by omega, rfl⟩
  case round =>
    obtain ⟨k, hk, rfl⟩ := hrel
    by_cases hkm : k < c
    · have hks : a + k < s.size := by omega
      have hat := run_at s ((a : Int) + (k : Int)) (a + k) (by omega) hks
      have hx := HG.out.1 k (by omega)
      have hxb := byteAt_lt s.data.toList (a + k)
      generalize byteAt s.data.toList (a + k) = x at hat hx hxb
      go_wp2
      go_round
      case rel => exact ⟨k + 1, by omega, by go_num⟩
      case measure => simp [intOf]; omega
    · obtain rfl : k = c := by omega
      by_cases hend : k < s.size - a
      · have hks : a + k < s.size := by omega
        have hat := run_at s ((a : Int) + (k : Int)) (a + k) (by omega) hks
        have hx := HG.out.2 hend
        obtain ⟨x, hxx⟩ : ∃ x, x = byteAt s.data.toList (a + k) := ⟨_, rfl⟩
        have hlast : x = ((s.data.toList.drop a).getD k 0).toNat := by rw [hxx, drop_at]; rfl
        rw [← hxx] at hat hx
        have HX := Lib.hid (And.intro hxx hlast); clear hxx hlast
        have hlen : k < (s.data.toList.drop a).length := by rw [HDL.out.2]; exact hend
        have HLEN := Lib.hid hlen; clear hlen
        by_cases hf : 9 < k ∨ (k = 9 ∧ 1 < x) ∨ (0 < k ∧ x = 0)
        · have hform : 9 < cont (s.data.toList.drop a) ∨ (0 < cont (s.data.toList.drop a) ∧ ((s.data.toList.drop a).getD (cont (s.data.toList.drop a)) 0).toNat = 0) ∨ 2 ^ b ≤ val ((s.data.toList.drop a).take (cont (s.data.toList.drop a) + 1)) := by
            rcases hf with h | ⟨h, h'⟩ | ⟨h, h'⟩
            · left; rw [← HC.out]; exact h
            · right; right
              have h9 := ten_big (l := s.data.toList.drop a) (by rw [← HC.out]; exact h) (by have := HLEN.out; omega) (by have := HX.out.2; rw [h] at this; rw [← this]; exact h')
              exact Nat.le_trans (Nat.pow_le_pow_right (by omega) HB.out.1) h9
            · right; left; rw [← HC.out, ← HX.out.2]; exact ⟨h, h'⟩
          obtain ⟨e1, e2, e3⟩ := g_form (bits := b) (l := s.data.toList) (a := a) (by rw [HDL.out.1]; exact ha) (by rw [← HC.out]; exact HLEN.out) hform
          have HE := Lib.hid (And.intro e1 (And.intro e2 e3))
          clear e1 e2 e3 hform
          rcases hf with h | ⟨h, h'⟩ | ⟨h, h'⟩
          · go_wp2
            all_goals
              go_ret3
              exact ⟨by rw [HE.out.1, HE.out.2.1, HE.out.2.2]; rfl, rfl⟩
          · have hh1 : (9 : Nat) ≤ k := by omega
            have hh2 : k ≤ 9 := by omega
            have hke : ((k : Int) == 9) = true := by rw [beq_iff_eq]; omega
            clear h
            go_wp2
            all_goals
              go_ret3
              exact ⟨by rw [HE.out.1, HE.out.2.1, HE.out.2.2]; rfl, rfl⟩
          · by_cases h9 : 9 < k
            · go_wp2
              all_goals
                go_ret3
                exact ⟨by rw [HE.out.1, HE.out.2.1, HE.out.2.2]; rfl, rfl⟩
            · have hx1 : ((x : Int) == 0) = true := by rw [beq_iff_eq]; omega
              have hx2 : decide ((1 : Int) < (x : Int)) = false := decide_eq_false (by omega)
              have hx3 : decide ((9 : Int) < (k : Int)) = false := decide_eq_false (by omega)
              have hx4 : (x : Int) ≤ 1 := by omega
              clear h'
              rcases (by cases ((k : Int) == 9); exact .inr rfl; exact .inl rfl : ((k : Int) == 9) = true ∨ ((k : Int) == 9) = false) with hke | hke
              all_goals
                go_wp2
                all_goals
                  go_ret3
                  exact ⟨by rw [HE.out.1, HE.out.2.1, HE.out.2.2]; rfl, rfl⟩
        · have hk9 : k ≤ 9 := by omega
          have hsm := few_small (l := s.data.toList.drop a) (by rw [← HC.out]; exact hk9) (by rw [← HC.out]; exact HLEN.out) (fun h => by
            rw [← HC.out] at h; have := HX.out.2; rw [h] at this; rw [← this]; omega)
          rw [← HC.out] at hsm
          have HSM := Lib.hid hsm; clear hsm
          have hlt' : ((s.data.toList.drop a).take (k + 1)).length = k + 1 := by rw [List.length_take]; have := HLEN.out; omega
          have HLT := Lib.hid hlt'; clear hlt'
          have hnf : ¬ (9 < k) ∧ ¬ (k = 9 ∧ 1 < x) ∧ ¬ (0 < k ∧ x = 0) := by omega
          have HNF := Lib.hid hnf; clear hnf
          go_upto_region 8 with fail
          go_cut [67] (fun v wr => v = .bool false ∧ wr = w)
          case first =>
            have hx3 : decide ((9 : Int) < (k : Int)) = false := decide_eq_false (by omega)
            by_cases hk9' : k = 9
            · have hx1 := HNF.out.2.1
              have hke : ((k : Int) == 9) = true := by rw [beq_iff_eq]; omega
              have hxx : x ≤ 1 := by omega
              have hxd : decide ((1 : Int) < (x : Int)) = false := decide_eq_false (by omega)
              have hxz : ((x : Int) == 0) = false := by rw [beq_eq_false_iff_ne]; have := HNF.out.2.2; omega
              have hh1 : (9 : Nat) ≤ k := by omega
              clear hf hk9' hx1
              go_wp2
              all_goals
                go_meet
                exact ⟨rfl, rfl⟩
            · have hke : ((k : Int) == 9) = false := by rw [beq_eq_false_iff_ne]; omega
              rcases Nat.eq_zero_or_pos k with h0 | h0
              · have hh2 : (k : Int) ≤ 0 := by omega
                clear hf hk9' h0
                go_wp2
                all_goals
                  go_meet
                  exact ⟨rfl, rfl⟩
              · have hxz : ((x : Int) == 0) = false := by rw [beq_eq_false_iff_ne]; have := HNF.out.2.2; omega
                clear hf hk9'
                go_wp2
                all_goals
                  go_meet
                  exact ⟨rfl, rfl⟩
          case rest =>
            obtain ⟨rfl, rfl⟩ := hcut
            clear hf
            go_wp2
            go_loop [10, 11] (fun xv iv => ∃ j : Nat, j ≤ k + 1 ∧ iv = .int .i64 ((j : Int) - 1) ∧ xv = .int .u64 (val (((s.data.toList.drop a).take (k + 1)).drop j) : Nat)) (fun _ iv => (intOf iv + 1).toNat)
            case atStart => exact ⟨k + 1, Nat.le_refl _, by go_num, by rw [List.drop_of_length_le (by rw [HLT.out]; exact Nat.le_refl _)]; rfl⟩
            case round =>
              obtain ⟨j, hj, rfl, rfl⟩ := hrel
              by_cases hj0 : 0 < j
              · obtain ⟨i, rfl⟩ : ∃ i, j = i + 1 := ⟨j - 1, by omega⟩
                have hat2 := run_at s ((a : Int) + (i : Int)) (a + i) (by omega) (by omega)
                have hy := byteAt_lt s.data.toList (a + i)
                have hvd := val_drop ((s.data.toList.drop a).take (k + 1)) i (by rw [HLT.out]; omega)
                rw [part_take _ _ _ (by omega)] at hvd
                have hpt : VarMath.part (s.data.toList.drop a) i = byteAt s.data.toList (a + i) % 128 := by rw [drop_at]; rfl
                rw [hpt] at hvd
                have hle := val_drop_le ((s.data.toList.drop a).take (k + 1)) i
                have hpos : 0 < 128 ^ i := Nat.pow_pos (by omega)
                have hle2 : val (((s.data.toList.drop a).take (k + 1)).drop i) < 18446744073709551616 := by
                  have h1 : val (((s.data.toList.drop a).take (k + 1)).drop i) * 1 ≤ val (((s.data.toList.drop a).take (k + 1)).drop i) * 128 ^ i := Nat.mul_le_mul_left _ hpos
                  have := HSM.out
                  omega
                rw [hvd] at hle2
                have hp : byteAt s.data.toList (a + i) % 128 < 128 := Nat.mod_lt _ (by omega)
                have hor := or_shift hp hle2
                have hrem : ((byteAt s.data.toList (a + i) : Nat) : Int) % 128 = ((byteAt s.data.toList (a + i) % 128 : Nat) : Int) := by omega
                have HVD := Lib.hid hvd; clear hvd hle hpt hpos
                generalize byteAt s.data.toList (a + i) = y at *
                generalize val (((s.data.toList.drop a).take (k + 1)).drop (i + 1)) = v at *
                generalize hpp : y % 128 = p at *
                have HPP := Lib.hid hpp; clear hpp
                generalize v * 128 + p = v' at *
                have hji : ((i + 1 : Nat) : Int) - 1 = (i : Int) := by omega
                rw [hji]
                clear hji
                go_wp2
                go_round
                case rel => exact ⟨i, by omega, by go_num, by rw [HVD.out]⟩
                case measure => simp [intOf]
              · obtain rfl : j = 0 := by omega
                rw [List.drop_zero]
                rw [show (((0 : Nat) : Int) - 1) = -1 from rfl]
                have hgt : most < (val ((s.data.toList.drop a).take (k + 1)) : Int) ↔ 2 ^ b ≤ val ((s.data.toList.drop a).take (k + 1)) := by
                  rw [HB.out.2]; omega
                by_cases hbig : 2 ^ b ≤ val ((s.data.toList.drop a).take (k + 1))
                · obtain ⟨e1, e2, e3⟩ := g_form (bits := b) (l := s.data.toList) (a := a) (by rw [HDL.out.1]; exact ha) (by rw [← HC.out]; exact HLEN.out) (.inr (.inr (by rw [← HC.out]; exact hbig)))
                  have HE := Lib.hid (And.intro e1 (And.intro e2 e3))
                  have hgt' := hgt.2 hbig
                  clear e1 e2 e3 hgt hbig
                  go_wp2
                  go_ret3
                  exact ⟨by rw [HE.out.1, HE.out.2.1, HE.out.2.2]; rfl, rfl⟩
                · obtain ⟨e1, e2, e3⟩ := g_ok (bits := b) (l := s.data.toList) (a := a) (by rw [HDL.out.1]; exact ha) (by rw [← HC.out]; exact HLEN.out) (by
                    rw [← HC.out, ← HX.out.2]
                    have := HNF.out
                    rintro (h | h | h)
                    · exact this.1 h
                    · exact this.2.2 h
                    · exact hbig h)
                  rw [← HC.out] at e1 e2
                  have HE := Lib.hid (And.intro e1 (And.intro e2 e3))
                  have hgt' : (val ((s.data.toList.drop a).take (k + 1)) : Int) ≤ most := by
                    have := fun h => hbig (hgt.1 h); omega
                  clear e1 e2 e3 hgt hbig
                  have hres : gEnd b s.data.toList (a : Nat) = (a : Int) + (k : Int) + 1 := by rw [HE.out.2.1]; omega
                  have HR := Lib.hid hres; clear hres
                  go_wp2
                  go_ret3
                  refine ⟨?_, rfl⟩
                  rw [HE.out.1, HR.out, HE.out.2.2]; rfl
      · obtain ⟨e1, e2, e3⟩ := g_cut (bits := b) (l := s.data.toList) (a := a) (by rw [HDL.out.1]; exact ha) (by rw [← HC.out, HDL.out.2]; omega)
        have HE := Lib.hid (And.intro e1 (And.intro e2 e3))
        clear e1 e2 e3
        go_wp2
        go_ret3
        exact ⟨by rw [HE.out.1, HE.out.2.1, HE.out.2.2]; rfl, rfl⟩
end Go.Proofs.Ytkkpcdpoldjmkaa.Varint
