/-
  THE WALK of BitpackBits.
-/
import Derived.Test.YtkkpcdpoldjmkaaBitLaws2
import Derived.Test.YtkkpcdpoldjmkaaCrcLaws
namespace Go.Proofs.Ytkkpcdpoldjmkaa.Bitpack
open Go.RowKit BitMath Sl Mem Go.ChangeShapes Go.WideShapes

theorem u24 (w : World) : Calls Try.prog 111 #[.string (str ([0, 0, 0])), .int .i64 24, .int .i64 1] w fun e w' => ∃ A c, e = .returned (.tuple #[.slice A 24 c, .int .i64 0]) ∧ OwnI w' w.heap.size (.slice A 24 c) (unpackL ([0, 0, 0]) 24 1) ∧ Below w.heap.size w w' := by
  have := unpack_got (str ([0, 0, 0])) 24 1 w (by decide) 24 (by rw [str_toList]; decide +kernel) 0 (by rw [str_toList]; decide +kernel)
  rw [str_toList] at this; exact this
theorem u50 (w : World) : Calls Try.prog 111 #[.string { data := #[] }, .int .i64 50, .int .i64 0] w fun e w' => ∃ A c, e = .returned (.tuple #[.slice A 50 c, .int .i64 0]) ∧ OwnI w' w.heap.size (.slice A 50 c) (unpackL [] 50 0) ∧ Below w.heap.size w w' := by
  have := unpack_got { data := #[] } 50 0 w (by decide) 50 (by decide +kernel) 0 (by decide +kernel)
  exact this
theorem mod_pow (x : Int) (wd : Nat) (hw : wd ≤ 16) : (IntKind.u64.wrap x).tmod ((2 ^ wd : Nat) : Int) = x % ((2 ^ wd : Nat) : Int) := by
  have h0 : 0 ≤ IntKind.u64.wrap x := by rw [IntKind.wrap_u64]; omega
  rw [Int.tmod_eq_emod_of_nonneg h0, IntKind.wrap_u64]
  refine Int.emod_emod_of_dvd x ?_
  refine ⟨((2 ^ (64 - wd) : Nat) : Int), ?_⟩
  have : 2 ^ wd * 2 ^ (64 - wd) = 18446744073709551616 := by rw [← Nat.pow_add, show wd + (64 - wd) = 64 by omega]
  rw [← Int.natCast_mul, this]; rfl
/-- A bit of a number that was packed. -/
theorem packed_bit {w M i k y : Nat} {ns : List Nat} (h : ∀ x ∈ ns, x < 2 ^ w) (hM : ns.length = M) (hi : i < M) (hk : k < w) (hy : ns.getD i 0 = y) :
    (i * w + k) / 8 < (packed w ns).length ∧ byteAt (packed w ns) ((i * w + k) / 8) / 2 ^ ((i * w + k) % 8) % 2 = y / 2 ^ k % 2 := by
  have hl := packed_length w ns
  rw [hM] at hl
  have hlt : i * w + k < w * M := by
    have : w * (i + 1) ≤ w * M := Nat.mul_le_mul_left _ (by omega)
    rw [Nat.mul_succ, Nat.mul_comm] at this; omega
  have h1 : (i * w + k) / 8 < (packed w ns).length := by rw [hl]; omega
  refine ⟨h1, ?_⟩
  rw [str_bit h1]
  have hn : num (packed w ns) = all w ns := by
    unfold packed
    refine num_bytes (Nat.lt_of_lt_of_le (all_lt h) ?_)
    rw [p256, hM]; exact Nat.pow_le_pow_right (by omega) (by omega)
  rw [hn, show i * w + k = w * i + k by rw [Nat.mul_comm], Nat.pow_add, ← Nat.div_div_eq_div_mul, ← hy, ← all_at h i (by omega)]
  generalize all w ns / 2 ^ (w * i) = z
  have e : 2 ^ w = 2 ^ k * 2 ^ (w - k) := by rw [← Nat.pow_add, show k + (w - k) = w by omega]
  rw [e, Nat.mod_mul_right_div_self, Nat.mod_mod_of_dvd]
  exact ⟨2 ^ (w - k - 1), by rw [Nat.mul_comm, ← Nat.pow_succ]; congr 1; omega⟩

set_option maxRecDepth 100000 in
set_option maxHeartbeats 8000000 in
theorem bitpackBits_any (A0 : Option Addr) (n c0 : Nat) (xs : List Int) (width at_0 : Int) (w : World) (h0 : IArg w A0 n c0 xs) (_hm : (Lit.int .i64 width).wf = true) (_ha : (Lit.int .i64 at_0).wf = true) :
    Calls Try.prog 28 #[.slice A0 n c0, .int .i64 width, .int .i64 at_0] w fun e w' => e = .returned (.bool true) ∧ Below w.heap.size w w' := by
  clear _hm _ha
  have hle := h0.le; have hcap := h0.cap
  have hxl := h0.sl.1
  obtain ⟨b, hb, hb2⟩ := Crc.mod_nat width 16 (by omega)
  have hb2 : (IntKind.u64.wrap width).tmod 16 = (b : Int) := hb2
  obtain ⟨wd, hwd⟩ : ∃ wd, wd = 1 + b := ⟨_, rfl⟩
  have hwI : 1 + (b : Int) = (wd : Int) := by omega
  have hw16 : wd ≤ 16 := by omega
  have hw1 : 1 ≤ wd := by omega
  clear hwd hb
  obtain ⟨TW, hTW⟩ : ∃ TW : Nat, TW = 2 ^ wd := ⟨_, rfl⟩
  have hTW0 : 0 < (TW : Int) := by have : 0 < 2 ^ wd := Nat.pow_pos (by omega); omega
  have hTW1 : (TW : Int) ≤ 65536 := by have : 2 ^ wd ≤ 2 ^ 16 := Nat.pow_le_pow_right (by omega) hw16; omega
  have hpow : ((2 : Int) ^ wd) = (TW : Int) := by rw [hTW]; push_cast; rfl
  have hmod : ∀ x : Int, (IntKind.u64.wrap x).tmod (TW : Int) = x % (TW : Int) := fun x => by rw [hTW]; exact mod_pow x wd hw16
  have hTWp := hTW
  obtain ⟨TI, hTI⟩ : ∃ TI : Int, TI = (TW : Int) := ⟨_, rfl⟩
  rw [← hTI] at hTW0 hTW1 hpow
  simp only [← hTI] at hmod
  have HTW := Lib.hid (And.intro hTI (And.intro hTWp hmod)); clear hTW hmod hTI hTWp
  have hwr : IntKind.u64.wrap TI = TI := by rw [IntKind.wrap_u64]; omega
  have hTI0 : ¬ TI = 0 := by omega
  obtain ⟨ys, hys⟩ : ∃ ys, ys = (xs.take 100).map (· % TI) := ⟨_, rfl⟩
  obtain ⟨M, hM⟩ : ∃ M, M = ys.length := ⟨_, rfl⟩
  have hM1 : M = min 100 n := by rw [hM, hys, List.length_map, List.length_take, hxl]
  have hM100 : M ≤ 100 := by omega
  have hMn : M ≤ n := by omega
  have hM3 : M < 100 → M = n := by omega
  have hget : ∀ k x, k < M → xs[k]? = some x → ys[k]? = some (x % TI) := fun k x hk hx => by rw [hys, List.getElem?_map, List.getElem?_take, if_pos (by omega), hx]; rfl
  have hfit : fit wd ys := fun y hy => by
    rw [hys, List.mem_map] at hy
    obtain ⟨x, _, rfl⟩ := hy
    rw [show ((2 ^ wd : Nat) : Int) = TI from by rw [← HTW.out.2.1, ← HTW.out.1]]
    exact ⟨Int.emod_nonneg _ (by omega), Int.emod_lt_of_pos _ hTW0⟩
  clear hM1 hys
  have HG := Lib.hid (And.intro hget hfit); clear hget hfit
  have HM := Lib.hid (And.intro hM hM3); clear hM hM3
  have H0 := Lib.hid h0; clear h0 hxl
  go_enter Try.func28, Try.ntmps28
  go_wp2_with (go_at_call 115; with_reducible refine (awake_any _).mono ?_; rintro e w1 ⟨rfl, hb1⟩)
  replace H0 := Lib.hid (H0.out.below hb1)
  go_loopw [8, 9] (fun ov iv wr => ∃ k : Nat, k ≤ M ∧ iv = .int .i64 k ∧ OwnI wr w1.heap.size ov (ys.take k) ∧ Below w1.heap.size w1 wr) (fun _ iv _ => M - (intOf iv).toNat)
  case atStart => exact ⟨0, Nat.zero_le _, rfl, OwnI.nil _ _, Below.refl _ _⟩
  case round =>
    obtain ⟨k, hk, rfl, hO, hb⟩ := hrel
    have HO := Lib.hid hO; clear hO
    have hyl : (ys.take k).length = k := by rw [List.length_take, ← HM.out.1]; omega
    by_cases hkm : k < M
    · obtain ⟨g, off, x, hx, rfl, hg, hcell⟩ := (H0.out.sl.below hb).at_ (k := k) (by omega)
      have hyx := HG.out.1 k x hkm hx
      have hmx := HTW.out.2.2 x
      have hyl0 : 0 ≤ x % TI := Int.emod_nonneg x (by omega)
      have hyl1 : x % TI < 65536 := by have := Int.emod_lt_of_pos x hTW0; omega
      generalize x % TI = y at *
      have hwy : IntKind.i64.wrap y = y := IntWalk.i64_in _ (by omega)
      have hts : ys.take (k + 1) = ys.take k ++ [y] := Vals.take_more hyx
      have HT := Lib.hid hts; clear hts hyx hx
      have hk100 : k < 100 := by omega
      have hkn : k < n := by omega
      have hkI : (k : Int) < (n : Int) := by omega
      have HYL := Lib.hid hyl; clear hyl
      have hszb := hb.size
      go_wp2
      go_region_law (refine step_push_int rfl (.tmp 37) (.tmp 47) rfl w1.heap.size _ (ys.take k) y _ 1 rfl rfl (t := 3) (fr := (0, 0)) (heap_alloc_new _ _) (HO.out.drew.alloc _) (by rw [HYL.out]; unfold few; omega) (by simp; omega) ?_; intro u wA hA hgA hatA; have HA := Lib.hid hA; clear hA)
      all_goals
        go_wp2
        go_roundw
        case rel => exact ⟨k + 1, by omega, by go_num, by rw [HT.out]; exact HA.out, (hb.drew.alloc hb.size _).grown hgA (by have := hb.size; simp; omega) (own_base HO.out)⟩
        case measure => simp [intOf]; omega
    · obtain rfl : k = M := by omega
      have hyt : ys.take k = ys := List.take_of_length_le (by rw [← HM.out.1]; exact Nat.le_refl _)
      rw [hyt] at hyl
      have hO2 := HO.out
      rw [hyt] at hO2
      clear HO hyt
      have hgo : (n ≤ k) ∨ (k < n ∧ 100 ≤ k) := by have := HM.out.2; omega
      obtain ⟨e1, e2⟩ := pack_fit (show wd ≤ 16 by omega) HG.out.2
      have hpl := packed_length wd (nats ys)
      rw [nats_length, hyl] at hpl
      have hHP : ∀ A c w, ISl w A k ys → Calls Try.prog 109 #[.slice A k c, .int .i64 (wd : Int)] w fun e w' => e = .returned (.tuple #[.string (str (packed wd (nats ys))), .int .i64 0]) ∧ Below w.heap.size w w' := fun A c w h => by
        have := pack_any A k c ys (wd : Int) w h (by omega)
        rw [e1, e2] at this; exact this
      have hsz : ((str (packed wd (nats ys))).size : Int) = ((k : Int) * (wd : Int) + 7) / 8 := by
        rw [str_size, hpl, Nat.mul_comm]; push_cast; rfl
      obtain ⟨PP, hPP⟩ : ∃ PP : Int, (k : Int) * (wd : Int) = PP := ⟨_, rfl⟩
      have hPP0 : 0 ≤ PP := by
        have e : (k : Int) * (wd : Int) = ((k * wd : Nat) : Int) := by push_cast; rfl
        rw [← hPP, e]; omega
      have hPP1 : PP ≤ 1600 := by
        have : k * wd ≤ 100 * 16 := Nat.mul_le_mul hM100 (by omega)
        have e : (k : Int) * (wd : Int) = ((k * wd : Nat) : Int) := by push_cast; rfl
        rw [← hPP, e]; omega
      rw [hPP] at hsz
      obtain ⟨A, c, rfl, hcl, _⟩ := hO2.form hyl
      unfold maxLen at hcl
      have hS1 := hO2.sl hyl
      have HS1 := Lib.hid hS1; clear hS1 hO2
      have HBT := Lib.hid (bthen hb1 hb (Nat.le_refl _)); clear hb hb1
      have HHP := Lib.hid hHP; clear hHP
      obtain ⟨S, hSS⟩ : ∃ S, str (packed wd (nats ys)) = S := ⟨_, rfl⟩
      rw [hSS] at HHP hsz
      have hszl : S.size ≤ 300 := by omega
      have HSS := Lib.hid (And.intro hSS hpl); clear hSS hpl
      have HYL := Lib.hid hyl; clear hyl e1 e2 hkm
      by_cases hk0 : k = 0
      · subst hk0
        have hPz : PP = 0 := by rw [← hPP]; exact Int.zero_mul _
        have hS0 : S = { data := #[] } := by
          rw [← HSS.out.1]
          have e : packed wd (nats ys) = [] := List.eq_nil_of_length_eq_zero (by rw [HSS.out.2, Nat.mul_zero])
          rw [e]; rfl
        subst hS0
        subst hPz
        have hn0 : n = 0 := by omega
        subst hn0
        clear hPP
        go_wp2_with (first
          | (go_at_call 109; with_reducible refine (HHP.out _ _ _ HS1.out).mono ?_; rintro e w2 ⟨rfl, hb2⟩)
          | (go_at_call 56; with_reducible refine (boathouseNames.num_any _ _).mono ?_; rintro e w' ⟨rfl, rfl⟩))
        go_ret
        exact ⟨rfl, bthen HBT.out hb2 (Nat.le_refl _)⟩
      have hkp : 0 < k := by omega
      obtain ⟨i, hi, hi2⟩ := Crc.mod_nat at_0 k hkp
      have hiI : (IntKind.u64.wrap at_0).tmod (k : Int) = (i : Int) := hi2
      clear hi2
      obtain ⟨bb, oo, y, hy, rfl, hbl, hcy⟩ := HS1.out.at_ hi
      have hyf := HG.out.2 y (List.mem_of_getElem? hy)
      obtain ⟨yn, rfl⟩ : ∃ yn : Nat, y = (yn : Int) := ⟨y.toNat, by omega⟩
      have hyn : yn < 2 ^ wd := by have := hyf.2; omega
      have hyd : (nats ys).getD i 0 = yn := by
        rw [List.getD_eq_getElem?_getD]; unfold nats; rw [List.getElem?_map, hy]; rfl
      have hbits := fun q (hq : q < wd) => packed_bit (fit_lt HG.out.2) (show (nats ys).length = k by rw [nats_length]; exact HYL.out) hi hq hyd
      obtain ⟨P, hPe⟩ : ∃ P, P = i * wd := ⟨_, rfl⟩
      rw [← hPe] at hbits
      have hmul : (i : Int) * (wd : Int) = (P : Int) := by rw [hPe]; push_cast; rfl
      have hP1 : P ≤ 1600 := by
        have : i * wd ≤ 100 * 16 := Nat.mul_le_mul (by omega) (by omega)
        omega
      have HBI := Lib.hid (And.intro hbits hyn); clear hbits hyn hyf hyd hy hPe
      have hl : S.data.toList = packed wd (nats ys) := by rw [← HSS.out.1, str_toList]
      have hl2 : (packed wd (nats ys)).length = S.size := by rw [← HSS.out.1, str_size]
      have HLL := Lib.hid (And.intro hl hl2); clear hl hl2
      have hkne : ¬ k = 0 := hk0
      have hik : (i : Int) < (k : Int) := by omega
      rcases hgo with hgo | ⟨hgo, hgo2⟩
      all_goals
        go_wp2_with (first
          | (go_at_call 109; with_reducible refine (HHP.out _ _ _ HS1.out).mono ?_; rintro e w2 ⟨rfl, hb2⟩)
          | (go_at_call 56; with_reducible refine (boathouseNames.num_any _ _).mono ?_; rintro e w' ⟨rfl, rfl⟩))
        have hcy2 := (hb2.cell (p := ⟨bb, oo + i, none⟩) hbl).trans hcy
        have hbl2 : bb < w2.heap.size := Nat.lt_of_lt_of_le hbl hb2.size
        have HBT2 := Lib.hid (bthen HBT.out hb2 (Nat.le_refl _)); clear hb2 hcy
        go_loop [13, 14] (fun xv kv => ∃ q : Nat, q ≤ wd ∧ kv = .int .i64 q ∧ xv = .int .i64 ((yn % 2 ^ q : Nat) : Int)) (fun _ kv => wd - (intOf kv).toNat)
        case atStart => exact ⟨0, Nat.zero_le _, rfl, by rw [Nat.pow_zero, Nat.mod_one]; rfl⟩
        case round =>
          obtain ⟨q, hq, rfl, rfl⟩ := hrel
          by_cases hqw : q < wd
          · obtain ⟨g1, g2⟩ := HBI.out.1 q hqw
            obtain ⟨t, ht⟩ : ∃ t, t = P + q := ⟨_, rfl⟩
            rw [← ht] at g1 g2
            have htI : (P : Int) + (q : Int) = (t : Int) := by omega
            have htI2 : IntKind.i64.wrap ((P : Int) + (q : Int)) = (t : Int) := by rw [htI]; exact IntWalk.i64_in _ (by omega)
            rw [HLL.out.2] at g1
            have hat := run_at S ((t : Int) / 8) (t / 8) (by omega) g1
            rw [HLL.out.1] at hat
            have hy8 := byteAt_lt (packed wd (nats ys)) (t / 8)
            have htM : (t : Int) % 8 = ((t % 8 : Nat) : Int) := by omega
            have htT : (t : Int).tmod 8 = ((t % 8 : Nat) : Int) := rfl
            have h8 : t % 8 < 8 := Nat.mod_lt _ (by omega)
            have htl : t ≤ 1616 := by omega
            have HT := Lib.hid ht; clear ht
            obtain ⟨b, hb2⟩ : ∃ b, b = yn / 2 ^ q % 2 := ⟨_, rfl⟩
            have hbl : b < 2 := by omega
            rw [← hb2] at g2
            have hX : yn % 2 ^ q < 2 ^ q := Nat.mod_lt _ (Nat.pow_pos (by omega))
            have hst := or_win3 hX hbl (show q < 16 by omega)
            rw [or_bit hX, hb2, ← bit_more, ← hb2] at hst
            have hp16 : 2 ^ q ≤ 2 ^ 16 := Nat.pow_le_pow_right (by omega) (by omega)
            have hX2 : yn % 2 ^ (q + 1) < 2 ^ (q + 1) := Nat.mod_lt _ (Nat.pow_pos (by omega))
            generalize byteAt (packed wd (nats ys)) (t / 8) = yb at *
            generalize t % 8 = tm at *
            have hand : bits .and .u8 ((yb : Int) / 2 ^ tm) 1 = (b : Int) := by
              have e : ((yb : Int) / 2 ^ tm) = ((yb / 2 ^ tm : Nat) : Int) := by push_cast; rfl
              have hlt : yb / 2 ^ tm < 256 := Nat.lt_of_le_of_lt (Nat.div_le_self _ _) hy8
              have := and_u8 (yb / 2 ^ tm) 1 hlt (by omega)
              rw [and1, g2] at this
              rw [e]; exact this
            clear hb2 g2 hX hX2 hp16
            obtain ⟨X2, hX2e⟩ : ∃ X2, X2 = yn % 2 ^ (q + 1) := ⟨_, rfl⟩
            rw [← hX2e] at hst
            have HX2 := Lib.hid hX2e; clear hX2e
            generalize yn % 2 ^ q = X1 at *
            go_wp2
            go_round
            case rel => exact ⟨q + 1, by omega, by go_num, by rw [← HX2.out]⟩
            case measure => simp [intOf]; omega
          · obtain rfl : q = wd := by omega
            have hfin : yn % 2 ^ q = yn := Nat.mod_eq_of_lt HBI.out.2
            rw [hfin]
            clear hqw hfin
            go_wp2_with (first
              | (at_make; refine wpList_make_bytes rfl _ _ rfl w2.heap.size .i64 .i64 _ _ 3 rfl rfl rfl rfl (by omega) (Nat.le_refl _) ?_; intro w3 hO3 hg3 hsz3; have hcy3 := hg3.cell hcy2 (by simp); have HBT3 := Lib.hid (HBT2.out.grown hg3 HBT2.out.size (fun j hj => by cases hj)); have HO3 := Lib.hid hO3; clear hO3)
              | (refine wpList_own_string rfl _ _ 5 _ rfl _ rfl w2.heap.size (List.replicate 3 0) HO3.out Try.underlying32 Try.underlying5 Try.underlying9 ?_))
            with_reducible refine (u24 _).mono ?_
            rintro e w4 ⟨A4, c4, rfl, _, hb4⟩
            have hcy4 := (hb4.cell (p := ⟨bb, oo + i, none⟩) (Nat.lt_of_lt_of_le hbl2 (Nat.le_of_lt hsz3))).trans hcy3
            have hbl4 : bb < w4.heap.size := by have := hb4.size; omega
            have HBT4 := Lib.hid (bthen HBT3.out hb4 (Nat.le_refl _)); clear hb4
            go_wp2_with fail
            with_reducible refine (u50 _).mono ?_
            rintro e w5 ⟨A5, c5, rfl, _, hb5⟩
            have hcy5 := (hb5.cell (p := ⟨bb, oo + i, none⟩) hbl4).trans hcy4
            have HBT5 := Lib.hid (bthen HBT4.out hb5 (Nat.le_refl _)); clear hb5
            go_wp2_with (go_at_call 56; with_reducible refine (boathouseNames.num_any _ _).mono ?_; rintro e w' ⟨rfl, rfl⟩)
            go_ret
            exact ⟨rfl, HBT5.out⟩
end Go.Proofs.Ytkkpcdpoldjmkaa.Bitpack
