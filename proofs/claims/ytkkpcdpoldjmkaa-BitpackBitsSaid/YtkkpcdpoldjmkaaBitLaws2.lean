/-
  THE WALK of BitpackBack.
-/
import Derived.Test.YtkkpcdpoldjmkaaBitLaws
namespace Go.Proofs.Ytkkpcdpoldjmkaa.Bitpack
open Go.RowKit BitMath Sl Mem Go.ChangeShapes Go.WideShapes

/-- The greatest so far. -/
def TopOf (l : List Int) (t : Nat) : Prop := (∀ y ∈ l, 0 ≤ y ∧ y ≤ (t : Int)) ∧ (t = 0 ∨ (t : Int) ∈ l) ∧ t ≤ 1023
theorem TopOf.nil : TopOf [] 0 := ⟨fun y hy => by simp at hy, .inl rfl, by omega⟩
theorem TopOf.snoc {l : List Int} {t y : Nat} (h : TopOf l t) (hy : y ≤ 1023) : TopOf (l ++ [(y : Int)]) (if t < y then y else t) := by
  obtain ⟨h1, h2, h3⟩ := h
  refine ⟨fun z hz => ?_, ?_, by split <;> omega⟩
  · rw [List.mem_append, List.mem_singleton] at hz
    rcases hz with hz | rfl
    · have := h1 z hz; split <;> omega
    · split <;> omega
  · split
    · right; simp
    · rcases h2 with h | h
      · exact .inl h
      · right; simp [h]

theorem max_nat (t y : Nat) : Value.int .i64 (max (t : Int) (y : Int)) = .int .i64 ((if t < y then y else t : Nat) : Int) := by
  congr 1; split <;> omega
set_option maxRecDepth 100000 in
set_option maxHeartbeats 8000000 in
theorem bitpackBack_any (A0 : Option Addr) (n c0 : Nat) (xs : List Int) (more : Int) (w : World) (h0 : IArg w A0 n c0 xs) (_hm : (Lit.int .i64 more).wf = true) :
    Calls Try.prog 27 #[.slice A0 n c0, .int .i64 more] w fun e w' => e = .returned (.bool true) ∧ Below w.heap.size w w' := by
  have hle := h0.le; have hcap := h0.cap
  have hxl := h0.sl.1
  obtain ⟨ys, hys⟩ : ∃ ys, ys = (xs.take 200).map (· % 1024) := ⟨_, rfl⟩
  obtain ⟨M, hM⟩ : ∃ M, M = ys.length := ⟨_, rfl⟩
  have hM1 : M = min 200 n := by rw [hM, hys, List.length_map, List.length_take, hxl]
  have hM200 : M ≤ 200 := by omega
  have hMn : M ≤ n := by omega
  have hM3 : M < 200 → M = n := by omega
  have hget : ∀ k x, k < M → xs[k]? = some x → ys[k]? = some (x % 1024) := fun k x hk hx => by rw [hys, List.getElem?_map, List.getElem?_take, if_pos (by omega), hx]; rfl
  obtain ⟨r, hr⟩ : ∃ r : Nat, r = (more % 4).toNat := ⟨_, rfl⟩
  have hr4 : r < 4 := by omega
  have ha3 : bits .and .i64 more 3 = (r : Int) := by
    have := and_mask_i64 more 2 (by omega)
    rw [show ((2 ^ 2 - 1 : Nat) : Int) = 3 from rfl] at this
    rw [this, hr]; omega
  clear hM1 hys hr
  have HG := Lib.hid hget; clear hget
  have HM := Lib.hid (And.intro hM hM3); clear hM hM3
  have H0 := Lib.hid h0; clear h0 hxl
  go_enter Try.func27, Try.ntmps27
  go_wp2_with (go_at_call 115; refine (awake_any _).mono ?_; rintro e w1 ⟨rfl, hb1⟩)
  replace H0 := Lib.hid (H0.out.below hb1)
  go_loopw [5, 6, 7] (fun tv ov iv wr => ∃ k t : Nat, k ≤ M ∧ iv = .int .i64 k ∧ tv = .int .i64 t ∧ Hid (TopOf (ys.take k) t) ∧ OwnI wr w1.heap.size ov (ys.take k) ∧ Below w1.heap.size w1 wr) (fun _ _ iv _ => M - (intOf iv).toNat)
  case atStart => exact ⟨0, 0, Nat.zero_le _, rfl, rfl, Lib.hid TopOf.nil, OwnI.nil _ _, Below.refl _ _⟩
  case round =>
    obtain ⟨k, t, hk, rfl, rfl, ht, hO, hb⟩ := hrel
    have HO := Lib.hid hO; clear hO
    have hyl : (ys.take k).length = k := by rw [List.length_take, ← HM.out.1]; omega
    by_cases hkm : k < M
    · obtain ⟨g, off, x, hx, rfl, hg, hcell⟩ := (H0.out.sl.below hb).at_ (k := k) (by omega)
      have hyx := HG.out k x hkm hx
      obtain ⟨y, hy⟩ : ∃ y : Nat, y = (x % 1024).toNat := ⟨_, rfl⟩
      have hy2 : x % 1024 = (y : Int) := by omega
      have hyl1 : y ≤ 1023 := by omega
      have ha : bits .and .i64 x 1023 = (y : Int) := by
        have := and_mask_i64 x 10 (by omega)
        rw [show ((2 ^ 10 - 1 : Nat) : Int) = 1023 from rfl] at this
        rw [this]; exact hy2
      rw [hy2] at hyx
      have hts : ys.take (k + 1) = ys.take k ++ [(y : Int)] := Vals.take_more hyx
      have htt := ht.out.snoc hyl1
      rw [← hts] at htt
      have HT := Lib.hid (And.intro htt hts); clear htt hts hyx hx hy hy2
      have hk200 : k < 200 := by omega
      have hkn : k < n := by omega
      have hyI : (y : Int) ≤ 1023 := by omega
      clear hyl1
      go_wp2_with (first
        | (refine wpList_push_int rfl _ _ rfl w1.heap.size _ (ys.take k) (y : Nat) wr.heap.size 1 rfl rfl (t := 3) (fr := (0, 0)) (heap_alloc_new wr _) (HO.out.alloc _) (by rw [hyl]; unfold few; omega) (by have := hb.size; simp; omega) ?_; intro u wA hA hgA hatA; have HA := Lib.hid hA; clear hA))
      all_goals
        go_roundw
        case rel => exact ⟨k + 1, if t < y then y else t, by omega, by go_num, max_nat t y, Lib.hid HT.out.1, by rw [HT.out.2]; exact HA.out, (hb.alloc hb.size _).grown hgA (by have := hb.size; simp; omega) (own_base HO.out)⟩
        case measure => simp [intOf]; omega
    · obtain rfl : k = M := by omega
      have hyt : ys.take k = ys := List.take_of_length_le (by rw [← HM.out.1]; exact Nat.le_refl _)
      rw [hyt] at ht hyl
      have hO2 := HO.out
      rw [hyt] at hO2
      clear HO hyt
      have hgo : (n ≤ k) ∨ (k < n ∧ 200 ≤ k) := by have := HM.out.2; omega
      obtain ⟨t1, t2, t3⟩ := ht.out
      obtain ⟨wd, hwd⟩ : ∃ wd, wd = BitMath.width (t : Nat) := ⟨_, rfl⟩
      have hwi : ∀ q, wd ≤ q ↔ (t : Int) < ((2 ^ q : Nat) : Int) := fun q => by rw [hwd]; exact width_le (by omega)
      have hwd10 : wd ≤ 10 := (hwi 10).2 (by omega)
      have htlt := (hwi wd).1 (Nat.le_refl _)
      obtain ⟨mm, hmm⟩ : ∃ mm, mm = wd + r := ⟨_, rfl⟩
      have hmr : (wd : Int) + (r : Int) = (mm : Int) := by omega
      have hmmle : mm ≤ 13 := by omega
      have hmin : min (16 : Int) (mm : Int) = (mm : Int) := by omega
      have hmr2 : ((wd + r : Nat) : Int) = (mm : Int) := by omega
      have hfit : fit mm ys := fun y hy => by
        have h1 := t1 y hy
        have : 2 ^ wd ≤ 2 ^ mm := Nat.pow_le_pow_right (by omega) (by omega)
        omega
      obtain ⟨e1, e2⟩ := pack_fit (show mm ≤ 16 by omega) hfit
      obtain ⟨u1, u2⟩ := unpack_packed (show mm ≤ 16 by omega) (show ys.length ≤ 65536 by rw [hyl]; omega) hfit
      have hpl := packed_length mm (nats ys)
      rw [nats_length, hyl] at hpl
      have hbad : ∃ E, packE ys ((wd : Int) - 1) = E ∧ E ≠ 0 := by
        rcases Nat.eq_zero_or_pos wd with h | h
        · subst h
          exact ⟨600, (pack_wide (xs := ys) (width := ((0 : Nat) : Int) - 1) (by unfold wide; omega)).2, by omega⟩
        · refine ⟨601, ?_, by omega⟩
          have hnf : ¬ fit (wd - 1) ys := fun hf => by
            have h1 : ¬ (wd ≤ wd - 1) := by omega
            rw [hwi] at h1
            rcases t2 with h2 | h2
            · subst h2
              have : 0 < 2 ^ (wd - 1) := Nat.pow_pos (by omega)
              omega
            · have := (hf _ h2).2; omega
          have := (pack_not (show wd - 1 ≤ 16 by omega) hnf).2
          rw [show ((wd - 1 : Nat) : Int) = (wd : Int) - 1 by omega] at this; exact this
      obtain ⟨EB, hEB, hEB0⟩ := hbad
      have hEBI : (EB != 0) = true := by rw [bne_iff_ne]; exact hEB0
      have hps : (str (packed mm (nats ys))).size ≤ maxReach := by
        rw [str_size, hpl]; unfold maxReach
        have : mm * k ≤ 16 * 200 := Nat.mul_le_mul (by omega) hM200
        omega
      have hISl := fun (A : Option Addr) (c : Nat) (h : OwnI wr w1.heap.size (.slice A k c) ys) => h.sl hyl
      have HP1 : ∀ A c w, ISl w A k ys → Calls Try.prog 109 #[.slice A k c, .int .i64 (mm : Int)] w fun e w' => e = .returned (.tuple #[.string (str (packed mm (nats ys))), .int .i64 0]) ∧ Below w.heap.size w w' := fun A c w h => by
        have := pack_any A k c ys (mm : Int) w h (by omega)
        rw [e1, e2] at this; exact this
      have HP2 : ∀ A c w, ISl w A k ys → Calls Try.prog 109 #[.slice A k c, .int .i64 ((wd : Int) - 1)] w fun e w' => e = .returned (.tuple #[.string (str (packS ys ((wd : Int) - 1))), .int .i64 EB]) ∧ Below w.heap.size w w' := fun A c w h => by
        have := pack_any A k c ys ((wd : Int) - 1) w h (by omega)
        rw [hEB] at this; exact this
      have HU : ∀ w, Calls Try.prog 111 #[.string (str (packed mm (nats ys))), .int .i64 (k : Nat), .int .i64 (mm : Int)] w fun e w' => ∃ A c, e = .returned (.tuple #[.slice A k c, .int .i64 0]) ∧ OwnI w' w.heap.size (.slice A k c) ys ∧ Below w.heap.size w w' := fun w => by
        rw [hyl] at u1 u2
        have := unpack_got (str (packed mm (nats ys))) (k : Nat) (mm : Int) w hps k (by rw [str_toList, u1]; exact hyl) 0 (by rw [str_toList]; exact u2)
        rw [str_toList, u1] at this; exact this
      have HWd := fun w => width_any (t : Nat) w (by omega)
      rw [← hwd] at HWd
      have hsz : ((str (packed mm (nats ys))).size : Int) = ((k : Int) * (mm : Int) + 7) / 8 := by
        rw [str_size, hpl, Nat.mul_comm]; push_cast; rfl
      obtain ⟨A, c, rfl, hcl, _⟩ := hO2.form hyl
      unfold maxLen at hcl
      have hS1 := hISl A c hO2
      have hkP : (k : Int) * (mm : Int) ≤ 3200 := by
        have : k * mm ≤ 200 * 16 := Nat.mul_le_mul hM200 (by omega)
        have e : (k : Int) * (mm : Int) = ((k * mm : Nat) : Int) := by push_cast; rfl
        rw [e]; omega
      have hkP0 : (0 : Int) ≤ (k : Int) * (mm : Int) := by
        have e : (k : Int) * (mm : Int) = ((k * mm : Nat) : Int) := by push_cast; rfl
        rw [e]; omega
      have hpow : ((2 : Int) ^ wd) = ((2 ^ wd : Nat) : Int) := by push_cast; rfl
      have hpw : 2 ^ wd ≤ 2 ^ 10 := Nat.pow_le_pow_right (by omega) hwd10
      generalize hSG : str (packed mm (nats ys)) = S at *
      generalize hPG : (k : Int) * (mm : Int) = P at *
      generalize (2 ^ wd : Nat) = TW at *
      have hmul : (k : Int) * (mm : Int) = P := hPG
      generalize str (packS ys ((wd : Int) - 1)) = S2 at *
      have HHP1 := Lib.hid HP1; clear HP1
      have HHP2 := Lib.hid HP2; clear HP2
      have HHU := Lib.hid HU; clear HU
      have HHW := Lib.hid HWd; clear HWd
      have HO2 := Lib.hid hO2; clear hO2 hISl
      have HS1 := Lib.hid hS1; clear hS1
      have HBT := Lib.hid (bthen hb1 hb (Nat.le_refl _))
      have hyl' := Lib.hid hyl; clear hyl
      have htl : (t : Int) < (TW : Int) := htlt
      have htw : (TW : Int) ≤ 1024 := by omega
      clear htlt hwi hfit e1 e2 u1 u2 hpl hEB hEB0 hps t1 t2 ht hwd hSG hPG hb hkm hpw
      rcases hgo with hgo | ⟨hgo, hgo2⟩
      all_goals
        go_wp2_with fail
        with_reducible refine (HHW.out _).mono ?_
        rintro e w' ⟨rfl, rfl⟩
        go_wp2_with fail
        with_reducible refine (HHP1.out _ _ _ HS1.out).mono ?_
        rintro e w2 ⟨rfl, hb2⟩
        have HS2 := Lib.hid (HS1.out.below hb2)
        have HBT2 := Lib.hid (bthen HBT.out hb2 (Nat.le_refl _)); clear hb2
        go_wp2_with fail
        with_reducible refine (HHU.out _).mono ?_
        rintro e w3 ⟨A3, c3, rfl, hO3, hb3⟩
        have HS3 := Lib.hid (HS2.out.below hb3)
        have HBT3 := Lib.hid (bthen HBT2.out hb3 (Nat.le_refl _)); clear hb3
        have HO3 := Lib.hid (hO3.sl hyl'.out); clear hO3
        go_wp2_with fail
        with_reducible refine (HHP2.out _ _ _ HS3.out).mono ?_
        rintro e w4 ⟨rfl, hb4⟩
        have HS4 := Lib.hid (HS3.out.below hb4)
        have HO4 := Lib.hid (HO3.out.below hb4)
        have HBT4 := Lib.hid (bthen HBT3.out hb4 (Nat.le_refl _)); clear hb4
        go_wp2_with (go_at_call 56; refine (boathouseNames.num_any _ _).mono ?_; rintro e w' ⟨rfl, rfl⟩)
        refine ((sameInts_any _ _ k k _ _ _ _ _ HO4.out HS4.out (by unfold maxLen; omega)).mono (fun _ _ h => true_of (decide_eq_true rfl) h)).mono ?_
        rintro e w5 ⟨rfl, hb5⟩
        have HBT5 := Lib.hid (bthen HBT4.out hb5 (Nat.le_refl _)); clear hb5
        go_wp2_with (go_at_call 56; refine (boathouseNames.num_any _ _).mono ?_; rintro e w' ⟨rfl, rfl⟩)
        go_ret
        exact ⟨rfl, HBT5.out⟩
end Go.Proofs.Ytkkpcdpoldjmkaa.Bitpack
