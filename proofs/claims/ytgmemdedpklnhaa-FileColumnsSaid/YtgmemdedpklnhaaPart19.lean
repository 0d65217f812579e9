/-
  Lemmas of this claim, text behind text: StatR, Turned, FileBack, LendC, LendR, FileCols. Each states its own conditions.
-/
import Derived.OwnWalk
import Derived.Laws.OwnMore
import Derived.Test.YtgmemdedpklnhaaPart01
import Derived.Test.YtgmemdedpklnhaaPart03
import Derived.Test.YtgmemdedpklnhaaPart04
import Derived.Test.YtgmemdedpklnhaaPart05
import Derived.Test.YtgmemdedpklnhaaPart06
import Derived.Test.YtgmemdedpklnhaaPart16
import Derived.Test.YtgmemdedpklnhaaPart18

/-
  THE WALK of boathouseref7.Stat.
-/


namespace Go.Proofs.Ytgmemdedpklnhaa.Stats
open Go.RowKit ValMath Vals Sl

theorem null_best (lt : Val → Val → Bool) (a b : Val) : null (best lt a b) = (null a && null b) := best_null lt a b
theorem stat_null_both (vs : List Val) : null (stat vs).mn = null (stat vs).mx := by
  induction vs using snoc_ind with
  | h0 => rfl
  | h1 vs v ih =>
    rw [stat_snoc]
    show null (lesser _ _) = null (greater _ _)
    rw [lesser_best, greater_best, best_null, best_null, ih]
theorem best_size (lt : Val → Val → Bool) (a b : Val) (n : Nat) (ha : a.s.size ≤ n) (hb : b.s.size ≤ n) : (best lt a b).s.size ≤ n := by
  unfold best
  split
  · exact Nat.le_trans (clean_size b) hb
  · exact Nat.le_trans (clean_size a) ha
theorem stat_size (vs : List Val) (n : Nat) (h : ∀ v ∈ vs, v.s.size ≤ n) : (stat vs).mn.s.size ≤ n ∧ (stat vs).mx.s.size ≤ n := by
  induction vs using snoc_ind with
  | h0 => exact ⟨Nat.zero_le _, Nat.zero_le _⟩
  | h1 vs v ih =>
    obtain ⟨h1, h2⟩ := ih (fun u hu => h u (by simp [hu]))
    have hv := h v (by simp)
    rw [stat_snoc]
    refine ⟨?_, ?_⟩
    · show (lesser _ _).s.size ≤ n
      rw [lesser_best]; exact best_size _ _ _ _ h1 hv
    · show (greater _ _).s.size ≤ n
      rw [greater_best]; exact best_size _ _ _ _ h2 hv

/-- What the next value makes of clean bounds. -/
theorem next_null {s : St} {v : Val} (hc : clean s.mn = s.mn ∧ clean s.mx = s.mx) (hn : null v = true) : addS s v = ⟨s.nulls + 1, s.mn, s.mx⟩ := by
  have h1 : lesser s.mn v = s.mn := (best_null_right less s.mn hn).trans hc.1
  have h2 : greater s.mx v = s.mx := (best_null_right (fun x y => less y x) s.mx hn).trans hc.2
  unfold addS
  rw [h1, h2, hn]; rfl
theorem next_some {s : St} {v : Val} (hc : clean s.mn = s.mn ∧ clean s.mx = s.mx) (hn : null v = false) : addS s v = ⟨s.nulls, if (null s.mn || decide (cmp (clean v) s.mn < 0)) = true then clean v else s.mn, if (null s.mx || decide (0 < cmp (clean v) s.mx)) = true then clean v else s.mx⟩ := by
  have h1 : lesser s.mn v = if (null s.mn || decide (cmp (clean v) s.mn < 0)) = true then clean v else s.mn := by
    have : decide (cmp (clean v) s.mn < 0) = less v s.mn := by rw [← less_clean_left v]; by_cases h : less (clean v) s.mn = true <;> simp [h, cmp_neg]
    unfold lesser
    rw [this, hn, hc.1]
    rfl
  have h2 : greater s.mx v = if (null s.mx || decide (0 < cmp (clean v) s.mx)) = true then clean v else s.mx := by
    have : decide (0 < cmp (clean v) s.mx) = less s.mx v := by rw [← less_clean_right s.mx v]; by_cases h : less s.mx (clean v) = true <;> simp [h, cmp_pos]
    unfold greater
    rw [this, hn, hc.2]
    rfl
  unfold addS
  rw [h1, h2, hn]; rfl

set_option maxRecDepth 20000 in
set_option maxHeartbeats 4000000 in
theorem statR_any (c : Int) (A : Option Addr) (n cap : Nat) (vs : List Val) (w : World) (hv : VSl w A n vs) (hn : n ≤ maxLen) (hs : ∀ v ∈ vs, v.s.size ≤ maxLen) :
    Calls Try.prog 11 #[.int .i64 c, .slice A n cap] w fun e w' => e = .returned (sagg c (stat vs).nulls (stat vs).mn (stat vs).mx) ∧ Below w.heap.size w w' := by
  have hn2 : n < 9223372036854775808 := by have h : maxLen = 9223372036854775807 := rfl; omega
  go_enter Try.func11, Try.ntmps11
  go_wp2
  go_loopw [6] (fun i wr => ∃ k : Nat, k ≤ n ∧ i = .int .i64 k ∧ SBox wr w.heap.size 0 0 nul nul ∧ SBox wr (w.heap.size + 1) c (stat (vs.take k)).nulls (stat (vs.take k)).mn (stat (vs.take k)).mx ∧ Below w.heap.size w wr)
    (fun i _ => n - (intOf i).toNat)
  case atStart => exact ⟨0, Nat.zero_le _, rfl, (SBox.new _ _ rfl _ _ nul nul).alloc _, SBox.new _ _ (by simp) _ _ nul nul, Vals.two_new _ _⟩
  case round =>
    obtain ⟨k, hk, rfl, hS0, hS, hb⟩ := hrel
    by_cases hlt : k < n
    · have hvr := hv.below hb
      obtain ⟨b1, o1, v, hv1, rfl, hb1, c0, c1, c2, c3⟩ := hvr.at_ hlt
      have hts := take_more hv1
      have hsv := hs v (List.mem_of_getElem? hv1)
      have hnl := stat_nulls_le (vs.take k)
      have hlk : (vs.take k).length ≤ k := List.length_take_le _ _
      have hqk : (stat (vs.take k)).nulls ≤ k := by omega
      have hcl := stat_clean (vs.take k)
      have hbn := stat_null_both (vs.take k)
      obtain ⟨hz1, hz2⟩ := stat_size (vs.take k) maxLen (fun u hu => hs u (List.mem_of_mem_take hu))
      have hE : stat (vs.take (k + 1)) = addS (stat (vs.take k)) v := by rw [hts, stat_snoc]
      generalize hst : stat (vs.take k) = s at hE hcl hbn hz1 hz2 hqk hnl hS
      obtain ⟨q, mn, mx⟩ := s
      (try simp only [] at hcl hbn hz1 hz2 hqk hnl hS)
      have hcz : (clean v).s.size ≤ maxLen := Nat.le_trans (clean_size v) hsv
      have hN := null_any v
      have hC := clean_any v
      have hN1 := null_any mn
      have hN2 := null_any mx
      have hK1 := fun w => cmp_any (clean v) mn w hcz hz1
      have hK2 := fun w => cmp_any (clean v) mx w hcz hz2
      rw [← hbn] at hN2
      have HL4 := Lib.hid hb1
      have H4 := Lib.hid (show At4 wr b1 (o1 + k * 4) v from ⟨c0, c1, c2, c3⟩)
      cases hnv : null v with
      | true =>
        have hE2 := next_null (s := ⟨q, mn, mx⟩) hcl hnv
        rw [← hE] at hE2
        rw [hnv] at hN
        clear hC hN1 hN2 hK1 hK2 hcl hbn hz1 hz2 hE hst hcz hsv hts hnv
        obtain ⟨kv, iv, bv, sv⟩ := v
        obtain ⟨km, im, bm, sm⟩ := mn
        obtain ⟨kx, ix, bx, sx⟩ := mx
        simp only [vagg] at c0 c1 c2 c3 hN
        have HN := Lib.hid hN; clear hN
        have HE := Lib.hid hE2; clear hE2
        have HR := Lib.hid hS0; clear hS0
        have HS := Lib.hid hS; clear hS
        have HBT := Lib.hid hb
        obtain ⟨z0, z1, _⟩ := HS.out.cells
        have zf1 := HS.out.free 1
        (try simp only [] at z0 z1)
        have hwr : IntKind.i64.wrap ((q : Int) + 1) = (q : Int) + 1 := IntWalk.i64_in _ (by omega)
        go_wp2_with (go_at_call 30; with_reducible refine (HN.out _).mono ?_; rintro e w1 ⟨rfl, hb2⟩; clear z0 z1 zf1 c0 c1 c2 c3; replace HS := Lib.hid (HS.out.below hb2 HS.out.lt); replace HR := Lib.hid (HR.out.below hb2 HR.out.lt); replace HBT := Lib.hid (bthen HBT.out hb2 (Nat.le_refl _)); clear hb2; obtain ⟨z0, z1, _⟩ := HS.out.cells; have zf1 := HS.out.free 1; (try simp only [] at z0 z1))
        go_roundw
        case rel => exact ⟨k + 1, by omega, by go_num, HR.out.other (by omega), by rw [HE.out]; exact HS.out.put1 _, HBT.out.setCell (p := ⟨w.heap.size + 1, 1, none⟩) (Nat.le_succ _) _⟩
        case measure => simp [intOf]; omega
      | false =>
        have hE2 := next_some (s := ⟨q, mn, mx⟩) hcl hnv
        rw [← hE] at hE2
        rw [hnv] at hN
        (try simp only [] at hE2)
        rw [← hbn] at hE2
        generalize null mn = nb at hE2 hN1 hN2
        generalize cmp (clean v) mn = r1 at hE2 hK1
        generalize cmp (clean v) mx = r2 at hE2 hK2
        clear hcl hbn hz1 hz2 hE hst hcz hsv hts hnv
        generalize clean v = u at *
        obtain ⟨kv, iv, bv, sv⟩ := v
        obtain ⟨ku, iu, bu, su⟩ := u
        obtain ⟨km, im, bm, sm⟩ := mn
        obtain ⟨kx, ix, bx, sx⟩ := mx
        simp only [vagg] at c0 c1 c2 c3 hN hC hN1 hN2 hK1 hK2
        have HN := Lib.hid hN; clear hN
        have HC := Lib.hid hC; clear hC
        have HN1 := Lib.hid hN1; clear hN1
        have HN2 := Lib.hid hN2; clear hN2
        have HK1 := Lib.hid hK1; clear hK1
        have HK2 := Lib.hid hK2; clear hK2
        have HE := Lib.hid hE2; clear hE2
        have HR := Lib.hid hS0; clear hS0
        have HS := Lib.hid hS; clear hS
        have HBT := Lib.hid hb
        go_upto_region 8 with (first
          | (go_at_call 30; go_loud (with_reducible refine (HN.out _).mono ?_); rintro e w1 ⟨rfl, hb2⟩; clear c0 c1 c2 c3; replace HL4 := Lib.hid (Nat.lt_of_lt_of_le HL4.out hb2.size); replace H4 := Lib.hid (H4.out.below hb2 hb1); replace HS := Lib.hid (HS.out.below hb2 HS.out.lt); replace HR := Lib.hid (HR.out.below hb2 HR.out.lt); replace HBT := Lib.hid (bthen HBT.out hb2 (Nat.le_refl _)); clear hb2; obtain ⟨c0, c1, c2, c3⟩ := H4.out; (try simp only [] at c0 c1 c2 c3))
          | (go_at_call 31; with_reducible refine (HC.out _).mono ?_; rintro e w2 ⟨rfl, hb2⟩; clear c0 c1 c2 c3; replace HS := Lib.hid (HS.out.below hb2 HS.out.lt); replace HR := Lib.hid (HR.out.below hb2 HR.out.lt); replace HBT := Lib.hid (bthen HBT.out hb2 (Nat.le_refl _)); clear hb2))
        have hne : w.heap.size ≠ w.heap.size + 1 := by omega
        have hsz := HS.out.lt
        have hneb : w2.heap.size ≠ w.heap.size + 1 := by omega
        replace HS := Lib.hid (HS.out.alloc (.cells #[.int .i64 ku, .int .i64 iu, .bool bu, .string su] 38))
        replace HR := Lib.hid (HR.out.alloc (.cells #[.int .i64 ku, .int .i64 iu, .bool bu, .string su] 38))
        have HB := Lib.hid (Box.new w2 ⟨ku, iu, bu, su⟩)
        replace HBT := Lib.hid (HBT.out.alloc HBT.out.size (.cells #[.int .i64 ku, .int .i64 iu, .bool bu, .string su] 38))
        generalize w2.heap.size = gz at *
        generalize (w2.alloc (.cells #[.int .i64 ku, .int .i64 iu, .bool bu, .string su] 38)) = wz at *
        clear H4 HL4 HN HC
        obtain ⟨_, _, z2, z3, z4, z5, z6, z7, z8, z9⟩ := HS.out.cells
        (try simp only [] at z2 z3 z4 z5 z6 z7 z8 z9)
        cases nb with
        | true =>
          go_wp2_with (first
            | (go_at_call_of 30 (Value.string sm); with_reducible refine (HN1.out _).mono ?_; rintro e wA ⟨rfl, hbA⟩; replace HS := Lib.hid (SBox.below (HS.out) hbA (SBox.lt (HS.out))); replace HB := Lib.hid (Box.below (HB.out) hbA); replace HR := Lib.hid (SBox.below (HR.out) hbA (SBox.lt (HR.out))); replace HBT := Lib.hid (bthen (HBT.out) hbA (Nat.le_refl _)); clear hbA; (try clear z2 z3 z4 z5 z6 z7 z8 z9 y0 y1 y2 y3 zf2 zf3 zf4 zf5 zf6 zf7 zf8 zf9); obtain ⟨_, _, z2, z3, z4, z5, z6, z7, z8, z9⟩ := HS.out.cells; obtain ⟨y0, y1, y2, y3⟩ := HB.out.cells; have zf2 := HS.out.free 2; have zf3 := HS.out.free 3; have zf4 := HS.out.free 4; have zf5 := HS.out.free 5; have zf6 := HS.out.free 6; have zf7 := HS.out.free 7; have zf8 := HS.out.free 8; have zf9 := HS.out.free 9; (try simp only [] at z2 z3 z4 z5 z6 z7 z8 z9 y0 y1 y2 y3))
            | (go_at_call_of 32 (Value.string sm); with_reducible refine (HK1.out _).mono ?_; rintro e wB ⟨rfl, hbB⟩; replace HS := Lib.hid (SBox.below (HS.out) hbB (SBox.lt (HS.out))); replace HB := Lib.hid (Box.below (HB.out) hbB); replace HR := Lib.hid (SBox.below (HR.out) hbB (SBox.lt (HR.out))); replace HBT := Lib.hid (bthen (HBT.out) hbB (Nat.le_refl _)); clear hbB; (try clear z2 z3 z4 z5 z6 z7 z8 z9 y0 y1 y2 y3 zf2 zf3 zf4 zf5 zf6 zf7 zf8 zf9); obtain ⟨_, _, z2, z3, z4, z5, z6, z7, z8, z9⟩ := HS.out.cells; obtain ⟨y0, y1, y2, y3⟩ := HB.out.cells; have zf2 := HS.out.free 2; have zf3 := HS.out.free 3; have zf4 := HS.out.free 4; have zf5 := HS.out.free 5; have zf6 := HS.out.free 6; have zf7 := HS.out.free 7; have zf8 := HS.out.free 8; have zf9 := HS.out.free 9; (try simp only [] at z2 z3 z4 z5 z6 z7 z8 z9 y0 y1 y2 y3))
            | (go_at_call_of 30 (Value.string sx); with_reducible refine (HN2.out _).mono ?_; rintro e wC ⟨rfl, hbC⟩; replace HS := Lib.hid (SBox.below (HS.out.put2 ⟨ku, iu, bu, su⟩) hbC (SBox.lt (HS.out.put2 ⟨ku, iu, bu, su⟩))); replace HB := Lib.hid (Box.below ((((((HB.out).other hneb).other hneb).other hneb).other hneb)) hbC); replace HR := Lib.hid (SBox.below ((((((HR.out).other hne).other hne).other hne).other hne)) hbC (SBox.lt ((((((HR.out).other hne).other hne).other hne).other hne)))); replace HBT := Lib.hid (bthen (below_put4 HBT.out (Nat.le_succ _) 2 3 4 5 _ _ _ _) hbC (Nat.le_refl _)); clear hbC; (try clear z2 z3 z4 z5 z6 z7 z8 z9 y0 y1 y2 y3 zf2 zf3 zf4 zf5 zf6 zf7 zf8 zf9); obtain ⟨_, _, z2, z3, z4, z5, z6, z7, z8, z9⟩ := HS.out.cells; obtain ⟨y0, y1, y2, y3⟩ := HB.out.cells; have zf2 := HS.out.free 2; have zf3 := HS.out.free 3; have zf4 := HS.out.free 4; have zf5 := HS.out.free 5; have zf6 := HS.out.free 6; have zf7 := HS.out.free 7; have zf8 := HS.out.free 8; have zf9 := HS.out.free 9; (try simp only [] at z2 z3 z4 z5 z6 z7 z8 z9 y0 y1 y2 y3))
            | (go_at_call_of 32 (Value.string sx); with_reducible refine (HK2.out _).mono ?_; rintro e wD ⟨rfl, hbD⟩; replace HS := Lib.hid (SBox.below (HS.out) hbD (SBox.lt (HS.out))); replace HB := Lib.hid (Box.below (HB.out) hbD); replace HR := Lib.hid (SBox.below (HR.out) hbD (SBox.lt (HR.out))); replace HBT := Lib.hid (bthen (HBT.out) hbD (Nat.le_refl _)); clear hbD; (try clear z2 z3 z4 z5 z6 z7 z8 z9 y0 y1 y2 y3 zf2 zf3 zf4 zf5 zf6 zf7 zf8 zf9); obtain ⟨_, _, z2, z3, z4, z5, z6, z7, z8, z9⟩ := HS.out.cells; obtain ⟨y0, y1, y2, y3⟩ := HB.out.cells; have zf2 := HS.out.free 2; have zf3 := HS.out.free 3; have zf4 := HS.out.free 4; have zf5 := HS.out.free 5; have zf6 := HS.out.free 6; have zf7 := HS.out.free 7; have zf8 := HS.out.free 8; have zf9 := HS.out.free 9; (try simp only [] at z2 z3 z4 z5 z6 z7 z8 z9 y0 y1 y2 y3)))
          clear z2 z3 z4 z5 z6 z7 z8 z9 y0 y1 y2 y3 zf2 zf3 zf4 zf5 zf6 zf7 zf8 zf9 HN1 HN2 HK1 HK2
          go_roundw
          case rel => exact ⟨k + 1, by omega, by go_num, (((((HR.out).other hne).other hne).other hne).other hne), by rw [HE.out]; exact HS.out.put3 ⟨ku, iu, bu, su⟩, below_put4 HBT.out (Nat.le_succ _) 6 7 8 9 _ _ _ _⟩
          case measure => simp [intOf]; omega
        | false =>
          by_cases h1 : r1 < 0
          · have h1' : decide (r1 < 0) = true := decide_eq_true h1
            by_cases h2 : 0 < r2
            · have h2' : decide (0 < r2) = true := decide_eq_true h2
              simp only [h1, h2, Bool.false_or, if_true, decide_true] at HE
              clear h1 h2
              go_wp2_with (first
                | (go_at_call_of 30 (Value.string sm); with_reducible refine (HN1.out _).mono ?_; rintro e wA ⟨rfl, hbA⟩; replace HS := Lib.hid (SBox.below (HS.out) hbA (SBox.lt (HS.out))); replace HB := Lib.hid (Box.below (HB.out) hbA); replace HR := Lib.hid (SBox.below (HR.out) hbA (SBox.lt (HR.out))); replace HBT := Lib.hid (bthen (HBT.out) hbA (Nat.le_refl _)); clear hbA; (try clear z2 z3 z4 z5 z6 z7 z8 z9 y0 y1 y2 y3 zf2 zf3 zf4 zf5 zf6 zf7 zf8 zf9); obtain ⟨_, _, z2, z3, z4, z5, z6, z7, z8, z9⟩ := HS.out.cells; obtain ⟨y0, y1, y2, y3⟩ := HB.out.cells; have zf2 := HS.out.free 2; have zf3 := HS.out.free 3; have zf4 := HS.out.free 4; have zf5 := HS.out.free 5; have zf6 := HS.out.free 6; have zf7 := HS.out.free 7; have zf8 := HS.out.free 8; have zf9 := HS.out.free 9; (try simp only [] at z2 z3 z4 z5 z6 z7 z8 z9 y0 y1 y2 y3))
                | (go_at_call_of 32 (Value.string sm); with_reducible refine (HK1.out _).mono ?_; rintro e wB ⟨rfl, hbB⟩; replace HS := Lib.hid (SBox.below (HS.out) hbB (SBox.lt (HS.out))); replace HB := Lib.hid (Box.below (HB.out) hbB); replace HR := Lib.hid (SBox.below (HR.out) hbB (SBox.lt (HR.out))); replace HBT := Lib.hid (bthen (HBT.out) hbB (Nat.le_refl _)); clear hbB; (try clear z2 z3 z4 z5 z6 z7 z8 z9 y0 y1 y2 y3 zf2 zf3 zf4 zf5 zf6 zf7 zf8 zf9); obtain ⟨_, _, z2, z3, z4, z5, z6, z7, z8, z9⟩ := HS.out.cells; obtain ⟨y0, y1, y2, y3⟩ := HB.out.cells; have zf2 := HS.out.free 2; have zf3 := HS.out.free 3; have zf4 := HS.out.free 4; have zf5 := HS.out.free 5; have zf6 := HS.out.free 6; have zf7 := HS.out.free 7; have zf8 := HS.out.free 8; have zf9 := HS.out.free 9; (try simp only [] at z2 z3 z4 z5 z6 z7 z8 z9 y0 y1 y2 y3))
                | (go_at_call_of 30 (Value.string sx); with_reducible refine (HN2.out _).mono ?_; rintro e wC ⟨rfl, hbC⟩; replace HS := Lib.hid (SBox.below (HS.out.put2 ⟨ku, iu, bu, su⟩) hbC (SBox.lt (HS.out.put2 ⟨ku, iu, bu, su⟩))); replace HB := Lib.hid (Box.below ((((((HB.out).other hneb).other hneb).other hneb).other hneb)) hbC); replace HR := Lib.hid (SBox.below ((((((HR.out).other hne).other hne).other hne).other hne)) hbC (SBox.lt ((((((HR.out).other hne).other hne).other hne).other hne)))); replace HBT := Lib.hid (bthen (below_put4 HBT.out (Nat.le_succ _) 2 3 4 5 _ _ _ _) hbC (Nat.le_refl _)); clear hbC; (try clear z2 z3 z4 z5 z6 z7 z8 z9 y0 y1 y2 y3 zf2 zf3 zf4 zf5 zf6 zf7 zf8 zf9); obtain ⟨_, _, z2, z3, z4, z5, z6, z7, z8, z9⟩ := HS.out.cells; obtain ⟨y0, y1, y2, y3⟩ := HB.out.cells; have zf2 := HS.out.free 2; have zf3 := HS.out.free 3; have zf4 := HS.out.free 4; have zf5 := HS.out.free 5; have zf6 := HS.out.free 6; have zf7 := HS.out.free 7; have zf8 := HS.out.free 8; have zf9 := HS.out.free 9; (try simp only [] at z2 z3 z4 z5 z6 z7 z8 z9 y0 y1 y2 y3))
                | (go_at_call_of 32 (Value.string sx); with_reducible refine (HK2.out _).mono ?_; rintro e wD ⟨rfl, hbD⟩; replace HS := Lib.hid (SBox.below (HS.out) hbD (SBox.lt (HS.out))); replace HB := Lib.hid (Box.below (HB.out) hbD); replace HR := Lib.hid (SBox.below (HR.out) hbD (SBox.lt (HR.out))); replace HBT := Lib.hid (bthen (HBT.out) hbD (Nat.le_refl _)); clear hbD; (try clear z2 z3 z4 z5 z6 z7 z8 z9 y0 y1 y2 y3 zf2 zf3 zf4 zf5 zf6 zf7 zf8 zf9); obtain ⟨_, _, z2, z3, z4, z5, z6, z7, z8, z9⟩ := HS.out.cells; obtain ⟨y0, y1, y2, y3⟩ := HB.out.cells; have zf2 := HS.out.free 2; have zf3 := HS.out.free 3; have zf4 := HS.out.free 4; have zf5 := HS.out.free 5; have zf6 := HS.out.free 6; have zf7 := HS.out.free 7; have zf8 := HS.out.free 8; have zf9 := HS.out.free 9; (try simp only [] at z2 z3 z4 z5 z6 z7 z8 z9 y0 y1 y2 y3)))
              clear z2 z3 z4 z5 z6 z7 z8 z9 y0 y1 y2 y3 zf2 zf3 zf4 zf5 zf6 zf7 zf8 zf9 HN1 HN2 HK1 HK2
              go_roundw
              case rel => exact ⟨k + 1, by omega, by go_num, (((((HR.out).other hne).other hne).other hne).other hne), by rw [HE.out]; exact HS.out.put3 ⟨ku, iu, bu, su⟩, below_put4 HBT.out (Nat.le_succ _) 6 7 8 9 _ _ _ _⟩
              case measure => simp [intOf]; omega
            · have h2' : decide (0 < r2) = false := decide_eq_false h2
              simp only [h1, h2, Bool.false_or, if_true, if_false, Bool.false_eq_true, decide_true, decide_false] at HE
              clear h1 h2
              go_wp2_with (first
                | (go_at_call_of 30 (Value.string sm); with_reducible refine (HN1.out _).mono ?_; rintro e wA ⟨rfl, hbA⟩; replace HS := Lib.hid (SBox.below (HS.out) hbA (SBox.lt (HS.out))); replace HB := Lib.hid (Box.below (HB.out) hbA); replace HR := Lib.hid (SBox.below (HR.out) hbA (SBox.lt (HR.out))); replace HBT := Lib.hid (bthen (HBT.out) hbA (Nat.le_refl _)); clear hbA; (try clear z2 z3 z4 z5 z6 z7 z8 z9 y0 y1 y2 y3 zf2 zf3 zf4 zf5 zf6 zf7 zf8 zf9); obtain ⟨_, _, z2, z3, z4, z5, z6, z7, z8, z9⟩ := HS.out.cells; obtain ⟨y0, y1, y2, y3⟩ := HB.out.cells; have zf2 := HS.out.free 2; have zf3 := HS.out.free 3; have zf4 := HS.out.free 4; have zf5 := HS.out.free 5; have zf6 := HS.out.free 6; have zf7 := HS.out.free 7; have zf8 := HS.out.free 8; have zf9 := HS.out.free 9; (try simp only [] at z2 z3 z4 z5 z6 z7 z8 z9 y0 y1 y2 y3))
                | (go_at_call_of 32 (Value.string sm); with_reducible refine (HK1.out _).mono ?_; rintro e wB ⟨rfl, hbB⟩; replace HS := Lib.hid (SBox.below (HS.out) hbB (SBox.lt (HS.out))); replace HB := Lib.hid (Box.below (HB.out) hbB); replace HR := Lib.hid (SBox.below (HR.out) hbB (SBox.lt (HR.out))); replace HBT := Lib.hid (bthen (HBT.out) hbB (Nat.le_refl _)); clear hbB; (try clear z2 z3 z4 z5 z6 z7 z8 z9 y0 y1 y2 y3 zf2 zf3 zf4 zf5 zf6 zf7 zf8 zf9); obtain ⟨_, _, z2, z3, z4, z5, z6, z7, z8, z9⟩ := HS.out.cells; obtain ⟨y0, y1, y2, y3⟩ := HB.out.cells; have zf2 := HS.out.free 2; have zf3 := HS.out.free 3; have zf4 := HS.out.free 4; have zf5 := HS.out.free 5; have zf6 := HS.out.free 6; have zf7 := HS.out.free 7; have zf8 := HS.out.free 8; have zf9 := HS.out.free 9; (try simp only [] at z2 z3 z4 z5 z6 z7 z8 z9 y0 y1 y2 y3))
                | (go_at_call_of 30 (Value.string sx); with_reducible refine (HN2.out _).mono ?_; rintro e wC ⟨rfl, hbC⟩; replace HS := Lib.hid (SBox.below (HS.out.put2 ⟨ku, iu, bu, su⟩) hbC (SBox.lt (HS.out.put2 ⟨ku, iu, bu, su⟩))); replace HB := Lib.hid (Box.below ((((((HB.out).other hneb).other hneb).other hneb).other hneb)) hbC); replace HR := Lib.hid (SBox.below ((((((HR.out).other hne).other hne).other hne).other hne)) hbC (SBox.lt ((((((HR.out).other hne).other hne).other hne).other hne)))); replace HBT := Lib.hid (bthen (below_put4 HBT.out (Nat.le_succ _) 2 3 4 5 _ _ _ _) hbC (Nat.le_refl _)); clear hbC; (try clear z2 z3 z4 z5 z6 z7 z8 z9 y0 y1 y2 y3 zf2 zf3 zf4 zf5 zf6 zf7 zf8 zf9); obtain ⟨_, _, z2, z3, z4, z5, z6, z7, z8, z9⟩ := HS.out.cells; obtain ⟨y0, y1, y2, y3⟩ := HB.out.cells; have zf2 := HS.out.free 2; have zf3 := HS.out.free 3; have zf4 := HS.out.free 4; have zf5 := HS.out.free 5; have zf6 := HS.out.free 6; have zf7 := HS.out.free 7; have zf8 := HS.out.free 8; have zf9 := HS.out.free 9; (try simp only [] at z2 z3 z4 z5 z6 z7 z8 z9 y0 y1 y2 y3))
                | (go_at_call_of 32 (Value.string sx); with_reducible refine (HK2.out _).mono ?_; rintro e wD ⟨rfl, hbD⟩; replace HS := Lib.hid (SBox.below (HS.out) hbD (SBox.lt (HS.out))); replace HB := Lib.hid (Box.below (HB.out) hbD); replace HR := Lib.hid (SBox.below (HR.out) hbD (SBox.lt (HR.out))); replace HBT := Lib.hid (bthen (HBT.out) hbD (Nat.le_refl _)); clear hbD; (try clear z2 z3 z4 z5 z6 z7 z8 z9 y0 y1 y2 y3 zf2 zf3 zf4 zf5 zf6 zf7 zf8 zf9); obtain ⟨_, _, z2, z3, z4, z5, z6, z7, z8, z9⟩ := HS.out.cells; obtain ⟨y0, y1, y2, y3⟩ := HB.out.cells; have zf2 := HS.out.free 2; have zf3 := HS.out.free 3; have zf4 := HS.out.free 4; have zf5 := HS.out.free 5; have zf6 := HS.out.free 6; have zf7 := HS.out.free 7; have zf8 := HS.out.free 8; have zf9 := HS.out.free 9; (try simp only [] at z2 z3 z4 z5 z6 z7 z8 z9 y0 y1 y2 y3)))
              clear z2 z3 z4 z5 z6 z7 z8 z9 y0 y1 y2 y3 zf2 zf3 zf4 zf5 zf6 zf7 zf8 zf9 HN1 HN2 HK1 HK2
              go_roundw
              case rel => exact ⟨k + 1, by omega, by go_num, HR.out, by rw [HE.out]; exact HS.out, HBT.out⟩
              case measure => simp [intOf]; omega
          · have h1' : decide (r1 < 0) = false := decide_eq_false h1
            by_cases h2 : 0 < r2
            · have h2' : decide (0 < r2) = true := decide_eq_true h2
              simp only [h1, h2, Bool.false_or, if_true, if_false, Bool.false_eq_true, decide_true, decide_false] at HE
              clear h1 h2
              go_wp2_with (first
                | (go_at_call_of 30 (Value.string sm); with_reducible refine (HN1.out _).mono ?_; rintro e wA ⟨rfl, hbA⟩; replace HS := Lib.hid (SBox.below (HS.out) hbA (SBox.lt (HS.out))); replace HB := Lib.hid (Box.below (HB.out) hbA); replace HR := Lib.hid (SBox.below (HR.out) hbA (SBox.lt (HR.out))); replace HBT := Lib.hid (bthen (HBT.out) hbA (Nat.le_refl _)); clear hbA; (try clear z2 z3 z4 z5 z6 z7 z8 z9 y0 y1 y2 y3 zf2 zf3 zf4 zf5 zf6 zf7 zf8 zf9); obtain ⟨_, _, z2, z3, z4, z5, z6, z7, z8, z9⟩ := HS.out.cells; obtain ⟨y0, y1, y2, y3⟩ := HB.out.cells; have zf2 := HS.out.free 2; have zf3 := HS.out.free 3; have zf4 := HS.out.free 4; have zf5 := HS.out.free 5; have zf6 := HS.out.free 6; have zf7 := HS.out.free 7; have zf8 := HS.out.free 8; have zf9 := HS.out.free 9; (try simp only [] at z2 z3 z4 z5 z6 z7 z8 z9 y0 y1 y2 y3))
                | (go_at_call_of 32 (Value.string sm); with_reducible refine (HK1.out _).mono ?_; rintro e wB ⟨rfl, hbB⟩; replace HS := Lib.hid (SBox.below (HS.out) hbB (SBox.lt (HS.out))); replace HB := Lib.hid (Box.below (HB.out) hbB); replace HR := Lib.hid (SBox.below (HR.out) hbB (SBox.lt (HR.out))); replace HBT := Lib.hid (bthen (HBT.out) hbB (Nat.le_refl _)); clear hbB; (try clear z2 z3 z4 z5 z6 z7 z8 z9 y0 y1 y2 y3 zf2 zf3 zf4 zf5 zf6 zf7 zf8 zf9); obtain ⟨_, _, z2, z3, z4, z5, z6, z7, z8, z9⟩ := HS.out.cells; obtain ⟨y0, y1, y2, y3⟩ := HB.out.cells; have zf2 := HS.out.free 2; have zf3 := HS.out.free 3; have zf4 := HS.out.free 4; have zf5 := HS.out.free 5; have zf6 := HS.out.free 6; have zf7 := HS.out.free 7; have zf8 := HS.out.free 8; have zf9 := HS.out.free 9; (try simp only [] at z2 z3 z4 z5 z6 z7 z8 z9 y0 y1 y2 y3))
                | (go_at_call_of 30 (Value.string sx); with_reducible refine (HN2.out _).mono ?_; rintro e wC ⟨rfl, hbC⟩; replace HS := Lib.hid (SBox.below (HS.out) hbC (SBox.lt (HS.out))); replace HB := Lib.hid (Box.below (HB.out) hbC); replace HR := Lib.hid (SBox.below (HR.out) hbC (SBox.lt (HR.out))); replace HBT := Lib.hid (bthen (HBT.out) hbC (Nat.le_refl _)); clear hbC; (try clear z2 z3 z4 z5 z6 z7 z8 z9 y0 y1 y2 y3 zf2 zf3 zf4 zf5 zf6 zf7 zf8 zf9); obtain ⟨_, _, z2, z3, z4, z5, z6, z7, z8, z9⟩ := HS.out.cells; obtain ⟨y0, y1, y2, y3⟩ := HB.out.cells; have zf2 := HS.out.free 2; have zf3 := HS.out.free 3; have zf4 := HS.out.free 4; have zf5 := HS.out.free 5; have zf6 := HS.out.free 6; have zf7 := HS.out.free 7; have zf8 := HS.out.free 8; have zf9 := HS.out.free 9; (try simp only [] at z2 z3 z4 z5 z6 z7 z8 z9 y0 y1 y2 y3))
                | (go_at_call_of 32 (Value.string sx); with_reducible refine (HK2.out _).mono ?_; rintro e wD ⟨rfl, hbD⟩; replace HS := Lib.hid (SBox.below (HS.out) hbD (SBox.lt (HS.out))); replace HB := Lib.hid (Box.below (HB.out) hbD); replace HR := Lib.hid (SBox.below (HR.out) hbD (SBox.lt (HR.out))); replace HBT := Lib.hid (bthen (HBT.out) hbD (Nat.le_refl _)); clear hbD; (try clear z2 z3 z4 z5 z6 z7 z8 z9 y0 y1 y2 y3 zf2 zf3 zf4 zf5 zf6 zf7 zf8 zf9); obtain ⟨_, _, z2, z3, z4, z5, z6, z7, z8, z9⟩ := HS.out.cells; obtain ⟨y0, y1, y2, y3⟩ := HB.out.cells; have zf2 := HS.out.free 2; have zf3 := HS.out.free 3; have zf4 := HS.out.free 4; have zf5 := HS.out.free 5; have zf6 := HS.out.free 6; have zf7 := HS.out.free 7; have zf8 := HS.out.free 8; have zf9 := HS.out.free 9; (try simp only [] at z2 z3 z4 z5 z6 z7 z8 z9 y0 y1 y2 y3)))
              clear z2 z3 z4 z5 z6 z7 z8 z9 y0 y1 y2 y3 zf2 zf3 zf4 zf5 zf6 zf7 zf8 zf9 HN1 HN2 HK1 HK2
              go_roundw
              case rel => exact ⟨k + 1, by omega, by go_num, (((((HR.out).other hne).other hne).other hne).other hne), by rw [HE.out]; exact HS.out.put3 ⟨ku, iu, bu, su⟩, below_put4 HBT.out (Nat.le_succ _) 6 7 8 9 _ _ _ _⟩
              case measure => simp [intOf]; omega
            · have h2' : decide (0 < r2) = false := decide_eq_false h2
              simp only [h1, h2, Bool.false_or, if_false, Bool.false_eq_true, decide_false] at HE
              clear h1 h2
              go_wp2_with (first
                | (go_at_call_of 30 (Value.string sm); with_reducible refine (HN1.out _).mono ?_; rintro e wA ⟨rfl, hbA⟩; replace HS := Lib.hid (SBox.below (HS.out) hbA (SBox.lt (HS.out))); replace HB := Lib.hid (Box.below (HB.out) hbA); replace HR := Lib.hid (SBox.below (HR.out) hbA (SBox.lt (HR.out))); replace HBT := Lib.hid (bthen (HBT.out) hbA (Nat.le_refl _)); clear hbA; (try clear z2 z3 z4 z5 z6 z7 z8 z9 y0 y1 y2 y3 zf2 zf3 zf4 zf5 zf6 zf7 zf8 zf9); obtain ⟨_, _, z2, z3, z4, z5, z6, z7, z8, z9⟩ := HS.out.cells; obtain ⟨y0, y1, y2, y3⟩ := HB.out.cells; have zf2 := HS.out.free 2; have zf3 := HS.out.free 3; have zf4 := HS.out.free 4; have zf5 := HS.out.free 5; have zf6 := HS.out.free 6; have zf7 := HS.out.free 7; have zf8 := HS.out.free 8; have zf9 := HS.out.free 9; (try simp only [] at z2 z3 z4 z5 z6 z7 z8 z9 y0 y1 y2 y3))
                | (go_at_call_of 32 (Value.string sm); with_reducible refine (HK1.out _).mono ?_; rintro e wB ⟨rfl, hbB⟩; replace HS := Lib.hid (SBox.below (HS.out) hbB (SBox.lt (HS.out))); replace HB := Lib.hid (Box.below (HB.out) hbB); replace HR := Lib.hid (SBox.below (HR.out) hbB (SBox.lt (HR.out))); replace HBT := Lib.hid (bthen (HBT.out) hbB (Nat.le_refl _)); clear hbB; (try clear z2 z3 z4 z5 z6 z7 z8 z9 y0 y1 y2 y3 zf2 zf3 zf4 zf5 zf6 zf7 zf8 zf9); obtain ⟨_, _, z2, z3, z4, z5, z6, z7, z8, z9⟩ := HS.out.cells; obtain ⟨y0, y1, y2, y3⟩ := HB.out.cells; have zf2 := HS.out.free 2; have zf3 := HS.out.free 3; have zf4 := HS.out.free 4; have zf5 := HS.out.free 5; have zf6 := HS.out.free 6; have zf7 := HS.out.free 7; have zf8 := HS.out.free 8; have zf9 := HS.out.free 9; (try simp only [] at z2 z3 z4 z5 z6 z7 z8 z9 y0 y1 y2 y3))
                | (go_at_call_of 30 (Value.string sx); with_reducible refine (HN2.out _).mono ?_; rintro e wC ⟨rfl, hbC⟩; replace HS := Lib.hid (SBox.below (HS.out) hbC (SBox.lt (HS.out))); replace HB := Lib.hid (Box.below (HB.out) hbC); replace HR := Lib.hid (SBox.below (HR.out) hbC (SBox.lt (HR.out))); replace HBT := Lib.hid (bthen (HBT.out) hbC (Nat.le_refl _)); clear hbC; (try clear z2 z3 z4 z5 z6 z7 z8 z9 y0 y1 y2 y3 zf2 zf3 zf4 zf5 zf6 zf7 zf8 zf9); obtain ⟨_, _, z2, z3, z4, z5, z6, z7, z8, z9⟩ := HS.out.cells; obtain ⟨y0, y1, y2, y3⟩ := HB.out.cells; have zf2 := HS.out.free 2; have zf3 := HS.out.free 3; have zf4 := HS.out.free 4; have zf5 := HS.out.free 5; have zf6 := HS.out.free 6; have zf7 := HS.out.free 7; have zf8 := HS.out.free 8; have zf9 := HS.out.free 9; (try simp only [] at z2 z3 z4 z5 z6 z7 z8 z9 y0 y1 y2 y3))
                | (go_at_call_of 32 (Value.string sx); with_reducible refine (HK2.out _).mono ?_; rintro e wD ⟨rfl, hbD⟩; replace HS := Lib.hid (SBox.below (HS.out) hbD (SBox.lt (HS.out))); replace HB := Lib.hid (Box.below (HB.out) hbD); replace HR := Lib.hid (SBox.below (HR.out) hbD (SBox.lt (HR.out))); replace HBT := Lib.hid (bthen (HBT.out) hbD (Nat.le_refl _)); clear hbD; (try clear z2 z3 z4 z5 z6 z7 z8 z9 y0 y1 y2 y3 zf2 zf3 zf4 zf5 zf6 zf7 zf8 zf9); obtain ⟨_, _, z2, z3, z4, z5, z6, z7, z8, z9⟩ := HS.out.cells; obtain ⟨y0, y1, y2, y3⟩ := HB.out.cells; have zf2 := HS.out.free 2; have zf3 := HS.out.free 3; have zf4 := HS.out.free 4; have zf5 := HS.out.free 5; have zf6 := HS.out.free 6; have zf7 := HS.out.free 7; have zf8 := HS.out.free 8; have zf9 := HS.out.free 9; (try simp only [] at z2 z3 z4 z5 z6 z7 z8 z9 y0 y1 y2 y3)))
              clear z2 z3 z4 z5 z6 z7 z8 z9 y0 y1 y2 y3 zf2 zf3 zf4 zf5 zf6 zf7 zf8 zf9 HN1 HN2 HK1 HK2
              go_roundw
              case rel => exact ⟨k + 1, by omega, by go_num, HR.out, by rw [HE.out]; exact HS.out, HBT.out⟩
              case measure => simp [intOf]; omega
    · obtain rfl : n = k := by omega
      have htk : vs.take n = vs := List.take_of_length_le (by rw [hv.1]; exact Nat.le_refl _)
      rw [htk] at hS
      obtain ⟨z0, z1, z2, z3, z4, z5, z6, z7, z8, z9⟩ := hS.cells
      obtain ⟨y0, y1, y2, y3, y4, y5, y6, y7, y8, y9⟩ := hS0.cells
      have yf0 := hS0.free 0; have yf1 := hS0.free 1; have yf2 := hS0.free 2; have yf3 := hS0.free 3; have yf4 := hS0.free 4
      have yf5 := hS0.free 5; have yf6 := hS0.free 6; have yf7 := hS0.free 7; have yf8 := hS0.free 8; have yf9 := hS0.free 9
      have HS0 := Lib.hid hS0; clear hS0 hS hv htk
      go_wp2
      exact ret_sbox (HS0.out.put c _ _ _) rfl rfl rfl ⟨rfl, below_put10 hb (Nat.le_refl _) _ _ _ _ _ _ _ _ _ _⟩
end Go.Proofs.Ytgmemdedpklnhaa.Stats

/-
  ONE BYTE TURNED of bytes that the call owns.
-/


namespace Go.Proofs.Ytgmemdedpklnhaa.Crc
open Go.RowKit CrcMath

theorem mod_nat (n : Int) (m : Nat) (h : 0 < m) : ∃ k : Nat, k < m ∧ (IntKind.u64.wrap n).tmod (m : Int) = (k : Int) := by
  rw [IntKind.wrap_u64]
  have h0 : 0 ≤ n % 18446744073709551616 := Int.emod_nonneg _ (by omega)
  rw [Int.tmod_eq_emod_of_nonneg h0]
  have h1 : 0 ≤ n % 18446744073709551616 % (m : Int) := Int.emod_nonneg _ (by omega)
  have h2 : n % 18446744073709551616 % (m : Int) < (m : Int) := Int.emod_lt_of_pos _ (by omega)
  exact ⟨(n % 18446744073709551616 % (m : Int)).toNat, by omega, by omega⟩
theorem turned_cells {W w1 : World} {g k n b : Nat} {L T : List UInt8} (hc : ∀ j, j < n → W.cell? ⟨g, j, none⟩ = some (.int .u8 (byteAt L j : Int)))
    (hb1 : Below (W.setCell ⟨g, k, none⟩ (.int .u8 (b : Int))).heap.size (W.setCell ⟨g, k, none⟩ (.int .u8 (b : Int))) w1) (hg : g < W.heap.size) (hk : k < n) (hb : b < 256)
    (hT : ∀ j, byteAt T j = if j = k then (UInt8.ofNat b).toNat else byteAt L j) : ∀ j, j < n → w1.cell? ⟨g, j, none⟩ = some (.int .u8 (byteAt T j : Int)) := by
  intro j hj
  rw [hb1.cell (p := ⟨g, j, none⟩) (by rw [World.size_setCell]; exact hg), hT j]
  by_cases hjk : j = k
  · subst hjk
    rw [if_pos rfl, World.cell?_setCell_same _ _ _ (hc j hj), UInt8.toNat_ofNat', Nat.mod_eq_of_lt hb]
  · rw [if_neg hjk, World.cell?_setCell_other _ _ _ _ (by intro e; injection e with _ e2; exact hjk e2.symm), hc j hj]
theorem opened_seal (l : List UInt8) : opened (seal_ l) = l ∧ code (seal_ l) = 0 := by
  unfold opened code; rw [open_seal]; exact ⟨rfl, rfl⟩
end Go.Proofs.Ytgmemdedpklnhaa.Crc

/-
  THE WALK of boathouselaw11.FileBack.
-/




namespace Go.Proofs.Ytgmemdedpklnhaa.File
open Go.RowKit ValMath Vals Sl VecMath Vec Dat

theorem file_in64 {w : World} {d : Dat} {AC AV : Option Addr} {nC nV : Nat} {rs : List RowA} (h : DIn w d AC nC AV nV rs) : FileIn64 d := by
  refine ⟨fun vs hvs v hv => ?_, fun c hc => (h.fc c hc).i2⟩
  rw [h.eq] at hvs
  obtain ⟨r, hr, rfl⟩ := List.mem_map.1 hvs
  have := h.fv r hr v hv
  exact ⟨this.i1, this.i2⟩
theorem stats_clean_at {d : Dat} {i : Nat} {c : Colm} {vs : List Val} (hc : d.cols[i]? = some c) (hv : d.vals[i]? = some vs) : (statsOf (cleanDat d))[i]? = some ⟨c.id, (stat vs).nulls, (stat vs).mn, (stat vs).mx⟩ := by
  unfold statsOf cleanDat
  have hz : (d.cols.zip (d.vals.map fun vs => vs.map clean))[i]? = some (c, vs.map clean) := by
    rw [List.getElem?_zip_eq_some]; exact ⟨hc, by rw [List.getElem?_map, hv]; rfl⟩
  rw [List.getElem?_map, hz]
  show some (sta (c, vs.map clean)) = _
  unfold sta
  simp only [stat_map_clean]
theorem stats_length {d : Dat} (h : d.vals.length = d.cols.length) : (statsOf (cleanDat d)).length = d.cols.length := by
  unfold statsOf cleanDat; simp [h]
theorem str_some {l : List UInt8} (h : 0 < l.length) : (str l).toList.isEmpty = false := by
  rw [Lib.toList_data, str_list]
  cases l with
  | nil => simp at h
  | cons a l => rfl
theorem fback {d : Dat} (h : fileOk d) (hi : FileIn64 d) : fdat (str (filePut d)) = cleanDat d ∧ fcode (str (filePut d)) = 0 := by
  unfold fdat fcode
  rw [str_list, unfile_back h hi]; exact ⟨rfl, rfl⟩
theorem read_good (u : ByteArray) : (fcode u = 0 → (∃ (n1 : Nat) (cs : List (Colm × List Val)), fdat u = ⟨(n1 : Int), cs.map (·.1), cs.map (·.2)⟩ ∧ n1 ≤ 4096 ∧ cs.length ≤ 12 ∧ ∀ p ∈ cs, FineP p) ∧ fileErr (fdat u) = 0 ∧ str (filePut (fdat u)) = u) ∧ (fcode u ≠ 0 → fdat u = noDat) := by
  refine ⟨fun h => ⟨unfile_fine h, ?_, (unfile_ok h).2⟩, unfile_none⟩
  unfold fileErr; rw [if_pos (unfile_ok h).1]
set_option maxRecDepth 20000 in
set_option maxHeartbeats 1500000 in
theorem fileBack_any (d : Dat) (AC : Option Addr) (nC cC : Nat) (AV : Option Addr) (nV cV : Nat) (rs : List RowA) (s : ByteArray) (at_ y : Int) (w : World) (h0 : DArg w d AC nC cC AV nV cV rs) (hs : s.size ≤ 140737488351232) (_h1 : (Lit.int .i64 at_).wf = true) (_h2 : (Lit.int .i64 y).wf = true) :
    Calls Try.prog 3 #[dagg d.rows AC nC cC AV nV cV, .string s, .int .i64 at_, .int .i64 y] w fun e w' => e = .returned (.bool true) ∧ Below w.heap.size w w' := by
  have hin := h0.in_
  clear h0
  obtain ⟨l1, l2⟩ := hin.lens
  have h64 := file_in64 hin
  have hP := fun w h => put_any d AC AV nC cC nV cV rs w h
  have hrw : (cleanDat d).rows = d.rows := rfl
  have hR := fun w => Crc.refSeal_any s w (by unfold maxReach; omega)
  have hUz : (str (CrcMath.seal_ s.data.toList)).size ≤ maxReach := by rw [str_size, VecMath.seal_length]; simp; unfold maxReach; omega
  generalize str (CrcMath.seal_ s.data.toList) = U at *
  have hGU := fun w => get_any U w hUz
  have hgd := read_good U
  unfold GetPost at hGU
  clear hUz hs
  generalize fdat U = UD at *
  generalize fcode U = UC at *
  have HR := Lib.hid hR; clear hR
  have HGU := Lib.hid hGU; clear hGU
  have HGD := Lib.hid hgd; clear hgd
  obtain ⟨R, hRd⟩ : ∃ R, R = d.rows := ⟨_, rfl⟩
  rw [← hRd] at hP hrw ⊢
  have hx := DBox.new w R (.slice AC nC cC) (.slice AV nV cV)
  have hb := Vals.one_new (w := w) (.cells #[.int .i64 R, .slice AC nC cC, .slice AV nV cV] 25)
  have HD := Lib.hid (hin.below hb)
  have HX := Lib.hid hx
  have HBT := Lib.hid hb
  clear hx hb hin
  by_cases hok : fileOk d
  · have he : fileErr d = 0 := by unfold fileErr; rw [if_pos hok]
    have hfd := fback hok h64
    have hsl : filePut d = CrcMath.seal_ (fileBody d) := by unfold filePut; rw [if_pos hok]
    have hl : (filePut d).length = (fileBody d).length + 4 := by rw [hsl, VecMath.seal_length]
    have hl2 := hok.2
    have hnv : nV = nC := by have := hok.1.1.2.2.2.2; omega
    subst hnv
    have hn12 : nV ≤ 12 := by have := hok.1.1.2.2.2.1; omega
    rw [he] at hP
    have hG := fun w => get_any (str (filePut d)) w (by rw [str_size, hl]; unfold maxReach; omega)
    have hS := fun w => stats_any (str (filePut d)) w (by rw [str_size, hl]; unfold maxReach; omega)
    unfold GetPost at hG
    rw [hfd.1, hfd.2] at hG hS
    rw [hrw] at hG
    have hsl1 := stats_length (d := d) (by omega)
    rw [l1] at hsl1
    have hsat := fun (i : Nat) (c : Colm) (vs : List Val) hc hv => stats_clean_at (d := d) (i := i) (c := c) (vs := vs) hc hv
    have hcl : (cleanDat d).cols = d.cols := rfl
    have hvl : (cleanDat d).vals.length = nV := by unfold cleanDat; rw [List.length_map]; exact l2
    generalize hcdd : cleanDat d = CD at *
    clear hcdd hfd he hrw
    obtain ⟨N, hN⟩ : ∃ N, N = (filePut d).length := ⟨_, rfl⟩
    obtain ⟨k, hk, hk2⟩ := Crc.mod_nat at_ N (by omega)
    obtain ⟨dd, hdd, hd2⟩ := Crc.mod_nat y 255 (by omega)
    have hd2 : (IntKind.u64.wrap y).tmod 255 = (dd : Int) := hd2
    have hB := byteAt_lt (filePut d) k
    obtain ⟨b, hbv⟩ : ∃ b : Nat, b = byteAt (filePut d) k ^^^ (1 + dd) := ⟨_, rfl⟩
    have hbl : b < 256 := by rw [hbv]; exact Nat.xor_lt_two_pow (n := 8) hB (by omega)
    have hxx : bits .xor .u8 ((byteAt (filePut d) k : Nat) : Int) (1 + (dd : Int)) = (b : Int) := by
      rw [hbv]; exact xor_u8 _ (1 + dd) hB (by omega)
    have hT : CrcMath.open_ ((filePut d).set k (UInt8.ofNat b)) = none := by
      have hkl : k < (filePut d).length := by omega
      have hne : UInt8.ofNat b ≠ (filePut d)[k] := by
        intro e
        have e2 := congrArg UInt8.toNat e
        rw [UInt8.toNat_ofNat', ← byteAt_get _ _ hkl, Nat.mod_eq_of_lt hbl, hbv] at e2
        have e3 : byteAt (filePut d) k ^^^ (1 + dd) = byteAt (filePut d) k ^^^ 0 := by rw [Nat.xor_zero]; exact e2
        have := CrcMath.xor_cancel_left e3
        omega
      revert hne hkl
      rw [hsl]
      intro hkl hne
      exact CrcMath.open_set_none (fileBody d) k hkl _ hne
    have hTg := get_sum (s := str ((filePut d).set k (UInt8.ofNat b))) (by rw [str_list]; exact hT)
    have hTl : ((filePut d).set k (UInt8.ofNat b)).length = N := by rw [List.length_set, hN]
    have hGT := fun w => get_any (str ((filePut d).set k (UInt8.ofNat b))) w (by rw [str_size, hTl, hN, hl]; unfold maxReach; omega)
    unfold GetPost at hGT
    rw [hTg.1, hTg.2] at hGT
    have hset := fun j => byteAt_set (filePut d) k j (UInt8.ofNat b) (by omega)
    have hz : (str (filePut d)).size = N := by rw [str_size, hN]
    have hne0 : (str (filePut d)).toList.isEmpty = false := str_some (by omega)
    have hN1 : 4 ≤ N := by omega
    have hN2 : N ≤ 65536 := by omega
    clear hT hTg hbv hsl hl hl2
    generalize (filePut d).set k (UInt8.ofNat b) = T at *
    generalize hLL : filePut d = L at *
    clear hLL hN hok h64
    have HP := Lib.hid hP; clear hP
    have HG := Lib.hid hG; clear hG
    have HSS := Lib.hid hS; clear hS
    have HGT := Lib.hid hGT; clear hGT
    have HSET := Lib.hid hset; clear hset
    have HTL := Lib.hid hTl; clear hTl
    have HSAT := Lib.hid hsat; clear hsat
    have HL := Lib.hid (And.intro l1 (And.intro l2 (And.intro hcl hvl))); clear l1 l2 hcl hvl
    have HRD := Lib.hid hRd; clear hRd
    obtain ⟨x0, x1, x2⟩ := HX.out.cells
    go_enter Try.func3, Try.ntmps3
    go_wp2_with fail
    refine (awake_any _).mono ?_
    rintro e w1 ⟨rfl, hb1⟩
    clear x0 x1 x2
    replace HD := Lib.hid (HD.out.below hb1)
    replace HX := Lib.hid (HX.out.below hb1)
    (try replace HO := Lib.hid (HO.out.below hb1))
    (try replace HY := Lib.hid (HY.out.below hb1))
    (try replace HS := Lib.hid (HS.out.below hb1))
    replace HBT := Lib.hid (bthen HBT.out hb1 (Nat.le_refl _))
    clear hb1
    obtain ⟨x0, x1, x2⟩ := HX.out.cells
    go_wp2_with fail
    refine (HP.out _ HD.out).mono ?_
    rintro e w2 ⟨rfl, hb2⟩
    clear x0 x1 x2
    replace HD := Lib.hid (HD.out.below hb2)
    replace HX := Lib.hid (HX.out.below hb2)
    (try replace HO := Lib.hid (HO.out.below hb2))
    (try replace HY := Lib.hid (HY.out.below hb2))
    (try replace HS := Lib.hid (HS.out.below hb2))
    replace HBT := Lib.hid (bthen HBT.out hb2 (Nat.le_refl _))
    clear hb2
    go_wp2_with (go_at_call 7; refine (Nums.num_any _ _).mono ?_; rintro e w' ⟨rfl, rfl⟩)
    refine (HG.out _).mono ?_
    rintro e w3 ⟨BC, mC, dC, BV, mV, dV, qs, rfl, hO, hb3⟩
    replace HD := Lib.hid (HD.out.below hb3)
    replace HX := Lib.hid (HX.out.below hb3)
    (try replace HO := Lib.hid (HO.out.below hb3))
    (try replace HY := Lib.hid (HY.out.below hb3))
    (try replace HS := Lib.hid (HS.out.below hb3))
    replace HBT := Lib.hid (bthen HBT.out hb3 (Nat.le_refl _))
    clear hb3
    obtain rfl : mC = nV := by have := (own_len hO.cols).1; rw [HL.out.2.2.1, HL.out.1] at this; exact this
    have HO := Lib.hid hO; clear hO
    have hb4 := Vals.one_new (w := w3) (.cells #[.int .i64 R, .slice BC mC dC, .slice BV mV dV] 25)
    have HY := Lib.hid (DBox.new w3 R (.slice BC mC dC) (.slice BV mV dV))
    replace HD := Lib.hid (HD.out.below hb4)
    replace HX := Lib.hid (HX.out.below hb4)
    replace HO := Lib.hid (HO.out.below hb4)
    replace HBT := Lib.hid (bthen HBT.out hb4 (Nat.le_refl _))
    clear hb4
    go_wp2_with fail
    refine (HSS.out _).mono ?_
    rintro e w4 ⟨u, rfl, hS, hb5⟩
    replace HD := Lib.hid (HD.out.below hb5)
    replace HX := Lib.hid (HX.out.below hb5)
    (try replace HO := Lib.hid (HO.out.below hb5))
    (try replace HY := Lib.hid (HY.out.below hb5))
    (try replace HS := Lib.hid (HS.out.below hb5))
    replace HBT := Lib.hid (bthen HBT.out hb5 (Nat.le_refl _))
    clear hb5
    obtain ⟨A13, c13, rfl, _, _⟩ := OwnG.form hS hsl1
    have HS := Lib.hid (OwnS.sl hS hsl1); clear hS
    obtain ⟨x0, x1, x2⟩ := HX.out.cells
    obtain ⟨y0, y1, y2⟩ := HY.out.cells
    have hSC := sameColumns_any BC AC mC dC cC d.cols _ (by have := OwnC.sl HO.out.cols (n := mC) (by rw [HL.out.2.2.1]; exact HL.out.1); rw [HL.out.2.2.1] at this; exact this) HD.out.cols (by unfold maxLen; omega)
    have HSC := Lib.hid hSC; clear hSC
    go_wp2_with (first
      | (go_at_call 7; refine (Nums.num_any _ _).mono ?_; rintro e w' ⟨rfl, rfl⟩)
      | (go_at_call 10; refine HSC.out.mono ?_; rintro e w5 ⟨rfl, kk, rfl⟩))
    have hbk : Below w4.heap.size w4 (w4.drewN kk) := below_drewN (Below.refl _ _) kk
    replace HD := Lib.hid (HD.out.below hbk)
    replace HX := Lib.hid (HX.out.below hbk)
    (try replace HO := Lib.hid (HO.out.below hbk))
    (try replace HY := Lib.hid (HY.out.below hbk))
    (try replace HS := Lib.hid (HS.out.below hbk))
    replace HBT := Lib.hid (bthen HBT.out hbk (Nat.le_refl _))
    clear hbk x0 x1 x2 y0 y1 y2 HSC HO HY HSS HG HP
    generalize w4.drewN kk = W5 at *
    obtain ⟨x0, x1, x2⟩ := HX.out.cells
    go_loopw [15] (fun iv wr => ∃ q : Nat, q ≤ mC ∧ iv = .int .i64 q ∧ Below W5.heap.size W5 wr) (fun iv _ => mC - (intOf iv).toNat)
    case atStart => exact ⟨0, Nat.zero_le _, rfl, Below.refl _ _⟩
    case round =>
      clear x0 x1 x2
      obtain ⟨q, hq, rfl, hb⟩ := hrel
      by_cases hlt : q < mC
      · have hI := HD.out.below hb
        obtain ⟨b1, o1, c, hc, hA1, hb1, c0, c1, c2⟩ := CSl.at_ hI.cols hlt
        obtain ⟨b2, o2, r, hr, hA2, hb2, z0⟩ := RSl.at_ hI.vals hlt
        obtain ⟨b3, o3, st, hst, hA3, hb3, s0, s1, s2, s3, s4, s5, s6, s7, s8, s9⟩ := SSl.at_ (HS.out.below hb) hlt
        have hmem := List.mem_of_getElem? hr
        have hat := HSAT.out q c r.vs hc (hI.row hr)
        rw [hst] at hat
        injection hat with hat
        subst hat
        have hrn := hI.nr r hmem
        have hT := fun w h => Stats.statR_any c.id r.A r.n r.c r.vs w h (Nat.le_trans hrn (by unfold maxLen; omega)) (fun v hv => Nat.le_trans (hI.fv r hmem v hv).s (by unfold maxLen; omega))
        have hV := vsl_drew (hI.rows r hmem)
        have hDr := HX.out.below hb
        obtain ⟨_, x1, x2⟩ := hDr.cells
        simp only [] at s0 s1 s2 s3 s4 s5 s6 s7 s8 s9
        generalize ((stat r.vs).nulls : Int) = N2 at *
        generalize (stat r.vs).mn = mn at *
        generalize (stat r.vs).mx = mx at *
        obtain ⟨kn, jn, bn, sn⟩ := mn
        obtain ⟨km, jm, bm, sm⟩ := mx
        obtain ⟨id, nm, kd⟩ := c
        obtain ⟨rA, rn, rc, rvs⟩ := r
        simp only [Stats.sagg] at hT hV z0 c0 s0 s1 s2 s3 s4 s5 s6 s7 s8 s9
        subst hA1; subst hA2; subst hA3
        have hS : ∀ wT, Below wr.heap.size wr wT → ((wT.cell? ⟨b3, o3 + q * 10, none⟩ = some (.int .i64 id) ∧ wT.cell? ⟨b3, o3 + q * 10 + 1, none⟩ = some (.int .i64 N2) ∧ wT.cell? ⟨b3, o3 + q * 10 + 2, none⟩ = some (.int .i64 kn) ∧ wT.cell? ⟨b3, o3 + q * 10 + 3, none⟩ = some (.int .i64 jn) ∧ wT.cell? ⟨b3, o3 + q * 10 + 4, none⟩ = some (.bool bn) ∧ wT.cell? ⟨b3, o3 + q * 10 + 5, none⟩ = some (.string sn) ∧ wT.cell? ⟨b3, o3 + q * 10 + 6, none⟩ = some (.int .i64 km) ∧ wT.cell? ⟨b3, o3 + q * 10 + 7, none⟩ = some (.int .i64 jm) ∧ wT.cell? ⟨b3, o3 + q * 10 + 8, none⟩ = some (.bool bm) ∧ wT.cell? ⟨b3, o3 + q * 10 + 9, none⟩ = some (.string sm)) ∧
            (wT.cell? ⟨w.heap.size, 1, none⟩ = some (.slice (some ⟨b1, o1, none⟩) mC cC) ∧ wT.cell? ⟨w.heap.size, 2, none⟩ = some (.slice (some ⟨b2, o2, none⟩) mC cV)) ∧ (wT.cell? ⟨b1, o1 + q * 3, none⟩ = some (.int .i64 id) ∧ wT.cell? ⟨b2, o2 + q, none⟩ = some (.slice rA rn rc))) := fun wT h => by
          have hh := hDr.lt
          refine ⟨⟨(h.cell (p := ⟨b3, _, none⟩) hb3).trans s0, (h.cell (p := ⟨b3, _, none⟩) hb3).trans s1, (h.cell (p := ⟨b3, _, none⟩) hb3).trans s2, (h.cell (p := ⟨b3, _, none⟩) hb3).trans s3, (h.cell (p := ⟨b3, _, none⟩) hb3).trans s4, (h.cell (p := ⟨b3, _, none⟩) hb3).trans s5, (h.cell (p := ⟨b3, _, none⟩) hb3).trans s6, (h.cell (p := ⟨b3, _, none⟩) hb3).trans s7, (h.cell (p := ⟨b3, _, none⟩) hb3).trans s8, (h.cell (p := ⟨b3, _, none⟩) hb3).trans s9⟩, ⟨(h.cell (p := ⟨w.heap.size, _, none⟩) hh).trans x1, (h.cell (p := ⟨w.heap.size, _, none⟩) hh).trans x2⟩, (h.cell (p := ⟨b1, _, none⟩) hb1).trans c0, (h.cell (p := ⟨b2, _, none⟩) hb2).trans z0⟩
        have HSS := Lib.hid hS; clear hS
        have HT := Lib.hid hT; clear hT
        have HVD := Lib.hid hV; clear hV
        have HB := Lib.hid hb; clear hb
        clear hc hr hst hmem hrn hI hDr
        have hqe := Stats.neq_stat id N2 ⟨kn, jn, bn, sn⟩ ⟨km, jm, bm, sm⟩
        have hge := fun x y W => Stats.guard_stat .neq x y #[.int .i64 id, .int .i64 N2, .agg #[.int .i64 kn, .int .i64 jn, .bool bn, .string sn], .agg #[.int .i64 km, .int .i64 jm, .bool bm, .string sm]] #[.int .i64 id, .int .i64 N2, .agg #[.int .i64 kn, .int .i64 jn, .bool bn, .string sn], .agg #[.int .i64 km, .int .i64 jm, .bool bm, .string sm]] W
        have hi1 : (0 : Int) ≤ (q : Int) := by omega
        have hi2 : (q : Int) < (mC : Int) := by omega
        have hq1 := Below.refl wr.heap.size wr
        clear hk hk2 hd2 hB hbl hxx hz hne0 hN1 hN2 hdd
        go_upto_region 12 with fail
        go_region_held3 (fun w' => (w'.cell? ⟨b3, o3 + q * 10, none⟩ = some (.int .i64 id) ∧ w'.cell? ⟨b3, o3 + q * 10 + 1, none⟩ = some (.int .i64 N2) ∧ w'.cell? ⟨b3, o3 + q * 10 + 2, none⟩ = some (.int .i64 kn) ∧ w'.cell? ⟨b3, o3 + q * 10 + 3, none⟩ = some (.int .i64 jn) ∧ w'.cell? ⟨b3, o3 + q * 10 + 4, none⟩ = some (.bool bn) ∧ w'.cell? ⟨b3, o3 + q * 10 + 5, none⟩ = some (.string sn) ∧ w'.cell? ⟨b3, o3 + q * 10 + 6, none⟩ = some (.int .i64 km) ∧ w'.cell? ⟨b3, o3 + q * 10 + 7, none⟩ = some (.int .i64 jm) ∧ w'.cell? ⟨b3, o3 + q * 10 + 8, none⟩ = some (.bool bm) ∧ w'.cell? ⟨b3, o3 + q * 10 + 9, none⟩ = some (.string sm)) ∧ (w'.cell? ⟨w.heap.size, 1, none⟩ = some (.slice (some ⟨b1, o1, none⟩) mC cC) ∧ w'.cell? ⟨w.heap.size, 2, none⟩ = some (.slice (some ⟨b2, o2, none⟩) mC cV)) ∧ (w'.cell? ⟨b1, o1 + q * 3, none⟩ = some (.int .i64 id) ∧ w'.cell? ⟨b2, o2 + q, none⟩ = some (.slice rA rn rc)))
          (first | go_keep | with_reducible exact HSS.out _ hq1 | exact HSS.out _ hq1)
          ((first
            | (go_at_call 11; (with_reducible refine (HT.out _ HVD.out).mono ?_); rintro e wT ⟨rfl, hbT⟩; have hq1 : Below wr.heap.size wr wT := bthen (Below.refl _ wr).drew hbT (Nat.le_refl _))))
        all_goals
          go_wp2
          go_roundw
          case rel => exact ⟨q + 1, by omega, by go_num, bthen HB.out hq1 (Nat.le_refl _)⟩
          case measure => simp [intOf]; omega
      · replace HBT := Lib.hid (bthen HBT.out hb (Nat.le_refl _))
        obtain rfl : mC = q := by omega
        clear hb hlt HS HD HX HSAT
        go_wp2_with (first
          | (refine wpList_to_bytes rfl 9 47 5 (.tmp 104) rfl (str L) rfl Try.underlying9 Try.underlying47 Try.underlying5 ?_; intro cc W hcap hcells hfree hb5 hsz; rw [hz] at hcells hfree)
          | (refine wpList_to_string rfl 47 9 5 (.tmp 128) rfl wr.heap.size T N cc rfl HTL.out Try.underlying47 Try.underlying5 Try.underlying9 (Crc.turned_cells hcells (Below.refl _ _) (by omega) hk hbl HSET.out) ?_))
        refine (HGT.out _).mono ?_
        rintro e w6 ⟨DC, mD, dD, BD, mV2, dV2, qs2, rfl, hO, hb6⟩
        have hb7 := bthen HBT.out hb5 (Nat.le_refl _)
        have hb8 := hb7.setCell (p := ⟨wr.heap.size, k, none⟩) HBT.out.size (.int .u8 (b : Int))
        replace HBT := Lib.hid ((bthen hb8 hb6 (Nat.le_refl _)).alloc (Below.size (bthen hb8 hb6 (Nat.le_refl _))) (.cells #[.int .i64 noDat.rows, .slice DC mD dD, .slice BD mV2 dV2] 25))
        clear hO hb5 hb6 hb7 hb8 hcells hfree hcap hk2 hd2 hB hbl hxx hz hne0 hN1 hN2 hdd hk
        go_wp2_with (go_at_call 7; refine (Nums.num_any _ _).mono ?_; rintro e w' ⟨rfl, rfl⟩)
        go_wp2_with fail
        refine (HR.out _).mono ?_
        rintro e wa ⟨rfl, hba⟩
        replace HBT := Lib.hid (bthen HBT.out hba (Nat.le_refl _)); clear hba
        go_wp2_with fail
        refine (HGU.out _).mono ?_
        rintro e wb ⟨AU, nU, cU, BU, mU, dU, ru, rfl, hO, hbb⟩
        replace HBT := Lib.hid ((bthen HBT.out hbb (Nat.le_refl _)).alloc (Below.size (bthen HBT.out hbb (Nat.le_refl _))) (.cells #[.int .i64 UD.rows, .slice AU nU cU, .slice BU mU dU] 25)); clear hbb
        by_cases hc : UC = 0
        · subst hc
          obtain ⟨⟨n1, cs, hd, hn1, hcl, hfp⟩, hok1, hok2⟩ := HGD.out.1 rfl
          have hPU := fun AC AV nC cC nV cV rs w h => put_any UD AC AV nC cC nV cV rs w h
          rw [hok1, hok2] at hPU
          subst hd
          have hl1 : nU = cs.length := by have := (own_len hO.cols).1; simpa using this
          have hl2 : mU = cs.length := by
            have h1 := (own_len hO.rows).1
            have h2 := congrArg List.length hO.eq
            simp at h2; omega
          subst hl1; subst hl2
          have hin2 := (OwnD.in_ hO hfp hn1 hcl rfl rfl).below (Vals.one_new (w := wb) (.cells #[.int .i64 (n1 : Int), .slice AU cs.length cU, .slice BU cs.length dU] 25))
          have hz := (DBox.new wb (n1 : Int) (.slice AU cs.length cU) (.slice BU cs.length dU)).cells
          obtain ⟨z0, z1, z2⟩ := hz
          have HPU := Lib.hid hPU; clear hPU
          have HIN2 := Lib.hid hin2; clear hin2 hO hfp hok1 hok2 hn1 hcl
          simp only [] at HPU HBT
          go_wp2_with (first
            | (go_at_call 7; refine (Nums.num_any _ _).mono ?_; rintro e w' ⟨rfl, rfl⟩)
            | (go_at_call 6; refine (HPU.out _ _ _ _ _ _ _ _ HIN2.out).mono ?_; rintro e wc ⟨rfl, hbc⟩; replace HBT := Lib.hid (bthen HBT.out hbc (Nat.le_refl _)); clear hbc z0 z1 z2))
          go_ret
          exact ⟨rfl, HBT.out⟩
        · have hu := HGD.out.2 hc
          subst hu
          have hl1 : nU = 0 := (own_len hO.cols).1
          subst hl1
          have hcd : (UC != 0) = true := by simpa using hc
          have hz := (DBox.new wb (0 : Int) (.slice AU 0 cU) (.slice BU mU dU)).cells
          obtain ⟨z0, z1, z2⟩ := hz
          clear hO hc
          have hr0 : noDat.rows = 0 := rfl
          go_wp2_with (go_at_call 7; refine (Nums.num_any _ _).mono ?_; rintro e w' ⟨rfl, rfl⟩)
          go_ret
          exact ⟨rfl, HBT.out⟩
  · have he : fileErr d = 1100 := by unfold fileErr; rw [if_neg hok]
    rw [he] at hP
    generalize str (filePut d) = L at *
    clear he hrw l1 l2 h64 hok
    have HRD := Lib.hid hRd; clear hRd
    have HP := Lib.hid hP; clear hP
    obtain ⟨x0, x1, x2⟩ := HX.out.cells
    go_enter Try.func3, Try.ntmps3
    go_wp2_with fail
    refine (awake_any _).mono ?_
    rintro e w1 ⟨rfl, hb1⟩
    clear x0 x1 x2
    replace HD := Lib.hid (HD.out.below hb1)
    replace HX := Lib.hid (HX.out.below hb1)
    (try replace HO := Lib.hid (HO.out.below hb1))
    (try replace HY := Lib.hid (HY.out.below hb1))
    (try replace HS := Lib.hid (HS.out.below hb1))
    replace HBT := Lib.hid (bthen HBT.out hb1 (Nat.le_refl _))
    clear hb1
    obtain ⟨x0, x1, x2⟩ := HX.out.cells
    go_wp2_with fail
    refine (HP.out _ HD.out).mono ?_
    rintro e w2 ⟨rfl, hb2⟩
    clear x0 x1 x2
    replace HD := Lib.hid (HD.out.below hb2)
    replace HX := Lib.hid (HX.out.below hb2)
    (try replace HO := Lib.hid (HO.out.below hb2))
    (try replace HY := Lib.hid (HY.out.below hb2))
    (try replace HS := Lib.hid (HS.out.below hb2))
    replace HBT := Lib.hid (bthen HBT.out hb2 (Nat.le_refl _))
    clear hb2
    go_wp2_with (go_at_call 7; refine (Nums.num_any _ _).mono ?_; rintro e w' ⟨rfl, rfl⟩)
    go_wp2_with fail
    refine (HR.out _).mono ?_
    rintro e wa ⟨rfl, hba⟩
    replace HBT := Lib.hid (bthen HBT.out hba (Nat.le_refl _)); clear hba
    go_wp2_with fail
    refine (HGU.out _).mono ?_
    rintro e wb ⟨AU, nU, cU, BU, mU, dU, ru, rfl, hO, hbb⟩
    replace HBT := Lib.hid ((bthen HBT.out hbb (Nat.le_refl _)).alloc (Below.size (bthen HBT.out hbb (Nat.le_refl _))) (.cells #[.int .i64 UD.rows, .slice AU nU cU, .slice BU mU dU] 25)); clear hbb
    by_cases hc : UC = 0
    · subst hc
      obtain ⟨⟨n1, cs, hd, hn1, hcl, hfp⟩, hok1, hok2⟩ := HGD.out.1 rfl
      have hPU := fun AC AV nC cC nV cV rs w h => put_any UD AC AV nC cC nV cV rs w h
      rw [hok1, hok2] at hPU
      subst hd
      have hl1 : nU = cs.length := by have := (own_len hO.cols).1; simpa using this
      have hl2 : mU = cs.length := by
        have h1 := (own_len hO.rows).1
        have h2 := congrArg List.length hO.eq
        simp at h2; omega
      subst hl1; subst hl2
      have hin2 := (OwnD.in_ hO hfp hn1 hcl rfl rfl).below (Vals.one_new (w := wb) (.cells #[.int .i64 (n1 : Int), .slice AU cs.length cU, .slice BU cs.length dU] 25))
      have hz := (DBox.new wb (n1 : Int) (.slice AU cs.length cU) (.slice BU cs.length dU)).cells
      obtain ⟨z0, z1, z2⟩ := hz
      have HPU := Lib.hid hPU; clear hPU
      have HIN2 := Lib.hid hin2; clear hin2 hO hfp hok1 hok2 hn1 hcl
      simp only [] at HPU HBT
      go_wp2_with (first
        | (go_at_call 7; refine (Nums.num_any _ _).mono ?_; rintro e w' ⟨rfl, rfl⟩)
        | (go_at_call 6; refine (HPU.out _ _ _ _ _ _ _ _ HIN2.out).mono ?_; rintro e wc ⟨rfl, hbc⟩; replace HBT := Lib.hid (bthen HBT.out hbc (Nat.le_refl _)); clear hbc z0 z1 z2))
      go_ret
      exact ⟨rfl, HBT.out⟩
    · have hu := HGD.out.2 hc
      subst hu
      have hl1 : nU = 0 := (own_len hO.cols).1
      subst hl1
      have hcd : (UC != 0) = true := by simpa using hc
      have hz := (DBox.new wb (0 : Int) (.slice AU 0 cU) (.slice BU mU dU)).cells
      obtain ⟨z0, z1, z2⟩ := hz
      clear hO hc
      have hr0 : noDat.rows = 0 := rfl
      go_wp2_with (go_at_call 7; refine (Nums.num_any _ _).mono ?_; rintro e w' ⟨rfl, rfl⟩)
      go_ret
      exact ⟨rfl, HBT.out⟩
end Go.Proofs.Ytgmemdedpklnhaa.File

/-
  THE WALKS of CopyColumns, LendColumns, LendRows: columns and rows, copied into memory of the call's own with marked room behind them.
-/




namespace Go.Proofs.Ytgmemdedpklnhaa.Dat
open Go.RowKit ValMath Vals Sl VecMath Mem

section
variable {α : Type} {f : α → List Value} {m : Nat} {w : World} {ops : Array Oper} {rest : List Oper} {o : Oper} {a : Act} {Q : Exit → Act → World → Prop}
theorem run_pushes_g (e tS ty : TypeId) (z : Value) (bytes : Nat) (hinfo : (Try.prog.info? e).map (fun i => (i.zero, i.size, i.bytes)) = some (some z, m, bytes)) (hu : Try.prog.underlying tS = some (.slice e)) (hz : z.cells.size = m) (hm : 0 < m) (hf : ∀ a, (f a).length = m)
    (B : Nat) (v : Value) (xs ys : List α) (A : Option Addr) (n c : Nat) (hyn : ys.length = n) (hsrc : ∀ ad, A = some ad → ∀ j u, (ys.flatMap f)[j]? = some u → w.cell? (ad.add j) = some u) (hnil : A = none → n = 0 ∧ c = 0) (hone : ∀ u ∈ ys.flatMap f, u.oneCell' = true)
    (hown : OwnG e m f w B v xs) (hl : xs.length + n ≤ maxLen) (hby : (xs.length + n) * bytes ≤ 140737488355328) (hB : B ≤ w.heap.size) :
    ∃ u wA, (Builtin.append_ #[tS, tS] ty #[v, .slice A n c]).run Try.prog w = .ok u wA ∧ OwnG e m f wA B u (xs ++ ys) ∧ w.grownBy wA v.ownBlock ∧ (u.ownBlock = v.ownBlock ∨ u.ownBlock = some w.heap.size) ∧ (u = .slice none 0 0 ↔ v = .slice none 0 0 ∧ ys = []) := by
  obtain ⟨i0, hi, hz0, hs, hb⟩ := info_parts hinfo
  cases A with
  | none =>
    obtain ⟨rfl, rfl⟩ := hnil rfl
    have hy : ys = [] := List.eq_nil_of_length_eq_zero hyn
    subst hy
    exact ⟨v, w, run_append_owned_none (P := Try.prog) (w := w) B tS ty e i0 m hu hi v xs.length (xs.flatMap f) hown, by rw [List.append_nil]; exact hown, World.grownBy.refl _ _, .inl rfl, by simp⟩
  | some ad =>
    obtain ⟨u, wA, h1, h2, h3, h4, h5⟩ := run_append_own_at (P := Try.prog) w B tS ty e i0 _ m bytes hu hi hz0 hs hb hz hm v xs.length (xs.flatMap f) hown ad n c (ys.flatMap f) (by rw [flatG_length hf, hyn]) (hsrc ad rfl) hone hl hby hB
    refine ⟨u, wA, h1, ?_, h3, h5, ?_⟩
    · unfold OwnG; rw [List.flatMap_append, List.length_append, hyn]; exact h2
    · rw [h4]
      constructor
      · rintro ⟨rfl, rfl⟩; exact ⟨rfl, List.eq_nil_of_length_eq_zero hyn⟩
      · rintro ⟨rfl, rfl⟩; exact ⟨rfl, hyn.symm⟩
theorem wpList_pushes_g (e tS : TypeId) (z : Value) (bytes : Nat) (hinfo : (Try.prog.info? e).map (fun i => (i.zero, i.size, i.bytes)) = some (some z, m, bytes)) (hu : Try.prog.underlying tS = some (.slice e)) (hz : z.cells.size = m) (hm : 0 < m) (hf : ∀ a, (f a).length = m) (hgd : o.guard = none)
    (s x : Operand) (ho : o.op = .call { callee := .builtin .append, args := #[s, x], argTypes := #[tS, tS] })
    (B : Nat) (v : Value) (xs ys : List α) (A : Option Addr) (n c : Nat) (hs : a.eval s = v) (hx : a.eval x = .slice A n c) (hyn : ys.length = n) (hsrc : ∀ ad, A = some ad → ∀ j u, (ys.flatMap f)[j]? = some u → w.cell? (ad.add j) = some u) (hnil : A = none → n = 0 ∧ c = 0) (hone : ∀ u ∈ ys.flatMap f, u.oneCell' = true)
    (hown : OwnG e m f w B v xs) (hl : xs.length + n ≤ maxLen) (hby : (xs.length + n) * bytes ≤ 140737488355328) (hB : B ≤ w.heap.size)
    (h : ∀ u wA, OwnG e m f wA B u (xs ++ ys) → w.grownBy wA v.ownBlock → (u.ownBlock = v.ownBlock ∨ u.ownBlock = some w.heap.size) → (u = .slice none 0 0 ↔ v = .slice none 0 0 ∧ ys = []) → wpList Try.prog ops Q rest (a.put o.dst u) wA) : wpList Try.prog ops Q (o :: rest) a w := by
  refine wpList_plain hgd fun _ hK => ?_
  obtain ⟨u, wA, hr, h2, h3, h4, h5⟩ := run_pushes_g e tS o.type z bytes hinfo hu hz hm hf B v xs ys A n c hyn hsrc hnil hone hown hl hby hB
  unfold Oper.wp execOp
  simp only [ho, resolve, invoke, builtin, Sem.run_bind, Sem.run_pure, Result.andThen_ok, List.map_toArray, List.map_cons, List.map_nil, hs, hx, hr]
  exact hK _ _ (h u wA h2 h3 h4 h5)
end
theorem CSl.news {w : World} {a : Addr} {n : Nat} {cs : List Colm} (h : CSl w (some a) n cs) : ∀ j u, (cs.flatMap ccells)[j]? = some u → w.cell? (a.add j) = some u := by
  intro j u hj
  have hjl : j < (cs.flatMap ccells).length := by
    rcases Nat.lt_or_ge j (cs.flatMap ccells).length with h | h
    · exact h
    · rw [List.getElem?_eq_none h] at hj; cases hj
  rw [flatG_length (m := 3) (fun _ => rfl)] at hjl
  have hi : j / 3 < cs.length := by omega
  obtain ⟨b, off, hA, _, hc⟩ := h.2 (by rw [← h.1]; omega)
  injection hA with hA; subst hA
  have hr : j % 3 < 3 := Nat.mod_lt _ (by omega)
  have hjj : j / 3 * 3 + j % 3 = j := by omega
  rw [← hjj, flatG_at (m := 3) (fun _ => rfl) cs _ _ hi hr] at hj
  obtain ⟨c0, c1, c2⟩ := hc (j / 3) hi
  rw [add_flat, ← hjj]
  generalize j % 3 = r at hr hj
  match r, hr with
  | 0, _ => simp only [ccells, List.getElem?_cons_zero, Option.some.injEq] at hj; subst hj; rw [← Nat.add_assoc]; exact c0
  | 1, _ => simp only [ccells, List.getElem?_cons_succ, List.getElem?_cons_zero, Option.some.injEq] at hj; subst hj; rw [← Nat.add_assoc]; exact c1
  | 2, _ => simp only [ccells, List.getElem?_cons_succ, List.getElem?_cons_zero, Option.some.injEq] at hj; subst hj; rw [← Nat.add_assoc]; exact c2
theorem ccells_one (cs : List Colm) : ∀ u ∈ cs.flatMap ccells, u.oneCell' = true := by
  intro u hu
  rw [List.mem_flatMap] at hu
  obtain ⟨c, _, hu⟩ := hu
  simp only [ccells, List.mem_cons, List.not_mem_nil, or_false] at hu
  rcases hu with rfl | rfl | rfl <;> rfl
def markC : Colm := ⟨77777, ByteArray.empty, 0⟩
theorem CSl.new2 (w : World) (g : Nat) (hg : w.heap.size = g) : CSl (w.alloc (.cells #[.int .i64 77777, .string { data := #[] }, .int .i64 0, .int .i64 77777, .string { data := #[] }, .int .i64 0] 43)) (some ⟨g, 0, none⟩) 2 [markC, markC] := by
  subst hg
  have h := heap_alloc_new w (.cells #[.int .i64 77777, .string { data := #[] }, .int .i64 0, .int .i64 77777, .string { data := #[] }, .int .i64 0] 43)
  refine ⟨rfl, fun _ => ⟨w.heap.size, 0, rfl, by simp, fun i hi => ?_⟩⟩
  have hi2 : i < 2 := by simpa using hi
  match i, hi2 with
  | 0, _ => refine ⟨?_, ?_, ?_⟩ <;> rw [Lib.cell_of_heap h] <;> rfl
  | 1, _ => refine ⟨?_, ?_, ?_⟩ <;> rw [Lib.cell_of_heap h] <;> rfl
/-- An owned row's first elements are an owned row. -/
theorem own_take {w : World} {B z n m g c : Nat} {e : TypeId} {xs ys : List Value} (h : w.ownsRow B e z (.slice (some ⟨g, 0, none⟩) n c) n xs) (hm : m ≤ n) (hy : ys = xs.take (m * z)) : w.ownsRow B e z (.slice (some ⟨g, 0, none⟩) m c) m ys := by
  have hmz : m * z ≤ n * z := Nat.mul_le_mul_right _ hm
  refine ⟨by rw [hy, List.length_take, h.1]; omega, .inr ?_⟩
  rcases h.2 with ⟨e, _⟩ | ⟨g', c', cur, e, hB, hg, h1, h2, h3, h4⟩
  · cases e
  · injection e with e1 e2 e3
    injection e1 with e1; injection e1 with e1
    subst e1; subst e3
    exact ⟨g, c, cur, rfl, hB, hg, by omega, h2, h3, by rw [hy, ← h4, List.take_take, Nat.min_eq_left hmz]⟩
/-- Columns lent. -/
structure LentC (w : World) (B g n c : Nat) (cs : List Colm) : Prop where
  own : OwnC w B (.slice (some ⟨g, 0, none⟩) (n + 2) c) (cs ++ [markC, markC])
  len : cs.length = n
theorem LentC.cap {w : World} {B g n c : Nat} {cs : List Colm} (h : LentC w B g n c cs) : n + 2 ≤ c ∧ c ≤ maxLen := (own_len h.own).2
theorem LentC.full {w : World} {B g n c : Nat} {cs : List Colm} (h : LentC w B g n c cs) : CSl w (some ⟨g, 0, none⟩) (n + 2) (cs ++ [markC, markC]) := OwnC.sl h.own (by rw [List.length_append, h.len]; rfl)
theorem LentC.head {w : World} {B g n c : Nat} {cs : List Colm} (h : LentC w B g n c cs) : OwnC w B (.slice (some ⟨g, 0, none⟩) n c) cs := by
  have h1 := h.own
  unfold OwnC OwnG at h1 ⊢
  rw [show (cs ++ [markC, markC]).length = n + 2 by simp [h.len]] at h1
  rw [h.len]
  refine own_take h1 (by omega) ?_
  rw [List.flatMap_append, List.take_append_of_le_length (by rw [flatG_length (m := 3) (fun _ => rfl), h.len]; exact Nat.le_refl _), List.take_of_length_le (by rw [flatG_length (m := 3) (fun _ => rfl), h.len]; exact Nat.le_refl _)]
theorem LentC.sl {w : World} {B g n c : Nat} {cs : List Colm} (h : LentC w B g n c cs) : CSl w (some ⟨g, 0, none⟩) n cs := OwnC.sl h.head h.len
theorem LentC.below {w w' : World} {B g n c : Nat} {cs : List Colm} (h : LentC w B g n c cs) (hb : Below w.heap.size w w') : LentC w' B g n c cs := ⟨OwnG.below h.own hb, h.len⟩
theorem LentC.base {w : World} {B g n c : Nat} {cs : List Colm} (h : LentC w B g n c cs) : B ≤ g ∧ g < w.heap.size := own_base_of h.own

theorem own_lit_g {w : World} {B z n : Nat} {e : TypeId} {v : Value} {xs : List Value} (h : w.ownsRow B e z v n xs) {m : Nat} (hm : n = m) (hne : v = .slice none 0 0 → False) : ∃ g k, v = .slice (some ⟨g, 0, none⟩) m k := own_lit h hm hne
set_option maxHeartbeats 1000000 in
theorem copyColumns_any (A : Option Addr) (n c : Nat) (cs : List Colm) (w : World) (hv : CArg w A n c cs) :
    Calls Try.prog 53 #[.slice A n c] w fun e w' => ∃ g k, e = .returned (.slice (some ⟨g, 0, none⟩) n k) ∧ OwnC w' w.heap.size (.slice (some ⟨g, 0, none⟩) n k) cs ∧ Below w.heap.size w w' := by
  have hown : OwnC (w.alloc (.cells #[] 43)) w.heap.size (.slice (some ⟨w.heap.size, 0, none⟩) 0 0) [] := made0 w 43 3
  have hs := CSl.below hv.sl (Vals.one_new (w := w) (.cells #[] 43))
  have hlen := hv.sl.1
  have h1 := hv.le
  have h2 := hv.cap
  have HO := Lib.hid hown; clear hown
  have HS := Lib.hid (fun ad (h : A = some ad) => CSl.news (h ▸ hs)); clear hs
  have HL := Lib.hid hlen; clear hlen
  have HN := Lib.hid hv.nil; clear hv
  go_enter Try.func53, Try.ntmps53
  go_wp2_with (refine wpList_pushes_g (f := ccells) 43 22 _ 32 info_col Try.underlying22 rfl (Nat.succ_pos _) (fun _ => rfl) rfl _ _ rfl w.heap.size (.slice (some ⟨w.heap.size, 0, none⟩) 0 0) [] cs A n c rfl rfl HL.out HS.out HN.out (ccells_one cs) HO.out (by simp; unfold maxLen; omega) (by simp; omega) (by simp) ?_; intro u wA hA hgA hatA hnA)
  have hA' : OwnC wA w.heap.size u cs := hA
  obtain ⟨g, k, rfl⟩ := own_lit_g hA' (m := n) HL.out (fun e => by cases (hnA.1 e).1)
  go_ret
  refine ⟨g, k, rfl, hA', ?_⟩
  exact (Vals.one_new _).grown hgA (by simp) (fun j hj => by simp only [Value.ownBlock, Option.some.injEq] at hj; omega)
set_option maxHeartbeats 1000000 in
theorem lendColumns_any (A : Option Addr) (n c : Nat) (cs : List Colm) (w : World) (hv : CArg w A n c cs) :
    Calls Try.prog 34 #[.slice A n c] w fun e w' => ∃ g k, e = .returned (.slice (some ⟨g, 0, none⟩) n k) ∧ LentC w' w.heap.size g n k cs ∧ Below w.heap.size w w' := by
  have HC := Lib.hid (copyColumns_any A n c cs w hv)
  have hlen := hv.sl.1
  have h1 := hv.le
  have h2 := hv.cap
  have HL := Lib.hid hlen; clear hlen hv
  go_enter Try.func34, Try.ntmps34
  go_wp2_with (first
    | (go_at_call 53; with_reducible refine HC.out.mono ?_; rintro e w1 ⟨g1, k1, rfl, hO1, hb1⟩; have HO1 := Lib.hid hO1; clear hO1; have HNW := Lib.hid (fun ad (h : (some ⟨w1.heap.size, 0, none⟩ : Option Addr) = some ad) => CSl.news (h ▸ CSl.new2 w1 _ rfl)))
    | (refine wpList_pushes_g (f := ccells) 43 22 _ 32 info_col Try.underlying22 rfl (Nat.succ_pos _) (fun _ => rfl) rfl _ _ rfl w.heap.size (.slice (some ⟨g1, 0, none⟩) n k1) cs [markC, markC] (some ⟨w1.heap.size, 0, none⟩) 2 2 rfl rfl rfl HNW.out (fun h => by cases h) (ccells_one _) (OwnG.alloc HO1.out _) (by rw [HL.out]; unfold maxLen; omega) (by rw [HL.out]; omega) (by have := hb1.size; simp; omega) ?_; intro u wA hA hgA hatA hnA; obtain ⟨g, k, rfl⟩ := own_lit_g hA (m := n + 2) (by simp [HL.out]) (fun e => by cases (hnA.1 e).2); have hcap := (own_len hA).2; have HA := Lib.hid hA; clear hA hatA hnA))
  go_ret
  refine ⟨g, k, rfl, ⟨HA.out, HL.out⟩, ?_⟩
  exact (hb1.alloc hb1.size _).grown hgA (by have := hb1.size; simp; omega) (fun j hj => by simp only [Value.ownBlock, Option.some.injEq] at hj; have := (own_base_of HO1.out).1; omega)
end Go.Proofs.Ytgmemdedpklnhaa.Dat

/-
  THE WALKS of LendRows, boathouselaw11.lent.
-/


namespace Go.Proofs.Ytgmemdedpklnhaa.Dat
open Go.RowKit ValMath Vals Sl VecMath Mem Vec

/-- Rows lent: each in memory of the call's own, with marked room behind it. -/
structure LentRw (w : World) (B g n c : Nat) (rs' rs : List RowA) : Prop where
  own : OwnR w B (.slice (some ⟨g, 0, none⟩) n c) rs'
  len : rs.length = n
  eq : rs'.map (·.vs) = rs.map (·.vs)
  each : ∀ r ∈ rs', (∃ g', r.A = some ⟨g', 0, none⟩ ∧ LentV w B g' r.n r.c r.vs) ∧ r.n ≤ 140737488351232
theorem LentRw.len' {w : World} {B g n c : Nat} {rs' rs : List RowA} (h : LentRw w B g n c rs' rs) : rs'.length = n := by have := congrArg List.length h.eq; simp at this; rw [this]; exact h.len
theorem LentRw.below {w w' : World} {B g n c : Nat} {rs' rs : List RowA} (h : LentRw w B g n c rs' rs) (hb : Below w.heap.size w w') : LentRw w' B g n c rs' rs :=
  ⟨OwnG.below h.own hb, h.len, h.eq, fun r hr => ⟨by obtain ⟨g', e, hl⟩ := (h.each r hr).1; exact ⟨g', e, hl.below hb⟩, (h.each r hr).2⟩⟩
theorem LentRw.sl {w : World} {B g n c : Nat} {rs' rs : List RowA} (h : LentRw w B g n c rs' rs) : RSl w (some ⟨g, 0, none⟩) n rs' := OwnR.sl h.own h.len'
theorem LentRw.rows {w : World} {B g n c : Nat} {rs' rs : List RowA} (h : LentRw w B g n c rs' rs) : ∀ r ∈ rs', VSl w r.A r.n r.vs := fun r hr => by
  obtain ⟨⟨g', e, hl⟩, _⟩ := h.each r hr
  rw [e]; exact hl.sl
theorem own_lit_pos {w : World} {B z n : Nat} {e : TypeId} {v : Value} {xs : List Value} (h : w.ownsRow B e z v n xs) {m : Nat} (hm : n = m + 1) : ∃ g k, v = .slice (some ⟨g, 0, none⟩) (m + 1) k := by
  rcases h.2 with ⟨_, h0⟩ | ⟨g, k, cur, e, _⟩
  · omega
  · exact ⟨g, k, by rw [e, hm]⟩
theorem row_oneW (A : Option Addr) (n c : Nat) : ∀ u ∈ (#[.slice A n c] : Array Value).toList, u.oneCell' = true := by simp [Value.oneCell']
set_option maxHeartbeats 2000000 in
theorem lendRows_any (A : Option Addr) (n c : Nat) (rs : List RowA) (w : World) (hv : RArg w A n c rs) :
    Calls Try.prog 35 #[.slice A n c] w fun e w' => ∃ g k rs', e = .returned (.slice (some ⟨g, 0, none⟩) n k) ∧ LentRw w' w.heap.size g n k rs' rs ∧ Below w.heap.size w w' := by
  have hle := hv.le
  have hcap := hv.cap
  have hlen := hv.sl.1
  have HV := Lib.hid hv; clear hv
  have HLN := Lib.hid hlen; clear hlen
  obtain ⟨i0, hi, hz, hs, hbi⟩ := info_parts info_row
  go_enter Try.func35, Try.ntmps35
  go_wp2_with (at_make; refine wpList_make_own w rfl _ _ _ rfl w.heap.size 46 i0 _ 1 Try.underlying23 hi hz hs .i64 .i64 _ (n + 1) rfl rfl (by first | rfl | omega) (by rw [hbi]; omega) (by unfold maxLen; omega) (Nat.le_refl _) ?_; intro w1 hO1 hg1)
  have hb1 := (Below.refl w.heap.size w).grown hg1 (Nat.le_refl _) (fun j hj => by cases hj)
  have HO1 := Lib.hid hO1; clear hO1
  have HB1 := Lib.hid hb1; clear hb1 hg1
  clear i0 hi hz hs hbi
  go_loopw [3, 4] (fun ov iv wr => ∃ (q g3 c3 : Nat) (rs' : List RowA), q ≤ n ∧ ov = .slice (some ⟨g3, 0, none⟩) q c3 ∧ iv = .int .i64 q ∧ OwnR wr w.heap.size (.slice (some ⟨g3, 0, none⟩) q c3) rs' ∧ rs'.map (·.vs) = (rs.take q).map (·.vs) ∧ (∀ r ∈ rs', (∃ g', r.A = some ⟨g', 0, none⟩ ∧ LentV wr w.heap.size g' r.n r.c r.vs) ∧ r.n ≤ 140737488351232) ∧ Below w.heap.size w wr) (fun _ iv _ => n - (intOf iv).toNat)
  case atStart => exact ⟨0, w.heap.size, n + 1, [], Nat.zero_le _, rfl, rfl, HO1.out, rfl, by simp, HB1.out⟩
  case round =>
    clear HO1 HB1
    obtain ⟨q, g3, c3, rs', hq, rfl, rfl, hO, he, hE, hb⟩ := hrel
    have hrl : rs'.length = q := by have := congrArg List.length he; simp at this; have := HLN.out; omega
    by_cases hlt : q < n
    · obtain ⟨b2, o2, r, hr, hA2, hb2, z0⟩ := RSl.at_ (RSl.below HV.out.sl hb) hlt
      have hVr := (HV.out.rows r (List.mem_of_getElem? hr)).below hb
      have hL := lendValues_any r.A r.n r.c r.vs wr hVr
      have hrn : r.n ≤ 140737488351232 := by have := hVr.le; have := hVr.cap; omega
      have hen : (rs.take (q + 1)).map (·.vs) = (rs.take q).map (·.vs) ++ [r.vs] := by rw [take_more hr, List.map_append]; rfl
      clear hr hVr
      obtain ⟨rA, rn, rc, rvs⟩ := r
      simp only [] at z0 hL hrn hen
      subst hA2
      have HL := Lib.hid hL; clear hL
      have HEN := Lib.hid (And.intro hen he); clear hen he
      have HE := Lib.hid hE; clear hE
      have HO := Lib.hid hO; clear hO
      have hsz0 := hb.size
      have HB := Lib.hid hb; clear hb
      go_wp2_with (first
        | (go_at_call 54; with_reducible refine HL.out.mono ?_; rintro e w2 ⟨g1, k1, rfl, hl1, hb1⟩; have HL1 := Lib.hid hl1; clear hl1; replace HO := Lib.hid (OwnG.below HO.out hb1); replace HB := Lib.hid (bthen HB.out hb1 (Nat.le_refl _)); have hsz := HB.out.size)
        | (at_builtin; refine wpList_push_g (f := rcells) 46 23 _ 1 24 info_row Try.underlying23 rfl (Nat.succ_pos _) rfl (.tmp 15) (.tmp 23) rfl w.heap.size (.slice (some ⟨g3, 0, none⟩) q c3) rs' ⟨some ⟨g1, 0, none⟩, rn, k1, rvs⟩ w2.heap.size 1 rfl rfl #[.slice (some ⟨g1, 0, none⟩) rn k1] rfl rfl (row_oneW _ _ _) (heap_alloc_new w2 _) (OwnG.alloc HO.out _) (by unfold maxLen; omega) (by omega) (by simp; omega) ?_; intro u wA hA hgA hatA; obtain ⟨g4, k4, rfl⟩ := own_lit_pos hA (m := q) (by simp [hrl]); have HA := Lib.hid hA; clear hA hatA))
      have hk0 := fun (g' a b : Nat) (vs : List Val) (h : LentV w2 w.heap.size g' a b vs) => LentV.grown (h.below (Vals.one_new (w := w2) (.cells #[.slice (some ⟨g1, 0, none⟩) rn k1] 46))) hgA (by
        have := own_ne (h.below (Vals.one_new (w := w2) (.cells #[.slice (some ⟨g1, 0, none⟩) rn k1] 46))).own (OwnG.alloc HO.out (.cells #[.slice (some ⟨g1, 0, none⟩) rn k1] 46)) (by decide)
        rcases this with h | h
        · cases h
        · exact h)
      have HK := Lib.hid hk0; clear hk0
      have hbA := (Below.alloc HB.out HB.out.size (.cells #[.slice (some ⟨g1, 0, none⟩) rn k1] 46)).grown hgA (by simp; omega) (fun j hj => (World.ownsRow.lt HO.out j hj).1)
      have HBA := Lib.hid hbA; clear hbA hgA
      go_roundw
      case rel =>
        refine ⟨q + 1, g4, k4, rs' ++ [⟨some ⟨g1, 0, none⟩, rn, k1, rvs⟩], by omega, rfl, by go_num, HA.out, ?_, ?_, HBA.out⟩
        · rw [HEN.out.1, ← HEN.out.2, List.map_append]; rfl
        · intro r hr
          rw [List.mem_append, List.mem_singleton] at hr
          rcases hr with hr | rfl
          · obtain ⟨⟨g', e, hl⟩, hn⟩ := HE.out r hr
            exact ⟨⟨g', e, HK.out _ _ _ _ (hl.below hb1)⟩, hn⟩
          · refine ⟨⟨g1, rfl, HK.out _ _ _ _ ⟨own_le HL1.out.own ?_, HL1.out.len⟩⟩, hrn⟩
            exact hsz0
      case measure => simp [intOf]; omega
    · obtain rfl : n = q := by omega
      rw [List.take_of_length_le (by rw [HLN.out]; exact Nat.le_refl _)] at he
      have HO := Lib.hid (LentRw.mk hO HLN.out he hE); clear hO he hE
      go_wp2
      go_ret
      exact ⟨g3, c3, rs', rfl, HO.out, hb⟩
theorem ret_cell_data {fn : Func} {p : Tmp} {w : World} {g : Nat} {rows : Int} {C V : Value} {a : Act} {R : Ending → World → Prop} (hb : DBox w g rows C V) (h : fn.results = #[.cell p 25]) (hp : a.tmps.getD p undef = .pointer (some ⟨g, 0, none⟩)) (hd : a.defers = [])
    (hr : R (.returned (.agg #[.int .i64 rows, C, V])) w) : bodyPost Try.prog fn R .ret a w := by
  refine bodyPost_ret (v := .agg #[.int .i64 rows, C, V]) ?_ hd hr
  exact results_cell_row h a.tmps w g 25 _ (0, 0) _ hp hb Try.underlying25 rfl (by kernel_rfl)
theorem DBox.put0 {w : World} {g : Nat} {rows : Int} {C V : Value} (h : DBox w g rows C V) (x : Int) : DBox (w.setCell ⟨g, 0, none⟩ (.int .i64 x)) g x C V := Vec.set_heap h
theorem own_set3 {w : World} {B z n g : Nat} {e : TypeId} {v : Value} {xs : List Value} {R0 : Int} {C0 V0 : Value} (hD : DBox w g R0 C0 V0) (h : w.ownsRow B e z v n xs) (hne : e ≠ 25) (R : Int) (C V : Value) : (((w.setCell ⟨g, 0, none⟩ (.int .i64 R)).setCell ⟨g, 1, none⟩ C).setCell ⟨g, 2, none⟩ V).ownsRow B e z v n xs :=
  File.own_drop (File.own_drop (File.own_drop h hD hne) (hD.put0 R) hne) ((hD.put0 R).put1 C) hne
set_option maxRecDepth 20000 in
set_option maxHeartbeats 4000000 in
theorem lent_any (d : Dat) (AC : Option Addr) (nC cC : Nat) (AV : Option Addr) (nV cV : Nat) (rs : List RowA) (w : World) (hC0 : CArg w AC nC cC d.cols) (hV0 : RArg w AV nV cV rs) :
    Calls Try.prog 13 #[dagg d.rows AC nC cC AV nV cV] w fun e w' => ∃ gC kC gV kV rs', e = .returned (dagg d.rows (some ⟨gC, 0, none⟩) nC kC (some ⟨gV, 0, none⟩) nV kV) ∧ LentC w' w.heap.size gC nC kC d.cols ∧ LentRw w' w.heap.size gV nV kV rs' rs ∧ Below w.heap.size w w' := by
  have hb := Vals.two_new (w := w) (.cells #[.int .i64 d.rows, .slice AC nC cC, .slice AV nV cV] 25) (.cells #[.int .i64 0, .slice none 0 0, .slice none 0 0] 25)
  obtain ⟨R, hR⟩ : ∃ R, R = d.rows := ⟨_, rfl⟩
  rw [← hR] at hb ⊢
  clear hR
  have hC : ∀ W, Below w.heap.size w W → Calls Try.prog 34 #[.slice AC nC cC] W _ := fun W h => lendColumns_any AC nC cC d.cols W ⟨CSl.below hC0.sl h, hC0.le, hC0.cap, hC0.fine, hC0.nil⟩
  have hV : ∀ W, Below w.heap.size w W → Calls Try.prog 35 #[.slice AV nV cV] W _ := fun W h => lendRows_any AV nV cV rs W ⟨RSl.below hV0.sl h, hV0.le, hV0.cap, fun r hr => (hV0.rows r hr).below h, hV0.nil⟩
  have hx : DBox ((w.alloc (.cells #[.int .i64 R, .slice AC nC cC, .slice AV nV cV] 25)).alloc (.cells #[.int .i64 0, .slice none 0 0, .slice none 0 0] 25)) w.heap.size R (.slice AC nC cC) (.slice AV nV cV) := (DBox.new w _ _ _).alloc _
  have hy : DBox ((w.alloc (.cells #[.int .i64 R, .slice AC nC cC, .slice AV nV cV] 25)).alloc (.cells #[.int .i64 0, .slice none 0 0, .slice none 0 0] 25)) (w.heap.size + 1) 0 (.slice none 0 0) (.slice none 0 0) := by
    have := DBox.new (w.alloc (.cells #[.int .i64 R, .slice AC nC cC, .slice AV nV cV] 25)) 0 (.slice none 0 0) (.slice none 0 0)
    simpa using this
  have HC := Lib.hid hC; clear hC hC0
  have HV := Lib.hid hV; clear hV hV0
  go_enter Try.func13, Try.ntmps13
  go_upto_region 1 with fail
  generalize hW0 : (w.alloc (.cells #[.int .i64 R, .slice AC nC cC, .slice AV nV cV] 25)).alloc (.cells #[.int .i64 0, .slice none 0 0, .slice none 0 0] 25) = W0 at *
  clear hW0
  have HX := Lib.hid hx
  have HY := Lib.hid hy; clear hy
  have HB := Lib.hid hb; clear hb
  have hS : ∀ wT, Below W0.heap.size W0 wT → (wT.cell? ⟨w.heap.size, 0, none⟩ = some (.int .i64 R) ∧ wT.cell? ⟨w.heap.size, 1, none⟩ = some (.slice AC nC cC) ∧ wT.cell? ⟨w.heap.size, 2, none⟩ = some (.slice AV nV cV)) := fun wT h => (HX.out.below h).cells
  have HSS := Lib.hid hS; clear hS
  obtain ⟨x0, x1, x2⟩ := hx.cells
  clear hx
  have hq1 := Below.refl W0.heap.size W0
  have hq2 := Below.refl W0.heap.size W0
  have hqw := HB.out
  have hyd := (HY.out.drew).free
  go_region_held3 (fun w' => w'.cell? ⟨w.heap.size, 0, none⟩ = some (.int .i64 R) ∧ w'.cell? ⟨w.heap.size, 1, none⟩ = some (.slice AC nC cC) ∧ w'.cell? ⟨w.heap.size, 2, none⟩ = some (.slice AV nV cV))
    (first | go_keep | with_reducible exact HSS.out _ hq2 | exact HSS.out _ hq1)
    ((first
      | (go_at_call 34; (with_reducible refine (HC.out _ (Below.drew HB.out)).mono ?_); rintro e wA ⟨gC, kC, rfl, hLC, hbA⟩; have hq1 : Below W0.heap.size W0 wA := bthen (Below.refl _ W0).drew hbA (Nat.le_refl _); have hqw := bthen HB.out hq1 (Nat.le_refl _); have HLC := Lib.hid hLC; clear hLC)
      | (go_at_call 35; (with_reducible refine (HV.out _ hqw).mono ?_); rintro e wB ⟨gV, kV, rs', rfl, hLR, hbB⟩; have hq2 : Below W0.heap.size W0 wB := bthen hq1 hbB (Nat.le_refl _); have HLR := Lib.hid hLR; clear hLR; have hyf := (HY.out.below hq2).free; have hy0 := hyf 0; have hy1 := hyf 1; have hy2 := hyf 2; have hyc := (HY.out.below hq2).cells; obtain ⟨e0, e1, e2⟩ := hyc)))
  have hD0 := HY.out.below hq2
  have hD3 := ((hD0.put0 R).put1 (.slice (some ⟨gC, 0, none⟩) nC kC)).put2 (.slice (some ⟨gV, 0, none⟩) nV kV)
  have hB3 := (((bthen HB.out hq2 (Nat.le_refl _)).setCell (p := ⟨w.heap.size + 1, 0, none⟩) (Nat.le_succ _) (.int .i64 R)).setCell (p := ⟨w.heap.size + 1, 1, none⟩) (Nat.le_succ _) (.slice (some ⟨gC, 0, none⟩) nC kC)).setCell (p := ⟨w.heap.size + 1, 2, none⟩) (Nat.le_succ _) (.slice (some ⟨gV, 0, none⟩) nV kV)
  have hsA : w.heap.size ≤ W0.drew.heap.size := HB.out.size
  have hsB : w.heap.size ≤ wA.heap.size := (bthen HB.out hq1 (Nat.le_refl _)).size
  have hLC : LentC (((wB.setCell ⟨w.heap.size + 1, 0, none⟩ (.int .i64 R)).setCell ⟨w.heap.size + 1, 1, none⟩ (.slice (some ⟨gC, 0, none⟩) nC kC)).setCell ⟨w.heap.size + 1, 2, none⟩ (.slice (some ⟨gV, 0, none⟩) nV kV)) w.heap.size gC nC kC d.cols :=
    ⟨own_set3 hD0 (own_le (HLC.out.below hbB).own hsA) (by decide) R _ _, HLC.out.len⟩
  have hLR : LentRw (((wB.setCell ⟨w.heap.size + 1, 0, none⟩ (.int .i64 R)).setCell ⟨w.heap.size + 1, 1, none⟩ (.slice (some ⟨gC, 0, none⟩) nC kC)).setCell ⟨w.heap.size + 1, 2, none⟩ (.slice (some ⟨gV, 0, none⟩) nV kV)) w.heap.size gV nV kV rs' rs :=
    ⟨own_set3 hD0 (own_le HLR.out.own hsB) (by decide) R _ _, HLR.out.len, HLR.out.eq, fun r hr => ⟨by obtain ⟨g', e, hl⟩ := (HLR.out.each r hr).1; exact ⟨g', e, own_set3 hD0 (own_le hl.own hsB) (by decide) R _ _, hl.len⟩, (HLR.out.each r hr).2⟩⟩
  have HLC3 := Lib.hid hLC; clear hLC HLC
  have HLR3 := Lib.hid hLR; clear hLR HLR
  have HD3 := Lib.hid hD3; clear hD3 hD0
  have HB3 := Lib.hid hB3; clear hB3 e0 e1 e2 hy0 hy1 hy2 hyf hyd
  go_wp2_with fail
  exact ret_cell_data HD3.out rfl rfl rfl ⟨gC, kC, gV, kV, rs', rfl, HLC3.out, HLR3.out, HB3.out⟩
end Go.Proofs.Ytgmemdedpklnhaa.Dat

/-
  PLAIN LAW OF FileColumns: one column of nulls more.
-/


namespace Go.Proofs.Ytgmemdedpklnhaa.File
open Go.RowKit ValMath Vals Sl VecMath Vec Dat

def moreCol (last kd : Int) : Colm := ⟨last + 1, ByteArray.empty, kd⟩
def moreDat (d : Dat) (last kd : Int) (n : Nat) : Dat := ⟨d.rows, d.cols ++ [moreCol last kd], d.vals ++ [List.replicate n nul]⟩
theorem best_nuls (k : Int) (n : Nat) : VecMath.best k (List.replicate n nul) = (0, []) := by
  unfold VecMath.best
  rw [somes_nul]
  have h : encPlain k [] = [] := by
    unfold encPlain
    split
    · unfold packed; rfl
    · rfl
  rw [h]
  unfold best3
  simp
theorem put_nuls (k : Int) (n : Nat) (hn : n ≤ 4096) : (put k (List.replicate n nul)).length ≤ 527 := by
  unfold put
  split
  · rw [VecMath.seal_length, body_length, best_nuls, List.length_replicate]
    have := enc_ten n
    unfold cnt
    simp only [List.length_nil]
    omega
  · simp
theorem colBytes_nuls (last kd : Int) (n : Nat) (hn : n ≤ 4096) : (colBytes (moreCol last kd, List.replicate n nul)).length ≤ 548 := by
  have h1 := put_nuls kd n hn
  have h2 := enc_ten (moreCol last kd).id.toNat
  have h3 := enc_ten (put kd (List.replicate n nul)).length
  unfold colBytes cnt
  simp only [List.length_append, List.length_singleton]
  unfold moreCol at h2 ⊢
  simp only [] at h2 ⊢
  omega
theorem statBytes_nuls (n : Nat) : (statBytes (List.replicate n nul)).length ≤ 12 := by
  unfold statBytes
  rw [stat_nuls]
  have h := enc_ten n
  have hl : limit nul = [0] := rfl
  simp only [hl, List.length_append, List.length_singleton]
  unfold cnt; omega
theorem more_zip {d : Dat} (hl : d.vals.length = d.cols.length) (last kd : Int) (n : Nat) : (moreDat d last kd n).cols.zip (moreDat d last kd n).vals = d.cols.zip d.vals ++ [(moreCol last kd, List.replicate n nul)] := by
  unfold moreDat
  simp only []
  rw [List.zip_append hl.symm]; rfl
theorem more_body {d : Dat} (hl : d.vals.length = d.cols.length) (last kd : Int) (n : Nat) (hn : n ≤ 4096) : (fileBody (moreDat d last kd n)).length ≤ (fileBody d).length + 600 := by
  have h1 := colBytes_nuls last kd n hn
  have h2 := statBytes_nuls n
  have h3 := enc_ten (moreDat d last kd n).cols.length
  have h4 := enc_pos d.cols.length
  have hv : (moreDat d last kd n).vals.flatMap statBytes = d.vals.flatMap statBytes ++ statBytes (List.replicate n nul) := by
    unfold moreDat; simp
  unfold fileBody
  rw [more_zip hl, hv, List.flatMap_append, List.flatMap_singleton]
  simp only [List.length_append]
  have e : (moreDat d last kd n).rows = d.rows := rfl
  rw [e]
  unfold cnt
  omega
theorem more_may {d : Dat} (h : mayFile d) (hl : d.cols.length < 12) (kd : Int) (hk : 1 ≤ kd ∧ kd ≤ 3) {n : Nat} (hn : d.rows = (n : Int)) {c : Colm} (hc : d.cols[d.cols.length - 1]? = some c) : mayFile (moreDat d c.id kd n) := by
  obtain ⟨⟨a1, a2, a3, a4, a5⟩, hall⟩ := h
  refine ⟨⟨a1, a2, ?_, ?_, ?_⟩, ?_⟩
  · unfold moreDat; simp
  · unfold moreDat; simp; omega
  · unfold moreDat; simp [a5]
  · intro i hi
    have hcl : (moreDat d c.id kd n).cols.length = d.cols.length + 1 := by unfold moreDat; simp
    rw [hcl] at hi
    have hget : ∀ j, j < d.cols.length → (moreDat d c.id kd n).cols.getD j noCol = d.cols.getD j noCol := fun j hj => by
      unfold moreDat; simp only []
      rw [List.getD_eq_getElem?_getD, List.getD_eq_getElem?_getD, List.getElem?_append_left hj]
    have hgetv : ∀ j, j < d.cols.length → (moreDat d c.id kd n).vals.getD j [] = d.vals.getD j [] := fun j hj => by
      unfold moreDat; simp only []
      rw [List.getD_eq_getElem?_getD, List.getD_eq_getElem?_getD, List.getElem?_append_left (by omega)]
    have hr : (moreDat d c.id kd n).rows = d.rows := rfl
    have hlast := (hall (d.cols.length - 1) (by omega)).1
    rw [getD_at hc] at hlast
    by_cases hlt : i < d.cols.length
    · have := hall i hlt
      unfold colOk at this ⊢
      rw [hget i hlt, hgetv i hlt, hr]
      refine ⟨this.1, fun h0 => ?_, this.2.2⟩
      rw [hget (i - 1) (by omega)]; exact this.2.1 h0
    · obtain rfl : i = d.cols.length := by omega
      have e1 : (moreDat d c.id kd n).cols.getD d.cols.length noCol = moreCol c.id kd := by
        unfold moreDat; simp
      have e2 : (moreDat d c.id kd n).vals.getD d.cols.length [] = List.replicate n nul := by
        unfold moreDat; rw [← a5]; simp
      unfold colOk
      rw [e1, e2, hr]
      refine ⟨by unfold moreCol; simp only []; omega, fun h0 => ?_, rfl, hk, by rw [List.length_replicate, hn], ?_⟩
      · rw [hget _ (by omega), getD_at hc]; unfold moreCol; simp only []; omega
      · rw [List.all_eq_true]; intro v hv; rw [List.mem_replicate] at hv; rw [hv.2]; exact fits_nul _
theorem more_ok {d : Dat} (h : fileOk d) (last kd : Int) (n : Nat) (hn : n ≤ 4096) (hm : mayFile (moreDat d last kd n)) (hno : ¬ fileOk (moreDat d last kd n)) : 60000 < (filePut d).length := by
  have h1 := more_body h.1.1.2.2.2.2 last kd n hn
  have h2 : ¬ ((fileBody (moreDat d last kd n)).length + 4 ≤ 65536) := fun e => hno ⟨hm, e⟩
  unfold filePut
  rw [if_pos h, VecMath.seal_length]; omega
theorem more_stats {d : Dat} (hl : d.vals.length = d.cols.length) (last kd : Int) (n : Nat) : statsOf (cleanDat (moreDat d last kd n)) = statsOf (cleanDat d) ++ [⟨last + 1, (n : Int), nul, nul⟩] := by
  unfold statsOf cleanDat moreDat
  simp only [List.map_append, List.map_cons, List.map_nil]
  rw [List.zip_append (by simp [hl]), List.map_append]
  congr 1
  show [sta (moreCol last kd, (List.replicate n nul).map clean)] = _
  unfold sta
  simp only [stat_map_clean, stat_nuls]
  rfl
end Go.Proofs.Ytgmemdedpklnhaa.File
