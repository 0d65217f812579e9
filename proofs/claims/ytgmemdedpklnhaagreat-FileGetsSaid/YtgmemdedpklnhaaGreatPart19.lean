/-
  Lemmas of this claim, text behind text: StatR, RefMay, RefBound. Each states its own conditions.
-/
import Derived.Test.YtgmemdedpklnhaaGreatPart01
import Derived.Test.YtgmemdedpklnhaaGreatPart05
import Derived.Test.YtgmemdedpklnhaaGreatPart12
import Derived.Test.YtgmemdedpklnhaaGreatPart16

/-
  THE WALK of boathouseref7.Stat.
-/


namespace Go.Proofs.YtgmemdedpklnhaaGreat.Stats
open Go.RowKit ValMath Vals Sl

theorem null_best (lt : Val → Val → Bool) (a b : Val) : null (best lt a b) = (null a && null b) := best_null lt a b
theorem stat_null_both (vs : List Val) : null (stat vs).mn = null (stat vs).mx := by
  induction vs using snoc_ind with
  | h0 => rfl
  | h1 vs v ih =>
    rw [stat_snoc]
    show null (lesser _ _) = null (greater _ _)
    rw [lesser_best, greater_best, best_null, best_null, ih]
theorem best_size (lt : Val → Val → Bool) (a b : Val) (n : Nat) (ha : a.s.size ≤ n) (hb : b.s.size ≤ n) : (best lt a b).s.size ≤ n := by
  unfold best
  split
  · exact Nat.le_trans (clean_size b) hb
  · exact Nat.le_trans (clean_size a) ha
theorem stat_size (vs : List Val) (n : Nat) (h : ∀ v ∈ vs, v.s.size ≤ n) : (stat vs).mn.s.size ≤ n ∧ (stat vs).mx.s.size ≤ n := by
  induction vs using snoc_ind with
  | h0 => exact ⟨Nat.zero_le _, Nat.zero_le _⟩
  | h1 vs v ih =>
    obtain ⟨h1, h2⟩ := ih (fun u hu => h u (by simp [hu]))
    have hv := h v (by simp)
    rw [stat_snoc]
    refine ⟨?_, ?_⟩
    · show (lesser _ _).s.size ≤ n
      rw [lesser_best]; exact best_size _ _ _ _ h1 hv
    · show (greater _ _).s.size ≤ n
      rw [greater_best]; exact best_size _ _ _ _ h2 hv

/-- What the next value makes of clean bounds. -/
theorem next_null {s : St} {v : Val} (hc : clean s.mn = s.mn ∧ clean s.mx = s.mx) (hn : null v = true) : addS s v = ⟨s.nulls + 1, s.mn, s.mx⟩ := by
  have h1 : lesser s.mn v = s.mn := (best_null_right less s.mn hn).trans hc.1
  have h2 : greater s.mx v = s.mx := (best_null_right (fun x y => less y x) s.mx hn).trans hc.2
  unfold addS
  rw [h1, h2, hn]; rfl
theorem next_some {s : St} {v : Val} (hc : clean s.mn = s.mn ∧ clean s.mx = s.mx) (hn : null v = false) : addS s v = ⟨s.nulls, if (null s.mn || decide (cmp (clean v) s.mn < 0)) = true then clean v else s.mn, if (null s.mx || decide (0 < cmp (clean v) s.mx)) = true then clean v else s.mx⟩ := by
  have h1 : lesser s.mn v = if (null s.mn || decide (cmp (clean v) s.mn < 0)) = true then clean v else s.mn := by
    have : decide (cmp (clean v) s.mn < 0) = less v s.mn := by rw [← less_clean_left v]; by_cases h : less (clean v) s.mn = true <;> simp [h, cmp_neg]
    unfold lesser
    rw [this, hn, hc.1]
    rfl
  have h2 : greater s.mx v = if (null s.mx || decide (0 < cmp (clean v) s.mx)) = true then clean v else s.mx := by
    have : decide (0 < cmp (clean v) s.mx) = less s.mx v := by rw [← less_clean_right s.mx v]; by_cases h : less s.mx (clean v) = true <;> simp [h, cmp_pos]
    unfold greater
    rw [this, hn, hc.2]
    rfl
  unfold addS
  rw [h1, h2, hn]; rfl

set_option maxRecDepth 20000 in
set_option maxHeartbeats 4000000 in
theorem statR_any (c : Int) (A : Option Addr) (n cap : Nat) (vs : List Val) (w : World) (hv : VSl w A n vs) (hn : n ≤ maxLen) (hs : ∀ v ∈ vs, v.s.size ≤ maxLen) :
    Calls Tryz.prog 34 #[.int .i64 c, .slice A n cap] w fun e w' => e = .returned (sagg c (stat vs).nulls (stat vs).mn (stat vs).mx) ∧ Below w.heap.size w w' := by
  have hn2 : n < 9223372036854775808 := by have h : maxLen = 9223372036854775807 := rfl; omega
  go_enter Tryz.func34, Tryz.ntmps34
  go_wp2
  go_loopw [6] (fun i wr => ∃ k : Nat, k ≤ n ∧ i = .int .i64 k ∧ SBox wr w.heap.size 0 0 nul nul ∧ SBox wr (w.heap.size + 1) c (stat (vs.take k)).nulls (stat (vs.take k)).mn (stat (vs.take k)).mx ∧ Below w.heap.size w wr)
    (fun i _ => n - (intOf i).toNat)
  case atStart => exact ⟨0, Nat.zero_le _, rfl, (SBox.new _ _ rfl _ _ nul nul).alloc _, SBox.new _ _ (by simp) _ _ nul nul, Vals.two_new _ _⟩
  case round =>
    obtain ⟨k, hk, rfl, hS0, hS, hb⟩ := hrel
    by_cases hlt : k < n
    · have hvr := hv.below hb
      obtain ⟨b1, o1, v, hv1, rfl, hb1, c0, c1, c2, c3⟩ := hvr.at_ hlt
      have hts := take_more hv1
      have hsv := hs v (List.mem_of_getElem? hv1)
      have hnl := stat_nulls_le (vs.take k)
      have hlk : (vs.take k).length ≤ k := List.length_take_le _ _
      have hqk : (stat (vs.take k)).nulls ≤ k := by omega
      have hcl := stat_clean (vs.take k)
      have hbn := stat_null_both (vs.take k)
      obtain ⟨hz1, hz2⟩ := stat_size (vs.take k) maxLen (fun u hu => hs u (List.mem_of_mem_take hu))
      have hE : stat (vs.take (k + 1)) = addS (stat (vs.take k)) v := by rw [hts, stat_snoc]
      generalize hst : stat (vs.take k) = s at hE hcl hbn hz1 hz2 hqk hnl hS
      obtain ⟨q, mn, mx⟩ := s
      (try simp only [] at hcl hbn hz1 hz2 hqk hnl hS)
      have hcz : (clean v).s.size ≤ maxLen := Nat.le_trans (clean_size v) hsv
      have hN := null_any v
      have hC := clean_any v
      have hN1 := null_any mn
      have hN2 := null_any mx
      have hK1 := fun w => cmp_any (clean v) mn w hcz hz1
      have hK2 := fun w => cmp_any (clean v) mx w hcz hz2
      rw [← hbn] at hN2
      have HL4 := Lib.hid hb1
      have H4 := Lib.hid (show At4 wr b1 (o1 + k * 4) v from ⟨c0, c1, c2, c3⟩)
      cases hnv : null v with
      | true =>
        have hE2 := next_null (s := ⟨q, mn, mx⟩) hcl hnv
        rw [← hE] at hE2
        rw [hnv] at hN
        clear hC hN1 hN2 hK1 hK2 hcl hbn hz1 hz2 hE hst hcz hsv hts hnv
        obtain ⟨kv, iv, bv, sv⟩ := v
        obtain ⟨km, im, bm, sm⟩ := mn
        obtain ⟨kx, ix, bx, sx⟩ := mx
        simp only [vagg] at c0 c1 c2 c3 hN
        have HN := Lib.hid hN; clear hN
        have HE := Lib.hid hE2; clear hE2
        have HR := Lib.hid hS0; clear hS0
        have HS := Lib.hid hS; clear hS
        have HBT := Lib.hid hb
        obtain ⟨z0, z1, _⟩ := HS.out.cells
        have zf1 := HS.out.free 1
        (try simp only [] at z0 z1)
        have hwr : IntKind.i64.wrap ((q : Int) + 1) = (q : Int) + 1 := IntWalk.i64_in _ (by omega)
        go_wp2_with (go_at_call 64; with_reducible refine (HN.out _).mono ?_; rintro e w1 ⟨rfl, hb2⟩; clear z0 z1 zf1 c0 c1 c2 c3; replace HS := Lib.hid (HS.out.below hb2 HS.out.lt); replace HR := Lib.hid (HR.out.below hb2 HR.out.lt); replace HBT := Lib.hid (bthen HBT.out hb2 (Nat.le_refl _)); clear hb2; obtain ⟨z0, z1, _⟩ := HS.out.cells; have zf1 := HS.out.free 1; (try simp only [] at z0 z1))
        go_roundw
        case rel => exact ⟨k + 1, by omega, by go_num, HR.out.other (by omega), by rw [HE.out]; exact HS.out.put1 _, HBT.out.setCell (p := ⟨w.heap.size + 1, 1, none⟩) (Nat.le_succ _) _⟩
        case measure => simp [intOf]; omega
      | false =>
        have hE2 := next_some (s := ⟨q, mn, mx⟩) hcl hnv
        rw [← hE] at hE2
        rw [hnv] at hN
        (try simp only [] at hE2)
        rw [← hbn] at hE2
        generalize null mn = nb at hE2 hN1 hN2
        generalize cmp (clean v) mn = r1 at hE2 hK1
        generalize cmp (clean v) mx = r2 at hE2 hK2
        clear hcl hbn hz1 hz2 hE hst hcz hsv hts hnv
        generalize clean v = u at *
        obtain ⟨kv, iv, bv, sv⟩ := v
        obtain ⟨ku, iu, bu, su⟩ := u
        obtain ⟨km, im, bm, sm⟩ := mn
        obtain ⟨kx, ix, bx, sx⟩ := mx
        simp only [vagg] at c0 c1 c2 c3 hN hC hN1 hN2 hK1 hK2
        have HN := Lib.hid hN; clear hN
        have HC := Lib.hid hC; clear hC
        have HN1 := Lib.hid hN1; clear hN1
        have HN2 := Lib.hid hN2; clear hN2
        have HK1 := Lib.hid hK1; clear hK1
        have HK2 := Lib.hid hK2; clear hK2
        have HE := Lib.hid hE2; clear hE2
        have HR := Lib.hid hS0; clear hS0
        have HS := Lib.hid hS; clear hS
        have HBT := Lib.hid hb
        go_upto_region 8 with (first
          | (go_at_call 64; go_loud (with_reducible refine (HN.out _).mono ?_); rintro e w1 ⟨rfl, hb2⟩; clear c0 c1 c2 c3; replace HL4 := Lib.hid (Nat.lt_of_lt_of_le HL4.out hb2.size); replace H4 := Lib.hid (H4.out.below hb2 hb1); replace HS := Lib.hid (HS.out.below hb2 HS.out.lt); replace HR := Lib.hid (HR.out.below hb2 HR.out.lt); replace HBT := Lib.hid (bthen HBT.out hb2 (Nat.le_refl _)); clear hb2; obtain ⟨c0, c1, c2, c3⟩ := H4.out; (try simp only [] at c0 c1 c2 c3))
          | (go_at_call 66; with_reducible refine (HC.out _).mono ?_; rintro e w2 ⟨rfl, hb2⟩; clear c0 c1 c2 c3; replace HS := Lib.hid (HS.out.below hb2 HS.out.lt); replace HR := Lib.hid (HR.out.below hb2 HR.out.lt); replace HBT := Lib.hid (bthen HBT.out hb2 (Nat.le_refl _)); clear hb2))
        have hne : w.heap.size ≠ w.heap.size + 1 := by omega
        have hsz := HS.out.lt
        have hneb : w2.heap.size ≠ w.heap.size + 1 := by omega
        replace HS := Lib.hid (HS.out.alloc (.cells #[.int .i64 ku, .int .i64 iu, .bool bu, .string su] 71))
        replace HR := Lib.hid (HR.out.alloc (.cells #[.int .i64 ku, .int .i64 iu, .bool bu, .string su] 71))
        have HB := Lib.hid (Box.new w2 ⟨ku, iu, bu, su⟩)
        replace HBT := Lib.hid (HBT.out.alloc HBT.out.size (.cells #[.int .i64 ku, .int .i64 iu, .bool bu, .string su] 71))
        generalize w2.heap.size = gz at *
        generalize (w2.alloc (.cells #[.int .i64 ku, .int .i64 iu, .bool bu, .string su] 71)) = wz at *
        clear H4 HL4 HN HC
        obtain ⟨_, _, z2, z3, z4, z5, z6, z7, z8, z9⟩ := HS.out.cells
        (try simp only [] at z2 z3 z4 z5 z6 z7 z8 z9)
        cases nb with
        | true =>
          go_wp2_with (first
            | (go_at_call_of 64 (Value.string sm); with_reducible refine (HN1.out _).mono ?_; rintro e wA ⟨rfl, hbA⟩; replace HS := Lib.hid (SBox.below (HS.out) hbA (SBox.lt (HS.out))); replace HB := Lib.hid (Box.below (HB.out) hbA); replace HR := Lib.hid (SBox.below (HR.out) hbA (SBox.lt (HR.out))); replace HBT := Lib.hid (bthen (HBT.out) hbA (Nat.le_refl _)); clear hbA; (try clear z2 z3 z4 z5 z6 z7 z8 z9 y0 y1 y2 y3 zf2 zf3 zf4 zf5 zf6 zf7 zf8 zf9); obtain ⟨_, _, z2, z3, z4, z5, z6, z7, z8, z9⟩ := HS.out.cells; obtain ⟨y0, y1, y2, y3⟩ := HB.out.cells; have zf2 := HS.out.free 2; have zf3 := HS.out.free 3; have zf4 := HS.out.free 4; have zf5 := HS.out.free 5; have zf6 := HS.out.free 6; have zf7 := HS.out.free 7; have zf8 := HS.out.free 8; have zf9 := HS.out.free 9; (try simp only [] at z2 z3 z4 z5 z6 z7 z8 z9 y0 y1 y2 y3))
            | (go_at_call_of 69 (Value.string sm); with_reducible refine (HK1.out _).mono ?_; rintro e wB ⟨rfl, hbB⟩; replace HS := Lib.hid (SBox.below (HS.out) hbB (SBox.lt (HS.out))); replace HB := Lib.hid (Box.below (HB.out) hbB); replace HR := Lib.hid (SBox.below (HR.out) hbB (SBox.lt (HR.out))); replace HBT := Lib.hid (bthen (HBT.out) hbB (Nat.le_refl _)); clear hbB; (try clear z2 z3 z4 z5 z6 z7 z8 z9 y0 y1 y2 y3 zf2 zf3 zf4 zf5 zf6 zf7 zf8 zf9); obtain ⟨_, _, z2, z3, z4, z5, z6, z7, z8, z9⟩ := HS.out.cells; obtain ⟨y0, y1, y2, y3⟩ := HB.out.cells; have zf2 := HS.out.free 2; have zf3 := HS.out.free 3; have zf4 := HS.out.free 4; have zf5 := HS.out.free 5; have zf6 := HS.out.free 6; have zf7 := HS.out.free 7; have zf8 := HS.out.free 8; have zf9 := HS.out.free 9; (try simp only [] at z2 z3 z4 z5 z6 z7 z8 z9 y0 y1 y2 y3))
            | (go_at_call_of 64 (Value.string sx); with_reducible refine (HN2.out _).mono ?_; rintro e wC ⟨rfl, hbC⟩; replace HS := Lib.hid (SBox.below (HS.out.put2 ⟨ku, iu, bu, su⟩) hbC (SBox.lt (HS.out.put2 ⟨ku, iu, bu, su⟩))); replace HB := Lib.hid (Box.below ((((((HB.out).other hneb).other hneb).other hneb).other hneb)) hbC); replace HR := Lib.hid (SBox.below ((((((HR.out).other hne).other hne).other hne).other hne)) hbC (SBox.lt ((((((HR.out).other hne).other hne).other hne).other hne)))); replace HBT := Lib.hid (bthen (below_put4 HBT.out (Nat.le_succ _) 2 3 4 5 _ _ _ _) hbC (Nat.le_refl _)); clear hbC; (try clear z2 z3 z4 z5 z6 z7 z8 z9 y0 y1 y2 y3 zf2 zf3 zf4 zf5 zf6 zf7 zf8 zf9); obtain ⟨_, _, z2, z3, z4, z5, z6, z7, z8, z9⟩ := HS.out.cells; obtain ⟨y0, y1, y2, y3⟩ := HB.out.cells; have zf2 := HS.out.free 2; have zf3 := HS.out.free 3; have zf4 := HS.out.free 4; have zf5 := HS.out.free 5; have zf6 := HS.out.free 6; have zf7 := HS.out.free 7; have zf8 := HS.out.free 8; have zf9 := HS.out.free 9; (try simp only [] at z2 z3 z4 z5 z6 z7 z8 z9 y0 y1 y2 y3))
            | (go_at_call_of 69 (Value.string sx); with_reducible refine (HK2.out _).mono ?_; rintro e wD ⟨rfl, hbD⟩; replace HS := Lib.hid (SBox.below (HS.out) hbD (SBox.lt (HS.out))); replace HB := Lib.hid (Box.below (HB.out) hbD); replace HR := Lib.hid (SBox.below (HR.out) hbD (SBox.lt (HR.out))); replace HBT := Lib.hid (bthen (HBT.out) hbD (Nat.le_refl _)); clear hbD; (try clear z2 z3 z4 z5 z6 z7 z8 z9 y0 y1 y2 y3 zf2 zf3 zf4 zf5 zf6 zf7 zf8 zf9); obtain ⟨_, _, z2, z3, z4, z5, z6, z7, z8, z9⟩ := HS.out.cells; obtain ⟨y0, y1, y2, y3⟩ := HB.out.cells; have zf2 := HS.out.free 2; have zf3 := HS.out.free 3; have zf4 := HS.out.free 4; have zf5 := HS.out.free 5; have zf6 := HS.out.free 6; have zf7 := HS.out.free 7; have zf8 := HS.out.free 8; have zf9 := HS.out.free 9; (try simp only [] at z2 z3 z4 z5 z6 z7 z8 z9 y0 y1 y2 y3)))
          clear z2 z3 z4 z5 z6 z7 z8 z9 y0 y1 y2 y3 zf2 zf3 zf4 zf5 zf6 zf7 zf8 zf9 HN1 HN2 HK1 HK2
          go_roundw
          case rel => exact ⟨k + 1, by omega, by go_num, (((((HR.out).other hne).other hne).other hne).other hne), by rw [HE.out]; exact HS.out.put3 ⟨ku, iu, bu, su⟩, below_put4 HBT.out (Nat.le_succ _) 6 7 8 9 _ _ _ _⟩
          case measure => simp [intOf]; omega
        | false =>
          by_cases h1 : r1 < 0
          · have h1' : decide (r1 < 0) = true := decide_eq_true h1
            by_cases h2 : 0 < r2
            · have h2' : decide (0 < r2) = true := decide_eq_true h2
              simp only [h1, h2, Bool.false_or, if_true, decide_true] at HE
              clear h1 h2
              go_wp2_with (first
                | (go_at_call_of 64 (Value.string sm); with_reducible refine (HN1.out _).mono ?_; rintro e wA ⟨rfl, hbA⟩; replace HS := Lib.hid (SBox.below (HS.out) hbA (SBox.lt (HS.out))); replace HB := Lib.hid (Box.below (HB.out) hbA); replace HR := Lib.hid (SBox.below (HR.out) hbA (SBox.lt (HR.out))); replace HBT := Lib.hid (bthen (HBT.out) hbA (Nat.le_refl _)); clear hbA; (try clear z2 z3 z4 z5 z6 z7 z8 z9 y0 y1 y2 y3 zf2 zf3 zf4 zf5 zf6 zf7 zf8 zf9); obtain ⟨_, _, z2, z3, z4, z5, z6, z7, z8, z9⟩ := HS.out.cells; obtain ⟨y0, y1, y2, y3⟩ := HB.out.cells; have zf2 := HS.out.free 2; have zf3 := HS.out.free 3; have zf4 := HS.out.free 4; have zf5 := HS.out.free 5; have zf6 := HS.out.free 6; have zf7 := HS.out.free 7; have zf8 := HS.out.free 8; have zf9 := HS.out.free 9; (try simp only [] at z2 z3 z4 z5 z6 z7 z8 z9 y0 y1 y2 y3))
                | (go_at_call_of 69 (Value.string sm); with_reducible refine (HK1.out _).mono ?_; rintro e wB ⟨rfl, hbB⟩; replace HS := Lib.hid (SBox.below (HS.out) hbB (SBox.lt (HS.out))); replace HB := Lib.hid (Box.below (HB.out) hbB); replace HR := Lib.hid (SBox.below (HR.out) hbB (SBox.lt (HR.out))); replace HBT := Lib.hid (bthen (HBT.out) hbB (Nat.le_refl _)); clear hbB; (try clear z2 z3 z4 z5 z6 z7 z8 z9 y0 y1 y2 y3 zf2 zf3 zf4 zf5 zf6 zf7 zf8 zf9); obtain ⟨_, _, z2, z3, z4, z5, z6, z7, z8, z9⟩ := HS.out.cells; obtain ⟨y0, y1, y2, y3⟩ := HB.out.cells; have zf2 := HS.out.free 2; have zf3 := HS.out.free 3; have zf4 := HS.out.free 4; have zf5 := HS.out.free 5; have zf6 := HS.out.free 6; have zf7 := HS.out.free 7; have zf8 := HS.out.free 8; have zf9 := HS.out.free 9; (try simp only [] at z2 z3 z4 z5 z6 z7 z8 z9 y0 y1 y2 y3))
                | (go_at_call_of 64 (Value.string sx); with_reducible refine (HN2.out _).mono ?_; rintro e wC ⟨rfl, hbC⟩; replace HS := Lib.hid (SBox.below (HS.out.put2 ⟨ku, iu, bu, su⟩) hbC (SBox.lt (HS.out.put2 ⟨ku, iu, bu, su⟩))); replace HB := Lib.hid (Box.below ((((((HB.out).other hneb).other hneb).other hneb).other hneb)) hbC); replace HR := Lib.hid (SBox.below ((((((HR.out).other hne).other hne).other hne).other hne)) hbC (SBox.lt ((((((HR.out).other hne).other hne).other hne).other hne)))); replace HBT := Lib.hid (bthen (below_put4 HBT.out (Nat.le_succ _) 2 3 4 5 _ _ _ _) hbC (Nat.le_refl _)); clear hbC; (try clear z2 z3 z4 z5 z6 z7 z8 z9 y0 y1 y2 y3 zf2 zf3 zf4 zf5 zf6 zf7 zf8 zf9); obtain ⟨_, _, z2, z3, z4, z5, z6, z7, z8, z9⟩ := HS.out.cells; obtain ⟨y0, y1, y2, y3⟩ := HB.out.cells; have zf2 := HS.out.free 2; have zf3 := HS.out.free 3; have zf4 := HS.out.free 4; have zf5 := HS.out.free 5; have zf6 := HS.out.free 6; have zf7 := HS.out.free 7; have zf8 := HS.out.free 8; have zf9 := HS.out.free 9; (try simp only [] at z2 z3 z4 z5 z6 z7 z8 z9 y0 y1 y2 y3))
                | (go_at_call_of 69 (Value.string sx); with_reducible refine (HK2.out _).mono ?_; rintro e wD ⟨rfl, hbD⟩; replace HS := Lib.hid (SBox.below (HS.out) hbD (SBox.lt (HS.out))); replace HB := Lib.hid (Box.below (HB.out) hbD); replace HR := Lib.hid (SBox.below (HR.out) hbD (SBox.lt (HR.out))); replace HBT := Lib.hid (bthen (HBT.out) hbD (Nat.le_refl _)); clear hbD; (try clear z2 z3 z4 z5 z6 z7 z8 z9 y0 y1 y2 y3 zf2 zf3 zf4 zf5 zf6 zf7 zf8 zf9); obtain ⟨_, _, z2, z3, z4, z5, z6, z7, z8, z9⟩ := HS.out.cells; obtain ⟨y0, y1, y2, y3⟩ := HB.out.cells; have zf2 := HS.out.free 2; have zf3 := HS.out.free 3; have zf4 := HS.out.free 4; have zf5 := HS.out.free 5; have zf6 := HS.out.free 6; have zf7 := HS.out.free 7; have zf8 := HS.out.free 8; have zf9 := HS.out.free 9; (try simp only [] at z2 z3 z4 z5 z6 z7 z8 z9 y0 y1 y2 y3)))
              clear z2 z3 z4 z5 z6 z7 z8 z9 y0 y1 y2 y3 zf2 zf3 zf4 zf5 zf6 zf7 zf8 zf9 HN1 HN2 HK1 HK2
              go_roundw
              case rel => exact ⟨k + 1, by omega, by go_num, (((((HR.out).other hne).other hne).other hne).other hne), by rw [HE.out]; exact HS.out.put3 ⟨ku, iu, bu, su⟩, below_put4 HBT.out (Nat.le_succ _) 6 7 8 9 _ _ _ _⟩
              case measure => simp [intOf]; omega
            · have h2' : decide (0 < r2) = false := decide_eq_false h2
              simp only [h1, h2, Bool.false_or, if_true, if_false, Bool.false_eq_true, decide_true, decide_false] at HE
              clear h1 h2
              go_wp2_with (first
                | (go_at_call_of 64 (Value.string sm); with_reducible refine (HN1.out _).mono ?_; rintro e wA ⟨rfl, hbA⟩; replace HS := Lib.hid (SBox.below (HS.out) hbA (SBox.lt (HS.out))); replace HB := Lib.hid (Box.below (HB.out) hbA); replace HR := Lib.hid (SBox.below (HR.out) hbA (SBox.lt (HR.out))); replace HBT := Lib.hid (bthen (HBT.out) hbA (Nat.le_refl _)); clear hbA; (try clear z2 z3 z4 z5 z6 z7 z8 z9 y0 y1 y2 y3 zf2 zf3 zf4 zf5 zf6 zf7 zf8 zf9); obtain ⟨_, _, z2, z3, z4, z5, z6, z7, z8, z9⟩ := HS.out.cells; obtain ⟨y0, y1, y2, y3⟩ := HB.out.cells; have zf2 := HS.out.free 2; have zf3 := HS.out.free 3; have zf4 := HS.out.free 4; have zf5 := HS.out.free 5; have zf6 := HS.out.free 6; have zf7 := HS.out.free 7; have zf8 := HS.out.free 8; have zf9 := HS.out.free 9; (try simp only [] at z2 z3 z4 z5 z6 z7 z8 z9 y0 y1 y2 y3))
                | (go_at_call_of 69 (Value.string sm); with_reducible refine (HK1.out _).mono ?_; rintro e wB ⟨rfl, hbB⟩; replace HS := Lib.hid (SBox.below (HS.out) hbB (SBox.lt (HS.out))); replace HB := Lib.hid (Box.below (HB.out) hbB); replace HR := Lib.hid (SBox.below (HR.out) hbB (SBox.lt (HR.out))); replace HBT := Lib.hid (bthen (HBT.out) hbB (Nat.le_refl _)); clear hbB; (try clear z2 z3 z4 z5 z6 z7 z8 z9 y0 y1 y2 y3 zf2 zf3 zf4 zf5 zf6 zf7 zf8 zf9); obtain ⟨_, _, z2, z3, z4, z5, z6, z7, z8, z9⟩ := HS.out.cells; obtain ⟨y0, y1, y2, y3⟩ := HB.out.cells; have zf2 := HS.out.free 2; have zf3 := HS.out.free 3; have zf4 := HS.out.free 4; have zf5 := HS.out.free 5; have zf6 := HS.out.free 6; have zf7 := HS.out.free 7; have zf8 := HS.out.free 8; have zf9 := HS.out.free 9; (try simp only [] at z2 z3 z4 z5 z6 z7 z8 z9 y0 y1 y2 y3))
                | (go_at_call_of 64 (Value.string sx); with_reducible refine (HN2.out _).mono ?_; rintro e wC ⟨rfl, hbC⟩; replace HS := Lib.hid (SBox.below (HS.out.put2 ⟨ku, iu, bu, su⟩) hbC (SBox.lt (HS.out.put2 ⟨ku, iu, bu, su⟩))); replace HB := Lib.hid (Box.below ((((((HB.out).other hneb).other hneb).other hneb).other hneb)) hbC); replace HR := Lib.hid (SBox.below ((((((HR.out).other hne).other hne).other hne).other hne)) hbC (SBox.lt ((((((HR.out).other hne).other hne).other hne).other hne)))); replace HBT := Lib.hid (bthen (below_put4 HBT.out (Nat.le_succ _) 2 3 4 5 _ _ _ _) hbC (Nat.le_refl _)); clear hbC; (try clear z2 z3 z4 z5 z6 z7 z8 z9 y0 y1 y2 y3 zf2 zf3 zf4 zf5 zf6 zf7 zf8 zf9); obtain ⟨_, _, z2, z3, z4, z5, z6, z7, z8, z9⟩ := HS.out.cells; obtain ⟨y0, y1, y2, y3⟩ := HB.out.cells; have zf2 := HS.out.free 2; have zf3 := HS.out.free 3; have zf4 := HS.out.free 4; have zf5 := HS.out.free 5; have zf6 := HS.out.free 6; have zf7 := HS.out.free 7; have zf8 := HS.out.free 8; have zf9 := HS.out.free 9; (try simp only [] at z2 z3 z4 z5 z6 z7 z8 z9 y0 y1 y2 y3))
                | (go_at_call_of 69 (Value.string sx); with_reducible refine (HK2.out _).mono ?_; rintro e wD ⟨rfl, hbD⟩; replace HS := Lib.hid (SBox.below (HS.out) hbD (SBox.lt (HS.out))); replace HB := Lib.hid (Box.below (HB.out) hbD); replace HR := Lib.hid (SBox.below (HR.out) hbD (SBox.lt (HR.out))); replace HBT := Lib.hid (bthen (HBT.out) hbD (Nat.le_refl _)); clear hbD; (try clear z2 z3 z4 z5 z6 z7 z8 z9 y0 y1 y2 y3 zf2 zf3 zf4 zf5 zf6 zf7 zf8 zf9); obtain ⟨_, _, z2, z3, z4, z5, z6, z7, z8, z9⟩ := HS.out.cells; obtain ⟨y0, y1, y2, y3⟩ := HB.out.cells; have zf2 := HS.out.free 2; have zf3 := HS.out.free 3; have zf4 := HS.out.free 4; have zf5 := HS.out.free 5; have zf6 := HS.out.free 6; have zf7 := HS.out.free 7; have zf8 := HS.out.free 8; have zf9 := HS.out.free 9; (try simp only [] at z2 z3 z4 z5 z6 z7 z8 z9 y0 y1 y2 y3)))
              clear z2 z3 z4 z5 z6 z7 z8 z9 y0 y1 y2 y3 zf2 zf3 zf4 zf5 zf6 zf7 zf8 zf9 HN1 HN2 HK1 HK2
              go_roundw
              case rel => exact ⟨k + 1, by omega, by go_num, HR.out, by rw [HE.out]; exact HS.out, HBT.out⟩
              case measure => simp [intOf]; omega
          · have h1' : decide (r1 < 0) = false := decide_eq_false h1
            by_cases h2 : 0 < r2
            · have h2' : decide (0 < r2) = true := decide_eq_true h2
              simp only [h1, h2, Bool.false_or, if_true, if_false, Bool.false_eq_true, decide_true, decide_false] at HE
              clear h1 h2
              go_wp2_with (first
                | (go_at_call_of 64 (Value.string sm); with_reducible refine (HN1.out _).mono ?_; rintro e wA ⟨rfl, hbA⟩; replace HS := Lib.hid (SBox.below (HS.out) hbA (SBox.lt (HS.out))); replace HB := Lib.hid (Box.below (HB.out) hbA); replace HR := Lib.hid (SBox.below (HR.out) hbA (SBox.lt (HR.out))); replace HBT := Lib.hid (bthen (HBT.out) hbA (Nat.le_refl _)); clear hbA; (try clear z2 z3 z4 z5 z6 z7 z8 z9 y0 y1 y2 y3 zf2 zf3 zf4 zf5 zf6 zf7 zf8 zf9); obtain ⟨_, _, z2, z3, z4, z5, z6, z7, z8, z9⟩ := HS.out.cells; obtain ⟨y0, y1, y2, y3⟩ := HB.out.cells; have zf2 := HS.out.free 2; have zf3 := HS.out.free 3; have zf4 := HS.out.free 4; have zf5 := HS.out.free 5; have zf6 := HS.out.free 6; have zf7 := HS.out.free 7; have zf8 := HS.out.free 8; have zf9 := HS.out.free 9; (try simp only [] at z2 z3 z4 z5 z6 z7 z8 z9 y0 y1 y2 y3))
                | (go_at_call_of 69 (Value.string sm); with_reducible refine (HK1.out _).mono ?_; rintro e wB ⟨rfl, hbB⟩; replace HS := Lib.hid (SBox.below (HS.out) hbB (SBox.lt (HS.out))); replace HB := Lib.hid (Box.below (HB.out) hbB); replace HR := Lib.hid (SBox.below (HR.out) hbB (SBox.lt (HR.out))); replace HBT := Lib.hid (bthen (HBT.out) hbB (Nat.le_refl _)); clear hbB; (try clear z2 z3 z4 z5 z6 z7 z8 z9 y0 y1 y2 y3 zf2 zf3 zf4 zf5 zf6 zf7 zf8 zf9); obtain ⟨_, _, z2, z3, z4, z5, z6, z7, z8, z9⟩ := HS.out.cells; obtain ⟨y0, y1, y2, y3⟩ := HB.out.cells; have zf2 := HS.out.free 2; have zf3 := HS.out.free 3; have zf4 := HS.out.free 4; have zf5 := HS.out.free 5; have zf6 := HS.out.free 6; have zf7 := HS.out.free 7; have zf8 := HS.out.free 8; have zf9 := HS.out.free 9; (try simp only [] at z2 z3 z4 z5 z6 z7 z8 z9 y0 y1 y2 y3))
                | (go_at_call_of 64 (Value.string sx); with_reducible refine (HN2.out _).mono ?_; rintro e wC ⟨rfl, hbC⟩; replace HS := Lib.hid (SBox.below (HS.out) hbC (SBox.lt (HS.out))); replace HB := Lib.hid (Box.below (HB.out) hbC); replace HR := Lib.hid (SBox.below (HR.out) hbC (SBox.lt (HR.out))); replace HBT := Lib.hid (bthen (HBT.out) hbC (Nat.le_refl _)); clear hbC; (try clear z2 z3 z4 z5 z6 z7 z8 z9 y0 y1 y2 y3 zf2 zf3 zf4 zf5 zf6 zf7 zf8 zf9); obtain ⟨_, _, z2, z3, z4, z5, z6, z7, z8, z9⟩ := HS.out.cells; obtain ⟨y0, y1, y2, y3⟩ := HB.out.cells; have zf2 := HS.out.free 2; have zf3 := HS.out.free 3; have zf4 := HS.out.free 4; have zf5 := HS.out.free 5; have zf6 := HS.out.free 6; have zf7 := HS.out.free 7; have zf8 := HS.out.free 8; have zf9 := HS.out.free 9; (try simp only [] at z2 z3 z4 z5 z6 z7 z8 z9 y0 y1 y2 y3))
                | (go_at_call_of 69 (Value.string sx); with_reducible refine (HK2.out _).mono ?_; rintro e wD ⟨rfl, hbD⟩; replace HS := Lib.hid (SBox.below (HS.out) hbD (SBox.lt (HS.out))); replace HB := Lib.hid (Box.below (HB.out) hbD); replace HR := Lib.hid (SBox.below (HR.out) hbD (SBox.lt (HR.out))); replace HBT := Lib.hid (bthen (HBT.out) hbD (Nat.le_refl _)); clear hbD; (try clear z2 z3 z4 z5 z6 z7 z8 z9 y0 y1 y2 y3 zf2 zf3 zf4 zf5 zf6 zf7 zf8 zf9); obtain ⟨_, _, z2, z3, z4, z5, z6, z7, z8, z9⟩ := HS.out.cells; obtain ⟨y0, y1, y2, y3⟩ := HB.out.cells; have zf2 := HS.out.free 2; have zf3 := HS.out.free 3; have zf4 := HS.out.free 4; have zf5 := HS.out.free 5; have zf6 := HS.out.free 6; have zf7 := HS.out.free 7; have zf8 := HS.out.free 8; have zf9 := HS.out.free 9; (try simp only [] at z2 z3 z4 z5 z6 z7 z8 z9 y0 y1 y2 y3)))
              clear z2 z3 z4 z5 z6 z7 z8 z9 y0 y1 y2 y3 zf2 zf3 zf4 zf5 zf6 zf7 zf8 zf9 HN1 HN2 HK1 HK2
              go_roundw
              case rel => exact ⟨k + 1, by omega, by go_num, (((((HR.out).other hne).other hne).other hne).other hne), by rw [HE.out]; exact HS.out.put3 ⟨ku, iu, bu, su⟩, below_put4 HBT.out (Nat.le_succ _) 6 7 8 9 _ _ _ _⟩
              case measure => simp [intOf]; omega
            · have h2' : decide (0 < r2) = false := decide_eq_false h2
              simp only [h1, h2, Bool.false_or, if_false, Bool.false_eq_true, decide_false] at HE
              clear h1 h2
              go_wp2_with (first
                | (go_at_call_of 64 (Value.string sm); with_reducible refine (HN1.out _).mono ?_; rintro e wA ⟨rfl, hbA⟩; replace HS := Lib.hid (SBox.below (HS.out) hbA (SBox.lt (HS.out))); replace HB := Lib.hid (Box.below (HB.out) hbA); replace HR := Lib.hid (SBox.below (HR.out) hbA (SBox.lt (HR.out))); replace HBT := Lib.hid (bthen (HBT.out) hbA (Nat.le_refl _)); clear hbA; (try clear z2 z3 z4 z5 z6 z7 z8 z9 y0 y1 y2 y3 zf2 zf3 zf4 zf5 zf6 zf7 zf8 zf9); obtain ⟨_, _, z2, z3, z4, z5, z6, z7, z8, z9⟩ := HS.out.cells; obtain ⟨y0, y1, y2, y3⟩ := HB.out.cells; have zf2 := HS.out.free 2; have zf3 := HS.out.free 3; have zf4 := HS.out.free 4; have zf5 := HS.out.free 5; have zf6 := HS.out.free 6; have zf7 := HS.out.free 7; have zf8 := HS.out.free 8; have zf9 := HS.out.free 9; (try simp only [] at z2 z3 z4 z5 z6 z7 z8 z9 y0 y1 y2 y3))
                | (go_at_call_of 69 (Value.string sm); with_reducible refine (HK1.out _).mono ?_; rintro e wB ⟨rfl, hbB⟩; replace HS := Lib.hid (SBox.below (HS.out) hbB (SBox.lt (HS.out))); replace HB := Lib.hid (Box.below (HB.out) hbB); replace HR := Lib.hid (SBox.below (HR.out) hbB (SBox.lt (HR.out))); replace HBT := Lib.hid (bthen (HBT.out) hbB (Nat.le_refl _)); clear hbB; (try clear z2 z3 z4 z5 z6 z7 z8 z9 y0 y1 y2 y3 zf2 zf3 zf4 zf5 zf6 zf7 zf8 zf9); obtain ⟨_, _, z2, z3, z4, z5, z6, z7, z8, z9⟩ := HS.out.cells; obtain ⟨y0, y1, y2, y3⟩ := HB.out.cells; have zf2 := HS.out.free 2; have zf3 := HS.out.free 3; have zf4 := HS.out.free 4; have zf5 := HS.out.free 5; have zf6 := HS.out.free 6; have zf7 := HS.out.free 7; have zf8 := HS.out.free 8; have zf9 := HS.out.free 9; (try simp only [] at z2 z3 z4 z5 z6 z7 z8 z9 y0 y1 y2 y3))
                | (go_at_call_of 64 (Value.string sx); with_reducible refine (HN2.out _).mono ?_; rintro e wC ⟨rfl, hbC⟩; replace HS := Lib.hid (SBox.below (HS.out) hbC (SBox.lt (HS.out))); replace HB := Lib.hid (Box.below (HB.out) hbC); replace HR := Lib.hid (SBox.below (HR.out) hbC (SBox.lt (HR.out))); replace HBT := Lib.hid (bthen (HBT.out) hbC (Nat.le_refl _)); clear hbC; (try clear z2 z3 z4 z5 z6 z7 z8 z9 y0 y1 y2 y3 zf2 zf3 zf4 zf5 zf6 zf7 zf8 zf9); obtain ⟨_, _, z2, z3, z4, z5, z6, z7, z8, z9⟩ := HS.out.cells; obtain ⟨y0, y1, y2, y3⟩ := HB.out.cells; have zf2 := HS.out.free 2; have zf3 := HS.out.free 3; have zf4 := HS.out.free 4; have zf5 := HS.out.free 5; have zf6 := HS.out.free 6; have zf7 := HS.out.free 7; have zf8 := HS.out.free 8; have zf9 := HS.out.free 9; (try simp only [] at z2 z3 z4 z5 z6 z7 z8 z9 y0 y1 y2 y3))
                | (go_at_call_of 69 (Value.string sx); with_reducible refine (HK2.out _).mono ?_; rintro e wD ⟨rfl, hbD⟩; replace HS := Lib.hid (SBox.below (HS.out) hbD (SBox.lt (HS.out))); replace HB := Lib.hid (Box.below (HB.out) hbD); replace HR := Lib.hid (SBox.below (HR.out) hbD (SBox.lt (HR.out))); replace HBT := Lib.hid (bthen (HBT.out) hbD (Nat.le_refl _)); clear hbD; (try clear z2 z3 z4 z5 z6 z7 z8 z9 y0 y1 y2 y3 zf2 zf3 zf4 zf5 zf6 zf7 zf8 zf9); obtain ⟨_, _, z2, z3, z4, z5, z6, z7, z8, z9⟩ := HS.out.cells; obtain ⟨y0, y1, y2, y3⟩ := HB.out.cells; have zf2 := HS.out.free 2; have zf3 := HS.out.free 3; have zf4 := HS.out.free 4; have zf5 := HS.out.free 5; have zf6 := HS.out.free 6; have zf7 := HS.out.free 7; have zf8 := HS.out.free 8; have zf9 := HS.out.free 9; (try simp only [] at z2 z3 z4 z5 z6 z7 z8 z9 y0 y1 y2 y3)))
              clear z2 z3 z4 z5 z6 z7 z8 z9 y0 y1 y2 y3 zf2 zf3 zf4 zf5 zf6 zf7 zf8 zf9 HN1 HN2 HK1 HK2
              go_roundw
              case rel => exact ⟨k + 1, by omega, by go_num, HR.out, by rw [HE.out]; exact HS.out, HBT.out⟩
              case measure => simp [intOf]; omega
    · obtain rfl : n = k := by omega
      have htk : vs.take n = vs := List.take_of_length_le (by rw [hv.1]; exact Nat.le_refl _)
      rw [htk] at hS
      obtain ⟨z0, z1, z2, z3, z4, z5, z6, z7, z8, z9⟩ := hS.cells
      obtain ⟨y0, y1, y2, y3, y4, y5, y6, y7, y8, y9⟩ := hS0.cells
      have yf0 := hS0.free 0; have yf1 := hS0.free 1; have yf2 := hS0.free 2; have yf3 := hS0.free 3; have yf4 := hS0.free 4
      have yf5 := hS0.free 5; have yf6 := hS0.free 6; have yf7 := hS0.free 7; have yf8 := hS0.free 8; have yf9 := hS0.free 9
      have HS0 := Lib.hid hS0; clear hS0 hS hv htk
      go_wp2
      exact ret_sbox (HS0.out.put c _ _ _) rfl rfl rfl ⟨rfl, below_put10 hb (Nat.le_refl _) _ _ _ _ _ _ _ _ _ _⟩
end Go.Proofs.YtgmemdedpklnhaaGreat.Stats

/-
  THE WALK of boathouseref7.FileMay.
-/


namespace Go.Proofs.YtgmemdedpklnhaaGreat.File
open Go.RowKit ValMath Vals Sl VecMath Vec Dat

theorem colOk_ref {d : Dat} {q : Nat} {c : Colm} {vs : List Val} (hc : d.cols[q]? = some c) (hv : d.vals[q]? = some vs) (hh : headOk d) :
    colOk d q ↔ 0 < c.id ∧ (0 < q → (d.cols.getD (q - 1) noCol).id < c.id) ∧ c.name = ByteArray.empty ∧ (vs.length : Int) = d.rows ∧ mayErr c.kind vs = 0 := by
  unfold colOk
  rw [getD_at hc, getD_at hv]
  have h1 := hh.2.1
  constructor
  · rintro ⟨a, b, c1, ⟨k1, k2⟩, e, f⟩
    exact ⟨a, b, c1, e, mayErr_all (by omega) (by omega) (fun v hv => List.all_eq_true.1 f v hv)⟩
  · rintro ⟨a, b, c1, e, f⟩
    obtain ⟨f1, _, f3⟩ := mayErr_zero f
    exact ⟨a, b, c1, by omega, e, List.all_eq_true.2 f3⟩
set_option maxRecDepth 20000 in
set_option maxHeartbeats 4000000 in
theorem fileMay_any (d : Dat) (AC AV : Option Addr) (nC cC nV cV : Nat) (rs : List RowA) (w : World) (h : DIn w d AC nC AV nV rs) :
    Calls Tryz.prog 10 #[dagg d.rows AC nC cC AV nV cV] w fun e w' => e = .returned (.bool (decide (mayFile d))) ∧ Below w.heap.size w w' := by
  obtain ⟨l1, l2⟩ := h.lens
  have hn1 := h.nc
  have hn2 := h.nv
  obtain ⟨R, hR⟩ : ∃ R, R = d.rows := ⟨_, rfl⟩
  rw [← hR]
  have HR := Lib.hid hR; clear hR
  have hD : DBox (w.alloc (.cells #[.int .i64 R, .slice AC nC cC, .slice AV nV cV] 25)) w.heap.size R (.slice AC nC cC) (.slice AV nV cV) := DBox.new w _ _ _
  have hbt := Vals.one_new (w := w) (.cells #[.int .i64 R, .slice AC nC cC, .slice AV nV cV] 25)
  have h0 := h.below hbt
  obtain ⟨x0, x1, x2⟩ := hD.cells
  have HD := Lib.hid hD; clear hD
  have HB := Lib.hid hbt; clear hbt
  have H := Lib.hid h0; clear h0 h
  by_cases hh : headOk d
  · have HH := Lib.hid hh
    obtain ⟨a1, a2, a3, a4, a5⟩ := hh
    rw [l1] at a3 a4
    have a5' : nV = nC := by omega
    subst a5'
    clear a5 l2
    have HL := Lib.hid l1; clear l1
    rw [← HR.out] at a1 a2
    go_enter Tryz.func10, Tryz.ntmps10
    go_wp2
    generalize hW0 : w.alloc (.cells #[.int .i64 R, .slice AC nV cC, .slice AV nV cV] 25) = W0 at *
    have hxl := HD.out.lt
    clear hW0
    go_loopw [3] (fun iv wr => ∃ q : Nat, q ≤ nV ∧ iv = .int .i64 q ∧ (∀ i, i < q → colOk d i) ∧ Below W0.heap.size W0 wr) (fun iv _ => nV - (intOf iv).toNat)
    case atStart => exact ⟨0, Nat.zero_le _, rfl, fun i hi => absurd hi (Nat.not_lt_zero _), Below.refl _ _⟩
    case round =>
      clear x0 x1 x2
      obtain ⟨q, hq, rfl, hal, hb⟩ := hrel
      have hDr := HD.out.below hb
      obtain ⟨x0, x1, x2⟩ := hDr.cells
      by_cases hlt : q < nV
      · have hI := H.out.below hb
        obtain ⟨b1, o1, c, hc, hA1, hb1, y0, y1, y2⟩ := CSl.at_ hI.cols hlt
        obtain ⟨b2, o2, r, hr, hA2, hb2, z0⟩ := RSl.at_ hI.vals hlt
        have hmem := List.mem_of_getElem? hr
        have hV := hI.rows r hmem
        have hrn := hI.nr r hmem
        have hfv := hI.fv r hmem
        have hrl := hV.1
        have hiff := colOk_ref hc (hI.row hr) HH.out
        have hnot := fun h => may_not (d := d) (q := q) (by rw [HL.out]; exact hlt) h
        have hprev : ∀ p, q = p + 1 → ∃ pc : Colm, d.cols[p]? = some pc ∧ (d.cols.getD (q - 1) noCol) = pc ∧ wr.cell? ⟨b1, o1 + p * 3, none⟩ = some (.int .i64 pc.id) := fun p hp => by
          obtain ⟨b1', o1', pc, hpc, hA1', _, p0, _, _⟩ := CSl.at_ hI.cols (k := p) (by omega)
          rw [hA1] at hA1'
          injection hA1' with hA1'; injection hA1' with e1 e2
          subst e1; subst e2
          exact ⟨pc, hpc, by rw [hp, Nat.add_sub_cancel, getD_at hpc], p0⟩
        obtain ⟨id, nm, kd⟩ := c
        obtain ⟨rA, rn, rc, rvs⟩ := r
        simp only [] at hV hrn z0 y0 y1 y2 hfv hrl hiff
        have hVR := fun w h => refVec_any kd rA rn rc rvs w h hfv
        generalize mayErr kd rvs = ER at *
        generalize encOf kd rvs = EN at *
        generalize str (put kd rvs) = PS at *
        rw [← HR.out] at hiff
        have HVR := Lib.hid hVR; clear hVR
        have HRL := Lib.hid (show (rvs.length : Int) = (rn : Int) by rw [hrl]); clear hrl
        have HI := Lib.hid (And.intro hal (And.intro hiff hnot)); clear hal hiff hnot
        have HPV := Lib.hid hprev; clear hprev
        have hon := Vals.one_new (w := wr) (.cells #[.int .i64 id, .string nm, .int .i64 kd] 63)
        have hcb : CBox (wr.alloc (.cells #[.int .i64 id, .string nm, .int .i64 kd] 63)) wr.heap.size ⟨id, nm, kd⟩ := CBox.new wr ⟨id, nm, kd⟩
        have hD1 := hDr.below hon
        have hV1 := hV.below hon
        have hb1' := bthen hb hon (Nat.le_refl _)
        have hz1 := hon.cell (p := ⟨b2, o2 + q, none⟩) hb2
        rw [z0] at hz1
        subst hA1; subst hA2
        clear hfv hc hr hmem hI
        go_upto_region 7 with fail
        have hpk : ∀ p : Nat, (wr.alloc (.cells #[.int .i64 id, .string nm, .int .i64 kd] 63)).cell? ⟨b1, o1 + p * 3, none⟩ = wr.cell? ⟨b1, o1 + p * 3, none⟩ := fun p => hon.cell (p := ⟨b1, o1 + p * 3, none⟩) hb1
        have HPK := Lib.hid hpk; clear hpk
        generalize hW1 : wr.alloc (.cells #[.int .i64 id, .string nm, .int .i64 kd] 63) = W1 at *
        have hb2w : b2 < W1.heap.size := Nat.lt_of_lt_of_le hb2 hon.size
        generalize wr.heap.size = g9 at *
        have HCB := Lib.hid hcb
        have HDB1 := Lib.hid hD1
        have HV := Lib.hid hV1; clear hV1
        have HB1 := Lib.hid hb1'; clear hb1'
        have HZ1 := Lib.hid hz1
        obtain ⟨u0, u1, u2⟩ := hcb.cells
        obtain ⟨v0, v1, v2⟩ := hD1.cells
        simp only [] at u0 u1 u2
        clear hW1 hcb hD1 hV hDr x0 x1 x2 y0 y1 y2 z0 hb hon
        have hi1 : (0 : Int) ≤ (q : Int) := by omega
        have hi2 : (q : Int) < (nV : Int) := by omega
        by_cases e1 : id < 1
        · have hf := HI.out.2.2 (fun e => by have := (HI.out.2.1.1 e).1; omega)
          have hd1 : decide (id < 1) = true := decide_eq_true e1
          have HF := Lib.hid hf; clear hf
          go_quiet (fail)
          go_wp2
          go_ret
          exact ⟨by rw [HF.out]; rfl, below_drewN (bthen HB.out HB1.out (Nat.le_refl _)) _⟩
        have e1' : 0 < id := by omega
        have hd1 : decide (id < 1) = false := decide_eq_false e1
        clear e1
        by_cases hq0 : q = 0
        · have hd2 : decide ((0 : Int) < (q : Int)) = false := decide_eq_false (by omega)
          have hd5 : decide (0 < q) = false := decide_eq_false (by omega)
          have HPR := Lib.hid (show 0 < q → (d.cols.getD (q - 1) noCol).id < id from fun h => absurd h (by omega))
          have HQ0 := Lib.hid hq0; clear hq0
          by_cases e2 : nm = ByteArray.empty
          · have e2' : nm.toList.isEmpty = true := by rw [e2, Lib.toList_data]; rfl
            have HE2 := Lib.hid e2; clear e2
            by_cases e4 : (rn : Int) = R
            · have e4' : ((rn : Int) != R) = false := by simp [e4]
              go_quiet (fail)
              go_wp2_with fail
              clear v0 v1 v2 u0 u1 u2 hz1
              have hX1 := HDB1.out.drewN nq
              have hC1 := HCB.out.drewN nq
              have hV1 := HV.out.drewN nq
              have hB1 := below_drewN HB1.out nq
              have hz1 := HZ1.out
              have hz2 : (W1.drewN nq).cell? ⟨b2, o2 + q, none⟩ = some (.slice rA rn rc) := hz1
              have hb2d : b2 < (W1.drewN nq).heap.size := hb2w
              clear hz1 HDB1 HCB HV HB1 HZ1
              generalize W1.drewN nq = W2 at *
              have HX2 := Lib.hid hX1; clear hX1
              have HC2 := Lib.hid hC1; clear hC1
              have HV2 := Lib.hid (vsl_drew hV1); clear hV1
              have HB2 := Lib.hid hB1; clear hB1
              obtain ⟨_, _, v2⟩ := HX2.out.cells
              obtain ⟨_, _, u2⟩ := HC2.out.cells
              simp only [] at u2
              have hS : ∀ wT, Below W2.heap.size W2 wT → (wT.cell? ⟨g9, 2, none⟩ = some (.int .i64 kd) ∧ wT.cell? ⟨w.heap.size, 2, none⟩ = some (.slice (some ⟨b2, o2, none⟩) nV cV) ∧ wT.cell? ⟨b2, o2 + q, none⟩ = some (.slice rA rn rc)) :=
                fun wT h => ⟨(CBox.below HC2.out h).cells.2.2, (HX2.out.below h).cells.2.2, (h.cell (p := ⟨b2, o2 + q, none⟩) hb2d).trans hz2⟩
              have HSS := Lib.hid hS; clear hS
              have hq1 := Below.refl W2.heap.size W2
              go_region_held3 (fun w' => w'.cell? ⟨g9, 2, none⟩ = some (.int .i64 kd) ∧ w'.cell? ⟨w.heap.size, 2, none⟩ = some (.slice (some ⟨b2, o2, none⟩) nV cV) ∧ w'.cell? ⟨b2, o2 + q, none⟩ = some (.slice rA rn rc))
                (first | go_keep | exact HSS.out _ hq1)
                ((first
                  | (go_at_call 33; (with_reducible refine (HVR.out _ HV2.out).mono ?_); rintro e wp ⟨rfl, hbp⟩; have hq1 : Below W2.heap.size W2 wp := bthen (Below.refl _ W2).drew hbp (Nat.le_refl _))))
              clear u2 v2 hz2
              by_cases e5 : ER = 0
              · have hok : colOk d q := HI.out.2.1.2 ⟨e1', HPR.out, HE2.out, by rw [HRL.out]; exact e4, e5⟩
                have hal2 : ∀ i, i < q + 1 → colOk d i := fun i hi => by
                  rcases Nat.lt_or_ge i q with h | h
                  · exact HI.out.1 i h
                  · obtain rfl : i = q := by omega
                    exact hok
                have HA2 := Lib.hid hal2; clear hal2 hok
                subst e5
                go_wp2
                go_roundw
                case rel => exact ⟨q + 1, by omega, by go_num, HA2.out, bthen HB2.out hq1 (Nat.le_refl _)⟩
                case measure => simp [intOf]; omega
              · have hf := HI.out.2.2 (fun e => e5 (HI.out.2.1.1 e).2.2.2.2)
                have hne : (((ER : Nat) : Int) != 0) = true := by simp; omega
                have HF := Lib.hid hf; clear hf e5
                go_wp2
                go_ret
                exact ⟨by rw [HF.out]; rfl, bthen (bthen HB.out HB2.out (Nat.le_refl _)) hq1 (Nat.le_refl _)⟩
            · have hf := HI.out.2.2 (fun e => e4 (by rw [← HRL.out]; exact (HI.out.2.1.1 e).2.2.2.1))
              have e4' : ((rn : Int) != R) = true := by simpa using e4
              clear e4
              have HF := Lib.hid hf; clear hf
              go_quiet (fail)
              go_wp2
              go_ret
              exact ⟨by rw [HF.out]; rfl, below_drewN (bthen HB.out HB1.out (Nat.le_refl _)) _⟩
          · have hf := HI.out.2.2 (fun e => e2 (HI.out.2.1.1 e).2.2.1)
            have e2' : nm.toList.isEmpty = false := by
              cases hh : nm.toList.isEmpty with
              | false => rfl
              | true => exact absurd (str_none hh) e2
            have e2'' : (!nm.toList.isEmpty) = true := by rw [e2']; rfl
            clear e2
            have HF := Lib.hid hf; clear hf
            go_quiet (fail)
            go_wp2
            go_ret
            exact ⟨by rw [HF.out]; rfl, below_drewN (bthen HB.out HB1.out (Nat.le_refl _)) _⟩
        · obtain ⟨p, hqp⟩ : ∃ p, q = p + 1 := ⟨q - 1, by omega⟩
          obtain ⟨pc, hpc, hpe, hpw⟩ := HPV.out p hqp
          rw [← HPK.out p] at hpw
          obtain ⟨pid, pnm, pkd⟩ := pc
          simp only [] at hpw
          have hd2 : decide ((0 : Int) < (q : Int)) = true := decide_eq_true (by omega)
          have hd5 : decide (0 < q) = true := decide_eq_true (by omega)
          have hd6 : 0 < q := by omega
          have hw59 : IntKind.i64.wrap ((q : Int) - 1) = (p : Int) := by rw [IntKind.wrap_i64]; omega
          have hi3 : (0 : Int) ≤ (p : Int) := by omega
          have hi4 : (p : Int) < (nV : Int) := by omega
          have HPE := Lib.hid hpe; clear hpe
          have HQP := Lib.hid hqp; clear hqp hpc hq0
          by_cases e3 : id ≤ pid
          · have hf := HI.out.2.2 (fun e => by
              have h1 := (HI.out.2.1.1 e).2.1 (by have := HQP.out; omega)
              rw [HPE.out] at h1; simp only [] at h1; omega)
            have hd4 : decide (id ≤ pid) = true := decide_eq_true e3
            have HF := Lib.hid hf; clear hf
            go_quiet (fail)
            go_wp2
            go_ret
            exact ⟨by rw [HF.out]; rfl, below_drewN (bthen HB.out HB1.out (Nat.le_refl _)) _⟩
          · have hd4 : decide (id ≤ pid) = false := decide_eq_false e3
            have HPR := Lib.hid (show 0 < q → (d.cols.getD (q - 1) noCol).id < id from fun _ => by rw [HPE.out]; show pid < id; omega)
            clear e3
            by_cases e2 : nm = ByteArray.empty
            · have e2' : nm.toList.isEmpty = true := by rw [e2, Lib.toList_data]; rfl
              have HE2 := Lib.hid e2; clear e2
              by_cases e4 : (rn : Int) = R
              · have e4' : ((rn : Int) != R) = false := by simp [e4]
                go_quiet (fail)
                go_wp2_with fail
                clear v0 v1 v2 u0 u1 u2 hz1
                have hX1 := HDB1.out.drewN nq
                have hC1 := HCB.out.drewN nq
                have hV1 := HV.out.drewN nq
                have hB1 := below_drewN HB1.out nq
                have hz1 := HZ1.out
                have hz2 : (W1.drewN nq).cell? ⟨b2, o2 + q, none⟩ = some (.slice rA rn rc) := hz1
                have hb2d : b2 < (W1.drewN nq).heap.size := hb2w
                clear hz1 HDB1 HCB HV HB1 HZ1
                generalize W1.drewN nq = W2 at *
                have HX2 := Lib.hid hX1; clear hX1
                have HC2 := Lib.hid hC1; clear hC1
                have HV2 := Lib.hid (vsl_drew hV1); clear hV1
                have HB2 := Lib.hid hB1; clear hB1
                obtain ⟨_, _, v2⟩ := HX2.out.cells
                obtain ⟨_, _, u2⟩ := HC2.out.cells
                simp only [] at u2
                have hS : ∀ wT, Below W2.heap.size W2 wT → (wT.cell? ⟨g9, 2, none⟩ = some (.int .i64 kd) ∧ wT.cell? ⟨w.heap.size, 2, none⟩ = some (.slice (some ⟨b2, o2, none⟩) nV cV) ∧ wT.cell? ⟨b2, o2 + q, none⟩ = some (.slice rA rn rc)) :=
                  fun wT h => ⟨(CBox.below HC2.out h).cells.2.2, (HX2.out.below h).cells.2.2, (h.cell (p := ⟨b2, o2 + q, none⟩) hb2d).trans hz2⟩
                have HSS := Lib.hid hS; clear hS
                have hq1 := Below.refl W2.heap.size W2
                go_region_held3 (fun w' => w'.cell? ⟨g9, 2, none⟩ = some (.int .i64 kd) ∧ w'.cell? ⟨w.heap.size, 2, none⟩ = some (.slice (some ⟨b2, o2, none⟩) nV cV) ∧ w'.cell? ⟨b2, o2 + q, none⟩ = some (.slice rA rn rc))
                  (first | go_keep | exact HSS.out _ hq1)
                  ((first
                    | (go_at_call 33; (with_reducible refine (HVR.out _ HV2.out).mono ?_); rintro e wp ⟨rfl, hbp⟩; have hq1 : Below W2.heap.size W2 wp := bthen (Below.refl _ W2).drew hbp (Nat.le_refl _))))
                clear u2 v2 hz2
                by_cases e5 : ER = 0
                · have hok : colOk d q := HI.out.2.1.2 ⟨e1', HPR.out, HE2.out, by rw [HRL.out]; exact e4, e5⟩
                  have hal2 : ∀ i, i < q + 1 → colOk d i := fun i hi => by
                    rcases Nat.lt_or_ge i q with h | h
                    · exact HI.out.1 i h
                    · obtain rfl : i = q := by omega
                      exact hok
                  have HA2 := Lib.hid hal2; clear hal2 hok
                  subst e5
                  go_wp2
                  go_roundw
                  case rel => exact ⟨q + 1, by omega, by go_num, HA2.out, bthen HB2.out hq1 (Nat.le_refl _)⟩
                  case measure => simp [intOf]; omega
                · have hf := HI.out.2.2 (fun e => e5 (HI.out.2.1.1 e).2.2.2.2)
                  have hne : (((ER : Nat) : Int) != 0) = true := by simp; omega
                  have HF := Lib.hid hf; clear hf e5
                  go_wp2
                  go_ret
                  exact ⟨by rw [HF.out]; rfl, bthen (bthen HB.out HB2.out (Nat.le_refl _)) hq1 (Nat.le_refl _)⟩
              · have hf := HI.out.2.2 (fun e => e4 (by rw [← HRL.out]; exact (HI.out.2.1.1 e).2.2.2.1))
                have e4' : ((rn : Int) != R) = true := by simpa using e4
                clear e4
                have HF := Lib.hid hf; clear hf
                go_quiet (fail)
                go_wp2
                go_ret
                exact ⟨by rw [HF.out]; rfl, below_drewN (bthen HB.out HB1.out (Nat.le_refl _)) _⟩
            · have hf := HI.out.2.2 (fun e => e2 (HI.out.2.1.1 e).2.2.1)
              have e2' : nm.toList.isEmpty = false := by
                cases hh : nm.toList.isEmpty with
                | false => rfl
                | true => exact absurd (str_none hh) e2
              have e2'' : (!nm.toList.isEmpty) = true := by rw [e2']; rfl
              clear e2
              have HF := Lib.hid hf; clear hf
              go_quiet (fail)
              go_wp2
              go_ret
              exact ⟨by rw [HF.out]; rfl, below_drewN (bthen HB.out HB1.out (Nat.le_refl _)) _⟩
      · obtain rfl : nV = q := by omega
        have hmy : decide (mayFile d) = true := decide_eq_true ⟨HH.out, fun i hi => hal i (by rw [HL.out] at hi; exact hi)⟩
        have HM := Lib.hid hmy; clear hmy
        go_wp2
        go_ret
        exact ⟨by rw [HM.out]; rfl, bthen HB.out hb (Nat.le_refl _)⟩
  · have hf : decide (mayFile d) = false := decide_eq_false (fun e => hh e.1)
    have HF := Lib.hid hf; clear hf
    unfold headOk at hh
    rw [l1, l2, ← HR.out] at hh
    clear l1 l2
    by_cases a1 : R < 0
    · clear hh
      go_enter Tryz.func10, Tryz.ntmps10
      go_wp2
      go_ret
      exact ⟨by rw [HF.out]; rfl, HB.out⟩
    · by_cases a2 : 4096 < R
      · clear hh
        go_enter Tryz.func10, Tryz.ntmps10
        go_wp2
        go_ret
        exact ⟨by rw [HF.out]; rfl, HB.out⟩
      · by_cases a3 : nC = 0
        · clear hh
          subst a3
          have a1' : 0 ≤ R := by omega
          have a2' : R ≤ 4096 := by omega
          clear a1 a2
          go_enter Tryz.func10, Tryz.ntmps10
          go_wp2
          go_ret
          exact ⟨by rw [HF.out]; rfl, HB.out⟩
        · have a3' : 1 ≤ nC := by omega
          have a1' : 0 ≤ R := by omega
          have a2' : R ≤ 4096 := by omega
          by_cases a4 : 12 < nC
          · clear hh a1 a2 a3
            go_enter Tryz.func10, Tryz.ntmps10
            go_wp2
            go_ret
            exact ⟨by rw [HF.out]; rfl, HB.out⟩
          · have a4' : nC ≤ 12 := by omega
            have a5 : (((nV : Int)) != (nC : Int)) = true := by simp; omega
            clear hh a1 a2 a3 a4
            go_enter Tryz.func10, Tryz.ntmps10
            go_wp2
            go_ret
            exact ⟨by rw [HF.out]; rfl, HB.out⟩
end Go.Proofs.YtgmemdedpklnhaaGreat.File

/-
  THE WALK of boathouseref7.bound.
-/

namespace Go.Proofs.YtgmemdedpklnhaaGreat.File
open Go.RowKit ValMath Vals Sl VecMath Vec Dat

set_option maxRecDepth 20000 in
set_option maxHeartbeats 4000000 in
theorem bound_any (v : Val) (w : World) (hv : Small v) : Calls Tryz.prog 35 #[vagg v] w fun e w' => e = .returned (.string (str (limit v))) ∧ Below w.heap.size w w' := by
  have hN := fun w => Stats.null_any v w
  have hn : null v = decide (v.k = 0) := by unfold null; rw [hv.c]
  rw [hn] at hN
  have hS := fun w => refPlain_any v w hv.f
  have hsl := scalar_length v hv.s
  have h1 := hv.k0
  have h2 := hv.k1
  have hbx := Box.new w v
  have hb := Vals.one_new (w := w) (.cells #[.int .i64 v.k, .int .i64 v.i, .bool v.b, .string v.s] 71)
  have hl : limit v = if v.k = 0 then [0] else [UInt8.ofNat v.k.toNat] ++ scalar v := rfl
  generalize limit v = L at *
  have hcv : ∀ (W : World) (g c : Nat), W.cell? ⟨g, 0, none⟩ = some (.int .u8 v.k) → (convert 54 9 (.slice (some ⟨g, 0, none⟩) 1 c)).run Tryz.prog W = .ok (.string (str [UInt8.ofNat v.k.toNat])) W := fun W g c h => by
    rw [run_str_one W g c v.k h, str_nums]; simp
  have hw8 : IntKind.u8.wrap v.k = v.k := by rw [IntKind.wrap_u8]; omega
  have hadd := add_str (str [UInt8.ofNat v.k.toNat]) (str (scalar v)) (by rw [str_size, str_size]; simp; omega)
  have hEE := str_append [UInt8.ofNat v.k.toNat] (scalar v)
  clear hsl hn
  generalize str [UInt8.ofNat v.k.toNat] = X0 at *
  generalize str (scalar v) = X1 at *
  clear hv
  obtain ⟨k, i, b, s⟩ := v
  simp only [vagg] at hS hb hl hcv hw8 h1 h2 hbx hN ⊢
  have HS := Lib.hid hS; clear hS
  have HN := Lib.hid hN; clear hN
  have HB := Lib.hid hb; clear hb
  have HX := Lib.hid hbx
  obtain ⟨c0, c1, c2, c3⟩ := hbx.cells
  clear hbx
  simp only [] at c0 c1 c2 c3
  by_cases h0 : k = 0
  · subst h0
    rw [if_pos rfl] at hl
    subst hl
    have hN := HN.out
    rw [decide_eq_true rfl] at hN
    replace HN := Lib.hid hN; clear hN
    clear hadd hEE hcv hw8
    go_enter Tryz.func35, Tryz.ntmps35
    go_wp2_with (go_at_call 64; (with_reducible refine (HN.out _).mono ?_); rintro e w1 ⟨rfl, hb1⟩)
    go_ret
    exact ⟨rfl, bthen HB.out hb1 (Nat.le_refl _)⟩
  · rw [if_neg h0] at hl
    subst hl
    have hN := HN.out
    rw [decide_eq_false h0] at hN
    replace HN := Lib.hid hN; clear hN
    have HE := Lib.hid hEE; clear hEE h0
    go_enter Tryz.func35, Tryz.ntmps35
    go_wp2_with (go_at_call 64; (with_reducible refine (HN.out _).mono ?_); rintro e W0 ⟨rfl, hb1⟩; replace HX := Lib.hid (HX.out.below hb1); replace HB := Lib.hid (bthen HB.out hb1 (Nat.le_refl _)); clear hb1 c0 c1 c2 c3)
    obtain ⟨c0, c1, c2, c3⟩ := HX.out.cells
    simp only [] at c0 c1 c2 c3
    have hg9 := HX.out.lt
    generalize hgg : w.heap.size = g9 at *
    have HG9 := Lib.hid hgg; clear hgg
    obtain ⟨a0, a1, a2, a3⟩ := (HX.out.drew.alloc (.cells #[.int .u8 k] 5)).cells
    simp only [] at a0 a1 a2 a3
    go_region_with (first
        | (go_at_call 70; (with_reducible refine (HS.out _).mono ?_); rintro e wC ⟨rfl, hbC⟩; (try have hz1 : wC.cell? ⟨W0.heap.size, 0, none⟩ = some (.int .u8 k) := keep_new (V := W0.drew) hbC); (first | have hq1 : Below W0.heap.size W0 wC := bthen (Below.refl _ W0).drew hbC (Nat.le_refl _) | have hq1 : Below W0.heap.size W0 wC := bthen ((Below.refl _ W0).drew.alloc (Nat.le_refl _) (.cells #[.int .u8 k] 5)) hbC (Nat.le_refl _)); have hcc := (HX.out.below hq1).cells; obtain ⟨q0, q1, q2, q3⟩ := hcc; simp only [] at q0 q1 q2 q3))
    all_goals
      go_wp2_with fail
      go_ret
      refine ⟨by show Ending.returned (.string (X0 ++ X1)) = _; rw [HE.out]; rfl, ?_⟩
      rw [HG9.out]
      first | exact HB.out.trans (hq1.mono (Nat.le_of_lt hg9)) | exact (HB.out.trans (hq1.mono (Nat.le_of_lt hg9))).alloc (Nat.le_of_lt (Nat.lt_of_lt_of_le hg9 hq1.size)) _
end Go.Proofs.YtgmemdedpklnhaaGreat.File
