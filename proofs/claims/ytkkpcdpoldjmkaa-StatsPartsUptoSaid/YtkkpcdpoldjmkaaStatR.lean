/-
  THE WALK of boathouseref7.Stat.
-/
import Derived.Test.YtkkpcdpoldjmkaaStat0
import Derived.Test.YtkkpcdpoldjmkaaJoinMath
namespace Go.Proofs.Ytkkpcdpoldjmkaa.Stats
open Go.RowKit ValMath Vals Sl

theorem null_best (lt : Val → Val → Bool) (a b : Val) : null (best lt a b) = (null a && null b) := best_null lt a b
theorem stat_null_both (vs : List Val) : null (stat vs).mn = null (stat vs).mx := by
  induction vs using snoc_ind with
  | h0 => rfl
  | h1 vs v ih =>
    rw [stat_snoc]
    show null (lesser _ _) = null (greater _ _)
    rw [lesser_best, greater_best, best_null, best_null, ih]
theorem best_size (lt : Val → Val → Bool) (a b : Val) (n : Nat) (ha : a.s.size ≤ n) (hb : b.s.size ≤ n) : (best lt a b).s.size ≤ n := by
  unfold best
  split
  · exact Nat.le_trans (clean_size b) hb
  · exact Nat.le_trans (clean_size a) ha
theorem stat_size (vs : List Val) (n : Nat) (h : ∀ v ∈ vs, v.s.size ≤ n) : (stat vs).mn.s.size ≤ n ∧ (stat vs).mx.s.size ≤ n := by
  induction vs using snoc_ind with
  | h0 => exact ⟨Nat.zero_le _, Nat.zero_le _⟩
  | h1 vs v ih =>
    obtain ⟨h1, h2⟩ := ih (fun u hu => h u (by simp [hu]))
    have hv := h v (by simp)
    rw [stat_snoc]
    refine ⟨?_, ?_⟩
    · show (lesser _ _).s.size ≤ n
      rw [lesser_best]; exact best_size _ _ _ _ h1 hv
    · show (greater _ _).s.size ≤ n
      rw [greater_best]; exact best_size _ _ _ _ h2 hv

/-- What the next value makes of clean bounds. -/
theorem next_null {s : St} {v : Val} (hc : clean s.mn = s.mn ∧ clean s.mx = s.mx) (hn : null v = true) : addS s v = ⟨s.nulls + 1, s.mn, s.mx⟩ := by
  have h1 : lesser s.mn v = s.mn := (best_null_right less s.mn hn).trans hc.1
  have h2 : greater s.mx v = s.mx := (best_null_right (fun x y => less y x) s.mx hn).trans hc.2
  unfold addS
  rw [h1, h2, hn]; rfl
theorem next_some {s : St} {v : Val} (hc : clean s.mn = s.mn ∧ clean s.mx = s.mx) (hn : null v = false) : addS s v = ⟨s.nulls, if (null s.mn || decide (cmp (clean v) s.mn < 0)) = true then clean v else s.mn, if (null s.mx || decide (0 < cmp (clean v) s.mx)) = true then clean v else s.mx⟩ := by
  have h1 : lesser s.mn v = if (null s.mn || decide (cmp (clean v) s.mn < 0)) = true then clean v else s.mn := by
    have : decide (cmp (clean v) s.mn < 0) = less v s.mn := by rw [← less_clean_left v]; by_cases h : less (clean v) s.mn = true <;> simp [h, cmp_neg]
    unfold lesser
    rw [this, hn, hc.1]
    rfl
  have h2 : greater s.mx v = if (null s.mx || decide (0 < cmp (clean v) s.mx)) = true then clean v else s.mx := by
    have : decide (0 < cmp (clean v) s.mx) = less s.mx v := by rw [← less_clean_right s.mx v]; by_cases h : less s.mx (clean v) = true <;> simp [h, cmp_pos]
    unfold greater
    rw [this, hn, hc.2]
    rfl
  unfold addS
  rw [h1, h2, hn]; rfl

set_option maxRecDepth 20000 in
set_option maxHeartbeats 4000000 in
theorem statR_any (c : Int) (A : Option Addr) (n cap : Nat) (vs : List Val) (w : World) (hv : VSl w A n vs) (hn : n ≤ maxLen) (hs : ∀ v ∈ vs, v.s.size ≤ maxLen) :
    Calls Try.prog 74 #[.int .i64 c, .slice A n cap] w fun e w' => e = .returned (sagg c (stat vs).nulls (stat vs).mn (stat vs).mx) ∧ Below w.heap.size w w' := by
  have hn2 : n < 9223372036854775808 := by have h : maxLen = 9223372036854775807 := rfl; omega
  go_enter Try.func74, Try.ntmps74
  go_wp2
  go_loopw [6] (fun i wr => ∃ k : Nat, k ≤ n ∧ i = .int .i64 k ∧ SBox wr w.heap.size 0 0 nul nul ∧ SBox wr (w.heap.size + 1) c (stat (vs.take k)).nulls (stat (vs.take k)).mn (stat (vs.take k)).mx ∧ Below w.heap.size w wr)
    (fun i _ => n - (intOf i).toNat)
  case atStart => exact ⟨0, Nat.zero_le _, rfl, (SBox.new _ _ rfl _ _ nul nul).alloc _, SBox.new _ _ (by simp) _ _ nul nul, Vals.two_new _ _⟩
  case round =>
    obtain ⟨k, hk, rfl, hS0, hS, hb⟩ := hrel
    by_cases hlt : k < n
    · have hvr := hv.below hb
      obtain ⟨b1, o1, v, hv1, rfl, hb1, c0, c1, c2, c3⟩ := hvr.at_ hlt
      have hts := take_more hv1
      have hsv := hs v (List.mem_of_getElem? hv1)
      have hnl := stat_nulls_le (vs.take k)
      have hlk : (vs.take k).length ≤ k := List.length_take_le _ _
      have hqk : (stat (vs.take k)).nulls ≤ k := by omega
      have hcl := stat_clean (vs.take k)
      have hbn := stat_null_both (vs.take k)
      obtain ⟨hz1, hz2⟩ := stat_size (vs.take k) maxLen (fun u hu => hs u (List.mem_of_mem_take hu))
      have hE : stat (vs.take (k + 1)) = addS (stat (vs.take k)) v := by rw [hts, stat_snoc]
      generalize hst : stat (vs.take k) = s at hE hcl hbn hz1 hz2 hqk hnl hS
      obtain ⟨q, mn, mx⟩ := s
      (try simp only [] at hcl hbn hz1 hz2 hqk hnl hS)
      have hcz : (clean v).s.size ≤ maxLen := Nat.le_trans (clean_size v) hsv
      have hN := null_any v
      have hC := clean_any v
      have hN1 := null_any mn
      have hN2 := null_any mx
      have hK1 := fun w => cmp_any (clean v) mn w hcz hz1
      have hK2 := fun w => cmp_any (clean v) mx w hcz hz2
      rw [← hbn] at hN2
      have HL4 := Lib.hid hb1
      have H4 := Lib.hid (show At4 wr b1 (o1 + k * 4) v from ⟨c0, c1, c2, c3⟩)
      cases hnv : null v with
      | true =>
        have hE2 := next_null (s := ⟨q, mn, mx⟩) hcl hnv
        rw [← hE] at hE2
        rw [hnv] at hN
        clear hC hN1 hN2 hK1 hK2 hcl hbn hz1 hz2 hE hst hcz hsv hts hnv
        obtain ⟨kv, iv, bv, sv⟩ := v
        obtain ⟨km, im, bm, sm⟩ := mn
        obtain ⟨kx, ix, bx, sx⟩ := mx
        simp only [vagg] at c0 c1 c2 c3 hN
        have HN := Lib.hid hN; clear hN
        have HE := Lib.hid hE2; clear hE2
        have HR := Lib.hid hS0; clear hS0
        have HS := Lib.hid hS; clear hS
        have HBT := Lib.hid hb
        obtain ⟨z0, z1, _⟩ := HS.out.cells
        have zf1 := HS.out.free 1
        (try simp only [] at z0 z1)
        have hwr : IntKind.i64.wrap ((q : Int) + 1) = (q : Int) + 1 := IntWalk.i64_in _ (by omega)
        go_wp2_with (go_at_call 78; with_reducible refine (HN.out _).mono ?_; rintro e w1 ⟨rfl, hb2⟩; clear z0 z1 zf1 c0 c1 c2 c3; replace HS := Lib.hid (HS.out.below hb2 HS.out.lt); replace HR := Lib.hid (HR.out.below hb2 HR.out.lt); replace HBT := Lib.hid (bthen HBT.out hb2 (Nat.le_refl _)); clear hb2; obtain ⟨z0, z1, _⟩ := HS.out.cells; have zf1 := HS.out.free 1; (try simp only [] at z0 z1))
        go_roundw
        case rel => exact ⟨k + 1, by omega, by go_num, HR.out.other (by omega), by rw [HE.out]; exact HS.out.put1 _, HBT.out.setCell (p := ⟨w.heap.size + 1, 1, none⟩) (Nat.le_succ _) _⟩
        case measure => simp [intOf]; omega
      | false =>
        have hE2 := next_some (s := ⟨q, mn, mx⟩) hcl hnv
        rw [← hE] at hE2
        rw [hnv] at hN
        (try simp only [] at hE2)
        rw [← hbn] at hE2
        generalize null mn = nb at hE2 hN1 hN2
        generalize cmp (clean v) mn = r1 at hE2 hK1
        generalize cmp (clean v) mx = r2 at hE2 hK2
        clear hcl hbn hz1 hz2 hE hst hcz hsv hts hnv
        generalize clean v = u at *
        obtain ⟨kv, iv, bv, sv⟩ := v
        obtain ⟨ku, iu, bu, su⟩ := u
        obtain ⟨km, im, bm, sm⟩ := mn
        obtain ⟨kx, ix, bx, sx⟩ := mx
        simp only [vagg] at c0 c1 c2 c3 hN hC hN1 hN2 hK1 hK2
        have HN := Lib.hid hN; clear hN
        have HC := Lib.hid hC; clear hC
        have HN1 := Lib.hid hN1; clear hN1
        have HN2 := Lib.hid hN2; clear hN2
        have HK1 := Lib.hid hK1; clear hK1
        have HK2 := Lib.hid hK2; clear hK2
        have HE := Lib.hid hE2; clear hE2
        have HR := Lib.hid hS0; clear hS0
        have HS := Lib.hid hS; clear hS
        have HBT := Lib.hid hb
        go_upto_region 8 with (first
          | (go_at_call 78; go_loud (with_reducible refine (HN.out _).mono ?_); rintro e w1 ⟨rfl, hb2⟩; clear c0 c1 c2 c3; replace HL4 := Lib.hid (Nat.lt_of_lt_of_le HL4.out hb2.size); replace H4 := Lib.hid (H4.out.below hb2 hb1); replace HS := Lib.hid (HS.out.below hb2 HS.out.lt); replace HR := Lib.hid (HR.out.below hb2 HR.out.lt); replace HBT := Lib.hid (bthen HBT.out hb2 (Nat.le_refl _)); clear hb2; obtain ⟨c0, c1, c2, c3⟩ := H4.out; (try simp only [] at c0 c1 c2 c3))
          | (go_at_call 71; with_reducible refine (HC.out _).mono ?_; rintro e w2 ⟨rfl, hb2⟩; clear c0 c1 c2 c3; replace HS := Lib.hid (HS.out.below hb2 HS.out.lt); replace HR := Lib.hid (HR.out.below hb2 HR.out.lt); replace HBT := Lib.hid (bthen HBT.out hb2 (Nat.le_refl _)); clear hb2))
        have hne : w.heap.size ≠ w.heap.size + 1 := by omega
        have hsz := HS.out.lt
        have hneb : w2.heap.size ≠ w.heap.size + 1 := by omega
        replace HS := Lib.hid (HS.out.alloc (.cells #[.int .i64 ku, .int .i64 iu, .bool bu, .string su] 52))
        replace HR := Lib.hid (HR.out.alloc (.cells #[.int .i64 ku, .int .i64 iu, .bool bu, .string su] 52))
        have HB := Lib.hid (Box.new w2 ⟨ku, iu, bu, su⟩)
        replace HBT := Lib.hid (HBT.out.alloc HBT.out.size (.cells #[.int .i64 ku, .int .i64 iu, .bool bu, .string su] 52))
        generalize w2.heap.size = gz at *
        generalize (w2.alloc (.cells #[.int .i64 ku, .int .i64 iu, .bool bu, .string su] 52)) = wz at *
        clear H4 HL4 HN HC
        obtain ⟨_, _, z2, z3, z4, z5, z6, z7, z8, z9⟩ := HS.out.cells
        (try simp only [] at z2 z3 z4 z5 z6 z7 z8 z9)
        cases nb with
        | true =>
          go_wp2_with (first
            | (go_at_call_of 78 (Value.string sm); with_reducible refine (HN1.out _).mono ?_; rintro e wA ⟨rfl, hbA⟩; replace HS := Lib.hid (SBox.below (HS.out) hbA (SBox.lt (HS.out))); replace HB := Lib.hid (Box.below (HB.out) hbA); replace HR := Lib.hid (SBox.below (HR.out) hbA (SBox.lt (HR.out))); replace HBT := Lib.hid (bthen (HBT.out) hbA (Nat.le_refl _)); clear hbA; (try clear z2 z3 z4 z5 z6 z7 z8 z9 y0 y1 y2 y3 zf2 zf3 zf4 zf5 zf6 zf7 zf8 zf9); obtain ⟨_, _, z2, z3, z4, z5, z6, z7, z8, z9⟩ := HS.out.cells; obtain ⟨y0, y1, y2, y3⟩ := HB.out.cells; have zf2 := HS.out.free 2; have zf3 := HS.out.free 3; have zf4 := HS.out.free 4; have zf5 := HS.out.free 5; have zf6 := HS.out.free 6; have zf7 := HS.out.free 7; have zf8 := HS.out.free 8; have zf9 := HS.out.free 9; (try simp only [] at z2 z3 z4 z5 z6 z7 z8 z9 y0 y1 y2 y3))
            | (go_at_call_of 72 (Value.string sm); with_reducible refine (HK1.out _).mono ?_; rintro e wB ⟨rfl, hbB⟩; replace HS := Lib.hid (SBox.below (HS.out) hbB (SBox.lt (HS.out))); replace HB := Lib.hid (Box.below (HB.out) hbB); replace HR := Lib.hid (SBox.below (HR.out) hbB (SBox.lt (HR.out))); replace HBT := Lib.hid (bthen (HBT.out) hbB (Nat.le_refl _)); clear hbB; (try clear z2 z3 z4 z5 z6 z7 z8 z9 y0 y1 y2 y3 zf2 zf3 zf4 zf5 zf6 zf7 zf8 zf9); obtain ⟨_, _, z2, z3, z4, z5, z6, z7, z8, z9⟩ := HS.out.cells; obtain ⟨y0, y1, y2, y3⟩ := HB.out.cells; have zf2 := HS.out.free 2; have zf3 := HS.out.free 3; have zf4 := HS.out.free 4; have zf5 := HS.out.free 5; have zf6 := HS.out.free 6; have zf7 := HS.out.free 7; have zf8 := HS.out.free 8; have zf9 := HS.out.free 9; (try simp only [] at z2 z3 z4 z5 z6 z7 z8 z9 y0 y1 y2 y3))
            | (go_at_call_of 78 (Value.string sx); with_reducible refine (HN2.out _).mono ?_; rintro e wC ⟨rfl, hbC⟩; replace HS := Lib.hid (SBox.below (HS.out.put2 ⟨ku, iu, bu, su⟩) hbC (SBox.lt (HS.out.put2 ⟨ku, iu, bu, su⟩))); replace HB := Lib.hid (Box.below ((((((HB.out).other hneb).other hneb).other hneb).other hneb)) hbC); replace HR := Lib.hid (SBox.below ((((((HR.out).other hne).other hne).other hne).other hne)) hbC (SBox.lt ((((((HR.out).other hne).other hne).other hne).other hne)))); replace HBT := Lib.hid (bthen (below_put4 HBT.out (Nat.le_succ _) 2 3 4 5 _ _ _ _) hbC (Nat.le_refl _)); clear hbC; (try clear z2 z3 z4 z5 z6 z7 z8 z9 y0 y1 y2 y3 zf2 zf3 zf4 zf5 zf6 zf7 zf8 zf9); obtain ⟨_, _, z2, z3, z4, z5, z6, z7, z8, z9⟩ := HS.out.cells; obtain ⟨y0, y1, y2, y3⟩ := HB.out.cells; have zf2 := HS.out.free 2; have zf3 := HS.out.free 3; have zf4 := HS.out.free 4; have zf5 := HS.out.free 5; have zf6 := HS.out.free 6; have zf7 := HS.out.free 7; have zf8 := HS.out.free 8; have zf9 := HS.out.free 9; (try simp only [] at z2 z3 z4 z5 z6 z7 z8 z9 y0 y1 y2 y3))
            | (go_at_call_of 72 (Value.string sx); with_reducible refine (HK2.out _).mono ?_; rintro e wD ⟨rfl, hbD⟩; replace HS := Lib.hid (SBox.below (HS.out) hbD (SBox.lt (HS.out))); replace HB := Lib.hid (Box.below (HB.out) hbD); replace HR := Lib.hid (SBox.below (HR.out) hbD (SBox.lt (HR.out))); replace HBT := Lib.hid (bthen (HBT.out) hbD (Nat.le_refl _)); clear hbD; (try clear z2 z3 z4 z5 z6 z7 z8 z9 y0 y1 y2 y3 zf2 zf3 zf4 zf5 zf6 zf7 zf8 zf9); obtain ⟨_, _, z2, z3, z4, z5, z6, z7, z8, z9⟩ := HS.out.cells; obtain ⟨y0, y1, y2, y3⟩ := HB.out.cells; have zf2 := HS.out.free 2; have zf3 := HS.out.free 3; have zf4 := HS.out.free 4; have zf5 := HS.out.free 5; have zf6 := HS.out.free 6; have zf7 := HS.out.free 7; have zf8 := HS.out.free 8; have zf9 := HS.out.free 9; (try simp only [] at z2 z3 z4 z5 z6 z7 z8 z9 y0 y1 y2 y3)))
          clear z2 z3 z4 z5 z6 z7 z8 z9 y0 y1 y2 y3 zf2 zf3 zf4 zf5 zf6 zf7 zf8 zf9 HN1 HN2 HK1 HK2
          go_roundw
          case rel => exact ⟨k + 1, by omega, by go_num, (((((HR.out).other hne).other hne).other hne).other hne), by rw [HE.out]; exact HS.out.put3 ⟨ku, iu, bu, su⟩, below_put4 HBT.out (Nat.le_succ _) 6 7 8 9 _ _ _ _⟩
          case measure => simp [intOf]; omega
        | false =>
          by_cases h1 : r1 < 0
          · have h1' : decide (r1 < 0) = true := decide_eq_true h1
            by_cases h2 : 0 < r2
            · have h2' : decide (0 < r2) = true := decide_eq_true h2
              simp only [h1, h2, Bool.false_or, if_true, decide_true] at HE
              clear h1 h2
              go_wp2_with (first
                | (go_at_call_of 78 (Value.string sm); with_reducible refine (HN1.out _).mono ?_; rintro e wA ⟨rfl, hbA⟩; replace HS := Lib.hid (SBox.below (HS.out) hbA (SBox.lt (HS.out))); replace HB := Lib.hid (Box.below (HB.out) hbA); replace HR := Lib.hid (SBox.below (HR.out) hbA (SBox.lt (HR.out))); replace HBT := Lib.hid (bthen (HBT.out) hbA (Nat.le_refl _)); clear hbA; (try clear z2 z3 z4 z5 z6 z7 z8 z9 y0 y1 y2 y3 zf2 zf3 zf4 zf5 zf6 zf7 zf8 zf9); obtain ⟨_, _, z2, z3, z4, z5, z6, z7, z8, z9⟩ := HS.out.cells; obtain ⟨y0, y1, y2, y3⟩ := HB.out.cells; have zf2 := HS.out.free 2; have zf3 := HS.out.free 3; have zf4 := HS.out.free 4; have zf5 := HS.out.free 5; have zf6 := HS.out.free 6; have zf7 := HS.out.free 7; have zf8 := HS.out.free 8; have zf9 := HS.out.free 9; (try simp only [] at z2 z3 z4 z5 z6 z7 z8 z9 y0 y1 y2 y3))
                | (go_at_call_of 72 (Value.string sm); with_reducible refine (HK1.out _).mono ?_; rintro e wB ⟨rfl, hbB⟩; replace HS := Lib.hid (SBox.below (HS.out) hbB (SBox.lt (HS.out))); replace HB := Lib.hid (Box.below (HB.out) hbB); replace HR := Lib.hid (SBox.below (HR.out) hbB (SBox.lt (HR.out))); replace HBT := Lib.hid (bthen (HBT.out) hbB (Nat.le_refl _)); clear hbB; (try clear z2 z3 z4 z5 z6 z7 z8 z9 y0 y1 y2 y3 zf2 zf3 zf4 zf5 zf6 zf7 zf8 zf9); obtain ⟨_, _, z2, z3, z4, z5, z6, z7, z8, z9⟩ := HS.out.cells; obtain ⟨y0, y1, y2, y3⟩ := HB.out.cells; have zf2 := HS.out.free 2; have zf3 := HS.out.free 3; have zf4 := HS.out.free 4; have zf5 := HS.out.free 5; have zf6 := HS.out.free 6; have zf7 := HS.out.free 7; have zf8 := HS.out.free 8; have zf9 := HS.out.free 9; (try simp only [] at z2 z3 z4 z5 z6 z7 z8 z9 y0 y1 y2 y3))
                | (go_at_call_of 78 (Value.string sx); with_reducible refine (HN2.out _).mono ?_; rintro e wC ⟨rfl, hbC⟩; replace HS := Lib.hid (SBox.below (HS.out.put2 ⟨ku, iu, bu, su⟩) hbC (SBox.lt (HS.out.put2 ⟨ku, iu, bu, su⟩))); replace HB := Lib.hid (Box.below ((((((HB.out).other hneb).other hneb).other hneb).other hneb)) hbC); replace HR := Lib.hid (SBox.below ((((((HR.out).other hne).other hne).other hne).other hne)) hbC (SBox.lt ((((((HR.out).other hne).other hne).other hne).other hne)))); replace HBT := Lib.hid (bthen (below_put4 HBT.out (Nat.le_succ _) 2 3 4 5 _ _ _ _) hbC (Nat.le_refl _)); clear hbC; (try clear z2 z3 z4 z5 z6 z7 z8 z9 y0 y1 y2 y3 zf2 zf3 zf4 zf5 zf6 zf7 zf8 zf9); obtain ⟨_, _, z2, z3, z4, z5, z6, z7, z8, z9⟩ := HS.out.cells; obtain ⟨y0, y1, y2, y3⟩ := HB.out.cells; have zf2 := HS.out.free 2; have zf3 := HS.out.free 3; have zf4 := HS.out.free 4; have zf5 := HS.out.free 5; have zf6 := HS.out.free 6; have zf7 := HS.out.free 7; have zf8 := HS.out.free 8; have zf9 := HS.out.free 9; (try simp only [] at z2 z3 z4 z5 z6 z7 z8 z9 y0 y1 y2 y3))
                | (go_at_call_of 72 (Value.string sx); with_reducible refine (HK2.out _).mono ?_; rintro e wD ⟨rfl, hbD⟩; replace HS := Lib.hid (SBox.below (HS.out) hbD (SBox.lt (HS.out))); replace HB := Lib.hid (Box.below (HB.out) hbD); replace HR := Lib.hid (SBox.below (HR.out) hbD (SBox.lt (HR.out))); replace HBT := Lib.hid (bthen (HBT.out) hbD (Nat.le_refl _)); clear hbD; (try clear z2 z3 z4 z5 z6 z7 z8 z9 y0 y1 y2 y3 zf2 zf3 zf4 zf5 zf6 zf7 zf8 zf9); obtain ⟨_, _, z2, z3, z4, z5, z6, z7, z8, z9⟩ := HS.out.cells; obtain ⟨y0, y1, y2, y3⟩ := HB.out.cells; have zf2 := HS.out.free 2; have zf3 := HS.out.free 3; have zf4 := HS.out.free 4; have zf5 := HS.out.free 5; have zf6 := HS.out.free 6; have zf7 := HS.out.free 7; have zf8 := HS.out.free 8; have zf9 := HS.out.free 9; (try simp only [] at z2 z3 z4 z5 z6 z7 z8 z9 y0 y1 y2 y3)))
              clear z2 z3 z4 z5 z6 z7 z8 z9 y0 y1 y2 y3 zf2 zf3 zf4 zf5 zf6 zf7 zf8 zf9 HN1 HN2 HK1 HK2
              go_roundw
              case rel => exact ⟨k + 1, by omega, by go_num, (((((HR.out).other hne).other hne).other hne).other hne), by rw [HE.out]; exact HS.out.put3 ⟨ku, iu, bu, su⟩, below_put4 HBT.out (Nat.le_succ _) 6 7 8 9 _ _ _ _⟩
              case measure => simp [intOf]; omega
            · have h2' : decide (0 < r2) = false := decide_eq_false h2
              simp only [h1, h2, Bool.false_or, if_true, if_false, Bool.false_eq_true, decide_true, decide_false] at HE
              clear h1 h2
              go_wp2_with (first
                | (go_at_call_of 78 (Value.string sm); with_reducible refine (HN1.out _).mono ?_; rintro e wA ⟨rfl, hbA⟩; replace HS := Lib.hid (SBox.below (HS.out) hbA (SBox.lt (HS.out))); replace HB := Lib.hid (Box.below (HB.out) hbA); replace HR := Lib.hid (SBox.below (HR.out) hbA (SBox.lt (HR.out))); replace HBT := Lib.hid (bthen (HBT.out) hbA (Nat.le_refl _)); clear hbA; (try clear z2 z3 z4 z5 z6 z7 z8 z9 y0 y1 y2 y3 zf2 zf3 zf4 zf5 zf6 zf7 zf8 zf9); obtain ⟨_, _, z2, z3, z4, z5, z6, z7, z8, z9⟩ := HS.out.cells; obtain ⟨y0, y1, y2, y3⟩ := HB.out.cells; have zf2 := HS.out.free 2; have zf3 := HS.out.free 3; have zf4 := HS.out.free 4; have zf5 := HS.out.free 5; have zf6 := HS.out.free 6; have zf7 := HS.out.free 7; have zf8 := HS.out.free 8; have zf9 := HS.out.free 9; (try simp only [] at z2 z3 z4 z5 z6 z7 z8 z9 y0 y1 y2 y3))
                | (go_at_call_of 72 (Value.string sm); with_reducible refine (HK1.out _).mono ?_; rintro e wB ⟨rfl, hbB⟩; replace HS := Lib.hid (SBox.below (HS.out) hbB (SBox.lt (HS.out))); replace HB := Lib.hid (Box.below (HB.out) hbB); replace HR := Lib.hid (SBox.below (HR.out) hbB (SBox.lt (HR.out))); replace HBT := Lib.hid (bthen (HBT.out) hbB (Nat.le_refl _)); clear hbB; (try clear z2 z3 z4 z5 z6 z7 z8 z9 y0 y1 y2 y3 zf2 zf3 zf4 zf5 zf6 zf7 zf8 zf9); obtain ⟨_, _, z2, z3, z4, z5, z6, z7, z8, z9⟩ := HS.out.cells; obtain ⟨y0, y1, y2, y3⟩ := HB.out.cells; have zf2 := HS.out.free 2; have zf3 := HS.out.free 3; have zf4 := HS.out.free 4; have zf5 := HS.out.free 5; have zf6 := HS.out.free 6; have zf7 := HS.out.free 7; have zf8 := HS.out.free 8; have zf9 := HS.out.free 9; (try simp only [] at z2 z3 z4 z5 z6 z7 z8 z9 y0 y1 y2 y3))
                | (go_at_call_of 78 (Value.string sx); with_reducible refine (HN2.out _).mono ?_; rintro e wC ⟨rfl, hbC⟩; replace HS := Lib.hid (SBox.below (HS.out.put2 ⟨ku, iu, bu, su⟩) hbC (SBox.lt (HS.out.put2 ⟨ku, iu, bu, su⟩))); replace HB := Lib.hid (Box.below ((((((HB.out).other hneb).other hneb).other hneb).other hneb)) hbC); replace HR := Lib.hid (SBox.below ((((((HR.out).other hne).other hne).other hne).other hne)) hbC (SBox.lt ((((((HR.out).other hne).other hne).other hne).other hne)))); replace HBT := Lib.hid (bthen (below_put4 HBT.out (Nat.le_succ _) 2 3 4 5 _ _ _ _) hbC (Nat.le_refl _)); clear hbC; (try clear z2 z3 z4 z5 z6 z7 z8 z9 y0 y1 y2 y3 zf2 zf3 zf4 zf5 zf6 zf7 zf8 zf9); obtain ⟨_, _, z2, z3, z4, z5, z6, z7, z8, z9⟩ := HS.out.cells; obtain ⟨y0, y1, y2, y3⟩ := HB.out.cells; have zf2 := HS.out.free 2; have zf3 := HS.out.free 3; have zf4 := HS.out.free 4; have zf5 := HS.out.free 5; have zf6 := HS.out.free 6; have zf7 := HS.out.free 7; have zf8 := HS.out.free 8; have zf9 := HS.out.free 9; (try simp only [] at z2 z3 z4 z5 z6 z7 z8 z9 y0 y1 y2 y3))
                | (go_at_call_of 72 (Value.string sx); with_reducible refine (HK2.out _).mono ?_; rintro e wD ⟨rfl, hbD⟩; replace HS := Lib.hid (SBox.below (HS.out) hbD (SBox.lt (HS.out))); replace HB := Lib.hid (Box.below (HB.out) hbD); replace HR := Lib.hid (SBox.below (HR.out) hbD (SBox.lt (HR.out))); replace HBT := Lib.hid (bthen (HBT.out) hbD (Nat.le_refl _)); clear hbD; (try clear z2 z3 z4 z5 z6 z7 z8 z9 y0 y1 y2 y3 zf2 zf3 zf4 zf5 zf6 zf7 zf8 zf9); obtain ⟨_, _, z2, z3, z4, z5, z6, z7, z8, z9⟩ := HS.out.cells; obtain ⟨y0, y1, y2, y3⟩ := HB.out.cells; have zf2 := HS.out.free 2; have zf3 := HS.out.free 3; have zf4 := HS.out.free 4; have zf5 := HS.out.free 5; have zf6 := HS.out.free 6; have zf7 := HS.out.free 7; have zf8 := HS.out.free 8; have zf9 := HS.out.free 9; (try simp only [] at z2 z3 z4 z5 z6 z7 z8 z9 y0 y1 y2 y3)))
              clear z2 z3 z4 z5 z6 z7 z8 z9 y0 y1 y2 y3 zf2 zf3 zf4 zf5 zf6 zf7 zf8 zf9 HN1 HN2 HK1 HK2
              go_roundw
              case rel => exact ⟨k + 1, by omega, by go_num, HR.out, by rw [HE.out]; exact HS.out, HBT.out⟩
              case measure => simp [intOf]; omega
          · have h1' : decide (r1 < 0) = false := decide_eq_false h1
            by_cases h2 : 0 < r2
            · have h2' : decide (0 < r2) = true := decide_eq_true h2
              simp only [h1, h2, Bool.false_or, if_true, if_false, Bool.false_eq_true, decide_true, decide_false] at HE
              clear h1 h2
              go_wp2_with (first
                | (go_at_call_of 78 (Value.string sm); with_reducible refine (HN1.out _).mono ?_; rintro e wA ⟨rfl, hbA⟩; replace HS := Lib.hid (SBox.below (HS.out) hbA (SBox.lt (HS.out))); replace HB := Lib.hid (Box.below (HB.out) hbA); replace HR := Lib.hid (SBox.below (HR.out) hbA (SBox.lt (HR.out))); replace HBT := Lib.hid (bthen (HBT.out) hbA (Nat.le_refl _)); clear hbA; (try clear z2 z3 z4 z5 z6 z7 z8 z9 y0 y1 y2 y3 zf2 zf3 zf4 zf5 zf6 zf7 zf8 zf9); obtain ⟨_, _, z2, z3, z4, z5, z6, z7, z8, z9⟩ := HS.out.cells; obtain ⟨y0, y1, y2, y3⟩ := HB.out.cells; have zf2 := HS.out.free 2; have zf3 := HS.out.free 3; have zf4 := HS.out.free 4; have zf5 := HS.out.free 5; have zf6 := HS.out.free 6; have zf7 := HS.out.free 7; have zf8 := HS.out.free 8; have zf9 := HS.out.free 9; (try simp only [] at z2 z3 z4 z5 z6 z7 z8 z9 y0 y1 y2 y3))
                | (go_at_call_of 72 (Value.string sm); with_reducible refine (HK1.out _).mono ?_; rintro e wB ⟨rfl, hbB⟩; replace HS := Lib.hid (SBox.below (HS.out) hbB (SBox.lt (HS.out))); replace HB := Lib.hid (Box.below (HB.out) hbB); replace HR := Lib.hid (SBox.below (HR.out) hbB (SBox.lt (HR.out))); replace HBT := Lib.hid (bthen (HBT.out) hbB (Nat.le_refl _)); clear hbB; (try clear z2 z3 z4 z5 z6 z7 z8 z9 y0 y1 y2 y3 zf2 zf3 zf4 zf5 zf6 zf7 zf8 zf9); obtain ⟨_, _, z2, z3, z4, z5, z6, z7, z8, z9⟩ := HS.out.cells; obtain ⟨y0, y1, y2, y3⟩ := HB.out.cells; have zf2 := HS.out.free 2; have zf3 := HS.out.free 3; have zf4 := HS.out.free 4; have zf5 := HS.out.free 5; have zf6 := HS.out.free 6; have zf7 := HS.out.free 7; have zf8 := HS.out.free 8; have zf9 := HS.out.free 9; (try simp only [] at z2 z3 z4 z5 z6 z7 z8 z9 y0 y1 y2 y3))
                | (go_at_call_of 78 (Value.string sx); with_reducible refine (HN2.out _).mono ?_; rintro e wC ⟨rfl, hbC⟩; replace HS := Lib.hid (SBox.below (HS.out) hbC (SBox.lt (HS.out))); replace HB := Lib.hid (Box.below (HB.out) hbC); replace HR := Lib.hid (SBox.below (HR.out) hbC (SBox.lt (HR.out))); replace HBT := Lib.hid (bthen (HBT.out) hbC (Nat.le_refl _)); clear hbC; (try clear z2 z3 z4 z5 z6 z7 z8 z9 y0 y1 y2 y3 zf2 zf3 zf4 zf5 zf6 zf7 zf8 zf9); obtain ⟨_, _, z2, z3, z4, z5, z6, z7, z8, z9⟩ := HS.out.cells; obtain ⟨y0, y1, y2, y3⟩ := HB.out.cells; have zf2 := HS.out.free 2; have zf3 := HS.out.free 3; have zf4 := HS.out.free 4; have zf5 := HS.out.free 5; have zf6 := HS.out.free 6; have zf7 := HS.out.free 7; have zf8 := HS.out.free 8; have zf9 := HS.out.free 9; (try simp only [] at z2 z3 z4 z5 z6 z7 z8 z9 y0 y1 y2 y3))
                | (go_at_call_of 72 (Value.string sx); with_reducible refine (HK2.out _).mono ?_; rintro e wD ⟨rfl, hbD⟩; replace HS := Lib.hid (SBox.below (HS.out) hbD (SBox.lt (HS.out))); replace HB := Lib.hid (Box.below (HB.out) hbD); replace HR := Lib.hid (SBox.below (HR.out) hbD (SBox.lt (HR.out))); replace HBT := Lib.hid (bthen (HBT.out) hbD (Nat.le_refl _)); clear hbD; (try clear z2 z3 z4 z5 z6 z7 z8 z9 y0 y1 y2 y3 zf2 zf3 zf4 zf5 zf6 zf7 zf8 zf9); obtain ⟨_, _, z2, z3, z4, z5, z6, z7, z8, z9⟩ := HS.out.cells; obtain ⟨y0, y1, y2, y3⟩ := HB.out.cells; have zf2 := HS.out.free 2; have zf3 := HS.out.free 3; have zf4 := HS.out.free 4; have zf5 := HS.out.free 5; have zf6 := HS.out.free 6; have zf7 := HS.out.free 7; have zf8 := HS.out.free 8; have zf9 := HS.out.free 9; (try simp only [] at z2 z3 z4 z5 z6 z7 z8 z9 y0 y1 y2 y3)))
              clear z2 z3 z4 z5 z6 z7 z8 z9 y0 y1 y2 y3 zf2 zf3 zf4 zf5 zf6 zf7 zf8 zf9 HN1 HN2 HK1 HK2
              go_roundw
              case rel => exact ⟨k + 1, by omega, by go_num, (((((HR.out).other hne).other hne).other hne).other hne), by rw [HE.out]; exact HS.out.put3 ⟨ku, iu, bu, su⟩, below_put4 HBT.out (Nat.le_succ _) 6 7 8 9 _ _ _ _⟩
              case measure => simp [intOf]; omega
            · have h2' : decide (0 < r2) = false := decide_eq_false h2
              simp only [h1, h2, Bool.false_or, if_false, Bool.false_eq_true, decide_false] at HE
              clear h1 h2
              go_wp2_with (first
                | (go_at_call_of 78 (Value.string sm); with_reducible refine (HN1.out _).mono ?_; rintro e wA ⟨rfl, hbA⟩; replace HS := Lib.hid (SBox.below (HS.out) hbA (SBox.lt (HS.out))); replace HB := Lib.hid (Box.below (HB.out) hbA); replace HR := Lib.hid (SBox.below (HR.out) hbA (SBox.lt (HR.out))); replace HBT := Lib.hid (bthen (HBT.out) hbA (Nat.le_refl _)); clear hbA; (try clear z2 z3 z4 z5 z6 z7 z8 z9 y0 y1 y2 y3 zf2 zf3 zf4 zf5 zf6 zf7 zf8 zf9); obtain ⟨_, _, z2, z3, z4, z5, z6, z7, z8, z9⟩ := HS.out.cells; obtain ⟨y0, y1, y2, y3⟩ := HB.out.cells; have zf2 := HS.out.free 2; have zf3 := HS.out.free 3; have zf4 := HS.out.free 4; have zf5 := HS.out.free 5; have zf6 := HS.out.free 6; have zf7 := HS.out.free 7; have zf8 := HS.out.free 8; have zf9 := HS.out.free 9; (try simp only [] at z2 z3 z4 z5 z6 z7 z8 z9 y0 y1 y2 y3))
                | (go_at_call_of 72 (Value.string sm); with_reducible refine (HK1.out _).mono ?_; rintro e wB ⟨rfl, hbB⟩; replace HS := Lib.hid (SBox.below (HS.out) hbB (SBox.lt (HS.out))); replace HB := Lib.hid (Box.below (HB.out) hbB); replace HR := Lib.hid (SBox.below (HR.out) hbB (SBox.lt (HR.out))); replace HBT := Lib.hid (bthen (HBT.out) hbB (Nat.le_refl _)); clear hbB; (try clear z2 z3 z4 z5 z6 z7 z8 z9 y0 y1 y2 y3 zf2 zf3 zf4 zf5 zf6 zf7 zf8 zf9); obtain ⟨_, _, z2, z3, z4, z5, z6, z7, z8, z9⟩ := HS.out.cells; obtain ⟨y0, y1, y2, y3⟩ := HB.out.cells; have zf2 := HS.out.free 2; have zf3 := HS.out.free 3; have zf4 := HS.out.free 4; have zf5 := HS.out.free 5; have zf6 := HS.out.free 6; have zf7 := HS.out.free 7; have zf8 := HS.out.free 8; have zf9 := HS.out.free 9; (try simp only [] at z2 z3 z4 z5 z6 z7 z8 z9 y0 y1 y2 y3))
                | (go_at_call_of 78 (Value.string sx); with_reducible refine (HN2.out _).mono ?_; rintro e wC ⟨rfl, hbC⟩; replace HS := Lib.hid (SBox.below (HS.out) hbC (SBox.lt (HS.out))); replace HB := Lib.hid (Box.below (HB.out) hbC); replace HR := Lib.hid (SBox.below (HR.out) hbC (SBox.lt (HR.out))); replace HBT := Lib.hid (bthen (HBT.out) hbC (Nat.le_refl _)); clear hbC; (try clear z2 z3 z4 z5 z6 z7 z8 z9 y0 y1 y2 y3 zf2 zf3 zf4 zf5 zf6 zf7 zf8 zf9); obtain ⟨_, _, z2, z3, z4, z5, z6, z7, z8, z9⟩ := HS.out.cells; obtain ⟨y0, y1, y2, y3⟩ := HB.out.cells; have zf2 := HS.out.free 2; have zf3 := HS.out.free 3; have zf4 := HS.out.free 4; have zf5 := HS.out.free 5; have zf6 := HS.out.free 6; have zf7 := HS.out.free 7; have zf8 := HS.out.free 8; have zf9 := HS.out.free 9; (try simp only [] at z2 z3 z4 z5 z6 z7 z8 z9 y0 y1 y2 y3))
                | (go_at_call_of 72 (Value.string sx); with_reducible refine (HK2.out _).mono ?_; rintro e wD ⟨rfl, hbD⟩; replace HS := Lib.hid (SBox.below (HS.out) hbD (SBox.lt (HS.out))); replace HB := Lib.hid (Box.below (HB.out) hbD); replace HR := Lib.hid (SBox.below (HR.out) hbD (SBox.lt (HR.out))); replace HBT := Lib.hid (bthen (HBT.out) hbD (Nat.le_refl _)); clear hbD; (try clear z2 z3 z4 z5 z6 z7 z8 z9 y0 y1 y2 y3 zf2 zf3 zf4 zf5 zf6 zf7 zf8 zf9); obtain ⟨_, _, z2, z3, z4, z5, z6, z7, z8, z9⟩ := HS.out.cells; obtain ⟨y0, y1, y2, y3⟩ := HB.out.cells; have zf2 := HS.out.free 2; have zf3 := HS.out.free 3; have zf4 := HS.out.free 4; have zf5 := HS.out.free 5; have zf6 := HS.out.free 6; have zf7 := HS.out.free 7; have zf8 := HS.out.free 8; have zf9 := HS.out.free 9; (try simp only [] at z2 z3 z4 z5 z6 z7 z8 z9 y0 y1 y2 y3)))
              clear z2 z3 z4 z5 z6 z7 z8 z9 y0 y1 y2 y3 zf2 zf3 zf4 zf5 zf6 zf7 zf8 zf9 HN1 HN2 HK1 HK2
              go_roundw
              case rel => exact ⟨k + 1, by omega, by go_num, HR.out, by rw [HE.out]; exact HS.out, HBT.out⟩
              case measure => simp [intOf]; omega
    · obtain rfl : n = k := by omega
      have htk : vs.take n = vs := List.take_of_length_le (by rw [hv.1]; exact Nat.le_refl _)
      rw [htk] at hS
      obtain ⟨z0, z1, z2, z3, z4, z5, z6, z7, z8, z9⟩ := hS.cells
      obtain ⟨y0, y1, y2, y3, y4, y5, y6, y7, y8, y9⟩ := hS0.cells
      have yf0 := hS0.free 0; have yf1 := hS0.free 1; have yf2 := hS0.free 2; have yf3 := hS0.free 3; have yf4 := hS0.free 4
      have yf5 := hS0.free 5; have yf6 := hS0.free 6; have yf7 := hS0.free 7; have yf8 := hS0.free 8; have yf9 := hS0.free 9
      have HS0 := Lib.hid hS0; clear hS0 hS hv htk
      go_wp2
      exact ret_sbox (HS0.out.put c _ _ _) rfl rfl rfl ⟨rfl, below_put10 hb (Nat.le_refl _) _ _ _ _ _ _ _ _ _ _⟩
end Go.Proofs.Ytkkpcdpoldjmkaa.Stats
