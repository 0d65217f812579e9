/-
  THE WALK of boathouseref12.Agg.
-/
import Derived.Test.YtkkpcdpoldjmkaaAggRef
namespace Go.Proofs.Ytkkpcdpoldjmkaa.Agg
open Go.RowKit ValMath Vals Sl Stats

theorem some_le (vs : List Val) : some_ vs ≤ vs.length := by unfold some_; exact List.length_filter_le _ _
theorem sum_odd {vs : List Val} {v : Val} {k : Nat} (hv : vs[k]? = some v) (hn : null v = false) (hk : v.k ≠ 1) : agg 2 vs = (nul, 1701) := by rw [agg_two]; exact odd_take hv hn hk
theorem sum_none {vs : List Val} (h : odd_ vs = false) (h0 : some_ vs = 0) : agg 2 vs = (nul, 0) := by
  rw [agg_two]; unfold aggSum; rw [h, if_neg (by simp), if_pos h0]
theorem sum_fits {vs : List Val} (h : odd_ vs = false) (h0 : some_ vs ≠ 0) (hf : fitsT vs = true) : agg 2 vs = (number (total vs), 0) := by
  unfold fitsT at hf
  have hf := of_decide_eq_true hf
  rw [agg_two]; unfold aggSum; rw [h, if_neg (by simp), if_neg h0, if_neg (by omega)]
theorem sum_over {vs : List Val} (h : odd_ vs = false) (h0 : some_ vs ≠ 0) (hf : fitsT vs = false) : agg 2 vs = (nul, 1702) := by
  unfold fitsT at hf
  have hf := of_decide_eq_false hf
  rw [agg_two]; unfold aggSum; rw [h, if_neg (by simp), if_neg h0, if_pos (by omega)]

set_option maxRecDepth 100000 in
set_option maxHeartbeats 8000000 in
theorem refAgg_any (kind : Int) (A : Option Addr) (n c : Nat) (vs : List Val) (w : World) (hv : VSl w A n vs) (hn : n ≤ 140737488355328) (hs : ∀ v ∈ vs, v.s.size ≤ maxLen) (hf : ∀ v ∈ vs, -9223372036854775808 ≤ v.i ∧ v.i < 9223372036854775808) :
    Calls Try.prog 117 #[.int .i64 kind, .slice A n c] w fun e w' => e = .returned (.tuple #[vagg (agg kind vs).1, .int .i64 ((agg kind vs).2 : Nat)]) ∧ Below w.heap.size w w' := by
  obtain ⟨R, hR⟩ : ∃ R, agg kind vs = R := ⟨_, rfl⟩
  rw [hR]
  have HR := Lib.hid hR; clear hR
  by_cases hko : kind < 0 ∨ 4 < kind
  · have HOO := Lib.hid (agg_other vs hko)
    clear hs hf
    rcases hko with k0 | k0
    · have k1 : kind < 0 := k0
      clear k0
      go_enter Try.func117, Try.ntmps117
      go_wp2
      exact ret_box_tmp (Box.new w nul) rfl rfl rfl ⟨by rw [← HR.out, HOO.out]; rfl, Vals.one_new _⟩
    · have k1 : ¬ kind < 0 := by omega
      go_enter Try.func117, Try.ntmps117
      go_wp2
      exact ret_box_tmp (Box.new w nul) rfl rfl rfl ⟨by rw [← HR.out, HOO.out]; rfl, Vals.one_new _⟩
  have k1 : ¬ kind < 0 := by omega
  have k2 : ¬ 4 < kind := by omega
  clear hko
  have hlen : vs.length = n := hv.1
  have hst := fun w h => statR_any 0 A n c vs w h (by unfold maxLen; omega) hs
  have hsm := fun w h => sumR_any A n c vs w h hn hf
  clear hs hf
  have h3 := agg_3 vs
  have h4 := agg_4 vs
  generalize (stat vs).nulls = q at *
  generalize (stat vs).mn = mn at *
  generalize (stat vs).mx = mx at *
  obtain ⟨km, im, bm, sm⟩ := mn
  obtain ⟨kx, ix, bx, sx⟩ := mx
  simp only [sagg] at hst
  have HST := Lib.hid hst; clear hst
  have HSM := Lib.hid hsm; clear hsm
  have HA := Lib.hid (And.intro h3 (And.intro h4 hlen)); clear h3 h4 hlen
  have HX := Lib.hid (Box.new w nul)
  have HBT := Lib.hid (Vals.one_new (w := w) (.cells #[.int .i64 0, .int .i64 0, .bool false, .string { data := #[] }] 52))
  have HV := Lib.hid (hv.below HBT.out)
  go_enter Try.func117, Try.ntmps117
  go_wp2_with (go_at_call 74; (with_reducible refine (HST.out _ HV.out).mono ?_); rintro e w1 ⟨rfl, hb1⟩)
  obtain ⟨ws, hws⟩ : ∃ ws, ws = w1.alloc (.cells #[.int .i64 0, .int .i64 q, .int .i64 km, .int .i64 im, .bool bm, .string sm, .int .i64 kx, .int .i64 ix, .bool bx, .string sx] 58) := ⟨_, rfl⟩
  have HX1 := Lib.hid (show Box ws w.heap.size nul by rw [hws]; exact (HX.out.below hb1).alloc _)
  have HS1 := Lib.hid (show SBox ws w1.heap.size 0 q ⟨km, im, bm, sm⟩ ⟨kx, ix, bx, sx⟩ by rw [hws]; exact SBox.new w1 _ rfl 0 q ⟨km, im, bm, sm⟩ ⟨kx, ix, bx, sx⟩)
  have HBT1 := Lib.hid (show Below w.heap.size w ws by rw [hws]; exact (bthen HBT.out hb1 (Nat.le_refl _)).alloc (Nat.le_trans HBT.out.size hb1.size) _)
  have HV1 := Lib.hid (show VSl ws A n vs by rw [hws]; exact (HV.out.below hb1).alloc _)
  rw [← hws]
  generalize w1.heap.size = gs at *
  clear hws hb1 HX HBT HV
  have HBT := HBT1; clear HBT1
  have HVS := HV1; clear HV1
  go_loopw [6, 8] (fun sv iv wr => ∃ k : Nat, k ≤ n ∧ iv = .int .i64 k ∧ sv = .int .i64 (some_ (vs.take k) : Nat) ∧ Hid (kind = 2 → odd_ (vs.take k) = false) ∧ Below ws.heap.size ws wr) (fun _ iv _ => n - (intOf iv).toNat)
  case atStart => exact ⟨0, Nat.zero_le _, rfl, rfl, Lib.hid (fun _ => rfl), Below.refl _ _⟩
  case round =>
    obtain ⟨k, hk, rfl, rfl, ho, hb⟩ := hrel
    have hsl := some_le (vs.take k)
    have hsl2 : (vs.take k).length ≤ k := List.length_take_le _ _
    by_cases hkn : k < n
    · obtain ⟨b1, o1, v, hv1, rfl, hb1, c0, c1, c2, c3⟩ := (HVS.out.below hb).at_ hkn
      have hN := null_any v
      have H4 := Lib.hid (show At4 wr b1 (o1 + k * 4) v from ⟨c0, c1, c2, c3⟩)
      have H4l := Lib.hid hb1
      have e := take_more hv1
      have esn := some_snoc (vs.take k) v
      have eod := odd_snoc (vs.take k) v
      rw [← e] at esn eod
      have hod := sum_odd hv1
      have HV1 := Lib.hid hv1; clear hv1 e
      generalize some_ (vs.take k) = m at *
      cases hnv : null v with
      | true =>
        rw [hnv] at hN esn eod
        simp only [if_true, Nat.add_zero] at esn
        have ho2 : kind = 2 → odd_ (vs.take (k + 1)) = false := fun h => by rw [eod, ho.out h]; rfl
        have HO2 := Lib.hid (And.intro ho2 esn)
        clear ho2 esn eod hod hnv
        obtain ⟨kv, iv, bv, sv⟩ := v
        simp only [vagg] at c0 c1 c2 c3 hN
        have HN := Lib.hid hN; clear hN
        go_wp2_with (go_at_call 78; (with_reducible refine (HN.out _).mono ?_); rintro e w2 ⟨rfl, hbn⟩)
        go_roundw
        case rel => exact ⟨k + 1, by omega, by go_num, by rw [HO2.out.2], Lib.hid HO2.out.1, bthen hb hbn (Nat.le_refl _)⟩
        case measure => simp [intOf]; omega
      | false =>
        rw [hnv] at hN esn eod
        simp only [Bool.false_eq_true, if_false] at esn
        have hoo := fun h => hod hnv h
        clear hnv hod
        by_cases hk2 : kind = 2
        · have hkb : (kind == 2) = true := by simpa using hk2
          have HK2 := Lib.hid hk2; clear hk2
          by_cases hv1 : v.k = 1
          · have ho2 : kind = 2 → odd_ (vs.take (k + 1)) = false := fun h => by rw [eod, ho.out h, hv1]; rfl
            have HO2 := Lib.hid (And.intro ho2 esn)
            clear ho2 esn eod hoo
            obtain ⟨kv, iv, bv, sv⟩ := v
            simp only [vagg] at c0 c1 c2 c3 hN hv1
            subst hv1
            have HN := Lib.hid hN; clear hN
            go_wp2_with (go_at_call 78; (with_reducible refine (HN.out _).mono ?_); rintro e w2 ⟨rfl, hbn⟩; have H4n := Lib.hid (H4.out.below hbn H4l.out); clear c0 c1 c2 c3; obtain ⟨c0, c1, c2, c3⟩ := H4n.out; (try simp only [] at c0 c1 c2 c3))
            go_roundw
            case rel => exact ⟨k + 1, by omega, by go_num, by rw [HO2.out.2]; go_num, Lib.hid HO2.out.1, bthen hb hbn (Nat.le_refl _)⟩
            case measure => simp [intOf]; omega
          · have HOO0 := Lib.hid (hoo hv1)
            have hv1' : (v.k != 1) = true := by rw [bne_iff_ne]; exact hv1
            have HOO := Lib.hid (show agg kind vs = (nul, 1701) by rw [HK2.out]; exact HOO0.out)
            clear esn eod hoo HOO0
            obtain ⟨kv, iv, bv, sv⟩ := v
            simp only [vagg] at c0 c1 c2 c3 hN hv1 hv1'
            have HN := Lib.hid hN; clear hN
            go_wp2_with (go_at_call 78; (with_reducible refine (HN.out _).mono ?_); rintro e w2 ⟨rfl, hbn⟩; have H4n := Lib.hid (H4.out.below hbn H4l.out); clear c0 c1 c2 c3; obtain ⟨c0, c1, c2, c3⟩ := H4n.out; (try simp only [] at c0 c1 c2 c3); have HX := Lib.hid ((HX1.out.below hb).below hbn); replace HBT := Lib.hid (bthen (bthen HBT.out hb (Nat.le_refl _)) hbn (Nat.le_refl _)); obtain ⟨z0, z1, z2, z3⟩ := HX.out.cells; have zf0 := HX.out.free 0; have zf1 := HX.out.free 1; have zf2 := HX.out.free 2; have zf3 := HX.out.free 3; (try simp only [nul] at z0 z1 z2 z3))
            exact ret_box_tmp (HX.out.put (u := nul)) rfl rfl rfl ⟨by rw [← HR.out, HOO.out]; rfl, below_put4 HBT.out (Nat.le_refl _) 0 1 2 3 _ _ _ _⟩
        · have ho2 : kind = 2 → odd_ (vs.take (k + 1)) = false := fun h => absurd h hk2
          have HO2 := Lib.hid (And.intro ho2 esn)
          clear ho2 esn eod hoo
          obtain ⟨kv, iv, bv, sv⟩ := v
          simp only [vagg] at c0 c1 c2 c3 hN
          have HN := Lib.hid hN; clear hN
          go_wp2_with (go_at_call 78; (with_reducible refine (HN.out _).mono ?_); rintro e w2 ⟨rfl, hbn⟩)
          go_roundw
          case rel => exact ⟨k + 1, by omega, by go_num, by rw [HO2.out.2]; go_num, Lib.hid HO2.out.1, bthen hb hbn (Nat.le_refl _)⟩
          case measure => simp [intOf]; omega
    · obtain rfl : n = k := by omega
      have htk : vs.take n = vs := List.take_of_length_le (by rw [HA.out.2.2]; exact Nat.le_refl _)
      rw [htk] at hsl hsl2 ho ⊢
      have hof := ho.out
      replace HBT := Lib.hid (bthen HBT.out hb (Nat.le_refl _))
      have HX := Lib.hid (HX1.out.below hb)
      have HS := Lib.hid (HS1.out.below hb HS1.out.lt)
      have HVX := Lib.hid (HVS.out.below hb)
      clear HX1 HS1 HVS hb ho htk
      obtain ⟨y0, y1, y2, y3, y4, y5, y6, y7, y8, y9⟩ := HS.out.cells
      simp only [] at y0 y1 y2 y3 y4 y5 y6 y7 y8 y9
      obtain ⟨z0, z1, z2, z3⟩ := HX.out.cells; have zf0 := HX.out.free 0; have zf1 := HX.out.free 1; have zf2 := HX.out.free 2; have zf3 := HX.out.free 3; (try simp only [nul] at z0 z1 z2 z3)
      have h1 := agg_1 vs
      have hs1 : odd_ vs = false → some_ vs = 0 → agg 2 vs = (nul, 0) := sum_none
      have hs2 : odd_ vs = false → some_ vs ≠ 0 → fitsT vs = true → agg 2 vs = (number (total vs), 0) := sum_fits
      have hs3 : odd_ vs = false → some_ vs ≠ 0 → fitsT vs = false → agg 2 vs = (nul, 1702) := sum_over
      generalize some_ vs = m at *
      have HH := Lib.hid (And.intro h1 (And.intro hs1 (And.intro hs2 hs3))); clear h1 hs1 hs2 hs3
      have hks : kind = 0 ∨ kind = 1 ∨ kind = 2 ∨ kind = 3 ∨ kind = 4 := by omega
      rcases hks with rfl | rfl | rfl | rfl | rfl
      · have HOO := Lib.hid (agg_0 vs)
        clear hof
        go_wp2
        exact ret_box_tmp (HX.out.put (u := nul)) rfl rfl rfl ⟨by rw [← HR.out, HOO.out]; rfl, below_put4 HBT.out (Nat.le_refl _) 0 1 2 3 _ _ _ _⟩
      · have HOO := Lib.hid HH.out.1
        clear hof
        go_wp2
        exact ret_box_tmp (HX.out.put (u := (number (m : Int)))) rfl rfl rfl ⟨by rw [← HR.out, HOO.out]; rfl, below_put4 HBT.out (Nat.le_refl _) 0 1 2 3 _ _ _ _⟩
      · have hodd := hof rfl
        clear hof
        by_cases hm : m = 0
        · have HOO := Lib.hid (HH.out.2.1 hodd hm)
          subst hm
          go_wp2
          exact ret_box_tmp (HX.out.put (u := nul)) rfl rfl rfl ⟨by rw [← HR.out, HOO.out]; rfl, below_put4 HBT.out (Nat.le_refl _) 0 1 2 3 _ _ _ _⟩
        · have g2 := HH.out.2.2.1 hodd hm
          have g3 := HH.out.2.2.2 hodd hm
          have HG := Lib.hid (And.intro g2 g3); clear g2 g3
          clear hodd y0 y1 y2 y3 y4 y5 y6 y7 y8 y9
          have hsm := fun w h => HSM.out w h
          cases hft : fitsT vs with
          | true =>
            have HOO := Lib.hid (HG.out.1 hft)
            rw [hft] at hsm
            have HSQ := Lib.hid hsm; clear hsm hft
            go_wp2_with (go_at_call 158; (with_reducible refine (HSQ.out _ HVX.out).mono ?_); rintro e w2 ⟨⟨X, rfl, hX⟩, hbn⟩; obtain rfl := hX rfl; replace HX := Lib.hid (HX.out.below hbn); replace HBT := Lib.hid (bthen HBT.out hbn (Nat.le_refl _)); clear z0 z1 z2 z3 zf0 zf1 zf2 zf3; obtain ⟨z0, z1, z2, z3⟩ := HX.out.cells; have zf0 := HX.out.free 0; have zf1 := HX.out.free 1; have zf2 := HX.out.free 2; have zf3 := HX.out.free 3; (try simp only [nul] at z0 z1 z2 z3))
            exact ret_box_tmp (HX.out.put (u := (number (total vs)))) rfl rfl rfl ⟨by rw [← HR.out, HOO.out]; rfl, below_put4 HBT.out (Nat.le_refl _) 0 1 2 3 _ _ _ _⟩
          | false =>
            have HOO := Lib.hid (HG.out.2 hft)
            rw [hft] at hsm
            have HSQ := Lib.hid hsm; clear hsm hft
            go_wp2_with (go_at_call 158; (with_reducible refine (HSQ.out _ HVX.out).mono ?_); rintro e w2 ⟨⟨X, rfl, _⟩, hbn⟩; replace HX := Lib.hid (HX.out.below hbn); replace HBT := Lib.hid (bthen HBT.out hbn (Nat.le_refl _)); clear z0 z1 z2 z3 zf0 zf1 zf2 zf3; obtain ⟨z0, z1, z2, z3⟩ := HX.out.cells; have zf0 := HX.out.free 0; have zf1 := HX.out.free 1; have zf2 := HX.out.free 2; have zf3 := HX.out.free 3; (try simp only [nul] at z0 z1 z2 z3))
            exact ret_box_tmp (HX.out.put (u := nul)) rfl rfl rfl ⟨by rw [← HR.out, HOO.out]; rfl, below_put4 HBT.out (Nat.le_refl _) 0 1 2 3 _ _ _ _⟩
      · have HOO := Lib.hid HA.out.1
        clear hof
        go_wp2
        exact ret_box_tmp (HX.out.put (u := (⟨km, im, bm, sm⟩ : Val))) rfl rfl rfl ⟨by rw [← HR.out, HOO.out]; rfl, below_put4 HBT.out (Nat.le_refl _) 0 1 2 3 _ _ _ _⟩
      · have HOO := Lib.hid HA.out.2.1
        clear hof
        go_wp2
        exact ret_box_tmp (HX.out.put (u := (⟨kx, ix, bx, sx⟩ : Val))) rfl rfl rfl ⟨by rw [← HR.out, HOO.out]; rfl, below_put4 HBT.out (Nat.le_refl _) 0 1 2 3 _ _ _ _⟩
end Go.Proofs.Ytkkpcdpoldjmkaa.Agg
