/-
  THE WALK of boathouseref7.Both. (Printed by wip/tools/genboth.py.)
-/
import Derived.Test.YtkkpcdpoldjmkaaStatJoin
import Derived.Test.YtkkpcdpoldjmkaaStatR
import Derived.Test.YtkkpcdpoldjmkaaTake
namespace Go.Proofs.Ytkkpcdpoldjmkaa.Stats
open Go.RowKit ValMath Vals Sl
theorem lesser_cmp (a b : Val) : lesser a b = if (null a || (!null b && decide (cmp b (clean a) < 0))) = true then clean b else clean a := by
  have : decide (cmp b (clean a) < 0) = less b a := by rw [← less_clean_right b a]; by_cases h : less b (clean a) = true <;> simp [h, cmp_neg]
  rw [this]; rfl
theorem greater_cmp (a b : Val) : greater a b = if (null a || (!null b && decide (0 < cmp b (clean a)))) = true then clean b else clean a := by
  have : decide (0 < cmp b (clean a)) = less a b := by rw [← less_clean_left a b]; by_cases h : less (clean a) b = true <;> simp [h, cmp_pos]
  rw [this]; rfl
set_option maxRecDepth 20000 in
set_option maxHeartbeats 8000000 in
theorem both_any (c1 n1 c2 n2 q : Int) (mn1 mx1 mn2 mx2 : Val) (w : World) (hq : IntKind.i64.wrap (n1 + n2) = q) (hs1 : mn1.s.size ≤ maxLen) (hs2 : mx1.s.size ≤ maxLen) (hs3 : mn2.s.size ≤ maxLen) (hs4 : mx2.s.size ≤ maxLen) :
    Calls Try.prog 76 #[sagg c1 n1 mn1 mx1, sagg c2 n2 mn2 mx2] w fun e w' => e = .returned (sagg c1 q (lesser mn1 mn2) (greater mx1 mx2)) ∧ Below w.heap.size w w' := by
  have hL := lesser_cmp mn1 mn2
  have hG := greater_cmp mx1 mx2
  have hC1 := clean_any mn1
  have hC3 := clean_any mx1
  have hC2 := clean_any mn2
  have hC4 := clean_any mx2
  have hN1 := null_any (clean mn1)
  have hN2 := null_any mn2
  have hN3 := null_any (clean mx1)
  have hN4 := null_any mx2
  rw [null_clean] at hN1 hN3
  have hK1 := fun w => cmp_any mn2 (clean mn1) w hs3 (Nat.le_trans (clean_size mn1) hs1)
  have hK2 := fun w => cmp_any mx2 (clean mx1) w hs4 (Nat.le_trans (clean_size mx1) hs2)
  generalize lesser mn1 mn2 = l at hL ⊢
  generalize greater mx1 mx2 = g at hG ⊢
  generalize cmp mn2 (clean mn1) = r1 at *
  generalize cmp mx2 (clean mx1) = r2 at *
  generalize null mn1 = na at *
  generalize null mx1 = nx at *
  generalize null mn2 = nb at *
  generalize null mx2 = ny at *
  clear hs1 hs2 hs3 hs4
  generalize clean mn1 = ca at *
  generalize clean mx1 = cx at *
  generalize clean mn2 = cb at *
  generalize clean mx2 = cy at *
  obtain ⟨ka, ia, ba, sa⟩ := mn1
  obtain ⟨kx, ix, bx, sx⟩ := mx1
  obtain ⟨kb, ib, bb, sb⟩ := mn2
  obtain ⟨ky, iy, b_y, sy⟩ := mx2
  obtain ⟨kd, id, bd, sd⟩ := ca
  obtain ⟨ke, ie, be, se⟩ := cx
  obtain ⟨kf, jf, bf, sf⟩ := cb
  obtain ⟨kh, ih, bh, sh⟩ := cy
  simp only [vagg] at hC1 hC2 hC3 hC4 hN1 hN2 hN3 hN4 hK1 hK2
  have HC1 := Lib.hid hC1; clear hC1
  have HC2 := Lib.hid hC2; clear hC2
  have HC3 := Lib.hid hC3; clear hC3
  have HC4 := Lib.hid hC4; clear hC4
  have HN1 := Lib.hid hN1; clear hN1
  have HN2 := Lib.hid hN2; clear hN2
  have HN3 := Lib.hid hN3; clear hN3
  have HN4 := Lib.hid hN4; clear hN4
  have HK1 := Lib.hid hK1; clear hK1
  have HK2 := Lib.hid hK2; clear hK2
  have HE := Lib.hid (And.intro hL hG); clear hL hG
  go_enter Try.func76, Try.ntmps76
  go_upto_region 1 with fail
  have h1 : SBox (((w.alloc (.cells #[.int .i64 c1, .int .i64 n1, .int .i64 ka, .int .i64 ia, .bool ba, .string sa, .int .i64 kx, .int .i64 ix, .bool bx, .string sx] 58)).alloc (.cells #[.int .i64 c2, .int .i64 n2, .int .i64 kb, .int .i64 ib, .bool bb, .string sb, .int .i64 ky, .int .i64 iy, .bool b_y, .string sy] 58)).alloc (.cells #[.int .i64 0, .int .i64 0, .int .i64 0, .int .i64 0, .bool false, .string { data := #[] }, .int .i64 0, .int .i64 0, .bool false, .string { data := #[] }] 58)) w.heap.size c1 n1 ⟨ka, ia, ba, sa⟩ ⟨kx, ix, bx, sx⟩ := ((SBox.new w _ rfl c1 n1 ⟨ka, ia, ba, sa⟩ ⟨kx, ix, bx, sx⟩).alloc _).alloc _
  have h2 : SBox (((w.alloc (.cells #[.int .i64 c1, .int .i64 n1, .int .i64 ka, .int .i64 ia, .bool ba, .string sa, .int .i64 kx, .int .i64 ix, .bool bx, .string sx] 58)).alloc (.cells #[.int .i64 c2, .int .i64 n2, .int .i64 kb, .int .i64 ib, .bool bb, .string sb, .int .i64 ky, .int .i64 iy, .bool b_y, .string sy] 58)).alloc (.cells #[.int .i64 0, .int .i64 0, .int .i64 0, .int .i64 0, .bool false, .string { data := #[] }, .int .i64 0, .int .i64 0, .bool false, .string { data := #[] }] 58)) (w.heap.size + 1) c2 n2 ⟨kb, ib, bb, sb⟩ ⟨ky, iy, b_y, sy⟩ := (SBox.new _ _ (by simp) c2 n2 ⟨kb, ib, bb, sb⟩ ⟨ky, iy, b_y, sy⟩).alloc _
  have h3 : SBox (((w.alloc (.cells #[.int .i64 c1, .int .i64 n1, .int .i64 ka, .int .i64 ia, .bool ba, .string sa, .int .i64 kx, .int .i64 ix, .bool bx, .string sx] 58)).alloc (.cells #[.int .i64 c2, .int .i64 n2, .int .i64 kb, .int .i64 ib, .bool bb, .string sb, .int .i64 ky, .int .i64 iy, .bool b_y, .string sy] 58)).alloc (.cells #[.int .i64 0, .int .i64 0, .int .i64 0, .int .i64 0, .bool false, .string { data := #[] }, .int .i64 0, .int .i64 0, .bool false, .string { data := #[] }] 58)) (w.heap.size + 1 + 1) 0 0 nul nul := SBox.new _ _ (by simp) _ _ nul nul
  have hb : Below w.heap.size w (((w.alloc (.cells #[.int .i64 c1, .int .i64 n1, .int .i64 ka, .int .i64 ia, .bool ba, .string sa, .int .i64 kx, .int .i64 ix, .bool bx, .string sx] 58)).alloc (.cells #[.int .i64 c2, .int .i64 n2, .int .i64 kb, .int .i64 ib, .bool bb, .string sb, .int .i64 ky, .int .i64 iy, .bool b_y, .string sy] 58)).alloc (.cells #[.int .i64 0, .int .i64 0, .int .i64 0, .int .i64 0, .bool false, .string { data := #[] }, .int .i64 0, .int .i64 0, .bool false, .string { data := #[] }] 58)) := Vals.three_new _ _ _
  generalize (((w.alloc (.cells #[.int .i64 c1, .int .i64 n1, .int .i64 ka, .int .i64 ia, .bool ba, .string sa, .int .i64 kx, .int .i64 ix, .bool bx, .string sx] 58)).alloc (.cells #[.int .i64 c2, .int .i64 n2, .int .i64 kb, .int .i64 ib, .bool bb, .string sb, .int .i64 ky, .int .i64 iy, .bool b_y, .string sy] 58)).alloc (.cells #[.int .i64 0, .int .i64 0, .int .i64 0, .int .i64 0, .bool false, .string { data := #[] }, .int .i64 0, .int .i64 0, .bool false, .string { data := #[] }] 58)) = wz at *
  have hSK := keepJ h1.drew h2.drew
  have H1 := Lib.hid h1; clear h1
  have H2 := Lib.hid h2; clear h2
  have H3 := Lib.hid h3; clear h3
  have HBT := Lib.hid hb; clear hb
  go_cut [5] (fun v5 wx => ∃ g, v5 = .pointer (some ⟨g, 0, none⟩) ∧ w.heap.size + 1 + 1 < g ∧ SBox wx g c1 q ⟨kd, id, bd, sd⟩ ⟨ke, ie, be, se⟩ ∧ SBox wx (w.heap.size + 1) c2 n2 ⟨kb, ib, bb, sb⟩ ⟨ky, iy, b_y, sy⟩ ∧ SBox wx (w.heap.size + 1 + 1) 0 0 nul nul ∧ Below w.heap.size w wx)
  case first =>
    replace H1 := Lib.hid H1.out.drew
    replace H2 := Lib.hid H2.out.drew
    replace H3 := Lib.hid H3.out.drew
    replace HBT := Lib.hid HBT.out.drew
    refine wp_region_any (by kernel_rfl) ?_
    change wpAny _ _ _ _ _ _ _ (World.drew _)
    generalize wz.drew = wy at *
    refine any_of_L (S := fun w' => (w'.cell? ⟨w.heap.size, 0, none⟩ = some (.int .i64 c1) ∧ w'.cell? ⟨w.heap.size, 1, none⟩ = some (.int .i64 n1) ∧ w'.cell? ⟨w.heap.size, 2, none⟩ = some (.int .i64 ka) ∧ w'.cell? ⟨w.heap.size, 3, none⟩ = some (.int .i64 ia) ∧ w'.cell? ⟨w.heap.size, 4, none⟩ = some (.bool ba) ∧ w'.cell? ⟨w.heap.size, 5, none⟩ = some (.string sa) ∧ w'.cell? ⟨w.heap.size, 6, none⟩ = some (.int .i64 kx) ∧ w'.cell? ⟨w.heap.size, 7, none⟩ = some (.int .i64 ix) ∧ w'.cell? ⟨w.heap.size, 8, none⟩ = some (.bool bx) ∧ w'.cell? ⟨w.heap.size, 9, none⟩ = some (.string sx)) ∧ (w'.cell? ⟨w.heap.size + 1, 0, none⟩ = some (.int .i64 c2) ∧ w'.cell? ⟨w.heap.size + 1, 1, none⟩ = some (.int .i64 n2) ∧ w'.cell? ⟨w.heap.size + 1, 2, none⟩ = some (.int .i64 kb) ∧ w'.cell? ⟨w.heap.size + 1, 3, none⟩ = some (.int .i64 ib) ∧ w'.cell? ⟨w.heap.size + 1, 4, none⟩ = some (.bool bb) ∧ w'.cell? ⟨w.heap.size + 1, 5, none⟩ = some (.string sb) ∧ w'.cell? ⟨w.heap.size + 1, 6, none⟩ = some (.int .i64 ky) ∧ w'.cell? ⟨w.heap.size + 1, 7, none⟩ = some (.int .i64 iy) ∧ w'.cell? ⟨w.heap.size + 1, 8, none⟩ = some (.bool b_y) ∧ w'.cell? ⟨w.heap.size + 1, 9, none⟩ = some (.string sy))) (st := [15]) _ _ _ _ ?_
    refine L_take (i := 0) (v := .pointer (some ⟨w.heap.size, 0, none⟩)) rfl (by kernel_rfl) (by kernel_rfl) (by kernel_rfl) (by kernel_rfl) (by kernel_rfl) (by kernel_rfl) (fun _ _ _ h => h) (Or.inl ⟨by rfl, fun w' hS => ?_⟩) hSK ?_
    · obtain ⟨⟨z0, z1, z2, z3, z4, z5, z6, z7, z8, z9⟩, ⟨y0, y1, y2, y3, y4, y5, y6, y7, y8, y9⟩⟩ := hS
      go_simp
    simp only [Act.put, List.setIfInBounds_toArray]
    refine L_take (i := 1) (v := .int .i64 c1) rfl (by kernel_rfl) (by kernel_rfl) (by kernel_rfl) (by kernel_rfl) (by kernel_rfl) (by kernel_rfl) (fun _ _ _ h => h) (Or.inl ⟨by rfl, fun w' hS => ?_⟩) hSK ?_
    · obtain ⟨⟨z0, z1, z2, z3, z4, z5, z6, z7, z8, z9⟩, ⟨y0, y1, y2, y3, y4, y5, y6, y7, y8, y9⟩⟩ := hS
      go_simp
    simp only [Act.put]
    refine L_take (i := 2) (v := .pointer (some ⟨w.heap.size, 1, none⟩)) rfl (by kernel_rfl) (by kernel_rfl) (by kernel_rfl) (by kernel_rfl) (by kernel_rfl) (by kernel_rfl) (fun _ _ _ h => h) (Or.inl ⟨by rfl, fun w' hS => ?_⟩) hSK ?_
    · obtain ⟨⟨z0, z1, z2, z3, z4, z5, z6, z7, z8, z9⟩, ⟨y0, y1, y2, y3, y4, y5, y6, y7, y8, y9⟩⟩ := hS
      go_simp
    simp only [Act.put]
    refine L_take (i := 3) (v := .int .i64 n1) rfl (by kernel_rfl) (by kernel_rfl) (by kernel_rfl) (by kernel_rfl) (by kernel_rfl) (by kernel_rfl) (fun _ _ _ h => h) (Or.inl ⟨by rfl, fun w' hS => ?_⟩) hSK ?_
    · obtain ⟨⟨z0, z1, z2, z3, z4, z5, z6, z7, z8, z9⟩, ⟨y0, y1, y2, y3, y4, y5, y6, y7, y8, y9⟩⟩ := hS
      go_simp
    simp only [Act.put]
    refine L_take (i := 4) (v := .pointer (some ⟨w.heap.size + 1, 1, none⟩)) rfl (by kernel_rfl) (by kernel_rfl) (by kernel_rfl) (by kernel_rfl) (by kernel_rfl) (by kernel_rfl) (fun _ _ _ h => h) (Or.inl ⟨by rfl, fun w' hS => ?_⟩) hSK ?_
    · obtain ⟨⟨z0, z1, z2, z3, z4, z5, z6, z7, z8, z9⟩, ⟨y0, y1, y2, y3, y4, y5, y6, y7, y8, y9⟩⟩ := hS
      go_simp
    simp only [Act.put]
    refine L_take (i := 5) (v := .int .i64 n2) rfl (by kernel_rfl) (by kernel_rfl) (by kernel_rfl) (by kernel_rfl) (by kernel_rfl) (by kernel_rfl) (fun _ _ _ h => h) (Or.inl ⟨by rfl, fun w' hS => ?_⟩) hSK ?_
    · obtain ⟨⟨z0, z1, z2, z3, z4, z5, z6, z7, z8, z9⟩, ⟨y0, y1, y2, y3, y4, y5, y6, y7, y8, y9⟩⟩ := hS
      go_simp
    simp only [Act.put]
    refine L_take (i := 6) (v := .int .i64 q) rfl (by kernel_rfl) (by kernel_rfl) (by kernel_rfl) (by kernel_rfl) (by kernel_rfl) (by kernel_rfl) (fun _ _ _ h => h) (Or.inl ⟨by rfl, fun w' hS => ?_⟩) hSK ?_
    · obtain ⟨⟨z0, z1, z2, z3, z4, z5, z6, z7, z8, z9⟩, ⟨y0, y1, y2, y3, y4, y5, y6, y7, y8, y9⟩⟩ := hS
      go_simp
    simp only [Act.put]
    refine L_take (i := 7) (v := .pointer (some ⟨w.heap.size, 2, none⟩)) rfl (by kernel_rfl) (by kernel_rfl) (by kernel_rfl) (by kernel_rfl) (by kernel_rfl) (by kernel_rfl) (fun _ _ _ h => h) (Or.inl ⟨by rfl, fun w' hS => ?_⟩) hSK ?_
    · obtain ⟨⟨z0, z1, z2, z3, z4, z5, z6, z7, z8, z9⟩, ⟨y0, y1, y2, y3, y4, y5, y6, y7, y8, y9⟩⟩ := hS
      go_simp
    simp only [Act.put]
    refine L_take (i := 8) (v := .agg #[.int .i64 ka, .int .i64 ia, .bool ba, .string sa]) rfl (by kernel_rfl) (by kernel_rfl) (by kernel_rfl) (by kernel_rfl) (by kernel_rfl) (by kernel_rfl) (fun _ _ _ h => h) (Or.inl ⟨by rfl, fun w' hS => ?_⟩) hSK ?_
    · obtain ⟨⟨z0, z1, z2, z3, z4, z5, z6, z7, z8, z9⟩, ⟨y0, y1, y2, y3, y4, y5, y6, y7, y8, y9⟩⟩ := hS
      go_simp
    simp only [Act.put]
    refine L_take (i := 10) (v := .pointer (some ⟨w.heap.size, 6, none⟩)) rfl (by kernel_rfl) (by kernel_rfl) (by kernel_rfl) (by kernel_rfl) (by kernel_rfl) (by kernel_rfl) (fun _ _ _ h => h) (Or.inl ⟨by rfl, fun w' hS => ?_⟩) hSK ?_
    · obtain ⟨⟨z0, z1, z2, z3, z4, z5, z6, z7, z8, z9⟩, ⟨y0, y1, y2, y3, y4, y5, y6, y7, y8, y9⟩⟩ := hS
      go_simp
    simp only [Act.put]
    refine L_take (i := 11) (v := .agg #[.int .i64 kx, .int .i64 ix, .bool bx, .string sx]) rfl (by kernel_rfl) (by kernel_rfl) (by kernel_rfl) (by kernel_rfl) (by kernel_rfl) (by kernel_rfl) (fun _ _ _ h => h) (Or.inl ⟨by rfl, fun w' hS => ?_⟩) hSK ?_
    · obtain ⟨⟨z0, z1, z2, z3, z4, z5, z6, z7, z8, z9⟩, ⟨y0, y1, y2, y3, y4, y5, y6, y7, y8, y9⟩⟩ := hS
      go_simp
    simp only [Act.put]
    refine L_two (i := 9) (j := 14) (by kernel_rfl) rfl rfl (fun K hK => ?_) (fun K hK => ?_)
    · go_simp
      go_wp2_with (go_at_call_of 71 (Value.string sa); with_reducible refine (HC1.out _).mono ?_; rintro e wK ⟨rfl, hbwK⟩)
      replace H1 := Lib.hid (H1.out.below hbwK H1.out.lt)
      replace H2 := Lib.hid (H2.out.below hbwK H2.out.lt)
      replace H3 := Lib.hid (H3.out.below hbwK H3.out.lt)
      (try replace HO := Lib.hid (HO.out.below hbwK HO.out.lt))
      replace HBT := Lib.hid (bthen HBT.out hbwK (Nat.le_refl _))
      clear hSK hbwK
      have hSK := keepJ H1.out H2.out
      refine hK.out _ _ (fun _ => hSK) ?_
      clear hK K
      refine L_two (i := 12) (j := 14) (by kernel_rfl) rfl rfl (fun K hK => ?_) (fun K hK => ?_)
      · go_simp
        go_wp2_with (go_at_call_of 71 (Value.string sx); with_reducible refine (HC3.out _).mono ?_; rintro e wL ⟨rfl, hbwL⟩)
        replace H1 := Lib.hid (H1.out.below hbwL H1.out.lt)
        replace H2 := Lib.hid (H2.out.below hbwL H2.out.lt)
        replace H3 := Lib.hid (H3.out.below hbwL H3.out.lt)
        (try replace HO := Lib.hid (HO.out.below hbwL HO.out.lt))
        replace HBT := Lib.hid (bthen HBT.out hbwL (Nat.le_refl _))
        clear hSK hbwL
        have hSK := keepJ H1.out H2.out
        refine hK.out _ _ (fun _ => hSK) ?_
        clear hK K
        refine L_take (i := 13) (v := .agg #[.int .i64 c1, .int .i64 q, .int .i64 kd, .int .i64 id, .bool bd, .string sd, .int .i64 ke, .int .i64 ie, .bool be, .string se]) rfl (by kernel_rfl) (by kernel_rfl) (by kernel_rfl) (by kernel_rfl) (by kernel_rfl) (by kernel_rfl) (fun _ _ _ h => h) (Or.inl ⟨by rfl, fun w' hS => ?_⟩) hSK ?_
        · obtain ⟨⟨z0, z1, z2, z3, z4, z5, z6, z7, z8, z9⟩, ⟨y0, y1, y2, y3, y4, y5, y6, y7, y8, y9⟩⟩ := hS
          go_simp
        simp only [Act.put]
        refine L_one (i := 14) (by kernel_rfl) rfl (fun K hK => ?_)
        go_simp
        have hlg := H3.out.lt
        have HO := Lib.hid (show SBox (wL.alloc (.cells #[.int .i64 0, .int .i64 0, .int .i64 0, .int .i64 0, .bool false, .string { data := #[] }, .int .i64 0, .int .i64 0, .bool false, .string { data := #[] }] 58)) wL.heap.size 0 0 nul nul from SBox.new wL _ rfl 0 0 nul nul)
        replace H1 := Lib.hid (H1.out.alloc (.cells #[.int .i64 0, .int .i64 0, .int .i64 0, .int .i64 0, .bool false, .string { data := #[] }, .int .i64 0, .int .i64 0, .bool false, .string { data := #[] }] 58))
        replace H2 := Lib.hid (H2.out.alloc (.cells #[.int .i64 0, .int .i64 0, .int .i64 0, .int .i64 0, .bool false, .string { data := #[] }, .int .i64 0, .int .i64 0, .bool false, .string { data := #[] }] 58))
        replace H3 := Lib.hid (H3.out.alloc (.cells #[.int .i64 0, .int .i64 0, .int .i64 0, .int .i64 0, .bool false, .string { data := #[] }, .int .i64 0, .int .i64 0, .bool false, .string { data := #[] }] 58))
        replace HBT := Lib.hid (HBT.out.alloc HBT.out.size (.cells #[.int .i64 0, .int .i64 0, .int .i64 0, .int .i64 0, .bool false, .string { data := #[] }, .int .i64 0, .int .i64 0, .bool false, .string { data := #[] }] 58))
        clear hSK
        have hSK := keepJ H1.out H2.out
        refine hK.out _ _ (fun _ => hSK) ?_
        clear hK K
        generalize wL.heap.size = g at *
        generalize wL.alloc (.cells #[.int .i64 0, .int .i64 0, .int .i64 0, .int .i64 0, .bool false, .string { data := #[] }, .int .i64 0, .int .i64 0, .bool false, .string { data := #[] }] 58) = wN at *
        obtain ⟨z0, z1, z2, z3, z4, z5, z6, z7, z8, z9⟩ := HO.out.cells
        have zf0 := HO.out.free 0; have zf1 := HO.out.free 1; have zf2 := HO.out.free 2; have zf3 := HO.out.free 3; have zf4 := HO.out.free 4; have zf5 := HO.out.free 5
        have zf6 := HO.out.free 6; have zf7 := HO.out.free 7; have zf8 := HO.out.free 8; have zf9 := HO.out.free 9
        refine L_one (i := 15) (by kernel_rfl) rfl (fun K hK => ?_)
        go_simp
        refine hK.out _ _ (fun h => absurd (by simp) h) ?_
        clear hK K
        refine L_done (by kernel_rfl) ?_
        clear z0 z1 z2 z3 z4 z5 z6 z7 z8 z9 zf0 zf1 zf2 zf3 zf4 zf5 zf6 zf7 zf8 zf9
        clear hSK HC1 HC2 HC3 HC4 HN1 HN2 HN3 HN4 HK1 HK2 HE
        go_wp2_with fail
        go_meet
        have hg1 : w.heap.size + 1 ≠ g := by omega
        have hg2 : w.heap.size + 1 + 1 ≠ g := by omega
        exact ⟨g, rfl, hlg, HO.out.put c1 q ⟨kd, id, bd, sd⟩ ⟨ke, ie, be, se⟩, H2.out.other10 hg1 _ _ _ _ _ _ _ _ _ _, H3.out.other10 hg2 _ _ _ _ _ _ _ _ _ _, below_put10 HBT.out (by omega) _ _ _ _ _ _ _ _ _ _⟩
      · go_simp
        have hlg := H3.out.lt
        have HO := Lib.hid (show SBox (wK.alloc (.cells #[.int .i64 0, .int .i64 0, .int .i64 0, .int .i64 0, .bool false, .string { data := #[] }, .int .i64 0, .int .i64 0, .bool false, .string { data := #[] }] 58)) wK.heap.size 0 0 nul nul from SBox.new wK _ rfl 0 0 nul nul)
        replace H1 := Lib.hid (H1.out.alloc (.cells #[.int .i64 0, .int .i64 0, .int .i64 0, .int .i64 0, .bool false, .string { data := #[] }, .int .i64 0, .int .i64 0, .bool false, .string { data := #[] }] 58))
        replace H2 := Lib.hid (H2.out.alloc (.cells #[.int .i64 0, .int .i64 0, .int .i64 0, .int .i64 0, .bool false, .string { data := #[] }, .int .i64 0, .int .i64 0, .bool false, .string { data := #[] }] 58))
        replace H3 := Lib.hid (H3.out.alloc (.cells #[.int .i64 0, .int .i64 0, .int .i64 0, .int .i64 0, .bool false, .string { data := #[] }, .int .i64 0, .int .i64 0, .bool false, .string { data := #[] }] 58))
        replace HBT := Lib.hid (HBT.out.alloc HBT.out.size (.cells #[.int .i64 0, .int .i64 0, .int .i64 0, .int .i64 0, .bool false, .string { data := #[] }, .int .i64 0, .int .i64 0, .bool false, .string { data := #[] }] 58))
        clear hSK
        have hSK := keepJ H1.out H2.out
        refine hK.out _ _ (fun _ => hSK) ?_
        clear hK K
        generalize wK.heap.size = g at *
        generalize wK.alloc (.cells #[.int .i64 0, .int .i64 0, .int .i64 0, .int .i64 0, .bool false, .string { data := #[] }, .int .i64 0, .int .i64 0, .bool false, .string { data := #[] }] 58) = wM at *
        refine L_one (i := 12) (by kernel_rfl) rfl (fun K hK => ?_)
        go_simp
        go_wp2_with (go_at_call_of 71 (Value.string sx); with_reducible refine (HC3.out _).mono ?_; rintro e wL ⟨rfl, hbwL⟩)
        replace H1 := Lib.hid (H1.out.below hbwL H1.out.lt)
        replace H2 := Lib.hid (H2.out.below hbwL H2.out.lt)
        replace H3 := Lib.hid (H3.out.below hbwL H3.out.lt)
        (try replace HO := Lib.hid (HO.out.below hbwL HO.out.lt))
        replace HBT := Lib.hid (bthen HBT.out hbwL (Nat.le_refl _))
        clear hSK hbwL
        have hSK := keepJ H1.out H2.out
        refine hK.out _ _ (fun _ => hSK) ?_
        clear hK K
        refine L_take (i := 13) (v := .agg #[.int .i64 c1, .int .i64 q, .int .i64 kd, .int .i64 id, .bool bd, .string sd, .int .i64 ke, .int .i64 ie, .bool be, .string se]) rfl (by kernel_rfl) (by kernel_rfl) (by kernel_rfl) (by kernel_rfl) (by kernel_rfl) (by kernel_rfl) (fun _ _ _ h => h) (Or.inl ⟨by rfl, fun w' hS => ?_⟩) hSK ?_
        · obtain ⟨⟨z0, z1, z2, z3, z4, z5, z6, z7, z8, z9⟩, ⟨y0, y1, y2, y3, y4, y5, y6, y7, y8, y9⟩⟩ := hS
          go_simp
        simp only [Act.put]
        obtain ⟨z0, z1, z2, z3, z4, z5, z6, z7, z8, z9⟩ := HO.out.cells
        have zf0 := HO.out.free 0; have zf1 := HO.out.free 1; have zf2 := HO.out.free 2; have zf3 := HO.out.free 3; have zf4 := HO.out.free 4; have zf5 := HO.out.free 5
        have zf6 := HO.out.free 6; have zf7 := HO.out.free 7; have zf8 := HO.out.free 8; have zf9 := HO.out.free 9
        refine L_one (i := 15) (by kernel_rfl) rfl (fun K hK => ?_)
        go_simp
        refine hK.out _ _ (fun h => absurd (by simp) h) ?_
        clear hK K
        refine L_done (by kernel_rfl) ?_
        clear z0 z1 z2 z3 z4 z5 z6 z7 z8 z9 zf0 zf1 zf2 zf3 zf4 zf5 zf6 zf7 zf8 zf9
        clear hSK HC1 HC2 HC3 HC4 HN1 HN2 HN3 HN4 HK1 HK2 HE
        go_wp2_with fail
        go_meet
        have hg1 : w.heap.size + 1 ≠ g := by omega
        have hg2 : w.heap.size + 1 + 1 ≠ g := by omega
        exact ⟨g, rfl, hlg, HO.out.put c1 q ⟨kd, id, bd, sd⟩ ⟨ke, ie, be, se⟩, H2.out.other10 hg1 _ _ _ _ _ _ _ _ _ _, H3.out.other10 hg2 _ _ _ _ _ _ _ _ _ _, below_put10 HBT.out (by omega) _ _ _ _ _ _ _ _ _ _⟩
    · go_simp
      have hlg := H3.out.lt
      have HO := Lib.hid (show SBox (wy.alloc (.cells #[.int .i64 0, .int .i64 0, .int .i64 0, .int .i64 0, .bool false, .string { data := #[] }, .int .i64 0, .int .i64 0, .bool false, .string { data := #[] }] 58)) wy.heap.size 0 0 nul nul from SBox.new wy _ rfl 0 0 nul nul)
      replace H1 := Lib.hid (H1.out.alloc (.cells #[.int .i64 0, .int .i64 0, .int .i64 0, .int .i64 0, .bool false, .string { data := #[] }, .int .i64 0, .int .i64 0, .bool false, .string { data := #[] }] 58))
      replace H2 := Lib.hid (H2.out.alloc (.cells #[.int .i64 0, .int .i64 0, .int .i64 0, .int .i64 0, .bool false, .string { data := #[] }, .int .i64 0, .int .i64 0, .bool false, .string { data := #[] }] 58))
      replace H3 := Lib.hid (H3.out.alloc (.cells #[.int .i64 0, .int .i64 0, .int .i64 0, .int .i64 0, .bool false, .string { data := #[] }, .int .i64 0, .int .i64 0, .bool false, .string { data := #[] }] 58))
      replace HBT := Lib.hid (HBT.out.alloc HBT.out.size (.cells #[.int .i64 0, .int .i64 0, .int .i64 0, .int .i64 0, .bool false, .string { data := #[] }, .int .i64 0, .int .i64 0, .bool false, .string { data := #[] }] 58))
      clear hSK
      have hSK := keepJ H1.out H2.out
      refine hK.out _ _ (fun _ => hSK) ?_
      clear hK K
      generalize wy.heap.size = g at *
      generalize wy.alloc (.cells #[.int .i64 0, .int .i64 0, .int .i64 0, .int .i64 0, .bool false, .string { data := #[] }, .int .i64 0, .int .i64 0, .bool false, .string { data := #[] }] 58) = wM at *
      refine L_one (i := 9) (by kernel_rfl) rfl (fun K hK => ?_)
      go_simp
      go_wp2_with (go_at_call_of 71 (Value.string sa); with_reducible refine (HC1.out _).mono ?_; rintro e wK ⟨rfl, hbwK⟩)
      replace H1 := Lib.hid (H1.out.below hbwK H1.out.lt)
      replace H2 := Lib.hid (H2.out.below hbwK H2.out.lt)
      replace H3 := Lib.hid (H3.out.below hbwK H3.out.lt)
      (try replace HO := Lib.hid (HO.out.below hbwK HO.out.lt))
      replace HBT := Lib.hid (bthen HBT.out hbwK (Nat.le_refl _))
      clear hSK hbwK
      have hSK := keepJ H1.out H2.out
      refine hK.out _ _ (fun _ => hSK) ?_
      clear hK K
      refine L_one (i := 12) (by kernel_rfl) rfl (fun K hK => ?_)
      go_simp
      go_wp2_with (go_at_call_of 71 (Value.string sx); with_reducible refine (HC3.out _).mono ?_; rintro e wL ⟨rfl, hbwL⟩)
      replace H1 := Lib.hid (H1.out.below hbwL H1.out.lt)
      replace H2 := Lib.hid (H2.out.below hbwL H2.out.lt)
      replace H3 := Lib.hid (H3.out.below hbwL H3.out.lt)
      (try replace HO := Lib.hid (HO.out.below hbwL HO.out.lt))
      replace HBT := Lib.hid (bthen HBT.out hbwL (Nat.le_refl _))
      clear hSK hbwL
      have hSK := keepJ H1.out H2.out
      refine hK.out _ _ (fun _ => hSK) ?_
      clear hK K
      refine L_take (i := 13) (v := .agg #[.int .i64 c1, .int .i64 q, .int .i64 kd, .int .i64 id, .bool bd, .string sd, .int .i64 ke, .int .i64 ie, .bool be, .string se]) rfl (by kernel_rfl) (by kernel_rfl) (by kernel_rfl) (by kernel_rfl) (by kernel_rfl) (by kernel_rfl) (fun _ _ _ h => h) (Or.inl ⟨by rfl, fun w' hS => ?_⟩) hSK ?_
      · obtain ⟨⟨z0, z1, z2, z3, z4, z5, z6, z7, z8, z9⟩, ⟨y0, y1, y2, y3, y4, y5, y6, y7, y8, y9⟩⟩ := hS
        go_simp
      simp only [Act.put]
      obtain ⟨z0, z1, z2, z3, z4, z5, z6, z7, z8, z9⟩ := HO.out.cells
      have zf0 := HO.out.free 0; have zf1 := HO.out.free 1; have zf2 := HO.out.free 2; have zf3 := HO.out.free 3; have zf4 := HO.out.free 4; have zf5 := HO.out.free 5
      have zf6 := HO.out.free 6; have zf7 := HO.out.free 7; have zf8 := HO.out.free 8; have zf9 := HO.out.free 9
      refine L_one (i := 15) (by kernel_rfl) rfl (fun K hK => ?_)
      go_simp
      refine hK.out _ _ (fun h => absurd (by simp) h) ?_
      clear hK K
      refine L_done (by kernel_rfl) ?_
      clear z0 z1 z2 z3 z4 z5 z6 z7 z8 z9 zf0 zf1 zf2 zf3 zf4 zf5 zf6 zf7 zf8 zf9
      clear hSK HC1 HC2 HC3 HC4 HN1 HN2 HN3 HN4 HK1 HK2 HE
      go_wp2_with fail
      go_meet
      have hg1 : w.heap.size + 1 ≠ g := by omega
      have hg2 : w.heap.size + 1 + 1 ≠ g := by omega
      exact ⟨g, rfl, hlg, HO.out.put c1 q ⟨kd, id, bd, sd⟩ ⟨ke, ie, be, se⟩, H2.out.other10 hg1 _ _ _ _ _ _ _ _ _ _, H3.out.other10 hg2 _ _ _ _ _ _ _ _ _ _, below_put10 HBT.out (by omega) _ _ _ _ _ _ _ _ _ _⟩
  case rest =>
    obtain ⟨g, rfl, hlg, hO, h2, h3, hb⟩ := hcut
    have hgB : w.heap.size ≤ g := by omega
    have hn2 : w.heap.size + 1 ≠ g := by omega
    have hn3 : w.heap.size + 1 + 1 ≠ g := by omega
    clear H1 hSK HC1 HC3
    have HO := Lib.hid hO; clear hO
    replace H2 := Lib.hid h2; clear h2
    replace H3 := Lib.hid h3; clear h3
    replace HBT := Lib.hid hb; clear hb
    obtain ⟨z0, z1, z2, z3, z4, z5, z6, z7, z8, z9⟩ := HO.out.cells; obtain ⟨y0, y1, y2, y3, y4, y5, y6, y7, y8, y9⟩ := H2.out.cells; have zf2 := HO.out.free 2; have zf3 := HO.out.free 3; have zf4 := HO.out.free 4; have zf5 := HO.out.free 5; have zf6 := HO.out.free 6; have zf7 := HO.out.free 7; have zf8 := HO.out.free 8; have zf9 := HO.out.free 9; (try simp only [] at z0 z1 z2 z3 z4 z5 z6 z7 z8 z9 y0 y1 y2 y3 y4 y5 y6 y7 y8 y9)
    obtain ⟨m1, hm1⟩ : ∃ m1, (na || (!nb && decide (r1 < 0))) = m1 := ⟨_, rfl⟩
    obtain ⟨m2, hm2⟩ : ∃ m2, (nx || (!ny && decide (0 < r2))) = m2 := ⟨_, rfl⟩
    rw [hm1, hm2] at HE
    obtain ⟨M, hM⟩ : ∃ M, (if m1 = true then (⟨kf, jf, bf, sf⟩ : Val) else ⟨kd, id, bd, sd⟩) = M := ⟨_, rfl⟩
    obtain ⟨X, hX⟩ : ∃ X, (if m2 = true then (⟨kh, ih, bh, sh⟩ : Val) else ⟨ke, ie, be, se⟩) = X := ⟨_, rfl⟩
    rw [hM, hX] at HE
    have HM := Lib.hid (And.intro hM hX); clear hM hX
    have HMB := Lib.hid (And.intro hm1 hm2); clear hm1 hm2
    go_upto_region 2 with fail
    go_cut [36] (fun vb wx => vb = .bool m1 ∧ SBox wx g c1 q ⟨kd, id, bd, sd⟩ ⟨ke, ie, be, se⟩ ∧ SBox wx (w.heap.size + 1) c2 n2 ⟨kb, ib, bb, sb⟩ ⟨ky, iy, b_y, sy⟩ ∧ SBox wx (w.heap.size + 1 + 1) 0 0 nul nul ∧ Below w.heap.size w wx)
    case first =>
      cases na with
      | true =>
        go_wp2_with (first | (go_at_call_of 78 (Value.string sd); with_reducible refine (HN1.out _).mono ?_; rintro e wA ⟨rfl, hbwA⟩; replace HO := Lib.hid (SBox.below HO.out hbwA (SBox.lt HO.out)); replace H2 := Lib.hid (SBox.below H2.out hbwA (SBox.lt H2.out)); replace H3 := Lib.hid (SBox.below H3.out hbwA (SBox.lt H3.out)); replace HBT := Lib.hid (bthen HBT.out hbwA (Nat.le_refl _)); clear hbwA; (try clear z0 z1 z2 z3 z4 z5 z6 z7 z8 z9 y0 y1 y2 y3 y4 y5 y6 y7 y8 y9 zf2 zf3 zf4 zf5 zf6 zf7 zf8 zf9); obtain ⟨z0, z1, z2, z3, z4, z5, z6, z7, z8, z9⟩ := HO.out.cells; obtain ⟨y0, y1, y2, y3, y4, y5, y6, y7, y8, y9⟩ := H2.out.cells; have zf2 := HO.out.free 2; have zf3 := HO.out.free 3; have zf4 := HO.out.free 4; have zf5 := HO.out.free 5; have zf6 := HO.out.free 6; have zf7 := HO.out.free 7; have zf8 := HO.out.free 8; have zf9 := HO.out.free 9; (try simp only [] at z0 z1 z2 z3 z4 z5 z6 z7 z8 z9 y0 y1 y2 y3 y4 y5 y6 y7 y8 y9)) | (go_at_call_of 72 (Value.string sb); with_reducible refine (HK1.out _).mono ?_; rintro e wC ⟨rfl, hbwC⟩; replace HO := Lib.hid (SBox.below HO.out hbwC (SBox.lt HO.out)); replace H2 := Lib.hid (SBox.below H2.out hbwC (SBox.lt H2.out)); replace H3 := Lib.hid (SBox.below H3.out hbwC (SBox.lt H3.out)); replace HBT := Lib.hid (bthen HBT.out hbwC (Nat.le_refl _)); clear hbwC; (try clear z0 z1 z2 z3 z4 z5 z6 z7 z8 z9 y0 y1 y2 y3 y4 y5 y6 y7 y8 y9 zf2 zf3 zf4 zf5 zf6 zf7 zf8 zf9); obtain ⟨z0, z1, z2, z3, z4, z5, z6, z7, z8, z9⟩ := HO.out.cells; obtain ⟨y0, y1, y2, y3, y4, y5, y6, y7, y8, y9⟩ := H2.out.cells; have zf2 := HO.out.free 2; have zf3 := HO.out.free 3; have zf4 := HO.out.free 4; have zf5 := HO.out.free 5; have zf6 := HO.out.free 6; have zf7 := HO.out.free 7; have zf8 := HO.out.free 8; have zf9 := HO.out.free 9; (try simp only [] at z0 z1 z2 z3 z4 z5 z6 z7 z8 z9 y0 y1 y2 y3 y4 y5 y6 y7 y8 y9)) | (go_at_call_of 78 (Value.string sb); with_reducible refine (HN2.out _).mono ?_; rintro e wB ⟨rfl, hbwB⟩; replace HO := Lib.hid (SBox.below HO.out hbwB (SBox.lt HO.out)); replace H2 := Lib.hid (SBox.below H2.out hbwB (SBox.lt H2.out)); replace H3 := Lib.hid (SBox.below H3.out hbwB (SBox.lt H3.out)); replace HBT := Lib.hid (bthen HBT.out hbwB (Nat.le_refl _)); clear hbwB; (try clear z0 z1 z2 z3 z4 z5 z6 z7 z8 z9 y0 y1 y2 y3 y4 y5 y6 y7 y8 y9 zf2 zf3 zf4 zf5 zf6 zf7 zf8 zf9); obtain ⟨z0, z1, z2, z3, z4, z5, z6, z7, z8, z9⟩ := HO.out.cells; obtain ⟨y0, y1, y2, y3, y4, y5, y6, y7, y8, y9⟩ := H2.out.cells; have zf2 := HO.out.free 2; have zf3 := HO.out.free 3; have zf4 := HO.out.free 4; have zf5 := HO.out.free 5; have zf6 := HO.out.free 6; have zf7 := HO.out.free 7; have zf8 := HO.out.free 8; have zf9 := HO.out.free 9; (try simp only [] at z0 z1 z2 z3 z4 z5 z6 z7 z8 z9 y0 y1 y2 y3 y4 y5 y6 y7 y8 y9)))
        go_meet
        exact ⟨by rw [← HMB.out.1]; rfl, HO.out, H2.out, H3.out, HBT.out⟩
      | false =>
        cases nb with
        | true =>
          go_wp2_with (first | (go_at_call_of 78 (Value.string sd); with_reducible refine (HN1.out _).mono ?_; rintro e wA ⟨rfl, hbwA⟩; replace HO := Lib.hid (SBox.below HO.out hbwA (SBox.lt HO.out)); replace H2 := Lib.hid (SBox.below H2.out hbwA (SBox.lt H2.out)); replace H3 := Lib.hid (SBox.below H3.out hbwA (SBox.lt H3.out)); replace HBT := Lib.hid (bthen HBT.out hbwA (Nat.le_refl _)); clear hbwA; (try clear z0 z1 z2 z3 z4 z5 z6 z7 z8 z9 y0 y1 y2 y3 y4 y5 y6 y7 y8 y9 zf2 zf3 zf4 zf5 zf6 zf7 zf8 zf9); obtain ⟨z0, z1, z2, z3, z4, z5, z6, z7, z8, z9⟩ := HO.out.cells; obtain ⟨y0, y1, y2, y3, y4, y5, y6, y7, y8, y9⟩ := H2.out.cells; have zf2 := HO.out.free 2; have zf3 := HO.out.free 3; have zf4 := HO.out.free 4; have zf5 := HO.out.free 5; have zf6 := HO.out.free 6; have zf7 := HO.out.free 7; have zf8 := HO.out.free 8; have zf9 := HO.out.free 9; (try simp only [] at z0 z1 z2 z3 z4 z5 z6 z7 z8 z9 y0 y1 y2 y3 y4 y5 y6 y7 y8 y9)) | (go_at_call_of 72 (Value.string sb); with_reducible refine (HK1.out _).mono ?_; rintro e wC ⟨rfl, hbwC⟩; replace HO := Lib.hid (SBox.below HO.out hbwC (SBox.lt HO.out)); replace H2 := Lib.hid (SBox.below H2.out hbwC (SBox.lt H2.out)); replace H3 := Lib.hid (SBox.below H3.out hbwC (SBox.lt H3.out)); replace HBT := Lib.hid (bthen HBT.out hbwC (Nat.le_refl _)); clear hbwC; (try clear z0 z1 z2 z3 z4 z5 z6 z7 z8 z9 y0 y1 y2 y3 y4 y5 y6 y7 y8 y9 zf2 zf3 zf4 zf5 zf6 zf7 zf8 zf9); obtain ⟨z0, z1, z2, z3, z4, z5, z6, z7, z8, z9⟩ := HO.out.cells; obtain ⟨y0, y1, y2, y3, y4, y5, y6, y7, y8, y9⟩ := H2.out.cells; have zf2 := HO.out.free 2; have zf3 := HO.out.free 3; have zf4 := HO.out.free 4; have zf5 := HO.out.free 5; have zf6 := HO.out.free 6; have zf7 := HO.out.free 7; have zf8 := HO.out.free 8; have zf9 := HO.out.free 9; (try simp only [] at z0 z1 z2 z3 z4 z5 z6 z7 z8 z9 y0 y1 y2 y3 y4 y5 y6 y7 y8 y9)) | (go_at_call_of 78 (Value.string sb); with_reducible refine (HN2.out _).mono ?_; rintro e wB ⟨rfl, hbwB⟩; replace HO := Lib.hid (SBox.below HO.out hbwB (SBox.lt HO.out)); replace H2 := Lib.hid (SBox.below H2.out hbwB (SBox.lt H2.out)); replace H3 := Lib.hid (SBox.below H3.out hbwB (SBox.lt H3.out)); replace HBT := Lib.hid (bthen HBT.out hbwB (Nat.le_refl _)); clear hbwB; (try clear z0 z1 z2 z3 z4 z5 z6 z7 z8 z9 y0 y1 y2 y3 y4 y5 y6 y7 y8 y9 zf2 zf3 zf4 zf5 zf6 zf7 zf8 zf9); obtain ⟨z0, z1, z2, z3, z4, z5, z6, z7, z8, z9⟩ := HO.out.cells; obtain ⟨y0, y1, y2, y3, y4, y5, y6, y7, y8, y9⟩ := H2.out.cells; have zf2 := HO.out.free 2; have zf3 := HO.out.free 3; have zf4 := HO.out.free 4; have zf5 := HO.out.free 5; have zf6 := HO.out.free 6; have zf7 := HO.out.free 7; have zf8 := HO.out.free 8; have zf9 := HO.out.free 9; (try simp only [] at z0 z1 z2 z3 z4 z5 z6 z7 z8 z9 y0 y1 y2 y3 y4 y5 y6 y7 y8 y9)))
          go_meet
          exact ⟨by rw [← HMB.out.1]; rfl, HO.out, H2.out, H3.out, HBT.out⟩
        | false =>
          by_cases h1 : r1 < 0
          · have h1' : decide (r1 < 0) = true := decide_eq_true h1
            clear h1
            go_wp2_with (first | (go_at_call_of 78 (Value.string sd); with_reducible refine (HN1.out _).mono ?_; rintro e wA ⟨rfl, hbwA⟩; replace HO := Lib.hid (SBox.below HO.out hbwA (SBox.lt HO.out)); replace H2 := Lib.hid (SBox.below H2.out hbwA (SBox.lt H2.out)); replace H3 := Lib.hid (SBox.below H3.out hbwA (SBox.lt H3.out)); replace HBT := Lib.hid (bthen HBT.out hbwA (Nat.le_refl _)); clear hbwA; (try clear z0 z1 z2 z3 z4 z5 z6 z7 z8 z9 y0 y1 y2 y3 y4 y5 y6 y7 y8 y9 zf2 zf3 zf4 zf5 zf6 zf7 zf8 zf9); obtain ⟨z0, z1, z2, z3, z4, z5, z6, z7, z8, z9⟩ := HO.out.cells; obtain ⟨y0, y1, y2, y3, y4, y5, y6, y7, y8, y9⟩ := H2.out.cells; have zf2 := HO.out.free 2; have zf3 := HO.out.free 3; have zf4 := HO.out.free 4; have zf5 := HO.out.free 5; have zf6 := HO.out.free 6; have zf7 := HO.out.free 7; have zf8 := HO.out.free 8; have zf9 := HO.out.free 9; (try simp only [] at z0 z1 z2 z3 z4 z5 z6 z7 z8 z9 y0 y1 y2 y3 y4 y5 y6 y7 y8 y9)) | (go_at_call_of 72 (Value.string sb); with_reducible refine (HK1.out _).mono ?_; rintro e wC ⟨rfl, hbwC⟩; replace HO := Lib.hid (SBox.below HO.out hbwC (SBox.lt HO.out)); replace H2 := Lib.hid (SBox.below H2.out hbwC (SBox.lt H2.out)); replace H3 := Lib.hid (SBox.below H3.out hbwC (SBox.lt H3.out)); replace HBT := Lib.hid (bthen HBT.out hbwC (Nat.le_refl _)); clear hbwC; (try clear z0 z1 z2 z3 z4 z5 z6 z7 z8 z9 y0 y1 y2 y3 y4 y5 y6 y7 y8 y9 zf2 zf3 zf4 zf5 zf6 zf7 zf8 zf9); obtain ⟨z0, z1, z2, z3, z4, z5, z6, z7, z8, z9⟩ := HO.out.cells; obtain ⟨y0, y1, y2, y3, y4, y5, y6, y7, y8, y9⟩ := H2.out.cells; have zf2 := HO.out.free 2; have zf3 := HO.out.free 3; have zf4 := HO.out.free 4; have zf5 := HO.out.free 5; have zf6 := HO.out.free 6; have zf7 := HO.out.free 7; have zf8 := HO.out.free 8; have zf9 := HO.out.free 9; (try simp only [] at z0 z1 z2 z3 z4 z5 z6 z7 z8 z9 y0 y1 y2 y3 y4 y5 y6 y7 y8 y9)) | (go_at_call_of 78 (Value.string sb); with_reducible refine (HN2.out _).mono ?_; rintro e wB ⟨rfl, hbwB⟩; replace HO := Lib.hid (SBox.below HO.out hbwB (SBox.lt HO.out)); replace H2 := Lib.hid (SBox.below H2.out hbwB (SBox.lt H2.out)); replace H3 := Lib.hid (SBox.below H3.out hbwB (SBox.lt H3.out)); replace HBT := Lib.hid (bthen HBT.out hbwB (Nat.le_refl _)); clear hbwB; (try clear z0 z1 z2 z3 z4 z5 z6 z7 z8 z9 y0 y1 y2 y3 y4 y5 y6 y7 y8 y9 zf2 zf3 zf4 zf5 zf6 zf7 zf8 zf9); obtain ⟨z0, z1, z2, z3, z4, z5, z6, z7, z8, z9⟩ := HO.out.cells; obtain ⟨y0, y1, y2, y3, y4, y5, y6, y7, y8, y9⟩ := H2.out.cells; have zf2 := HO.out.free 2; have zf3 := HO.out.free 3; have zf4 := HO.out.free 4; have zf5 := HO.out.free 5; have zf6 := HO.out.free 6; have zf7 := HO.out.free 7; have zf8 := HO.out.free 8; have zf9 := HO.out.free 9; (try simp only [] at z0 z1 z2 z3 z4 z5 z6 z7 z8 z9 y0 y1 y2 y3 y4 y5 y6 y7 y8 y9)))
            go_meet
            exact ⟨by rw [← HMB.out.1, h1']; rfl, HO.out, H2.out, H3.out, HBT.out⟩
          · have h1' : decide (r1 < 0) = false := decide_eq_false h1
            clear h1
            go_wp2_with (first | (go_at_call_of 78 (Value.string sd); with_reducible refine (HN1.out _).mono ?_; rintro e wA ⟨rfl, hbwA⟩; replace HO := Lib.hid (SBox.below HO.out hbwA (SBox.lt HO.out)); replace H2 := Lib.hid (SBox.below H2.out hbwA (SBox.lt H2.out)); replace H3 := Lib.hid (SBox.below H3.out hbwA (SBox.lt H3.out)); replace HBT := Lib.hid (bthen HBT.out hbwA (Nat.le_refl _)); clear hbwA; (try clear z0 z1 z2 z3 z4 z5 z6 z7 z8 z9 y0 y1 y2 y3 y4 y5 y6 y7 y8 y9 zf2 zf3 zf4 zf5 zf6 zf7 zf8 zf9); obtain ⟨z0, z1, z2, z3, z4, z5, z6, z7, z8, z9⟩ := HO.out.cells; obtain ⟨y0, y1, y2, y3, y4, y5, y6, y7, y8, y9⟩ := H2.out.cells; have zf2 := HO.out.free 2; have zf3 := HO.out.free 3; have zf4 := HO.out.free 4; have zf5 := HO.out.free 5; have zf6 := HO.out.free 6; have zf7 := HO.out.free 7; have zf8 := HO.out.free 8; have zf9 := HO.out.free 9; (try simp only [] at z0 z1 z2 z3 z4 z5 z6 z7 z8 z9 y0 y1 y2 y3 y4 y5 y6 y7 y8 y9)) | (go_at_call_of 72 (Value.string sb); with_reducible refine (HK1.out _).mono ?_; rintro e wC ⟨rfl, hbwC⟩; replace HO := Lib.hid (SBox.below HO.out hbwC (SBox.lt HO.out)); replace H2 := Lib.hid (SBox.below H2.out hbwC (SBox.lt H2.out)); replace H3 := Lib.hid (SBox.below H3.out hbwC (SBox.lt H3.out)); replace HBT := Lib.hid (bthen HBT.out hbwC (Nat.le_refl _)); clear hbwC; (try clear z0 z1 z2 z3 z4 z5 z6 z7 z8 z9 y0 y1 y2 y3 y4 y5 y6 y7 y8 y9 zf2 zf3 zf4 zf5 zf6 zf7 zf8 zf9); obtain ⟨z0, z1, z2, z3, z4, z5, z6, z7, z8, z9⟩ := HO.out.cells; obtain ⟨y0, y1, y2, y3, y4, y5, y6, y7, y8, y9⟩ := H2.out.cells; have zf2 := HO.out.free 2; have zf3 := HO.out.free 3; have zf4 := HO.out.free 4; have zf5 := HO.out.free 5; have zf6 := HO.out.free 6; have zf7 := HO.out.free 7; have zf8 := HO.out.free 8; have zf9 := HO.out.free 9; (try simp only [] at z0 z1 z2 z3 z4 z5 z6 z7 z8 z9 y0 y1 y2 y3 y4 y5 y6 y7 y8 y9)) | (go_at_call_of 78 (Value.string sb); with_reducible refine (HN2.out _).mono ?_; rintro e wB ⟨rfl, hbwB⟩; replace HO := Lib.hid (SBox.below HO.out hbwB (SBox.lt HO.out)); replace H2 := Lib.hid (SBox.below H2.out hbwB (SBox.lt H2.out)); replace H3 := Lib.hid (SBox.below H3.out hbwB (SBox.lt H3.out)); replace HBT := Lib.hid (bthen HBT.out hbwB (Nat.le_refl _)); clear hbwB; (try clear z0 z1 z2 z3 z4 z5 z6 z7 z8 z9 y0 y1 y2 y3 y4 y5 y6 y7 y8 y9 zf2 zf3 zf4 zf5 zf6 zf7 zf8 zf9); obtain ⟨z0, z1, z2, z3, z4, z5, z6, z7, z8, z9⟩ := HO.out.cells; obtain ⟨y0, y1, y2, y3, y4, y5, y6, y7, y8, y9⟩ := H2.out.cells; have zf2 := HO.out.free 2; have zf3 := HO.out.free 3; have zf4 := HO.out.free 4; have zf5 := HO.out.free 5; have zf6 := HO.out.free 6; have zf7 := HO.out.free 7; have zf8 := HO.out.free 8; have zf9 := HO.out.free 9; (try simp only [] at z0 z1 z2 z3 z4 z5 z6 z7 z8 z9 y0 y1 y2 y3 y4 y5 y6 y7 y8 y9)))
            go_meet
            exact ⟨by rw [← HMB.out.1, h1']; rfl, HO.out, H2.out, H3.out, HBT.out⟩
    case rest =>
      obtain ⟨rfl, hO, h2, h3, hb⟩ := hcut
      replace HO := Lib.hid hO; clear hO
      replace H2 := Lib.hid h2; clear h2
      replace H3 := Lib.hid h3; clear h3
      replace HBT := Lib.hid hb; clear hb
      (try clear z0 z1 z2 z3 z4 z5 z6 z7 z8 z9 y0 y1 y2 y3 y4 y5 y6 y7 y8 y9 zf2 zf3 zf4 zf5 zf6 zf7 zf8 zf9)
      obtain ⟨z0, z1, z2, z3, z4, z5, z6, z7, z8, z9⟩ := HO.out.cells; obtain ⟨y0, y1, y2, y3, y4, y5, y6, y7, y8, y9⟩ := H2.out.cells; have zf2 := HO.out.free 2; have zf3 := HO.out.free 3; have zf4 := HO.out.free 4; have zf5 := HO.out.free 5; have zf6 := HO.out.free 6; have zf7 := HO.out.free 7; have zf8 := HO.out.free 8; have zf9 := HO.out.free 9; (try simp only [] at z0 z1 z2 z3 z4 z5 z6 z7 z8 z9 y0 y1 y2 y3 y4 y5 y6 y7 y8 y9)
      go_upto_if 36 with fail
      go_cut [] (fun wx => SBox wx g c1 q M ⟨ke, ie, be, se⟩ ∧ SBox wx (w.heap.size + 1) c2 n2 ⟨kb, ib, bb, sb⟩ ⟨ky, iy, b_y, sy⟩ ∧ SBox wx (w.heap.size + 1 + 1) 0 0 nul nul ∧ Below w.heap.size w wx)
      case first =>
        cases m1 with
        | true =>
          go_wp2_with (first | (go_at_call_of 71 (Value.string sb); with_reducible refine (HC2.out _).mono ?_; rintro e wD ⟨rfl, hbwD⟩; replace HO := Lib.hid (SBox.below HO.out hbwD (SBox.lt HO.out)); replace H2 := Lib.hid (SBox.below H2.out hbwD (SBox.lt H2.out)); replace H3 := Lib.hid (SBox.below H3.out hbwD (SBox.lt H3.out)); replace HBT := Lib.hid (bthen HBT.out hbwD (Nat.le_refl _)); clear hbwD; (try clear z0 z1 z2 z3 z4 z5 z6 z7 z8 z9 y0 y1 y2 y3 y4 y5 y6 y7 y8 y9 zf2 zf3 zf4 zf5 zf6 zf7 zf8 zf9); obtain ⟨z0, z1, z2, z3, z4, z5, z6, z7, z8, z9⟩ := HO.out.cells; obtain ⟨y0, y1, y2, y3, y4, y5, y6, y7, y8, y9⟩ := H2.out.cells; have zf2 := HO.out.free 2; have zf3 := HO.out.free 3; have zf4 := HO.out.free 4; have zf5 := HO.out.free 5; have zf6 := HO.out.free 6; have zf7 := HO.out.free 7; have zf8 := HO.out.free 8; have zf9 := HO.out.free 9; (try simp only [] at z0 z1 z2 z3 z4 z5 z6 z7 z8 z9 y0 y1 y2 y3 y4 y5 y6 y7 y8 y9)))
          (try clear z0 z1 z2 z3 z4 z5 z6 z7 z8 z9 y0 y1 y2 y3 y4 y5 y6 y7 y8 y9 zf2 zf3 zf4 zf5 zf6 zf7 zf8 zf9)
          go_meet
          exact ⟨by rw [← HM.out.1]; exact HO.out.put2 ⟨kf, jf, bf, sf⟩, (((((H2.out).other hn2).other hn2).other hn2).other hn2), (((((H3.out).other hn3).other hn3).other hn3).other hn3), below_put4 HBT.out hgB 2 3 4 5 _ _ _ _⟩
        | false =>
          go_wp2_with fail
          (try clear z0 z1 z2 z3 z4 z5 z6 z7 z8 z9 y0 y1 y2 y3 y4 y5 y6 y7 y8 y9 zf2 zf3 zf4 zf5 zf6 zf7 zf8 zf9)
          go_meet
          exact ⟨by rw [← HM.out.1]; exact HO.out, H2.out, H3.out, HBT.out⟩
      case rest =>
        obtain ⟨hO, h2, h3, hb⟩ := hcut
        replace HO := Lib.hid hO; clear hO
        replace H2 := Lib.hid h2; clear h2
        replace H3 := Lib.hid h3; clear h3
        replace HBT := Lib.hid hb; clear hb
        (try clear z0 z1 z2 z3 z4 z5 z6 z7 z8 z9 y0 y1 y2 y3 y4 y5 y6 y7 y8 y9 zf2 zf3 zf4 zf5 zf6 zf7 zf8 zf9)
        obtain ⟨z0, z1, z2, z3, z4, z5, z6, z7, z8, z9⟩ := HO.out.cells; obtain ⟨y0, y1, y2, y3, y4, y5, y6, y7, y8, y9⟩ := H2.out.cells; have zf2 := HO.out.free 2; have zf3 := HO.out.free 3; have zf4 := HO.out.free 4; have zf5 := HO.out.free 5; have zf6 := HO.out.free 6; have zf7 := HO.out.free 7; have zf8 := HO.out.free 8; have zf9 := HO.out.free 9; (try simp only [] at z0 z1 z2 z3 z4 z5 z6 z7 z8 z9 y0 y1 y2 y3 y4 y5 y6 y7 y8 y9)
        go_upto_region 4 with fail
        go_cut [57] (fun vb wx => vb = .bool m2 ∧ SBox wx g c1 q M ⟨ke, ie, be, se⟩ ∧ SBox wx (w.heap.size + 1) c2 n2 ⟨kb, ib, bb, sb⟩ ⟨ky, iy, b_y, sy⟩ ∧ SBox wx (w.heap.size + 1 + 1) 0 0 nul nul ∧ Below w.heap.size w wx)
        case first =>
          cases nx with
          | true =>
            go_wp2_with (first | (go_at_call_of 78 (Value.string se); with_reducible refine (HN3.out _).mono ?_; rintro e wE ⟨rfl, hbwE⟩; replace HO := Lib.hid (SBox.below HO.out hbwE (SBox.lt HO.out)); replace H2 := Lib.hid (SBox.below H2.out hbwE (SBox.lt H2.out)); replace H3 := Lib.hid (SBox.below H3.out hbwE (SBox.lt H3.out)); replace HBT := Lib.hid (bthen HBT.out hbwE (Nat.le_refl _)); clear hbwE; (try clear z0 z1 z2 z3 z4 z5 z6 z7 z8 z9 y0 y1 y2 y3 y4 y5 y6 y7 y8 y9 zf2 zf3 zf4 zf5 zf6 zf7 zf8 zf9); obtain ⟨z0, z1, z2, z3, z4, z5, z6, z7, z8, z9⟩ := HO.out.cells; obtain ⟨y0, y1, y2, y3, y4, y5, y6, y7, y8, y9⟩ := H2.out.cells; have zf2 := HO.out.free 2; have zf3 := HO.out.free 3; have zf4 := HO.out.free 4; have zf5 := HO.out.free 5; have zf6 := HO.out.free 6; have zf7 := HO.out.free 7; have zf8 := HO.out.free 8; have zf9 := HO.out.free 9; (try simp only [] at z0 z1 z2 z3 z4 z5 z6 z7 z8 z9 y0 y1 y2 y3 y4 y5 y6 y7 y8 y9)) | (go_at_call_of 72 (Value.string sy); with_reducible refine (HK2.out _).mono ?_; rintro e wG ⟨rfl, hbwG⟩; replace HO := Lib.hid (SBox.below HO.out hbwG (SBox.lt HO.out)); replace H2 := Lib.hid (SBox.below H2.out hbwG (SBox.lt H2.out)); replace H3 := Lib.hid (SBox.below H3.out hbwG (SBox.lt H3.out)); replace HBT := Lib.hid (bthen HBT.out hbwG (Nat.le_refl _)); clear hbwG; (try clear z0 z1 z2 z3 z4 z5 z6 z7 z8 z9 y0 y1 y2 y3 y4 y5 y6 y7 y8 y9 zf2 zf3 zf4 zf5 zf6 zf7 zf8 zf9); obtain ⟨z0, z1, z2, z3, z4, z5, z6, z7, z8, z9⟩ := HO.out.cells; obtain ⟨y0, y1, y2, y3, y4, y5, y6, y7, y8, y9⟩ := H2.out.cells; have zf2 := HO.out.free 2; have zf3 := HO.out.free 3; have zf4 := HO.out.free 4; have zf5 := HO.out.free 5; have zf6 := HO.out.free 6; have zf7 := HO.out.free 7; have zf8 := HO.out.free 8; have zf9 := HO.out.free 9; (try simp only [] at z0 z1 z2 z3 z4 z5 z6 z7 z8 z9 y0 y1 y2 y3 y4 y5 y6 y7 y8 y9)) | (go_at_call_of 78 (Value.string sy); with_reducible refine (HN4.out _).mono ?_; rintro e wF ⟨rfl, hbwF⟩; replace HO := Lib.hid (SBox.below HO.out hbwF (SBox.lt HO.out)); replace H2 := Lib.hid (SBox.below H2.out hbwF (SBox.lt H2.out)); replace H3 := Lib.hid (SBox.below H3.out hbwF (SBox.lt H3.out)); replace HBT := Lib.hid (bthen HBT.out hbwF (Nat.le_refl _)); clear hbwF; (try clear z0 z1 z2 z3 z4 z5 z6 z7 z8 z9 y0 y1 y2 y3 y4 y5 y6 y7 y8 y9 zf2 zf3 zf4 zf5 zf6 zf7 zf8 zf9); obtain ⟨z0, z1, z2, z3, z4, z5, z6, z7, z8, z9⟩ := HO.out.cells; obtain ⟨y0, y1, y2, y3, y4, y5, y6, y7, y8, y9⟩ := H2.out.cells; have zf2 := HO.out.free 2; have zf3 := HO.out.free 3; have zf4 := HO.out.free 4; have zf5 := HO.out.free 5; have zf6 := HO.out.free 6; have zf7 := HO.out.free 7; have zf8 := HO.out.free 8; have zf9 := HO.out.free 9; (try simp only [] at z0 z1 z2 z3 z4 z5 z6 z7 z8 z9 y0 y1 y2 y3 y4 y5 y6 y7 y8 y9)))
            go_meet
            exact ⟨by rw [← HMB.out.2]; rfl, HO.out, H2.out, H3.out, HBT.out⟩
          | false =>
            cases ny with
            | true =>
              go_wp2_with (first | (go_at_call_of 78 (Value.string se); with_reducible refine (HN3.out _).mono ?_; rintro e wE ⟨rfl, hbwE⟩; replace HO := Lib.hid (SBox.below HO.out hbwE (SBox.lt HO.out)); replace H2 := Lib.hid (SBox.below H2.out hbwE (SBox.lt H2.out)); replace H3 := Lib.hid (SBox.below H3.out hbwE (SBox.lt H3.out)); replace HBT := Lib.hid (bthen HBT.out hbwE (Nat.le_refl _)); clear hbwE; (try clear z0 z1 z2 z3 z4 z5 z6 z7 z8 z9 y0 y1 y2 y3 y4 y5 y6 y7 y8 y9 zf2 zf3 zf4 zf5 zf6 zf7 zf8 zf9); obtain ⟨z0, z1, z2, z3, z4, z5, z6, z7, z8, z9⟩ := HO.out.cells; obtain ⟨y0, y1, y2, y3, y4, y5, y6, y7, y8, y9⟩ := H2.out.cells; have zf2 := HO.out.free 2; have zf3 := HO.out.free 3; have zf4 := HO.out.free 4; have zf5 := HO.out.free 5; have zf6 := HO.out.free 6; have zf7 := HO.out.free 7; have zf8 := HO.out.free 8; have zf9 := HO.out.free 9; (try simp only [] at z0 z1 z2 z3 z4 z5 z6 z7 z8 z9 y0 y1 y2 y3 y4 y5 y6 y7 y8 y9)) | (go_at_call_of 72 (Value.string sy); with_reducible refine (HK2.out _).mono ?_; rintro e wG ⟨rfl, hbwG⟩; replace HO := Lib.hid (SBox.below HO.out hbwG (SBox.lt HO.out)); replace H2 := Lib.hid (SBox.below H2.out hbwG (SBox.lt H2.out)); replace H3 := Lib.hid (SBox.below H3.out hbwG (SBox.lt H3.out)); replace HBT := Lib.hid (bthen HBT.out hbwG (Nat.le_refl _)); clear hbwG; (try clear z0 z1 z2 z3 z4 z5 z6 z7 z8 z9 y0 y1 y2 y3 y4 y5 y6 y7 y8 y9 zf2 zf3 zf4 zf5 zf6 zf7 zf8 zf9); obtain ⟨z0, z1, z2, z3, z4, z5, z6, z7, z8, z9⟩ := HO.out.cells; obtain ⟨y0, y1, y2, y3, y4, y5, y6, y7, y8, y9⟩ := H2.out.cells; have zf2 := HO.out.free 2; have zf3 := HO.out.free 3; have zf4 := HO.out.free 4; have zf5 := HO.out.free 5; have zf6 := HO.out.free 6; have zf7 := HO.out.free 7; have zf8 := HO.out.free 8; have zf9 := HO.out.free 9; (try simp only [] at z0 z1 z2 z3 z4 z5 z6 z7 z8 z9 y0 y1 y2 y3 y4 y5 y6 y7 y8 y9)) | (go_at_call_of 78 (Value.string sy); with_reducible refine (HN4.out _).mono ?_; rintro e wF ⟨rfl, hbwF⟩; replace HO := Lib.hid (SBox.below HO.out hbwF (SBox.lt HO.out)); replace H2 := Lib.hid (SBox.below H2.out hbwF (SBox.lt H2.out)); replace H3 := Lib.hid (SBox.below H3.out hbwF (SBox.lt H3.out)); replace HBT := Lib.hid (bthen HBT.out hbwF (Nat.le_refl _)); clear hbwF; (try clear z0 z1 z2 z3 z4 z5 z6 z7 z8 z9 y0 y1 y2 y3 y4 y5 y6 y7 y8 y9 zf2 zf3 zf4 zf5 zf6 zf7 zf8 zf9); obtain ⟨z0, z1, z2, z3, z4, z5, z6, z7, z8, z9⟩ := HO.out.cells; obtain ⟨y0, y1, y2, y3, y4, y5, y6, y7, y8, y9⟩ := H2.out.cells; have zf2 := HO.out.free 2; have zf3 := HO.out.free 3; have zf4 := HO.out.free 4; have zf5 := HO.out.free 5; have zf6 := HO.out.free 6; have zf7 := HO.out.free 7; have zf8 := HO.out.free 8; have zf9 := HO.out.free 9; (try simp only [] at z0 z1 z2 z3 z4 z5 z6 z7 z8 z9 y0 y1 y2 y3 y4 y5 y6 y7 y8 y9)))
              go_meet
              exact ⟨by rw [← HMB.out.2]; rfl, HO.out, H2.out, H3.out, HBT.out⟩
            | false =>
              by_cases h2 : 0 < r2
              · have h2' : decide (0 < r2) = true := decide_eq_true h2
                clear h2
                go_wp2_with (first | (go_at_call_of 78 (Value.string se); with_reducible refine (HN3.out _).mono ?_; rintro e wE ⟨rfl, hbwE⟩; replace HO := Lib.hid (SBox.below HO.out hbwE (SBox.lt HO.out)); replace H2 := Lib.hid (SBox.below H2.out hbwE (SBox.lt H2.out)); replace H3 := Lib.hid (SBox.below H3.out hbwE (SBox.lt H3.out)); replace HBT := Lib.hid (bthen HBT.out hbwE (Nat.le_refl _)); clear hbwE; (try clear z0 z1 z2 z3 z4 z5 z6 z7 z8 z9 y0 y1 y2 y3 y4 y5 y6 y7 y8 y9 zf2 zf3 zf4 zf5 zf6 zf7 zf8 zf9); obtain ⟨z0, z1, z2, z3, z4, z5, z6, z7, z8, z9⟩ := HO.out.cells; obtain ⟨y0, y1, y2, y3, y4, y5, y6, y7, y8, y9⟩ := H2.out.cells; have zf2 := HO.out.free 2; have zf3 := HO.out.free 3; have zf4 := HO.out.free 4; have zf5 := HO.out.free 5; have zf6 := HO.out.free 6; have zf7 := HO.out.free 7; have zf8 := HO.out.free 8; have zf9 := HO.out.free 9; (try simp only [] at z0 z1 z2 z3 z4 z5 z6 z7 z8 z9 y0 y1 y2 y3 y4 y5 y6 y7 y8 y9)) | (go_at_call_of 72 (Value.string sy); with_reducible refine (HK2.out _).mono ?_; rintro e wG ⟨rfl, hbwG⟩; replace HO := Lib.hid (SBox.below HO.out hbwG (SBox.lt HO.out)); replace H2 := Lib.hid (SBox.below H2.out hbwG (SBox.lt H2.out)); replace H3 := Lib.hid (SBox.below H3.out hbwG (SBox.lt H3.out)); replace HBT := Lib.hid (bthen HBT.out hbwG (Nat.le_refl _)); clear hbwG; (try clear z0 z1 z2 z3 z4 z5 z6 z7 z8 z9 y0 y1 y2 y3 y4 y5 y6 y7 y8 y9 zf2 zf3 zf4 zf5 zf6 zf7 zf8 zf9); obtain ⟨z0, z1, z2, z3, z4, z5, z6, z7, z8, z9⟩ := HO.out.cells; obtain ⟨y0, y1, y2, y3, y4, y5, y6, y7, y8, y9⟩ := H2.out.cells; have zf2 := HO.out.free 2; have zf3 := HO.out.free 3; have zf4 := HO.out.free 4; have zf5 := HO.out.free 5; have zf6 := HO.out.free 6; have zf7 := HO.out.free 7; have zf8 := HO.out.free 8; have zf9 := HO.out.free 9; (try simp only [] at z0 z1 z2 z3 z4 z5 z6 z7 z8 z9 y0 y1 y2 y3 y4 y5 y6 y7 y8 y9)) | (go_at_call_of 78 (Value.string sy); with_reducible refine (HN4.out _).mono ?_; rintro e wF ⟨rfl, hbwF⟩; replace HO := Lib.hid (SBox.below HO.out hbwF (SBox.lt HO.out)); replace H2 := Lib.hid (SBox.below H2.out hbwF (SBox.lt H2.out)); replace H3 := Lib.hid (SBox.below H3.out hbwF (SBox.lt H3.out)); replace HBT := Lib.hid (bthen HBT.out hbwF (Nat.le_refl _)); clear hbwF; (try clear z0 z1 z2 z3 z4 z5 z6 z7 z8 z9 y0 y1 y2 y3 y4 y5 y6 y7 y8 y9 zf2 zf3 zf4 zf5 zf6 zf7 zf8 zf9); obtain ⟨z0, z1, z2, z3, z4, z5, z6, z7, z8, z9⟩ := HO.out.cells; obtain ⟨y0, y1, y2, y3, y4, y5, y6, y7, y8, y9⟩ := H2.out.cells; have zf2 := HO.out.free 2; have zf3 := HO.out.free 3; have zf4 := HO.out.free 4; have zf5 := HO.out.free 5; have zf6 := HO.out.free 6; have zf7 := HO.out.free 7; have zf8 := HO.out.free 8; have zf9 := HO.out.free 9; (try simp only [] at z0 z1 z2 z3 z4 z5 z6 z7 z8 z9 y0 y1 y2 y3 y4 y5 y6 y7 y8 y9)))
                go_meet
                exact ⟨by rw [← HMB.out.2, h2']; rfl, HO.out, H2.out, H3.out, HBT.out⟩
              · have h2' : decide (0 < r2) = false := decide_eq_false h2
                clear h2
                go_wp2_with (first | (go_at_call_of 78 (Value.string se); with_reducible refine (HN3.out _).mono ?_; rintro e wE ⟨rfl, hbwE⟩; replace HO := Lib.hid (SBox.below HO.out hbwE (SBox.lt HO.out)); replace H2 := Lib.hid (SBox.below H2.out hbwE (SBox.lt H2.out)); replace H3 := Lib.hid (SBox.below H3.out hbwE (SBox.lt H3.out)); replace HBT := Lib.hid (bthen HBT.out hbwE (Nat.le_refl _)); clear hbwE; (try clear z0 z1 z2 z3 z4 z5 z6 z7 z8 z9 y0 y1 y2 y3 y4 y5 y6 y7 y8 y9 zf2 zf3 zf4 zf5 zf6 zf7 zf8 zf9); obtain ⟨z0, z1, z2, z3, z4, z5, z6, z7, z8, z9⟩ := HO.out.cells; obtain ⟨y0, y1, y2, y3, y4, y5, y6, y7, y8, y9⟩ := H2.out.cells; have zf2 := HO.out.free 2; have zf3 := HO.out.free 3; have zf4 := HO.out.free 4; have zf5 := HO.out.free 5; have zf6 := HO.out.free 6; have zf7 := HO.out.free 7; have zf8 := HO.out.free 8; have zf9 := HO.out.free 9; (try simp only [] at z0 z1 z2 z3 z4 z5 z6 z7 z8 z9 y0 y1 y2 y3 y4 y5 y6 y7 y8 y9)) | (go_at_call_of 72 (Value.string sy); with_reducible refine (HK2.out _).mono ?_; rintro e wG ⟨rfl, hbwG⟩; replace HO := Lib.hid (SBox.below HO.out hbwG (SBox.lt HO.out)); replace H2 := Lib.hid (SBox.below H2.out hbwG (SBox.lt H2.out)); replace H3 := Lib.hid (SBox.below H3.out hbwG (SBox.lt H3.out)); replace HBT := Lib.hid (bthen HBT.out hbwG (Nat.le_refl _)); clear hbwG; (try clear z0 z1 z2 z3 z4 z5 z6 z7 z8 z9 y0 y1 y2 y3 y4 y5 y6 y7 y8 y9 zf2 zf3 zf4 zf5 zf6 zf7 zf8 zf9); obtain ⟨z0, z1, z2, z3, z4, z5, z6, z7, z8, z9⟩ := HO.out.cells; obtain ⟨y0, y1, y2, y3, y4, y5, y6, y7, y8, y9⟩ := H2.out.cells; have zf2 := HO.out.free 2; have zf3 := HO.out.free 3; have zf4 := HO.out.free 4; have zf5 := HO.out.free 5; have zf6 := HO.out.free 6; have zf7 := HO.out.free 7; have zf8 := HO.out.free 8; have zf9 := HO.out.free 9; (try simp only [] at z0 z1 z2 z3 z4 z5 z6 z7 z8 z9 y0 y1 y2 y3 y4 y5 y6 y7 y8 y9)) | (go_at_call_of 78 (Value.string sy); with_reducible refine (HN4.out _).mono ?_; rintro e wF ⟨rfl, hbwF⟩; replace HO := Lib.hid (SBox.below HO.out hbwF (SBox.lt HO.out)); replace H2 := Lib.hid (SBox.below H2.out hbwF (SBox.lt H2.out)); replace H3 := Lib.hid (SBox.below H3.out hbwF (SBox.lt H3.out)); replace HBT := Lib.hid (bthen HBT.out hbwF (Nat.le_refl _)); clear hbwF; (try clear z0 z1 z2 z3 z4 z5 z6 z7 z8 z9 y0 y1 y2 y3 y4 y5 y6 y7 y8 y9 zf2 zf3 zf4 zf5 zf6 zf7 zf8 zf9); obtain ⟨z0, z1, z2, z3, z4, z5, z6, z7, z8, z9⟩ := HO.out.cells; obtain ⟨y0, y1, y2, y3, y4, y5, y6, y7, y8, y9⟩ := H2.out.cells; have zf2 := HO.out.free 2; have zf3 := HO.out.free 3; have zf4 := HO.out.free 4; have zf5 := HO.out.free 5; have zf6 := HO.out.free 6; have zf7 := HO.out.free 7; have zf8 := HO.out.free 8; have zf9 := HO.out.free 9; (try simp only [] at z0 z1 z2 z3 z4 z5 z6 z7 z8 z9 y0 y1 y2 y3 y4 y5 y6 y7 y8 y9)))
                go_meet
                exact ⟨by rw [← HMB.out.2, h2']; rfl, HO.out, H2.out, H3.out, HBT.out⟩
        case rest =>
          obtain ⟨rfl, hO, h2, h3, hb⟩ := hcut
          replace HO := Lib.hid hO; clear hO
          replace H2 := Lib.hid h2; clear h2
          replace H3 := Lib.hid h3; clear h3
          replace HBT := Lib.hid hb; clear hb
          (try clear z0 z1 z2 z3 z4 z5 z6 z7 z8 z9 y0 y1 y2 y3 y4 y5 y6 y7 y8 y9 zf2 zf3 zf4 zf5 zf6 zf7 zf8 zf9)
          obtain ⟨z0, z1, z2, z3, z4, z5, z6, z7, z8, z9⟩ := HO.out.cells; obtain ⟨y0, y1, y2, y3, y4, y5, y6, y7, y8, y9⟩ := H2.out.cells; have zf2 := HO.out.free 2; have zf3 := HO.out.free 3; have zf4 := HO.out.free 4; have zf5 := HO.out.free 5; have zf6 := HO.out.free 6; have zf7 := HO.out.free 7; have zf8 := HO.out.free 8; have zf9 := HO.out.free 9; (try simp only [] at z0 z1 z2 z3 z4 z5 z6 z7 z8 z9 y0 y1 y2 y3 y4 y5 y6 y7 y8 y9)
          go_upto_if 57 with fail
          go_cut [] (fun wx => SBox wx g c1 q M X ∧ SBox wx (w.heap.size + 1) c2 n2 ⟨kb, ib, bb, sb⟩ ⟨ky, iy, b_y, sy⟩ ∧ SBox wx (w.heap.size + 1 + 1) 0 0 nul nul ∧ Below w.heap.size w wx)
          case first =>
            cases m2 with
            | true =>
              go_wp2_with (first | (go_at_call_of 71 (Value.string sy); with_reducible refine (HC4.out _).mono ?_; rintro e wH ⟨rfl, hbwH⟩; replace HO := Lib.hid (SBox.below HO.out hbwH (SBox.lt HO.out)); replace H2 := Lib.hid (SBox.below H2.out hbwH (SBox.lt H2.out)); replace H3 := Lib.hid (SBox.below H3.out hbwH (SBox.lt H3.out)); replace HBT := Lib.hid (bthen HBT.out hbwH (Nat.le_refl _)); clear hbwH; (try clear z0 z1 z2 z3 z4 z5 z6 z7 z8 z9 y0 y1 y2 y3 y4 y5 y6 y7 y8 y9 zf2 zf3 zf4 zf5 zf6 zf7 zf8 zf9); obtain ⟨z0, z1, z2, z3, z4, z5, z6, z7, z8, z9⟩ := HO.out.cells; obtain ⟨y0, y1, y2, y3, y4, y5, y6, y7, y8, y9⟩ := H2.out.cells; have zf2 := HO.out.free 2; have zf3 := HO.out.free 3; have zf4 := HO.out.free 4; have zf5 := HO.out.free 5; have zf6 := HO.out.free 6; have zf7 := HO.out.free 7; have zf8 := HO.out.free 8; have zf9 := HO.out.free 9; (try simp only [] at z0 z1 z2 z3 z4 z5 z6 z7 z8 z9 y0 y1 y2 y3 y4 y5 y6 y7 y8 y9)))
              (try clear z0 z1 z2 z3 z4 z5 z6 z7 z8 z9 y0 y1 y2 y3 y4 y5 y6 y7 y8 y9 zf2 zf3 zf4 zf5 zf6 zf7 zf8 zf9)
              go_meet
              exact ⟨by rw [← HM.out.2]; exact HO.out.put3 ⟨kh, ih, bh, sh⟩, (((((H2.out).other hn2).other hn2).other hn2).other hn2), (((((H3.out).other hn3).other hn3).other hn3).other hn3), below_put4 HBT.out hgB 6 7 8 9 _ _ _ _⟩
            | false =>
              go_wp2_with fail
              (try clear z0 z1 z2 z3 z4 z5 z6 z7 z8 z9 y0 y1 y2 y3 y4 y5 y6 y7 y8 y9 zf2 zf3 zf4 zf5 zf6 zf7 zf8 zf9)
              go_meet
              exact ⟨by rw [← HM.out.2]; exact HO.out, H2.out, H3.out, HBT.out⟩
          case rest =>
            obtain ⟨hO, h2, h3, hb⟩ := hcut
            replace HO := Lib.hid hO; clear hO
            replace H2 := Lib.hid h2; clear h2
            replace H3 := Lib.hid h3; clear h3
            replace HBT := Lib.hid hb; clear hb
            (try clear z0 z1 z2 z3 z4 z5 z6 z7 z8 z9 y0 y1 y2 y3 y4 y5 y6 y7 y8 y9 zf2 zf3 zf4 zf5 zf6 zf7 zf8 zf9)
            obtain ⟨z0, z1, z2, z3, z4, z5, z6, z7, z8, z9⟩ := HO.out.cells; obtain ⟨y0, y1, y2, y3, y4, y5, y6, y7, y8, y9⟩ := H2.out.cells; have zf2 := HO.out.free 2; have zf3 := HO.out.free 3; have zf4 := HO.out.free 4; have zf5 := HO.out.free 5; have zf6 := HO.out.free 6; have zf7 := HO.out.free 7; have zf8 := HO.out.free 8; have zf9 := HO.out.free 9; (try simp only [] at z0 z1 z2 z3 z4 z5 z6 z7 z8 z9 y0 y1 y2 y3 y4 y5 y6 y7 y8 y9)
            obtain ⟨x0, x1, x2, x3, x4, x5, x6, x7, x8, x9⟩ := H3.out.cells
            have xf0 := H3.out.free 0
            have xf1 := H3.out.free 1
            have xf2 := H3.out.free 2
            have xf3 := H3.out.free 3
            have xf4 := H3.out.free 4
            have xf5 := H3.out.free 5
            have xf6 := H3.out.free 6
            have xf7 := H3.out.free 7
            have xf8 := H3.out.free 8
            have xf9 := H3.out.free 9
            (try simp only [] at x0 x1 x2 x3 x4 x5 x6 x7 x8 x9)
            go_wp2
            exact ret_sbox (H3.out.put c1 q M X) rfl rfl rfl ⟨by rw [HE.out.1, HE.out.2], below_put10 HBT.out (by omega) _ _ _ _ _ _ _ _ _ _⟩
end Go.Proofs.Ytkkpcdpoldjmkaa.Stats
