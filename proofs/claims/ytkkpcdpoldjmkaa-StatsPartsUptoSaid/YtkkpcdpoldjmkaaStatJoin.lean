/-
  THE WALK of stats.Join. (Printed by wip/tools/genjoin.py.)
-/
import Derived.Test.YtkkpcdpoldjmkaaStat0
import Derived.Test.YtkkpcdpoldjmkaaLesser
import Derived.Test.YtkkpcdpoldjmkaaGreater
namespace Go.Proofs.Ytkkpcdpoldjmkaa.Stats
open Go.RowKit ValMath Vals Sl
theorem keepJ {w' : World} {g1 g2 : Nat} {c1 n1 c2 n2 ka ia kx ix kb ib ky iy : Int} {ba bx bb b_y : Bool} {sa sx sb sy : ByteArray} (h1 : SBox w' g1 c1 n1 ⟨ka, ia, ba, sa⟩ ⟨kx, ix, bx, sx⟩) (h2 : SBox w' g2 c2 n2 ⟨kb, ib, bb, sb⟩ ⟨ky, iy, b_y, sy⟩) :
    (w'.cell? ⟨g1, 0, none⟩ = some (.int .i64 c1) ∧ w'.cell? ⟨g1, 1, none⟩ = some (.int .i64 n1) ∧ w'.cell? ⟨g1, 2, none⟩ = some (.int .i64 ka) ∧ w'.cell? ⟨g1, 3, none⟩ = some (.int .i64 ia) ∧ w'.cell? ⟨g1, 4, none⟩ = some (.bool ba) ∧ w'.cell? ⟨g1, 5, none⟩ = some (.string sa) ∧ w'.cell? ⟨g1, 6, none⟩ = some (.int .i64 kx) ∧ w'.cell? ⟨g1, 7, none⟩ = some (.int .i64 ix) ∧ w'.cell? ⟨g1, 8, none⟩ = some (.bool bx) ∧ w'.cell? ⟨g1, 9, none⟩ = some (.string sx)) ∧ (w'.cell? ⟨g2, 0, none⟩ = some (.int .i64 c2) ∧ w'.cell? ⟨g2, 1, none⟩ = some (.int .i64 n2) ∧ w'.cell? ⟨g2, 2, none⟩ = some (.int .i64 kb) ∧ w'.cell? ⟨g2, 3, none⟩ = some (.int .i64 ib) ∧ w'.cell? ⟨g2, 4, none⟩ = some (.bool bb) ∧ w'.cell? ⟨g2, 5, none⟩ = some (.string sb) ∧ w'.cell? ⟨g2, 6, none⟩ = some (.int .i64 ky) ∧ w'.cell? ⟨g2, 7, none⟩ = some (.int .i64 iy) ∧ w'.cell? ⟨g2, 8, none⟩ = some (.bool b_y) ∧ w'.cell? ⟨g2, 9, none⟩ = some (.string sy)) := ⟨h1.cells, h2.cells⟩
theorem SBox.other10 {w : World} {g g' : Nat} {c n : Int} {mn mx : Val} (h : SBox w g c n mn mx) (hne : g ≠ g') (u0 u1 u2 u3 u4 u5 u6 u7 u8 u9 : Value) :
    SBox ((((((((((w.setCell ⟨g', 0, none⟩ u0).setCell ⟨g', 1, none⟩ u1).setCell ⟨g', 2, none⟩ u2).setCell ⟨g', 3, none⟩ u3).setCell ⟨g', 4, none⟩ u4).setCell ⟨g', 5, none⟩ u5).setCell ⟨g', 6, none⟩ u6).setCell ⟨g', 7, none⟩ u7).setCell ⟨g', 8, none⟩ u8).setCell ⟨g', 9, none⟩ u9) g c n mn mx :=
  ((((((((((h.other hne).other hne).other hne).other hne).other hne).other hne).other hne).other hne).other hne).other hne)

set_option maxRecDepth 20000 in
set_option maxHeartbeats 4000000 in
theorem join_any (c1 n1 c2 n2 q : Int) (mn1 mx1 mn2 mx2 : Val) (w : World) (hq : IntKind.i64.wrap (n1 + n2) = q) :
    Calls Try.prog 75 #[sagg c1 n1 mn1 mx1, sagg c2 n2 mn2 mx2] w fun e w' => e = .returned (sagg c1 q (lesser mn1 mn2) (greater mx1 mx2)) ∧ Below w.heap.size w w' := by
  have hL := lesser_any mn1 mn2
  have hG := greater_any mx1 mx2
  generalize lesser mn1 mn2 = l at hL ⊢
  generalize greater mx1 mx2 = g at hG ⊢
  obtain ⟨ka, ia, ba, sa⟩ := mn1
  obtain ⟨kx, ix, bx, sx⟩ := mx1
  obtain ⟨kb, ib, bb, sb⟩ := mn2
  obtain ⟨ky, iy, b_y, sy⟩ := mx2
  obtain ⟨kl, il, bl, sl⟩ := l
  obtain ⟨kg, ig, bg, sg⟩ := g
  simp only [vagg] at hL hG
  have HL := Lib.hid hL; clear hL
  have HG := Lib.hid hG; clear hG
  go_enter Try.func75, Try.ntmps75
  go_upto_region 1 with fail
  have h1 : SBox (((w.alloc (.cells #[.int .i64 c1, .int .i64 n1, .int .i64 ka, .int .i64 ia, .bool ba, .string sa, .int .i64 kx, .int .i64 ix, .bool bx, .string sx] 58)).alloc (.cells #[.int .i64 c2, .int .i64 n2, .int .i64 kb, .int .i64 ib, .bool bb, .string sb, .int .i64 ky, .int .i64 iy, .bool b_y, .string sy] 58)).alloc (.cells #[.int .i64 0, .int .i64 0, .int .i64 0, .int .i64 0, .bool false, .string { data := #[] }, .int .i64 0, .int .i64 0, .bool false, .string { data := #[] }] 58)) w.heap.size c1 n1 ⟨ka, ia, ba, sa⟩ ⟨kx, ix, bx, sx⟩ := ((SBox.new w _ rfl c1 n1 ⟨ka, ia, ba, sa⟩ ⟨kx, ix, bx, sx⟩).alloc _).alloc _
  have h2 : SBox (((w.alloc (.cells #[.int .i64 c1, .int .i64 n1, .int .i64 ka, .int .i64 ia, .bool ba, .string sa, .int .i64 kx, .int .i64 ix, .bool bx, .string sx] 58)).alloc (.cells #[.int .i64 c2, .int .i64 n2, .int .i64 kb, .int .i64 ib, .bool bb, .string sb, .int .i64 ky, .int .i64 iy, .bool b_y, .string sy] 58)).alloc (.cells #[.int .i64 0, .int .i64 0, .int .i64 0, .int .i64 0, .bool false, .string { data := #[] }, .int .i64 0, .int .i64 0, .bool false, .string { data := #[] }] 58)) (w.heap.size + 1) c2 n2 ⟨kb, ib, bb, sb⟩ ⟨ky, iy, b_y, sy⟩ := (SBox.new _ _ (by simp) c2 n2 ⟨kb, ib, bb, sb⟩ ⟨ky, iy, b_y, sy⟩).alloc _
  have h3 : SBox (((w.alloc (.cells #[.int .i64 c1, .int .i64 n1, .int .i64 ka, .int .i64 ia, .bool ba, .string sa, .int .i64 kx, .int .i64 ix, .bool bx, .string sx] 58)).alloc (.cells #[.int .i64 c2, .int .i64 n2, .int .i64 kb, .int .i64 ib, .bool bb, .string sb, .int .i64 ky, .int .i64 iy, .bool b_y, .string sy] 58)).alloc (.cells #[.int .i64 0, .int .i64 0, .int .i64 0, .int .i64 0, .bool false, .string { data := #[] }, .int .i64 0, .int .i64 0, .bool false, .string { data := #[] }] 58)) (w.heap.size + 1 + 1) 0 0 nul nul := SBox.new _ _ (by simp) _ _ nul nul
  have hb : Below w.heap.size w (((w.alloc (.cells #[.int .i64 c1, .int .i64 n1, .int .i64 ka, .int .i64 ia, .bool ba, .string sa, .int .i64 kx, .int .i64 ix, .bool bx, .string sx] 58)).alloc (.cells #[.int .i64 c2, .int .i64 n2, .int .i64 kb, .int .i64 ib, .bool bb, .string sb, .int .i64 ky, .int .i64 iy, .bool b_y, .string sy] 58)).alloc (.cells #[.int .i64 0, .int .i64 0, .int .i64 0, .int .i64 0, .bool false, .string { data := #[] }, .int .i64 0, .int .i64 0, .bool false, .string { data := #[] }] 58)) := Vals.three_new _ _ _
  generalize (((w.alloc (.cells #[.int .i64 c1, .int .i64 n1, .int .i64 ka, .int .i64 ia, .bool ba, .string sa, .int .i64 kx, .int .i64 ix, .bool bx, .string sx] 58)).alloc (.cells #[.int .i64 c2, .int .i64 n2, .int .i64 kb, .int .i64 ib, .bool bb, .string sb, .int .i64 ky, .int .i64 iy, .bool b_y, .string sy] 58)).alloc (.cells #[.int .i64 0, .int .i64 0, .int .i64 0, .int .i64 0, .bool false, .string { data := #[] }, .int .i64 0, .int .i64 0, .bool false, .string { data := #[] }] 58)) = wz at *
  have hne1 : w.heap.size ≠ w.heap.size + 1 + 1 := by omega
  have hne2 : w.heap.size + 1 ≠ w.heap.size + 1 + 1 := by omega
  have hSK := keepJ h1.drew h2.drew
  have H1 := Lib.hid h1; clear h1
  have H2 := Lib.hid h2; clear h2
  have H3 := Lib.hid h3; clear h3
  have HBT := Lib.hid hb; clear hb
  go_region_held3 (fun w' => (w'.cell? ⟨w.heap.size, 0, none⟩ = some (.int .i64 c1) ∧ w'.cell? ⟨w.heap.size, 1, none⟩ = some (.int .i64 n1) ∧ w'.cell? ⟨w.heap.size, 2, none⟩ = some (.int .i64 ka) ∧ w'.cell? ⟨w.heap.size, 3, none⟩ = some (.int .i64 ia) ∧ w'.cell? ⟨w.heap.size, 4, none⟩ = some (.bool ba) ∧ w'.cell? ⟨w.heap.size, 5, none⟩ = some (.string sa) ∧ w'.cell? ⟨w.heap.size, 6, none⟩ = some (.int .i64 kx) ∧ w'.cell? ⟨w.heap.size, 7, none⟩ = some (.int .i64 ix) ∧ w'.cell? ⟨w.heap.size, 8, none⟩ = some (.bool bx) ∧ w'.cell? ⟨w.heap.size, 9, none⟩ = some (.string sx)) ∧ (w'.cell? ⟨w.heap.size + 1, 0, none⟩ = some (.int .i64 c2) ∧ w'.cell? ⟨w.heap.size + 1, 1, none⟩ = some (.int .i64 n2) ∧ w'.cell? ⟨w.heap.size + 1, 2, none⟩ = some (.int .i64 kb) ∧ w'.cell? ⟨w.heap.size + 1, 3, none⟩ = some (.int .i64 ib) ∧ w'.cell? ⟨w.heap.size + 1, 4, none⟩ = some (.bool bb) ∧ w'.cell? ⟨w.heap.size + 1, 5, none⟩ = some (.string sb) ∧ w'.cell? ⟨w.heap.size + 1, 6, none⟩ = some (.int .i64 ky) ∧ w'.cell? ⟨w.heap.size + 1, 7, none⟩ = some (.int .i64 iy) ∧ w'.cell? ⟨w.heap.size + 1, 8, none⟩ = some (.bool b_y) ∧ w'.cell? ⟨w.heap.size + 1, 9, none⟩ = some (.string sy)))
    (first | (with_reducible exact hSK) | exact keepJ (H1.out.other10 hne1 _ _ _ _ _ _ _ _ _ _) (H2.out.other10 hne2 _ _ _ _ _ _ _ _ _ _))
    ((first
      | (go_at_call_of 133 (Value.string sa); with_reducible refine (HL.out _).mono ?_; rintro e wK ⟨rfl, hbK⟩
         replace H1 := Lib.hid (H1.out.drew.below hbK H1.out.drew.lt)
         replace H2 := Lib.hid (H2.out.drew.below hbK H2.out.drew.lt)
         replace H3 := Lib.hid (H3.out.drew.below hbK H3.out.drew.lt)
         replace HBT := Lib.hid (bthen HBT.out.drew hbK (Nat.le_refl _))
         clear hSK hbK
         have hSK := keepJ H1.out H2.out)
      | (go_at_call_of 133 (Value.string sx); with_reducible refine (HG.out _).mono ?_; rintro e wL ⟨rfl, hbL⟩
         replace H1 := Lib.hid (H1.out.below hbL H1.out.lt)
         replace H2 := Lib.hid (H2.out.below hbL H2.out.lt)
         replace H3 := Lib.hid (H3.out.below hbL H3.out.lt)
         replace HBT := Lib.hid (bthen HBT.out hbL (Nat.le_refl _))
         clear hSK hbL
         have hSK := keepJ H1.out H2.out
         obtain ⟨z0, z1, z2, z3, z4, z5, z6, z7, z8, z9⟩ := H3.out.cells
         have zf0 := H3.out.free 0; have zf1 := H3.out.free 1; have zf2 := H3.out.free 2; have zf3 := H3.out.free 3; have zf4 := H3.out.free 4; have zf5 := H3.out.free 5
         have zf6 := H3.out.free 6; have zf7 := H3.out.free 7; have zf8 := H3.out.free 8; have zf9 := H3.out.free 9)))
  all_goals
    clear z0 z1 z2 z3 z4 z5 z6 z7 z8 z9 zf0 zf1 zf2 zf3 zf4 zf5 zf6 zf7 zf8 zf9 hSK
    go_wp2
    have hg : w.heap.size ≤ w.heap.size + 1 + 1 := by omega
    exact ret_sbox (H3.out.put c1 q ⟨kl, il, bl, sl⟩ ⟨kg, ig, bg, sg⟩) rfl rfl rfl ⟨rfl, below_put10 HBT.out hg _ _ _ _ _ _ _ _ _ _⟩
end Go.Proofs.Ytkkpcdpoldjmkaa.Stats
