/-
  THE WALK of boathouselaw10.StatsAll. (Printed by wip/tools/genall.py.)
-/
import Derived.Test.YtkkpcdpoldjmkaaBoth
import Derived.Test.YtkkpcdpoldjmkaaAwake10
import Derived.Test.YtkkpcdpoldjmkaaMem
namespace Go.Proofs.Ytkkpcdpoldjmkaa.Stats
open Go.RowKit ValMath Vals Sl Mem
set_option maxRecDepth 20000 in
set_option maxHeartbeats 8000000 in
theorem statsAll_any (c : Int) (A : Option Addr) (n cap : Nat) (vs : List Val) (a b : Sta) (w : World) (h0 : VArg w A n cap vs) (ha : FineS a) (hb : FineS b) :
    Calls Try.prog 10 #[.int .i64 c, .slice A n cap, sagg1 a, sagg1 b] w fun e w' => e = .returned (.bool true) ∧ Below w.heap.size w w' := by
  have hml : ∀ k : Nat, k ≤ 140737488351232 → k ≤ maxLen := fun k h => Nat.le_trans h (by decide)
  have hcap := hml n (by have h1 := h0.le; have h2 := h0.cap; omega)
  have hO : ∀ (w : World) (A : Option Addr) (cap : Nat), VSl w A n vs → Calls Try.prog 73 #[.int .i64 c, .slice A n cap] w fun e w' => e = .returned (sagg c (stat vs).nulls (stat vs).mn (stat vs).mx) ∧ Below w.heap.size w w' := fun w A cap h => of_any c A n cap vs w h hcap
  have hR : ∀ (w : World) (A : Option Addr) (cap : Nat), VSl w A n vs → Calls Try.prog 74 #[.int .i64 c, .slice A n cap] w fun e w' => e = .returned (sagg c (stat vs).nulls (stat vs).mn (stat vs).mx) ∧ Below w.heap.size w w' := fun w A cap h => statR_any c A n cap vs w h hcap (fun v hv => hml _ (h0.fine v hv).s)
  have hJ := fun w => join_any a.c a.n b.c b.n _ a.mn a.mx b.mn b.mx w rfl
  have hB := fun w => both_any a.c a.n b.c b.n _ a.mn a.mx b.mn b.mx w rfl (hml _ ha.mn.s) (hml _ ha.mx.s) (hml _ hb.mn.s) (hml _ hb.mx.s)
  have hq1 := eql_stat c (stat vs).nulls (stat vs).mn (stat vs).mx
  have hq2 := eql_stat a.c (IntKind.i64.wrap (a.n + b.n)) (lesser a.mn b.mn) (greater a.mx b.mx)
  generalize ((stat vs).nulls : Int) = N at *
  generalize (stat vs).mn = mn at *
  generalize (stat vs).mx = mx at *
  generalize IntKind.i64.wrap (a.n + b.n) = q at *
  generalize lesser a.mn b.mn = l at *
  generalize greater a.mx b.mx = g at *
  obtain ⟨kl, il, bl, sl⟩ := l
  obtain ⟨kg, ig, bg, sg⟩ := g
  obtain ⟨km, im, bm, sm⟩ := mn
  obtain ⟨kn, jn, bn, sn⟩ := mx
  clear ha hb hml
  obtain ⟨c1, n1, ⟨ka, ia, ba, sa⟩, ⟨kx, ix, bx, sx⟩⟩ := a
  obtain ⟨c2, n2, ⟨kb, ib, bb, sb⟩, ⟨ky, iy, b_y, sy⟩⟩ := b
  simp only [] at hO hR hJ hB hq1 hq2
  have HO := Lib.hid hO; clear hO
  have HR := Lib.hid hR; clear hR
  have HJ := Lib.hid hJ; clear hJ
  have HB := Lib.hid hB; clear hB
  have h1 : SBox ((w.alloc (.cells #[.int .i64 c1, .int .i64 n1, .int .i64 ka, .int .i64 ia, .bool ba, .string sa, .int .i64 kx, .int .i64 ix, .bool bx, .string sx] 58)).alloc (.cells #[.int .i64 c2, .int .i64 n2, .int .i64 kb, .int .i64 ib, .bool bb, .string sb, .int .i64 ky, .int .i64 iy, .bool b_y, .string sy] 58)) w.heap.size c1 n1 ⟨ka, ia, ba, sa⟩ ⟨kx, ix, bx, sx⟩ := (SBox.new w _ rfl c1 n1 ⟨ka, ia, ba, sa⟩ ⟨kx, ix, bx, sx⟩).alloc _
  have h2 : SBox ((w.alloc (.cells #[.int .i64 c1, .int .i64 n1, .int .i64 ka, .int .i64 ia, .bool ba, .string sa, .int .i64 kx, .int .i64 ix, .bool bx, .string sx] 58)).alloc (.cells #[.int .i64 c2, .int .i64 n2, .int .i64 kb, .int .i64 ib, .bool bb, .string sb, .int .i64 ky, .int .i64 iy, .bool b_y, .string sy] 58)) (w.heap.size + 1) c2 n2 ⟨kb, ib, bb, sb⟩ ⟨ky, iy, b_y, sy⟩ := SBox.new _ _ (by simp) c2 n2 ⟨kb, ib, bb, sb⟩ ⟨ky, iy, b_y, sy⟩
  have hbt : Below w.heap.size w ((w.alloc (.cells #[.int .i64 c1, .int .i64 n1, .int .i64 ka, .int .i64 ia, .bool ba, .string sa, .int .i64 kx, .int .i64 ix, .bool bx, .string sx] 58)).alloc (.cells #[.int .i64 c2, .int .i64 n2, .int .i64 kb, .int .i64 ib, .bool bb, .string sb, .int .i64 ky, .int .i64 iy, .bool b_y, .string sy] 58)) := Vals.two_new _ _
  have H0 := Lib.hid (h0.below hbt); clear h0
  have H1 := Lib.hid h1; clear h1
  have H2 := Lib.hid h2; clear h2
  have HBT := Lib.hid hbt; clear hbt
  go_enter Try.func10, Try.ntmps10
  go_wp2_with fail
  refine (lendValues_any _ _ _ vs _ H0.out).mono ?_
  rintro e wy ⟨g7, k7, rfl, h7, hby⟩
  replace H0 := Lib.hid (H0.out.below hby); replace H1 := Lib.hid (SBox.below H1.out hby H1.out.lt); replace H2 := Lib.hid (SBox.below H2.out hby H2.out.lt); (try replace H7 := Lib.hid (H7.out.below hby)); replace HBT := Lib.hid (bthen HBT.out hby (Nat.le_refl _)); (try clear hSK); clear hby; have hSK := keepJ H1.out H2.out
  have H7 := Lib.hid h7; clear h7
  go_upto_region 2 with fail
  have h0d : VArg wy.drew A n cap vs := ⟨H0.out.sl, H0.out.le, H0.out.cap, H0.out.fine, H0.out.nil⟩
  have h7d : LentV wy.drew _ g7 n k7 vs := ⟨H7.out.own.drew, H7.out.len⟩
  replace H0 := Lib.hid h0d; clear h0d
  replace H7 := Lib.hid h7d; clear h7d
  replace H1 := Lib.hid H1.out.drew
  replace H2 := Lib.hid H2.out.drew
  replace HBT := Lib.hid HBT.out.drew
  clear hSK
  have hSK := keepJ H1.out H2.out
  go_region_held3 (fun w' => (w'.cell? ⟨w.heap.size, 0, none⟩ = some (.int .i64 c1) ∧ w'.cell? ⟨w.heap.size, 1, none⟩ = some (.int .i64 n1) ∧ w'.cell? ⟨w.heap.size, 2, none⟩ = some (.int .i64 ka) ∧ w'.cell? ⟨w.heap.size, 3, none⟩ = some (.int .i64 ia) ∧ w'.cell? ⟨w.heap.size, 4, none⟩ = some (.bool ba) ∧ w'.cell? ⟨w.heap.size, 5, none⟩ = some (.string sa) ∧ w'.cell? ⟨w.heap.size, 6, none⟩ = some (.int .i64 kx) ∧ w'.cell? ⟨w.heap.size, 7, none⟩ = some (.int .i64 ix) ∧ w'.cell? ⟨w.heap.size, 8, none⟩ = some (.bool bx) ∧ w'.cell? ⟨w.heap.size, 9, none⟩ = some (.string sx)) ∧ (w'.cell? ⟨w.heap.size + 1, 0, none⟩ = some (.int .i64 c2) ∧ w'.cell? ⟨w.heap.size + 1, 1, none⟩ = some (.int .i64 n2) ∧ w'.cell? ⟨w.heap.size + 1, 2, none⟩ = some (.int .i64 kb) ∧ w'.cell? ⟨w.heap.size + 1, 3, none⟩ = some (.int .i64 ib) ∧ w'.cell? ⟨w.heap.size + 1, 4, none⟩ = some (.bool bb) ∧ w'.cell? ⟨w.heap.size + 1, 5, none⟩ = some (.string sb) ∧ w'.cell? ⟨w.heap.size + 1, 6, none⟩ = some (.int .i64 ky) ∧ w'.cell? ⟨w.heap.size + 1, 7, none⟩ = some (.int .i64 iy) ∧ w'.cell? ⟨w.heap.size + 1, 8, none⟩ = some (.bool b_y) ∧ w'.cell? ⟨w.heap.size + 1, 9, none⟩ = some (.string sy)))
    (first | (with_reducible exact hSK) | exact hSK)
    ((first
      | (go_at_call 73; refine (HO.out _ _ _ H7.out.sl).mono ?_; rintro e wA ⟨rfl, hbwA⟩; replace H0 := Lib.hid (H0.out.below hbwA); replace H1 := Lib.hid (SBox.below H1.out hbwA H1.out.lt); replace H2 := Lib.hid (SBox.below H2.out hbwA H2.out.lt); (try replace H7 := Lib.hid (H7.out.below hbwA)); replace HBT := Lib.hid (bthen HBT.out hbwA (Nat.le_refl _)); (try clear hSK); clear hbwA; have hSK := keepJ H1.out H2.out)
      | (go_at_call 74; refine (HR.out _ _ _ H0.out.sl).mono ?_; rintro e wB ⟨rfl, hbwB⟩; replace H0 := Lib.hid (H0.out.below hbwB); replace H1 := Lib.hid (SBox.below H1.out hbwB H1.out.lt); replace H2 := Lib.hid (SBox.below H2.out hbwB H2.out.lt); (try replace H7 := Lib.hid (H7.out.below hbwB)); replace HBT := Lib.hid (bthen HBT.out hbwB (Nat.le_refl _)); (try clear hSK); clear hbwB; have hSK := keepJ H1.out H2.out)
      | (go_at_call 75; refine (HJ.out _).mono ?_; rintro e wC ⟨rfl, hbwC⟩; replace H0 := Lib.hid (H0.out.below hbwC); replace H1 := Lib.hid (SBox.below H1.out hbwC H1.out.lt); replace H2 := Lib.hid (SBox.below H2.out hbwC H2.out.lt); (try replace H7 := Lib.hid (H7.out.below hbwC)); replace HBT := Lib.hid (bthen HBT.out hbwC (Nat.le_refl _)); (try clear hSK); clear hbwC; have hSK := keepJ H1.out H2.out)
      | (go_at_call 76; refine (HB.out _).mono ?_; rintro e wD ⟨rfl, hbwD⟩; replace H0 := Lib.hid (H0.out.below hbwD); replace H1 := Lib.hid (SBox.below H1.out hbwD H1.out.lt); replace H2 := Lib.hid (SBox.below H2.out hbwD H2.out.lt); (try replace H7 := Lib.hid (H7.out.below hbwD)); replace HBT := Lib.hid (bthen HBT.out hbwD (Nat.le_refl _)); (try clear hSK); clear hbwD; have hSK := keepJ H1.out H2.out)
      | (go_at_call 66; refine (keptValues_any _ _ _ n _ _ _ _ H7.out H0.out.sl).mono ?_; rintro e wE ⟨rfl, hbwE⟩; replace H0 := Lib.hid (H0.out.below hbwE); replace H1 := Lib.hid (SBox.below H1.out hbwE H1.out.lt); replace H2 := Lib.hid (SBox.below H2.out hbwE H2.out.lt); (try replace H7 := Lib.hid (H7.out.below hbwE)); replace HBT := Lib.hid (bthen HBT.out hbwE (Nat.le_refl _)); (try clear hSK); clear hbwE; have hSK := keepJ H1.out H2.out)
      | (go_at_call 77; refine (awake_any _).mono ?_; rintro e wF ⟨rfl, hbwF⟩; replace H0 := Lib.hid (H0.out.below hbwF); replace H1 := Lib.hid (SBox.below H1.out hbwF H1.out.lt); replace H2 := Lib.hid (SBox.below H2.out hbwF H2.out.lt); (try replace H7 := Lib.hid (H7.out.below hbwF)); replace HBT := Lib.hid (bthen HBT.out hbwF (Nat.le_refl _)); (try clear hSK); clear hbwF; have hSK := keepJ H1.out H2.out)))
  all_goals
    go_wp2
    go_ret
    exact ⟨rfl, HBT.out⟩
end Go.Proofs.Ytkkpcdpoldjmkaa.Stats
