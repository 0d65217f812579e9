/-
  THE WALK of stats.lesser with stats.more in hand.
-/
import Derived.Test.YtkkpcdpoldjmkaaLess
namespace Go.Proofs.Ytkkpcdpoldjmkaa.Stats
open Go.RowKit ValMath Vals Sl
set_option maxRecDepth 20000 in
set_option maxHeartbeats 2000000 in
theorem greater_any (a b : Val) (w : World) :
    Calls Try.prog 133 #[vagg a, vagg b, .func (.func 134) #[] #[]] w fun e w' => e = .returned (vagg (greater a b)) ∧ Below w.heap.size w w' := by
  have hR := greater_eq a b
  generalize greater a b = r at hR ⊢
  have hA : Box (((w.alloc (.cells #[.int .i64 a.k, .int .i64 a.i, .bool a.b, .string a.s] 52)).alloc (.cells #[.int .i64 b.k, .int .i64 b.i, .bool b.b, .string b.s] 52)).alloc (.cells #[.int .i64 0, .int .i64 0, .bool false, .string { data := #[] }] 52)) w.heap.size a := ((Box.new w a).alloc _).alloc _
  have hB : Box (((w.alloc (.cells #[.int .i64 a.k, .int .i64 a.i, .bool a.b, .string a.s] 52)).alloc (.cells #[.int .i64 b.k, .int .i64 b.i, .bool b.b, .string b.s] 52)).alloc (.cells #[.int .i64 0, .int .i64 0, .bool false, .string { data := #[] }] 52)) (w.heap.size + 1) b := (box_new _ _ (by simp) b).alloc _
  have hC : Box (((w.alloc (.cells #[.int .i64 a.k, .int .i64 a.i, .bool a.b, .string a.s] 52)).alloc (.cells #[.int .i64 b.k, .int .i64 b.i, .bool b.b, .string b.s] 52)).alloc (.cells #[.int .i64 0, .int .i64 0, .bool false, .string { data := #[] }] 52)) (w.heap.size + 1 + 1) nul := box_new _ _ (by simp) nul
  have hbt := Vals.three_new (w := w) (.cells #[.int .i64 a.k, .int .i64 a.i, .bool a.b, .string a.s] 52) (.cells #[.int .i64 b.k, .int .i64 b.i, .bool b.b, .string b.s] 52) (.cells #[.int .i64 0, .int .i64 0, .bool false, .string { data := #[] }] 52)
  have hpa := plain_any a
  have hpb := plain_any b
  have hlt := more_any (clean b) (clean a)
  have hna : null a = decide ((clean a).k = 0) := rfl
  have hnb : null b = decide ((clean b).k = 0) := rfl
  generalize null a = na at hna hR
  generalize null b = nb at hnb hR
  generalize clean a = p at *
  generalize clean b = q at *
  obtain ⟨k1, i1, b1, s1⟩ := a
  obtain ⟨k2, i2, b2, s2⟩ := b
  obtain ⟨kp, ip, bp, sp⟩ := p
  obtain ⟨kq, iq, bq, sq⟩ := q
  simp only [] at hpa hpb hlt hna hnb hA hB hC hbt hR
  have HR := Lib.hid hR; clear hR
  have HNN := Lib.hid (And.intro hna hnb); clear hna hnb
  have HLT := Lib.hid hlt; clear hlt
  have HPA := Lib.hid hpa; clear hpa
  have HPB := Lib.hid hpb; clear hpb
  have HA := Lib.hid hA; clear hA
  have HB := Lib.hid hB; clear hB
  have HC := Lib.hid hC; clear hC
  have hne : w.heap.size ≠ w.heap.size + 1 := by omega
  have hne2 : w.heap.size + 1 + 1 ≠ w.heap.size := by omega
  have hne3 : w.heap.size + 1 + 1 ≠ w.heap.size + 1 := by omega
  go_enter Try.func133, Try.ntmps133
  go_upto_region 1 with fail
  go_cut [] (fun wx => Box wx w.heap.size ⟨kp, ip, bp, sp⟩ ∧ Box wx (w.heap.size + 1) ⟨kq, iq, bq, sq⟩ ∧ Box wx (w.heap.size + 1 + 1) nul ∧ Below w.heap.size w wx)
  case first =>
    obtain ⟨z0, z1, z2, z3⟩ := HA.out.cells
    obtain ⟨y0, y1, y2, y3⟩ := HB.out.cells
    simp only [] at z0 z1 z2 z3 y0 y1 y2 y3
    go_region_with (first
      | (go_at_call_of 130 (Value.string s1); with_reducible refine (HPA.out _).mono ?_; rintro e w1 ⟨rfl, hb1⟩; clear z0 z1 z2 z3 y0 y1 y2 y3; have HA1 := Lib.hid (HA.out.drew.below hb1); have HB1 := Lib.hid (HB.out.drew.below hb1); have HC1 := Lib.hid (HC.out.drew.below hb1); obtain ⟨y0, y1, y2, y3⟩ := HB1.out.cells; simp only [] at y0 y1 y2 y3)
      | (go_at_call_of 130 (Value.string s2); with_reducible refine (HPB.out _).mono ?_; rintro e w2 ⟨rfl, hb2⟩; clear y0 y1 y2 y3; have HA2 := Lib.hid (HA1.out.below hb2); have HB2 := Lib.hid (HB1.out.below hb2); have HC2 := Lib.hid (HC1.out.below hb2); obtain ⟨z0, z1, z2, z3⟩ := HA2.out.cells; obtain ⟨y0, y1, y2, y3⟩ := HB2.out.cells; have zf0 := HA2.out.free 0; have zf1 := HA2.out.free 1; have zf2 := HA2.out.free 2; have zf3 := HA2.out.free 3; have yf0 := HB2.out.free 0; have yf1 := HB2.out.free 1; have yf2 := HB2.out.free 2; have yf3 := HB2.out.free 3; simp only [] at z0 z1 z2 z3 y0 y1 y2 y3))
    all_goals
      go_wp2_with fail
      go_meet
      refine ⟨?_, ?_, ?_, ?_⟩
      · exact ((((HA2.out.put (u := ⟨kp, ip, bp, sp⟩)).other hne).other hne).other hne).other hne
      · exact ((((HB2.out.other hne.symm).other hne.symm).other hne.symm).other hne.symm).put (u := ⟨kq, iq, bq, sq⟩)
      · exact (((((((HC2.out.other hne2).other hne2).other hne2).other hne2).other hne3).other hne3).other hne3).other hne3
      · have hbb := bthen (bthen hbt.drew hb1 (Nat.le_refl _)) hb2 (Nat.le_refl _)
        clear HA2 HB2 HA1 HB1 HC1 HC2
        have hg0 : w.heap.size ≤ w.heap.size + 1 := by omega
        exact below_put4 (below_put4 hbb (Nat.le_refl _) 0 1 2 3 _ _ _ _) hg0 0 1 2 3 _ _ _ _
  case rest =>
    obtain ⟨hA, hB, hC, hb⟩ := hcut
    clear HPA HPB HA HB HC hbt
    obtain ⟨z0, z1, z2, z3⟩ := hA.cells
    obtain ⟨y0, y1, y2, y3⟩ := hB.cells
    obtain ⟨x0, x1, x2, x3⟩ := hC.cells
    have xf0 := hC.free 0
    have xf1 := hC.free 1
    have xf2 := hC.free 2
    have xf3 := hC.free 3
    simp only [nul] at z0 z1 z2 z3 y0 y1 y2 y3 x0 x1 x2 x3
    have HA := Lib.hid hA
    have HB := Lib.hid hB
    have HC := Lib.hid hC
    have hl0 := hA.lt
    have hl1 := hB.lt
    have hl2 := hC.lt
    clear hA hB hC
    by_cases e0 : kp = 0
    · have h0 : (kp == 0) = true := by simp [e0]
      have hna : na = true := by rw [HNN.out.1]; exact decide_eq_true e0
      have HNA := Lib.hid hna; clear hna e0
      go_wp2
      exact ret_box (HC.out.put (u := ⟨kq, iq, bq, sq⟩)) rfl rfl rfl ⟨by rw [HR.out, HNA.out]; rfl, below_put4 hb (by omega) 0 1 2 3 _ _ _ _⟩
    · have h0 : (kp == 0) = false := by simpa using e0
      have hna : na = false := by rw [HNN.out.1]; exact decide_eq_false e0
      have HNA := Lib.hid hna; clear hna e0
      by_cases e1 : kq = 0
      · have h1 : (kq != 0) = false := by simp [e1]
        have hnb : nb = true := by rw [HNN.out.2]; exact decide_eq_true e1
        have HNB := Lib.hid hnb; clear hnb e1
        go_wp2
        exact ret_box (HC.out.put (u := ⟨kp, ip, bp, sp⟩)) rfl rfl rfl ⟨by rw [HR.out, HNA.out, HNB.out]; rfl, below_put4 hb (by omega) 0 1 2 3 _ _ _ _⟩
      · have h1 : (kq != 0) = true := by simpa using e1
        have hnb : nb = false := by rw [HNN.out.2]; exact decide_eq_false e1
        have HNB := Lib.hid hnb; clear hnb e1
        generalize (less ⟨kp, ip, bp, sp⟩ ⟨kq, iq, bq, sq⟩) = R at HLT HR
        cases R
        case false =>
          go_wp2_with (go_at_call 134; with_reducible refine (HLT.out _).mono ?_; rintro e w3 ⟨rfl, hb3⟩; have hbb := bthen hb hb3 (Nat.le_refl _); clear z0 z1 z2 z3 y0 y1 y2 y3 x0 x1 x2 x3 xf0 xf1 xf2 xf3; obtain ⟨z0, z1, z2, z3⟩ := (HA.out.below hb3).cells; obtain ⟨y0, y1, y2, y3⟩ := (HB.out.below hb3).cells; obtain ⟨x0, x1, x2, x3⟩ := (HC.out.below hb3).cells; have xf0 := (HC.out.below hb3).free 0; have xf1 := (HC.out.below hb3).free 1; have xf2 := (HC.out.below hb3).free 2; have xf3 := (HC.out.below hb3).free 3; simp only [nul] at z0 z1 z2 z3 y0 y1 y2 y3 x0 x1 x2 x3)
          exact ret_box ((HC.out.below hb3).put (u := ⟨kp, ip, bp, sp⟩)) rfl rfl rfl ⟨by rw [HR.out, HNA.out, HNB.out]; rfl, below_put4 hbb (by omega) 0 1 2 3 _ _ _ _⟩
        case true =>
          go_wp2_with (go_at_call 134; with_reducible refine (HLT.out _).mono ?_; rintro e w3 ⟨rfl, hb3⟩; have hbb := bthen hb hb3 (Nat.le_refl _); clear z0 z1 z2 z3 y0 y1 y2 y3 x0 x1 x2 x3 xf0 xf1 xf2 xf3; obtain ⟨z0, z1, z2, z3⟩ := (HA.out.below hb3).cells; obtain ⟨y0, y1, y2, y3⟩ := (HB.out.below hb3).cells; obtain ⟨x0, x1, x2, x3⟩ := (HC.out.below hb3).cells; have xf0 := (HC.out.below hb3).free 0; have xf1 := (HC.out.below hb3).free 1; have xf2 := (HC.out.below hb3).free 2; have xf3 := (HC.out.below hb3).free 3; simp only [nul] at z0 z1 z2 z3 y0 y1 y2 y3 x0 x1 x2 x3)
          exact ret_box ((HC.out.below hb3).put (u := ⟨kq, iq, bq, sq⟩)) rfl rfl rfl ⟨by rw [HR.out, HNA.out, HNB.out]; rfl, below_put4 hbb (by omega) 0 1 2 3 _ _ _ _⟩
end Go.Proofs.Ytkkpcdpoldjmkaa.Stats
