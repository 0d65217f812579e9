/-
  THE WALK of AggEdges.
-/
import Derived.Test.YtkkpcdpoldjmkaaAggLaws
import Derived.Test.YtkkpcdpoldjmkaaCrcLaws
namespace Go.Proofs.Ytkkpcdpoldjmkaa.Agg
open Go.RowKit ValMath Vals Sl Stats Mem

theorem agg_edge (a b : Int) : agg 2 [num_ a, nought, num_ b] = if a + b < -9223372036854775808 ∨ 9223372036854775807 < a + b then (nul, 1702) else (number (a + b), 0) := by
  have ht : total [num_ a, nought, num_ b] = a + b := by
    show a + (0 + (b + 0)) = a + b
    omega
  rw [agg_two]; unfold aggSum
  rw [show odd_ [num_ a, nought, num_ b] = false from rfl, if_neg (by simp), show some_ [num_ a, nought, num_ b] = 2 from rfl, if_neg (by omega), ht]
theorem edge {a b : Int} (a1 : -9223372036854775808 ≤ a) (a2 : a < 9223372036854775808) (b1 : -9223372036854775808 ≤ b) (b2 : b < 9223372036854775808) :
    ∃ (ov : Bool) (S : Int), S = IntKind.i64.wrap (a + b) ∧ agg 2 [num_ a, nought, num_ b] = ((if ov then nul else number S), (if ov then 1702 else 0)) ∧
      ((0 < a ∧ 0 < b ∧ S < 0 ∧ ov = true) ∨ (0 < a ∧ 0 < b ∧ ¬ S < 0 ∧ ¬ a < 0 ∧ ov = false) ∨ (0 < a ∧ ¬ 0 < b ∧ ¬ a < 0 ∧ ov = false) ∨ (¬ 0 < a ∧ a < 0 ∧ b < 0 ∧ 0 ≤ S ∧ ov = true) ∨ (¬ 0 < a ∧ a < 0 ∧ b < 0 ∧ ¬ 0 ≤ S ∧ ov = false) ∨ (¬ 0 < a ∧ a < 0 ∧ ¬ b < 0 ∧ ov = false) ∨ (¬ 0 < a ∧ ¬ a < 0 ∧ ov = false)) := by
  rw [agg_edge]
  by_cases h : a + b < -9223372036854775808 ∨ 9223372036854775807 < a + b
  · refine ⟨true, _, rfl, by rw [if_pos h]; rfl, ?_⟩
    rw [IntKind.wrap_i64]
    by_cases h0 : 0 < a
    · exact .inl ⟨h0, by omega, by omega, rfl⟩
    · exact .inr (.inr (.inr (.inl ⟨h0, by omega, by omega, by omega, rfl⟩)))
  · have hw : IntKind.i64.wrap (a + b) = a + b := IntWalk.i64_in _ (by omega)
    refine ⟨false, _, rfl, by rw [if_neg h, hw]; rfl, ?_⟩
    rw [hw]
    by_cases h0 : 0 < a
    · by_cases h1 : 0 < b
      · exact .inr (.inl ⟨h0, h1, by omega, by omega, rfl⟩)
      · exact .inr (.inr (.inl ⟨h0, h1, by omega, rfl⟩))
    · by_cases h2 : a < 0
      · by_cases h1 : b < 0
        · exact .inr (.inr (.inr (.inr (.inl ⟨h0, h2, h1, by omega, rfl⟩))))
        · exact .inr (.inr (.inr (.inr (.inr (.inl ⟨h0, h2, h1, rfl⟩)))))
      · exact .inr (.inr (.inr (.inr (.inr (.inr ⟨h0, h2, rfl⟩)))))
theorem agg_nuls {m : Nat} (hm : m < 5) : agg (m : Int) [nought, nought] = (⟨if m = 1 then 1 else 0, 0, false, ⟨#[]⟩⟩, 0) := by
  have : m = 0 ∨ m = 1 ∨ m = 2 ∨ m = 3 ∨ m = 4 := by omega
  rcases this with rfl | rfl | rfl | rfl | rfl <;> decide +kernel
theorem ag_x (A : Option Addr) (c : Nat) (w : World) (hv : VSl w A 1 [⟨3, 0, false, ⟨#[120]⟩⟩]) : Calls Try.prog 116 #[.int .i64 2, .slice A 1 c] w fun e w' => e = .returned (.tuple #[.agg #[.int .i64 0, .int .i64 0, .bool false, .string { data := #[] }], .int .i64 1701]) ∧ Below w.heap.size w w' :=
  of_known 2 A 1 c _ w nought 1701 (by omega) (by intro v hv; simp at hv; subst hv; simp) (by decide +kernel) hv

set_option maxRecDepth 20000 in
set_option maxHeartbeats 8000000 in
theorem aggEdges_any (a b kind : Int) (w : World) (ha : (Lit.int .i64 a).wf = true) (hb : (Lit.int .i64 b).wf = true) (_hk : (Lit.int .i64 kind).wf = true) :
    Calls Try.prog 31 #[.int .i64 a, .int .i64 b, .int .i64 kind] w fun e w' => e = .returned (.bool true) ∧ Below w.heap.size w w' := by
  have ba := bounds_i64 ha
  have bb := bounds_i64 hb
  clear ha hb _hk
  obtain ⟨ov, S, hS, hag, hways⟩ := edge ba.1 (by omega) bb.1 (by omega)
  obtain ⟨m, hm, hm2⟩ := Crc.mod_nat kind 5 (by omega)
  replace hm2 : (IntKind.u64.wrap kind).tmod 5 = (m : Int) := hm2
  have hA := fun A c w h => of_known 2 A 3 c [num_ a, nought, num_ b] w _ _ (by omega) (by intro v hv; simp at hv; rcases hv with rfl | rfl | rfl <;> simp <;> omega) hag h
  have hK := fun A c w h => of_known (m : Int) A 2 c [nought, nought] w _ _ (by omega) (by intro v hv; simp at hv; subst hv; simp) (agg_nuls hm) h
  have hSI : IntKind.i64.wrap (a + b) = S := hS.symm
  have HA := Lib.hid hA; clear hA hag hS
  have HK := Lib.hid hK; clear hK
  have HW := Lib.hid hways; clear hways
  clear ba bb
  go_enter Try.func31, Try.ntmps31
  go_wp2_with fail
  refine (awake_any _).mono ?_
  rintro e w1 ⟨rfl, hb1⟩
  go_wp2_with fail
  refine (HA.out _ _ _ (VSl.at3 _ _ (by simp) (num_ a) nought (num_ b) _)).mono ?_
  rintro e w2 ⟨rfl, hb2⟩
  have HBT := Lib.hid (bthen ((((hb1.alloc hb1.size _).alloc (by have := hb1.size; simp; omega) _)).alloc (by have := hb1.size; simp; omega) _) hb2 (Nat.le_refl _)); clear hb1 hb2
  generalize hU : (if ov then nul else number S) = U at *
  generalize hE : (if ov then 1702 else 0) = E at *
  have HUE := Lib.hid (And.intro hU hE); clear hU hE
  obtain ⟨ku, iu, bu, su⟩ := U
  go_upto_region 6 with fail
  have HX := Lib.hid (Box.new w2 ⟨ku, iu, bu, su⟩)
  replace HBT := Lib.hid (HBT.out.alloc HBT.out.size (.cells #[.int .i64 ku, .int .i64 iu, .bool bu, .string su] 52))
  generalize hg : w2.heap.size = g at *
  generalize hw3 : w2.alloc (.cells #[.int .i64 ku, .int .i64 iu, .bool bu, .string su] 52) = w3 at *
  clear hg hw3
  go_cut [12] (fun v wx => v = .bool ov ∧ wx = w3)
  case first =>
    rcases HW.out with ⟨h1, h2, h3, rfl⟩ | ⟨h1, h2, h3, h4, rfl⟩ | ⟨h1, h2, h3, rfl⟩ | ⟨h1, h2, h3, h4, rfl⟩ | ⟨h1, h2, h3, h4, rfl⟩ | ⟨h1, h2, h3, rfl⟩ | ⟨h1, h2, rfl⟩
    all_goals
      go_wp2_with fail
      go_meet
      first
        | exact ⟨rfl, rfl⟩
        | exact ⟨congrArg Value.bool (decide_eq_false (by omega)), rfl⟩
  case rest =>
    obtain ⟨rfl, rfl⟩ := hcut
    clear HW HA
    by_cases hm1 : m = 1
    · subst hm1
      rw [if_pos rfl] at HK
      go_wp2_with fail
      refine (HK.out _ _ _ (VSl.at2 _ _ (by simp) nought nought _)).mono ?_
      rintro e w4 ⟨rfl, hb4⟩
      replace HX := Lib.hid ((HX.out.alloc _).below hb4)
      replace HBT := Lib.hid (bthen (HBT.out.alloc HBT.out.size _) hb4 (Nat.le_refl _)); clear hb4
      have hx4 := HX.out.lt
      go_wp2_with fail
      refine (ag_x _ _ _ (VSl.at1 _ _ (by simp) ⟨3, 0, false, ⟨#[120]⟩⟩ _)).mono ?_
      rintro e w5 ⟨rfl, hb5⟩
      have HO1 := Lib.hid (((((Box.new w4 ⟨1, 0, false, ⟨#[]⟩⟩).alloc _).alloc _).below hb5).alloc (.cells #[.int .i64 0, .int .i64 0, .bool false, .string { data := #[] }] 52))
      have HO2 := Lib.hid ((((box_new (w4.alloc (.cells #[.int .i64 1, .int .i64 0, .bool false, .string { data := #[] }] 52)) (w4.heap.size + 1) (by simp) ⟨1, 0, false, ⟨#[]⟩⟩).alloc _).below hb5).alloc (.cells #[.int .i64 0, .int .i64 0, .bool false, .string { data := #[] }] 52))
      replace HX := Lib.hid (((((HX.out.alloc _).alloc _).alloc _).below hb5).alloc (.cells #[.int .i64 0, .int .i64 0, .bool false, .string { data := #[] }] 52))
      have h4z := HBT.out.size
      replace HBT := Lib.hid ((bthen (((HBT.out.alloc h4z _).alloc (by simp; omega) _).alloc (by simp; omega) _) hb5 (Nat.le_refl _)).alloc (by have := hb5.size; simp at this; omega) (.cells #[.int .i64 0, .int .i64 0, .bool false, .string { data := #[] }] 52)); clear hb5 h4z
      have hqS := eq_same ⟨ku, iu, bu, su⟩
      have hqO := eq_same ⟨1, 0, false, ⟨#[]⟩⟩
      obtain ⟨x0, x1, x2, x3⟩ := HX.out.cells
      obtain ⟨y0, y1, y2, y3⟩ := HO1.out.cells
      obtain ⟨z0, z1, z2, z3⟩ := HO2.out.cells
      simp only [] at x0 x1 x2 x3 y0 y1 y2 y3 z0 z1 z2 z3 hqS hqO
      clear HK
      cases ov with
      | true =>
        obtain ⟨e1, e2⟩ := HUE.out
        simp only [if_true] at e1 e2
        injection e1 with q1 q2 q3 q4
        subst q1; subst q2; subst q3; subst q4; subst e2
        clear HUE
        go_wp2_with (go_at_call 56; (with_reducible refine (boathouseNames.num_any _ _).mono ?_); rintro e w' ⟨rfl, rfl⟩)
        go_ret
        exact ⟨rfl, HBT.out⟩
      | false =>
        obtain ⟨e1, e2⟩ := HUE.out
        simp only [Bool.false_eq_true, if_false] at e1 e2
        injection e1 with q1 q2 q3 q4
        subst q1; subst q2; subst q3; subst q4; subst e2
        clear HUE
        go_wp2_with (go_at_call 56; (with_reducible refine (boathouseNames.num_any _ _).mono ?_); rintro e w' ⟨rfl, rfl⟩)
        go_ret
        exact ⟨rfl, HBT.out⟩
    · simp only [if_neg hm1] at HK
      have hm1' : ¬ (m : Int) = 1 := by omega
      clear hm1
      go_wp2_with fail
      refine (HK.out _ _ _ (VSl.at2 _ _ (by simp) nought nought _)).mono ?_
      rintro e w4 ⟨rfl, hb4⟩
      replace HX := Lib.hid ((HX.out.alloc _).below hb4)
      replace HBT := Lib.hid (bthen (HBT.out.alloc HBT.out.size _) hb4 (Nat.le_refl _)); clear hb4
      have hx4 := HX.out.lt
      go_wp2_with fail
      refine (ag_x _ _ _ (VSl.at1 _ _ (by simp) ⟨3, 0, false, ⟨#[120]⟩⟩ _)).mono ?_
      rintro e w5 ⟨rfl, hb5⟩
      have HO1 := Lib.hid (((((Box.new w4 ⟨0, 0, false, ⟨#[]⟩⟩).alloc _).alloc _).below hb5).alloc (.cells #[.int .i64 0, .int .i64 0, .bool false, .string { data := #[] }] 52))
      have HO2 := Lib.hid ((((box_new (w4.alloc (.cells #[.int .i64 0, .int .i64 0, .bool false, .string { data := #[] }] 52)) (w4.heap.size + 1) (by simp) ⟨0, 0, false, ⟨#[]⟩⟩).alloc _).below hb5).alloc (.cells #[.int .i64 0, .int .i64 0, .bool false, .string { data := #[] }] 52))
      replace HX := Lib.hid (((((HX.out.alloc _).alloc _).alloc _).below hb5).alloc (.cells #[.int .i64 0, .int .i64 0, .bool false, .string { data := #[] }] 52))
      have h4z := HBT.out.size
      replace HBT := Lib.hid ((bthen (((HBT.out.alloc h4z _).alloc (by simp; omega) _).alloc (by simp; omega) _) hb5 (Nat.le_refl _)).alloc (by have := hb5.size; simp at this; omega) (.cells #[.int .i64 0, .int .i64 0, .bool false, .string { data := #[] }] 52)); clear hb5 h4z
      have hqS := eq_same ⟨ku, iu, bu, su⟩
      have hqO := eq_same ⟨0, 0, false, ⟨#[]⟩⟩
      obtain ⟨x0, x1, x2, x3⟩ := HX.out.cells
      obtain ⟨y0, y1, y2, y3⟩ := HO1.out.cells
      obtain ⟨z0, z1, z2, z3⟩ := HO2.out.cells
      simp only [] at x0 x1 x2 x3 y0 y1 y2 y3 z0 z1 z2 z3 hqS hqO
      clear HK
      cases ov with
      | true =>
        obtain ⟨e1, e2⟩ := HUE.out
        simp only [if_true] at e1 e2
        injection e1 with q1 q2 q3 q4
        subst q1; subst q2; subst q3; subst q4; subst e2
        clear HUE
        go_wp2_with (go_at_call 56; (with_reducible refine (boathouseNames.num_any _ _).mono ?_); rintro e w' ⟨rfl, rfl⟩)
        go_ret
        exact ⟨rfl, HBT.out⟩
      | false =>
        obtain ⟨e1, e2⟩ := HUE.out
        simp only [Bool.false_eq_true, if_false] at e1 e2
        injection e1 with q1 q2 q3 q4
        subst q1; subst q2; subst q3; subst q4; subst e2
        clear HUE
        go_wp2_with (go_at_call 56; (with_reducible refine (boathouseNames.num_any _ _).mono ?_); rintro e w' ⟨rfl, rfl⟩)
        go_ret
        exact ⟨rfl, HBT.out⟩
end Go.Proofs.Ytkkpcdpoldjmkaa.Agg
