/-
  THE WALKS of chapter 17's laws: awake, Aggs.
-/
import Derived.Test.YtkkpcdpoldjmkaaAggRef2
import Derived.Test.YtkkpcdpoldjmkaaMem
import Derived.Test.YtkkpcdpoldjmkaaNamesWalks
namespace Go.Proofs.Ytkkpcdpoldjmkaa.Agg
open Go.RowKit ValMath Vals Sl Stats Mem

theorem eq_same (u : Val) (W : World) : (binOp .eql 52 (.agg #[.int .i64 u.k, .int .i64 u.i, .bool u.b, .string u.s]) (.agg #[.int .i64 u.k, .int .i64 u.i, .bool u.b, .string u.s])).run Try.prog W = .ok (.bool true) W := by
  rw [eql_val u u W, decide_eq_true rfl]
abbrev num_ (x : Int) : Val := ⟨1, x, false, ⟨#[]⟩⟩
abbrev nought : Val := ⟨0, 0, false, ⟨#[]⟩⟩
theorem of_known (kind : Int) (A : Option Addr) (n c : Nat) (vs : List Val) (w : World) (u : Val) (E : Nat) (hn : n ≤ 8) (hf : ∀ v ∈ vs, -9223372036854775808 ≤ v.i ∧ v.i < 9223372036854775808) (h : agg kind vs = (u, E)) (hv : VSl w A n vs) :
    Calls Try.prog 116 #[.int .i64 kind, .slice A n c] w fun e w' => e = .returned (.tuple #[vagg u, .int .i64 (E : Nat)]) ∧ Below w.heap.size w w' := by
  have := aggOf_any kind A n c vs w hv (by omega) hf
  rw [h] at this; exact this
theorem ag1 (A : Option Addr) (c : Nat) (w : World) (hv : VSl w A 3 [num_ 5, nought, num_ 2]) : Calls Try.prog 116 #[.int .i64 2, .slice A 3 c] w fun e w' => e = .returned (.tuple #[.agg #[.int .i64 1, .int .i64 7, .bool false, .string { data := #[] }], .int .i64 0]) ∧ Below w.heap.size w w' :=
  of_known 2 A 3 c _ w (num_ 7) 0 (by omega) (by intro v hv; simp at hv; rcases hv with rfl | rfl | rfl <;> simp) (by decide +kernel) hv
theorem ag2 (A : Option Addr) (c : Nat) (w : World) (hv : VSl w A 3 [num_ 5, nought, num_ 2]) : Calls Try.prog 116 #[.int .i64 1, .slice A 3 c] w fun e w' => e = .returned (.tuple #[.agg #[.int .i64 1, .int .i64 2, .bool false, .string { data := #[] }], .int .i64 0]) ∧ Below w.heap.size w w' :=
  of_known 1 A 3 c _ w (num_ 2) 0 (by omega) (by intro v hv; simp at hv; rcases hv with rfl | rfl | rfl <;> simp) (by decide +kernel) hv
theorem ag3 (A : Option Addr) (c : Nat) (w : World) (hv : VSl w A 2 [num_ 9223372036854775807, num_ 1]) : Calls Try.prog 116 #[.int .i64 2, .slice A 2 c] w fun e w' => e = .returned (.tuple #[.agg #[.int .i64 0, .int .i64 0, .bool false, .string { data := #[] }], .int .i64 1702]) ∧ Below w.heap.size w w' :=
  of_known 2 A 2 c _ w nought 1702 (by omega) (by intro v hv; simp at hv; rcases hv with rfl | rfl <;> simp) (by decide +kernel) hv
theorem ag4 (A : Option Addr) (c : Nat) (w : World) (hv : VSl w A 3 [num_ 5, nought, num_ 2]) : Calls Try.prog 116 #[.int .i64 9, .slice A 3 c] w fun e w' => e = .returned (.tuple #[.agg #[.int .i64 0, .int .i64 0, .bool false, .string { data := #[] }], .int .i64 1700]) ∧ Below w.heap.size w w' :=
  of_known 9 A 3 c _ w nought 1700 (by omega) (by intro v hv; simp at hv; rcases hv with rfl | rfl | rfl <;> simp) (by decide +kernel) hv

set_option maxRecDepth 20000 in
set_option maxHeartbeats 4000000 in
theorem awake_any (w : World) : Calls Try.prog 118 #[] w fun e w' => e = .returned (.bool true) ∧ Below w.heap.size w w' := by
  have hq1 := eq_same (num_ 7)
  have hq2 := eq_same (num_ 2)
  simp only [] at hq1 hq2
  go_enter Try.func118, Try.ntmps118
  go_wp2_with fail
  refine (ag1 _ _ _ (VSl.at3 _ _ (by simp) (num_ 5) nought (num_ 2) _)).mono ?_
  rintro e w1 ⟨rfl, hb1⟩
  have HV := Lib.hid ((VSl.at3 w _ rfl (num_ 5) nought (num_ 2) 52).below hb1)
  have HBT := Lib.hid (bthen (Vals.one_new _) hb1 (Nat.le_refl _)); clear hb1
  go_wp2_with fail
  refine (ag2 _ _ _ (HV.out.alloc _)).mono ?_
  rintro e w2 ⟨rfl, hb2⟩
  have HX := Lib.hid ((Box.new w1 (num_ 7)).below hb2)
  replace HV := Lib.hid ((HV.out.alloc _).below hb2)
  replace HBT := Lib.hid (bthen (HBT.out.alloc HBT.out.size _) hb2 (Nat.le_refl _)); clear hb2
  have hx1 := HX.out.lt
  go_wp2_with fail
  refine (ag3 _ _ _ (VSl.at2 _ _ (by simp) (num_ 9223372036854775807) (num_ 1) _)).mono ?_
  rintro e w3 ⟨rfl, hb3⟩
  have HY := Lib.hid (((Box.new w2 (num_ 2)).alloc _).below hb3)
  replace HX := Lib.hid (((HX.out.alloc _).alloc _).below hb3)
  replace HV := Lib.hid (((HV.out.alloc _).alloc _).below hb3)
  replace HBT := Lib.hid (bthen ((HBT.out.alloc HBT.out.size _).alloc (by have := HBT.out.size; simp; omega) _) hb3 (Nat.le_refl _)); clear hb3
  go_wp2_with fail
  refine (ag4 _ _ _ (HV.out.alloc _)).mono ?_
  rintro e w4 ⟨rfl, hb4⟩
  replace HX := Lib.hid ((HX.out.alloc _).below hb4)
  replace HY := Lib.hid ((HY.out.alloc _).below hb4)
  replace HBT := Lib.hid (bthen (HBT.out.alloc HBT.out.size _) hb4 (Nat.le_refl _)); clear hb4
  obtain ⟨x0, x1, x2, x3⟩ := (HX.out.alloc (.cells #[.int .i64 0, .int .i64 0, .bool false, .string { data := #[] }] 52)).cells
  obtain ⟨y0, y1, y2, y3⟩ := (HY.out.alloc (.cells #[.int .i64 0, .int .i64 0, .bool false, .string { data := #[] }] 52)).cells
  simp only [] at x0 x1 x2 x3 y0 y1 y2 y3
  go_wp2_with (go_at_call 56; (with_reducible refine (boathouseNames.num_any _ _).mono ?_); rintro e w' ⟨rfl, rfl⟩)
  go_ret
  exact ⟨rfl, HBT.out.alloc HBT.out.size _⟩

set_option maxRecDepth 20000 in
set_option maxHeartbeats 4000000 in
theorem aggs_any (kind : Int) (A0 : Option Addr) (n c0 : Nat) (vs : List Val) (w : World) (_hk : (Lit.int .i64 kind).wf = true) (h0 : VArg w A0 n c0 vs) :
    Calls Try.prog 29 #[.int .i64 kind, .slice A0 n c0] w fun e w' => e = .returned (.bool true) ∧ Below w.heap.size w w' := by
  have hle := h0.le; have hcap := h0.cap
  have hs : ∀ v ∈ vs, v.s.size ≤ maxLen := fun v hv => Nat.le_trans (h0.fine v hv).s (by unfold maxLen; omega)
  have hf : ∀ v ∈ vs, -9223372036854775808 ≤ v.i ∧ v.i < 9223372036854775808 := fun v hv => ⟨(h0.fine v hv).i1, (h0.fine v hv).i2⟩
  have hO := fun A c w h => aggOf_any kind A n c vs w h (by omega) hf
  have hR := fun A c w h => refAgg_any kind A n c vs w h (by omega) hs hf
  generalize agg kind vs = R at hO hR
  obtain ⟨⟨ku, iu, bu, su⟩, E⟩ := R
  simp only [vagg] at hO hR
  have hq := eq_same ⟨ku, iu, bu, su⟩
  simp only [] at hq
  have HO := Lib.hid hO; clear hO
  have HR := Lib.hid hR; clear hR hs hf _hk
  have H0 := Lib.hid h0; clear h0
  go_enter Try.func29, Try.ntmps29
  go_wp2_with fail
  refine (lendValues_any _ _ _ vs _ H0.out).mono ?_
  rintro e w1 ⟨g1, k1, rfl, h1, hb1⟩
  have H1 := Lib.hid h1; clear h1
  replace H0 := Lib.hid (H0.out.below hb1)
  have HBT := Lib.hid hb1; clear hb1
  go_wp2_with fail
  refine (HO.out _ _ _ H1.out.sl).mono ?_
  rintro e w2 ⟨rfl, hb2⟩
  replace H0 := Lib.hid (H0.out.below hb2)
  replace H1 := Lib.hid (H1.out.below hb2)
  replace HBT := Lib.hid (bthen HBT.out hb2 (Nat.le_refl _)); clear hb2
  go_wp2_with fail
  refine (HR.out _ _ _ (H0.out.sl.alloc _)).mono ?_
  rintro e w3 ⟨rfl, hb3⟩
  have HX := Lib.hid ((Box.new w2 ⟨ku, iu, bu, su⟩).below hb3)
  replace H0 := Lib.hid ((H0.out.below (Vals.one_new _)).below hb3)
  replace H1 := Lib.hid ((H1.out.below (Vals.one_new _)).below hb3)
  replace HBT := Lib.hid (bthen (HBT.out.alloc HBT.out.size _) hb3 (Nat.le_refl _)); clear hb3
  obtain ⟨x0, x1, x2, x3⟩ := (HX.out.alloc (.cells #[.int .i64 ku, .int .i64 iu, .bool bu, .string su] 52)).cells
  simp only [] at x0 x1 x2 x3
  go_wp2_with (go_at_call 56; (with_reducible refine (boathouseNames.num_any _ _).mono ?_); rintro e w' ⟨rfl, rfl⟩)
  refine (keptValues_any _ _ _ n _ _ _ _ (H1.out.below (Vals.one_new _)) ((H0.out.below (Vals.one_new _)).sl)).mono ?_
  rintro e w4 ⟨rfl, hb4⟩
  replace HBT := Lib.hid (bthen (HBT.out.alloc HBT.out.size _) hb4 (Nat.le_refl _)); clear hb4
  go_wp2_with fail
  refine (awake_any _).mono ?_
  rintro e w5 ⟨rfl, hb5⟩
  replace HBT := Lib.hid (bthen HBT.out hb5 (Nat.le_refl _)); clear hb5
  go_wp2
  go_ret
  exact ⟨rfl, HBT.out⟩
end Go.Proofs.Ytkkpcdpoldjmkaa.Agg
