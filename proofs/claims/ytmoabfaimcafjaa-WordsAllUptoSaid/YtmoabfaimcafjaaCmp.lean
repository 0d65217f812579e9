/-
  THE ORDER: the walks of boathouseref1.Below, boathouseref7.Cmp, vec.Less.
-/
import Derived.Test.YtmoabfaimcafjaaVals
import Derived.Deep.RegionHeld3
import Derived.Deep.DeepCutAuto
namespace Go.Proofs.Ytmoabfaimcafjaa.Vals
open Go.RowKit ValMath

theorem less_drop {x y : List UInt8} {k : Nat} (hx : k < x.length) (hy : k < y.length) :
    Op.bytesLess (x.drop k) (y.drop k) = (decide (x[k] < y[k]) || (x[k] == y[k] && Op.bytesLess (x.drop (k + 1)) (y.drop (k + 1)))) := by
  rw [List.drop_eq_getElem_cons hx, List.drop_eq_getElem_cons hy]; rfl

theorem less_end {x y : List UInt8} {k : Nat} (hx : k ≤ x.length) (hy : k ≤ y.length) (h : ¬ (k < x.length ∧ k < y.length)) :
    Op.bytesLess (x.drop k) (y.drop k) = decide (x.length < y.length) := by
  by_cases h1 : k < x.length
  · have h2 : k = y.length := by omega
    subst h2
    rw [List.drop_length, decide_eq_false (by omega)]
    cases x.drop y.length <;> rfl
  · have h2 : k = x.length := by omega
    subst h2
    rw [List.drop_length]
    by_cases h3 : x.length < y.length
    · rw [List.drop_eq_getElem_cons h3, decide_eq_true h3]; rfl
    · rw [decide_eq_false h3, List.drop_of_length_le (by omega)]; rfl

set_option maxHeartbeats 1000000 in
theorem below_any (x y : ByteArray) (w : World) (hx : x.size ≤ maxLen) (_hy : y.size ≤ maxLen) :
    Calls Try.prog 67 #[.string x, .string y] w fun e w' => e = .returned (.bool (Op.bytesLess x.data.toList y.data.toList)) ∧ ∃ n, w' = w.drewN n := by
  unfold maxLen at hx
  obtain ⟨R, hR⟩ : ∃ R, R = Op.bytesLess x.data.toList y.data.toList := ⟨_, rfl⟩
  rw [← hR]
  have HR := Lib.hid hR; clear hR
  go_enter Try.func67, Try.ntmps67
  go_wp2
  go_loopw [5] (fun i wr => ∃ k : Nat, k ≤ x.size ∧ k ≤ y.size ∧ i = .int .i64 k ∧ Hid (R = Op.bytesLess (x.data.toList.drop k) (y.data.toList.drop k)) ∧ ∃ n, wr = w.drewN n) (fun i _ => x.size - (intOf i).toNat)
  case atStart => exact ⟨0, Nat.zero_le _, Nat.zero_le _, rfl, HR.out, 0, rfl⟩
  case round =>
    obtain ⟨k, hk1, hk2, rfl, hrk, n, rfl⟩ := hrel
    by_cases h1 : k < x.size
    · by_cases h2 : k < y.size
      · have hd := less_drop (x := x.data.toList) (y := y.data.toList) (k := k) (by simpa using h1) (by simpa using h2)
        rw [show x.data.toList[k]'(by simpa using h1) = x[k] from rfl, show y.data.toList[k]'(by simpa using h2) = y[k] from rfl] at hd
        by_cases he : x[k] = y[k]
        · have hne : ((x[k].toNat : Int) != (y[k].toNat : Int)) = false := by simp [he]
          have hd2 : Op.bytesLess (x.data.toList.drop k) (y.data.toList.drop k) = Op.bytesLess (x.data.toList.drop (k + 1)) (y.data.toList.drop (k + 1)) := by
            rw [hd, he]; simp [UInt8.lt_irrefl]
          have HD := Lib.hid hd2; clear hd hd2 he
          go_wp2
          go_quiet (fail)
          go_wp2
          go_roundw
          case rel => exact ⟨k + 1, by omega, by omega, by go_num, hrk.out.trans HD.out, _, rfl⟩
          case measure => simp [intOf]; omega
        · have hne : ((x[k].toNat : Int) != (y[k].toNat : Int)) = true := by
            rw [bne_iff_ne]; intro e; exact he (UInt8.toNat_inj.1 (by omega))
          have hd2 : R = decide (x[k].toNat < y[k].toNat) := by
            rw [hrk.out, hd]
            have hbe : (x[k] == y[k]) = false := by simpa using he
            rw [hbe]
            simp [UInt8.lt_iff_toNat_lt]
          have HD := Lib.hid hd2; clear hd hd2 he
          go_wp2
          go_quiet (fail)
          go_wp2
          go_quiet (fail)
          go_wp2
          go_ret
          exact ⟨ret_bool HD.out.symm, _, by rw [World.drewN_drewN, World.drewN_drewN]⟩
      · have hd2 : R = decide (x.size < y.size) := by
          rw [hrk.out, less_end (by simpa using hk1) (by simpa using hk2) (by simp; omega)]
          simp
        have HD := Lib.hid hd2; clear hd2
        go_wp2
        go_ret
        exact ⟨ret_bool HD.out.symm, _, rfl⟩
    · have hd2 : R = decide (x.size < y.size) := by
        rw [hrk.out, less_end (by simpa using hk1) (by simpa using hk2) (by simp; omega)]
        simp
      have HD := Lib.hid hd2; clear hd2
      go_wp2
      go_ret
      exact ⟨ret_bool HD.out.symm, _, rfl⟩

/-! ### Cmp -/
theorem cmp_kinds {a b : Val} (h : kindOf a ≠ kindOf b) : cmp a b = if kindOf a < kindOf b then -1 else 1 := by
  rw [kindOf_clean, kindOf_clean] at *
  unfold cmp less
  rw [if_pos h, if_pos (fun e => h e.symm)]
  by_cases h1 : (clean a).k < (clean b).k
  · simp [h1]
  · have h2 : (clean b).k < (clean a).k := by omega
    simp [h1, h2]
theorem cmp_int {a b : Val} (ha : a.k = 1) (hb : b.k = 1) : cmp a b = if a.i < b.i then -1 else if b.i < a.i then 1 else 0 := by
  unfold cmp less clean
  simp [ha, hb]
theorem cmp_bool {a b : Val} (ha : a.k = 2) (hb : b.k = 2) : cmp a b = if (!a.b && b.b) = true then -1 else if (a.b && !b.b) = true then 1 else 0 := by
  unfold cmp less clean
  simp [ha, hb]
  cases a.b <;> cases b.b <;> rfl
theorem cmp_text {a b : Val} (ha : a.k = 3) (hb : b.k = 3) : cmp a b = if Op.bytesLess a.s.data.toList b.s.data.toList = true then -1 else if Op.bytesLess b.s.data.toList a.s.data.toList = true then 1 else 0 := by
  unfold cmp less clean
  simp [ha, hb]
theorem clean_null {v : Val} (h : kindOf v = 0) : clean v = nul := by
  rw [kindOf_clean] at h
  rcases clean_form v with ⟨n, e⟩ | ⟨t, e⟩ | ⟨t, e⟩ | e
  · rw [e] at h; exact absurd (show (1 : Int) = 0 from h) (by decide)
  · rw [e] at h; exact absurd (show (2 : Int) = 0 from h) (by decide)
  · rw [e] at h; exact absurd (show (3 : Int) = 0 from h) (by decide)
  · exact e
theorem cmp_null {a b : Val} (ha : kindOf a = 0) (hb : kindOf b = 0) : cmp a b = 0 :=
  (cmp_zero a b).2 (by rw [clean_null ha, clean_null hb])

theorem kindOf_cases (v : Val) : (kindOf v = 0) ∨ (kindOf v = 1 ∧ v.k = 1) ∨ (kindOf v = 2 ∧ v.k = 2) ∨ (kindOf v = 3 ∧ v.k = 3) := by
  unfold kindOf
  by_cases h : v.k < 0 ∨ 3 < v.k
  · rw [if_pos h]; exact .inl rfl
  · rw [if_neg h]; omega

/-- Two values in boxes, one behind the other, from block B on. -/
def Boxes (B : Nat) (a b : Val) (w : World) : Prop :=
  (w.cell? ⟨B, 0, none⟩ = some (.int .i64 a.k) ∧ w.cell? ⟨B, 1, none⟩ = some (.int .i64 a.i) ∧ w.cell? ⟨B, 2, none⟩ = some (.bool a.b) ∧ w.cell? ⟨B, 3, none⟩ = some (.string a.s)) ∧
  (w.cell? ⟨B + 1, 0, none⟩ = some (.int .i64 b.k) ∧ w.cell? ⟨B + 1, 1, none⟩ = some (.int .i64 b.i) ∧ w.cell? ⟨B + 1, 2, none⟩ = some (.bool b.b) ∧ w.cell? ⟨B + 1, 3, none⟩ = some (.string b.s)) ∧ B + 2 ≤ w.heap.size
theorem Boxes.new (w : World) (a b : Val) :
    Boxes w.heap.size a b ((w.alloc (.cells #[.int .i64 a.k, .int .i64 a.i, .bool a.b, .string a.s] 38)).alloc (.cells #[.int .i64 b.k, .int .i64 b.i, .bool b.b, .string b.s] 38)) := by
  unfold Boxes
  refine ⟨⟨?_, ?_, ?_, ?_⟩, ⟨?_, ?_, ?_, ?_⟩, ?_⟩ <;> simp [go_sem]
theorem Boxes.below {B : Nat} {a b : Val} {w w' : World} (h : Boxes B a b w) (hb : Below (B + 2) w w') : Boxes B a b w' := by
  obtain ⟨⟨h0, h1, h2, h3⟩, ⟨g0, g1, g2, g3⟩, hz⟩ := h
  refine ⟨⟨?_, ?_, ?_, ?_⟩, ⟨?_, ?_, ?_, ?_⟩, Nat.le_trans hz hb.size⟩
  · rw [hb.cell (p := ⟨B, 0, none⟩) (by show B < B + 2; omega)]; exact h0
  · rw [hb.cell (p := ⟨B, 1, none⟩) (by show B < B + 2; omega)]; exact h1
  · rw [hb.cell (p := ⟨B, 2, none⟩) (by show B < B + 2; omega)]; exact h2
  · rw [hb.cell (p := ⟨B, 3, none⟩) (by show B < B + 2; omega)]; exact h3
  · rw [hb.cell (p := ⟨B + 1, 0, none⟩) (by show B + 1 < B + 2; omega)]; exact g0
  · rw [hb.cell (p := ⟨B + 1, 1, none⟩) (by show B + 1 < B + 2; omega)]; exact g1
  · rw [hb.cell (p := ⟨B + 1, 2, none⟩) (by show B + 1 < B + 2; omega)]; exact g2
  · rw [hb.cell (p := ⟨B + 1, 3, none⟩) (by show B + 1 < B + 2; omega)]; exact g3

set_option maxRecDepth 20000 in
set_option maxHeartbeats 2000000 in
theorem cmp_any (a b : Val) (w : World) (ha : a.s.size ≤ maxLen) (hb : b.s.size ≤ maxLen) :
    Calls Try.prog 38 #[vagg a, vagg b] w fun e w' => e = .returned (.int .i64 (cmp a b)) ∧ Below w.heap.size w w' := by
  have hKa : ∀ w, Calls Try.prog 64 #[.agg #[.int .i64 a.k, .int .i64 a.i, .bool a.b, .string a.s]] w fun e w' => e = .returned (.int .i64 (kindOf a)) ∧ w' = w.alloc (.cells #[.int .i64 a.k, .int .i64 a.i, .bool a.b, .string a.s] 38) := kind_exact a
  have hKb : ∀ w, Calls Try.prog 64 #[.agg #[.int .i64 b.k, .int .i64 b.i, .bool b.b, .string b.s]] w fun e w' => e = .returned (.int .i64 (kindOf b)) ∧ w' = w.alloc (.cells #[.int .i64 b.k, .int .i64 b.i, .bool b.b, .string b.s] 38) := kind_exact b
  have hB : ∀ w, Calls Try.prog 67 #[.string a.s, .string b.s] w fun e w' => e = .returned (.bool (Op.bytesLess a.s.data.toList b.s.data.toList)) ∧ ∃ n, w' = w.drewN n := fun w => below_any a.s b.s w ha hb
  have hC : ∀ w, Calls Try.prog 67 #[.string b.s, .string a.s] w fun e w' => e = .returned (.bool (Op.bytesLess b.s.data.toList a.s.data.toList)) ∧ ∃ n, w' = w.drewN n := fun w => below_any b.s a.s w hb ha
  have hbox := Boxes.new w a b
  have hcases1 := kindOf_cases a
  have hcases2 := kindOf_cases b
  have hck := @cmp_kinds a b
  have hci := @cmp_int a b
  have hcb := @cmp_bool a b
  have hct := @cmp_text a b
  have hcn := @cmp_null a b
  generalize cmp a b = R at *
  generalize kindOf a = p at *
  generalize kindOf b = q at *
  clear ha hb
  obtain ⟨k1, i1, b1, s1⟩ := a
  obtain ⟨k2, i2, b2, s2⟩ := b
  simp only [] at *
  have HKa := Lib.hid hKa; clear hKa
  have HKb := Lib.hid hKb; clear hKb
  have HB := Lib.hid hB; clear hB
  have HC := Lib.hid hC; clear hC
  have HX := Lib.hid hbox; clear hbox
  have H0 := Lib.hid (And.intro hcases1 (And.intro hcases2 (And.intro hck (And.intro hci (And.intro hcb (And.intro hct hcn)))))); clear hcases1 hcases2 hck hci hcb hct hcn
  go_enter Try.func38, Try.ntmps38
  go_upto_region 1 with fail
  go_cut [5, 6] (fun x y wx => x = .int .i64 p ∧ y = .int .i64 q ∧ Below w.heap.size w wx ∧ Boxes w.heap.size ⟨k1, i1, b1, s1⟩ ⟨k2, i2, b2, s2⟩ wx)
  case first =>
    go_region_with (first
      | (go_at_call_of 64 (Value.string s1); with_reducible refine (HKa.out _).mono ?_; rintro e w1 ⟨rfl, rfl⟩)
      | (go_at_call_of 64 (Value.string s2); with_reducible refine (HKb.out _).mono ?_; rintro e w1 ⟨rfl, rfl⟩))
    all_goals (go_wp2_with fail; go_meet; exact ⟨rfl, rfl, by go_grown, HX.out.below (by go_grown)⟩)
  case rest =>
    obtain ⟨rfl, rfl, hb, ⟨c0, c1, c2, c3⟩, ⟨d0, d1, d2, d3⟩, hz⟩ := hcut
    simp only [] at c0 c1 c2 c3 d0 d1 d2 d3
    clear HKa HKb HX
    by_cases hpq : p = q
    · subst hpq
      rcases H0.out.1 with h | ⟨h, hk1⟩ | ⟨h, hk1⟩ | ⟨h, hk1⟩
      · subst h
        have hR := H0.out.2.2.2.2.2.2 rfl rfl
        have HR := Lib.hid hR; clear hR H0
        go_wp2
        go_ret
        exact ⟨ret_int HR.out.symm, hb⟩
      · subst h
        have hk2 : k2 = 1 := by rcases H0.out.2.1 with h | h | h | h <;> omega
        have hR := H0.out.2.2.2.1 hk1 hk2
        have HR := Lib.hid hR; clear hR H0 hk1 hk2 c0 d0
        by_cases h1 : i1 < i2
        · go_wp2
          go_quiet (fail)
          go_wp2
          go_ret
          exact ⟨ret_int (by rw [HR.out, if_pos h1]), below_drewN hb _⟩
        · by_cases h2 : i2 < i1
          · go_wp2
            go_quiet (fail)
            go_wp2
            go_ret
            exact ⟨ret_int (by rw [HR.out, if_neg (by omega), if_pos h2]), below_drewN hb _⟩
          · go_wp2
            go_quiet (fail)
            go_wp2
            go_ret
            exact ⟨ret_int (by rw [HR.out, if_neg (by omega), if_neg (by omega)]), below_drewN hb _⟩
      · subst h
        have hk2 : k2 = 2 := by rcases H0.out.2.1 with h | h | h | h <;> omega
        have hR := H0.out.2.2.2.2.1 hk1 hk2
        have HR := Lib.hid hR; clear hR H0 hk1 hk2 c0 d0
        cases b1 <;> cases b2
        all_goals
          go_wp2
          go_quiet (fail)
          go_wp2
          go_ret
          exact ⟨ret_int (by rw [HR.out]; rfl), below_drewN hb _⟩
      · subst h
        have hk2 : k2 = 3 := by rcases H0.out.2.1 with h | h | h | h <;> omega
        have hR := H0.out.2.2.2.2.2.1 hk1 hk2
        have HR := Lib.hid hR; clear hR H0 hk1 hk2 c0 d0
        generalize Op.bytesLess s1.data.toList s2.data.toList = r1 at *
        generalize Op.bytesLess s2.data.toList s1.data.toList = r2 at *
        cases r1 <;> cases r2
        all_goals
          go_wp2
          go_quiet ((first
            | (go_at_call_of 67 (Value.string s1); first | with_reducible exact Calls.quiet_of (HB.out _) | with_reducible exact Calls.quiet_of (HC.out _))))
          go_wp2
          go_ret
          exact ⟨ret_int (by rw [HR.out]; rfl), below_drewN hb _⟩
    · have hR := H0.out.2.2.1 hpq
      have HR := Lib.hid hR; clear hR H0
      have hne : (p != q) = true := by simpa using hpq
      by_cases hlt : p < q
      · go_wp2
        go_ret
        exact ⟨ret_int (by rw [HR.out, if_pos hlt]), hb⟩
      · go_wp2
        go_ret
        exact ⟨ret_int (by rw [HR.out, if_neg (by omega)]), hb⟩
end Go.Proofs.Ytmoabfaimcafjaa.Vals
