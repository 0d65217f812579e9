/-
  Lemmas of this claim, text behind text: Cmp, Less, Stat0, VecProg, Shelf, Builder, Facts, MapV. Each states its own conditions.
-/
import Derived.Deep.RegionHeld3
import Derived.Deep.DeepCutAuto
import Derived.Shelf.Strings.Builder1
import Derived.Shelf.Strings.BuilderK
import Derived.Shelf.Small.Bits
import Derived.Shelf.Strings.Prefix
import Derived.Test.YtgmemdedpklnhaaGreatProg
import Derived.Lib.Builder
import Derived.Lib.AppendStr
import Derived.Laws.Externs
import Derived.Test.YtgmemdedpklnhaaGreatRows
import Derived.JoinedOf
import Derived.KernelRfl
import Derived.Maps.OwnSet
import Derived.DeepKeys4
import Derived.Test.YtgmemdedpklnhaaGreatPart01
import Derived.Test.YtgmemdedpklnhaaGreatPart03
import Derived.Test.YtgmemdedpklnhaaGreatPart04

/-
  THE ORDER: the walks of boathouseref1.Below, boathouseref7.Cmp, vec.Less.
-/



namespace Go.Proofs.YtgmemdedpklnhaaGreat.Vals
open Go.RowKit ValMath

theorem less_drop {x y : List UInt8} {k : Nat} (hx : k < x.length) (hy : k < y.length) :
    Op.bytesLess (x.drop k) (y.drop k) = (decide (x[k] < y[k]) || (x[k] == y[k] && Op.bytesLess (x.drop (k + 1)) (y.drop (k + 1)))) := by
  rw [List.drop_eq_getElem_cons hx, List.drop_eq_getElem_cons hy]; rfl

theorem less_end {x y : List UInt8} {k : Nat} (hx : k ≤ x.length) (hy : k ≤ y.length) (h : ¬ (k < x.length ∧ k < y.length)) :
    Op.bytesLess (x.drop k) (y.drop k) = decide (x.length < y.length) := by
  by_cases h1 : k < x.length
  · have h2 : k = y.length := by omega
    subst h2
    rw [List.drop_length, decide_eq_false (by omega)]
    cases x.drop y.length <;> rfl
  · have h2 : k = x.length := by omega
    subst h2
    rw [List.drop_length]
    by_cases h3 : x.length < y.length
    · rw [List.drop_eq_getElem_cons h3, decide_eq_true h3]; rfl
    · rw [decide_eq_false h3, List.drop_of_length_le (by omega)]; rfl

set_option maxHeartbeats 1000000 in
theorem below_any (x y : ByteArray) (w : World) (hx : x.size ≤ maxLen) (_hy : y.size ≤ maxLen) :
    Calls Tryz.prog 100 #[.string x, .string y] w fun e w' => e = .returned (.bool (Op.bytesLess x.data.toList y.data.toList)) ∧ ∃ n, w' = w.drewN n := by
  unfold maxLen at hx
  obtain ⟨R, hR⟩ : ∃ R, R = Op.bytesLess x.data.toList y.data.toList := ⟨_, rfl⟩
  rw [← hR]
  have HR := Lib.hid hR; clear hR
  go_enter Tryz.func100, Tryz.ntmps100
  go_wp2
  go_loopw [5] (fun i wr => ∃ k : Nat, k ≤ x.size ∧ k ≤ y.size ∧ i = .int .i64 k ∧ Hid (R = Op.bytesLess (x.data.toList.drop k) (y.data.toList.drop k)) ∧ ∃ n, wr = w.drewN n) (fun i _ => x.size - (intOf i).toNat)
  case atStart => exact ⟨0, Nat.zero_le _, Nat.zero_le _, rfl, HR.out, 0, rfl⟩
  case round =>
    obtain ⟨k, hk1, hk2, rfl, hrk, n, rfl⟩ := hrel
    by_cases h1 : k < x.size
    · by_cases h2 : k < y.size
      · have hd := less_drop (x := x.data.toList) (y := y.data.toList) (k := k) (by simpa using h1) (by simpa using h2)
        rw [show x.data.toList[k]'(by simpa using h1) = x[k] from rfl, show y.data.toList[k]'(by simpa using h2) = y[k] from rfl] at hd
        by_cases he : x[k] = y[k]
        · have hne : ((x[k].toNat : Int) != (y[k].toNat : Int)) = false := by simp [he]
          have hd2 : Op.bytesLess (x.data.toList.drop k) (y.data.toList.drop k) = Op.bytesLess (x.data.toList.drop (k + 1)) (y.data.toList.drop (k + 1)) := by
            rw [hd, he]; simp [UInt8.lt_irrefl]
          have HD := Lib.hid hd2; clear hd hd2 he
          go_wp2
          go_quiet (fail)
          go_wp2
          go_roundw
          case rel => exact ⟨k + 1, by omega, by omega, by go_num, hrk.out.trans HD.out, _, rfl⟩
          case measure => simp [intOf]; omega
        · have hne : ((x[k].toNat : Int) != (y[k].toNat : Int)) = true := by
            rw [bne_iff_ne]; intro e; exact he (UInt8.toNat_inj.1 (by omega))
          have hd2 : R = decide (x[k].toNat < y[k].toNat) := by
            rw [hrk.out, hd]
            have hbe : (x[k] == y[k]) = false := by simpa using he
            rw [hbe]
            simp [UInt8.lt_iff_toNat_lt]
          have HD := Lib.hid hd2; clear hd hd2 he
          go_wp2
          go_quiet (fail)
          go_wp2
          go_quiet (fail)
          go_wp2
          go_ret
          exact ⟨ret_bool HD.out.symm, _, by rw [World.drewN_drewN, World.drewN_drewN]⟩
      · have hd2 : R = decide (x.size < y.size) := by
          rw [hrk.out, less_end (by simpa using hk1) (by simpa using hk2) (by simp; omega)]
          simp
        have HD := Lib.hid hd2; clear hd2
        go_wp2
        go_ret
        exact ⟨ret_bool HD.out.symm, _, rfl⟩
    · have hd2 : R = decide (x.size < y.size) := by
        rw [hrk.out, less_end (by simpa using hk1) (by simpa using hk2) (by simp; omega)]
        simp
      have HD := Lib.hid hd2; clear hd2
      go_wp2
      go_ret
      exact ⟨ret_bool HD.out.symm, _, rfl⟩

/-! ### Cmp -/
theorem cmp_kinds {a b : Val} (h : kindOf a ≠ kindOf b) : cmp a b = if kindOf a < kindOf b then -1 else 1 := by
  rw [kindOf_clean, kindOf_clean] at *
  unfold cmp less
  rw [if_pos h, if_pos (fun e => h e.symm)]
  by_cases h1 : (clean a).k < (clean b).k
  · simp [h1]
  · have h2 : (clean b).k < (clean a).k := by omega
    simp [h1, h2]
theorem cmp_int {a b : Val} (ha : a.k = 1) (hb : b.k = 1) : cmp a b = if a.i < b.i then -1 else if b.i < a.i then 1 else 0 := by
  unfold cmp less clean
  simp [ha, hb]
theorem cmp_bool {a b : Val} (ha : a.k = 2) (hb : b.k = 2) : cmp a b = if (!a.b && b.b) = true then -1 else if (a.b && !b.b) = true then 1 else 0 := by
  unfold cmp less clean
  simp [ha, hb]
  cases a.b <;> cases b.b <;> rfl
theorem cmp_text {a b : Val} (ha : a.k = 3) (hb : b.k = 3) : cmp a b = if Op.bytesLess a.s.data.toList b.s.data.toList = true then -1 else if Op.bytesLess b.s.data.toList a.s.data.toList = true then 1 else 0 := by
  unfold cmp less clean
  simp [ha, hb]
theorem clean_null {v : Val} (h : kindOf v = 0) : clean v = nul := by
  rw [kindOf_clean] at h
  rcases clean_form v with ⟨n, e⟩ | ⟨t, e⟩ | ⟨t, e⟩ | e
  · rw [e] at h; exact absurd (show (1 : Int) = 0 from h) (by decide)
  · rw [e] at h; exact absurd (show (2 : Int) = 0 from h) (by decide)
  · rw [e] at h; exact absurd (show (3 : Int) = 0 from h) (by decide)
  · exact e
theorem cmp_null {a b : Val} (ha : kindOf a = 0) (hb : kindOf b = 0) : cmp a b = 0 :=
  (cmp_zero a b).2 (by rw [clean_null ha, clean_null hb])

theorem kindOf_cases (v : Val) : (kindOf v = 0) ∨ (kindOf v = 1 ∧ v.k = 1) ∨ (kindOf v = 2 ∧ v.k = 2) ∨ (kindOf v = 3 ∧ v.k = 3) := by
  unfold kindOf
  by_cases h : v.k < 0 ∨ 3 < v.k
  · rw [if_pos h]; exact .inl rfl
  · rw [if_neg h]; omega

/-- Two values in boxes, one behind the other, from block B on. -/
def Boxes (B : Nat) (a b : Val) (w : World) : Prop :=
  (w.cell? ⟨B, 0, none⟩ = some (.int .i64 a.k) ∧ w.cell? ⟨B, 1, none⟩ = some (.int .i64 a.i) ∧ w.cell? ⟨B, 2, none⟩ = some (.bool a.b) ∧ w.cell? ⟨B, 3, none⟩ = some (.string a.s)) ∧
  (w.cell? ⟨B + 1, 0, none⟩ = some (.int .i64 b.k) ∧ w.cell? ⟨B + 1, 1, none⟩ = some (.int .i64 b.i) ∧ w.cell? ⟨B + 1, 2, none⟩ = some (.bool b.b) ∧ w.cell? ⟨B + 1, 3, none⟩ = some (.string b.s)) ∧ B + 2 ≤ w.heap.size
theorem Boxes.new (w : World) (a b : Val) :
    Boxes w.heap.size a b ((w.alloc (.cells #[.int .i64 a.k, .int .i64 a.i, .bool a.b, .string a.s] 71)).alloc (.cells #[.int .i64 b.k, .int .i64 b.i, .bool b.b, .string b.s] 71)) := by
  unfold Boxes
  refine ⟨⟨?_, ?_, ?_, ?_⟩, ⟨?_, ?_, ?_, ?_⟩, ?_⟩ <;> simp [go_sem]
theorem Boxes.below {B : Nat} {a b : Val} {w w' : World} (h : Boxes B a b w) (hb : Below (B + 2) w w') : Boxes B a b w' := by
  obtain ⟨⟨h0, h1, h2, h3⟩, ⟨g0, g1, g2, g3⟩, hz⟩ := h
  refine ⟨⟨?_, ?_, ?_, ?_⟩, ⟨?_, ?_, ?_, ?_⟩, Nat.le_trans hz hb.size⟩
  · rw [hb.cell (p := ⟨B, 0, none⟩) (by show B < B + 2; omega)]; exact h0
  · rw [hb.cell (p := ⟨B, 1, none⟩) (by show B < B + 2; omega)]; exact h1
  · rw [hb.cell (p := ⟨B, 2, none⟩) (by show B < B + 2; omega)]; exact h2
  · rw [hb.cell (p := ⟨B, 3, none⟩) (by show B < B + 2; omega)]; exact h3
  · rw [hb.cell (p := ⟨B + 1, 0, none⟩) (by show B + 1 < B + 2; omega)]; exact g0
  · rw [hb.cell (p := ⟨B + 1, 1, none⟩) (by show B + 1 < B + 2; omega)]; exact g1
  · rw [hb.cell (p := ⟨B + 1, 2, none⟩) (by show B + 1 < B + 2; omega)]; exact g2
  · rw [hb.cell (p := ⟨B + 1, 3, none⟩) (by show B + 1 < B + 2; omega)]; exact g3

set_option maxRecDepth 20000 in
set_option maxHeartbeats 2000000 in
theorem cmp_any (a b : Val) (w : World) (ha : a.s.size ≤ maxLen) (hb : b.s.size ≤ maxLen) :
    Calls Tryz.prog 69 #[vagg a, vagg b] w fun e w' => e = .returned (.int .i64 (cmp a b)) ∧ Below w.heap.size w w' := by
  have hKa : ∀ w, Calls Tryz.prog 95 #[.agg #[.int .i64 a.k, .int .i64 a.i, .bool a.b, .string a.s]] w fun e w' => e = .returned (.int .i64 (kindOf a)) ∧ w' = w.alloc (.cells #[.int .i64 a.k, .int .i64 a.i, .bool a.b, .string a.s] 71) := kind_exact a
  have hKb : ∀ w, Calls Tryz.prog 95 #[.agg #[.int .i64 b.k, .int .i64 b.i, .bool b.b, .string b.s]] w fun e w' => e = .returned (.int .i64 (kindOf b)) ∧ w' = w.alloc (.cells #[.int .i64 b.k, .int .i64 b.i, .bool b.b, .string b.s] 71) := kind_exact b
  have hB : ∀ w, Calls Tryz.prog 100 #[.string a.s, .string b.s] w fun e w' => e = .returned (.bool (Op.bytesLess a.s.data.toList b.s.data.toList)) ∧ ∃ n, w' = w.drewN n := fun w => below_any a.s b.s w ha hb
  have hC : ∀ w, Calls Tryz.prog 100 #[.string b.s, .string a.s] w fun e w' => e = .returned (.bool (Op.bytesLess b.s.data.toList a.s.data.toList)) ∧ ∃ n, w' = w.drewN n := fun w => below_any b.s a.s w hb ha
  have hbox := Boxes.new w a b
  have hcases1 := kindOf_cases a
  have hcases2 := kindOf_cases b
  have hck := @cmp_kinds a b
  have hci := @cmp_int a b
  have hcb := @cmp_bool a b
  have hct := @cmp_text a b
  have hcn := @cmp_null a b
  generalize cmp a b = R at *
  generalize kindOf a = p at *
  generalize kindOf b = q at *
  clear ha hb
  obtain ⟨k1, i1, b1, s1⟩ := a
  obtain ⟨k2, i2, b2, s2⟩ := b
  simp only [] at *
  have HKa := Lib.hid hKa; clear hKa
  have HKb := Lib.hid hKb; clear hKb
  have HB := Lib.hid hB; clear hB
  have HC := Lib.hid hC; clear hC
  have HX := Lib.hid hbox; clear hbox
  have H0 := Lib.hid (And.intro hcases1 (And.intro hcases2 (And.intro hck (And.intro hci (And.intro hcb (And.intro hct hcn)))))); clear hcases1 hcases2 hck hci hcb hct hcn
  go_enter Tryz.func69, Tryz.ntmps69
  go_upto_region 1 with fail
  go_cut [5, 6] (fun x y wx => x = .int .i64 p ∧ y = .int .i64 q ∧ Below w.heap.size w wx ∧ Boxes w.heap.size ⟨k1, i1, b1, s1⟩ ⟨k2, i2, b2, s2⟩ wx)
  case first =>
    go_region_with (first
      | (go_at_call_of 95 (Value.string s1); with_reducible refine (HKa.out _).mono ?_; rintro e w1 ⟨rfl, rfl⟩)
      | (go_at_call_of 95 (Value.string s2); with_reducible refine (HKb.out _).mono ?_; rintro e w1 ⟨rfl, rfl⟩))
    all_goals (go_wp2_with fail; go_meet; exact ⟨rfl, rfl, by go_grown, HX.out.below (by go_grown)⟩)
  case rest =>
    obtain ⟨rfl, rfl, hb, ⟨c0, c1, c2, c3⟩, ⟨d0, d1, d2, d3⟩, hz⟩ := hcut
    simp only [] at c0 c1 c2 c3 d0 d1 d2 d3
    clear HKa HKb HX
    by_cases hpq : p = q
    · subst hpq
      rcases H0.out.1 with h | ⟨h, hk1⟩ | ⟨h, hk1⟩ | ⟨h, hk1⟩
      · subst h
        have hR := H0.out.2.2.2.2.2.2 rfl rfl
        have HR := Lib.hid hR; clear hR H0
        go_wp2
        go_ret
        exact ⟨ret_int HR.out.symm, hb⟩
      · subst h
        have hk2 : k2 = 1 := by rcases H0.out.2.1 with h | h | h | h <;> omega
        have hR := H0.out.2.2.2.1 hk1 hk2
        have HR := Lib.hid hR; clear hR H0 hk1 hk2 c0 d0
        by_cases h1 : i1 < i2
        · go_wp2
          go_quiet (fail)
          go_wp2
          go_ret
          exact ⟨ret_int (by rw [HR.out, if_pos h1]), below_drewN hb _⟩
        · by_cases h2 : i2 < i1
          · go_wp2
            go_quiet (fail)
            go_wp2
            go_ret
            exact ⟨ret_int (by rw [HR.out, if_neg (by omega), if_pos h2]), below_drewN hb _⟩
          · go_wp2
            go_quiet (fail)
            go_wp2
            go_ret
            exact ⟨ret_int (by rw [HR.out, if_neg (by omega), if_neg (by omega)]), below_drewN hb _⟩
      · subst h
        have hk2 : k2 = 2 := by rcases H0.out.2.1 with h | h | h | h <;> omega
        have hR := H0.out.2.2.2.2.1 hk1 hk2
        have HR := Lib.hid hR; clear hR H0 hk1 hk2 c0 d0
        cases b1 <;> cases b2
        all_goals
          go_wp2
          go_quiet (fail)
          go_wp2
          go_ret
          exact ⟨ret_int (by rw [HR.out]; rfl), below_drewN hb _⟩
      · subst h
        have hk2 : k2 = 3 := by rcases H0.out.2.1 with h | h | h | h <;> omega
        have hR := H0.out.2.2.2.2.2.1 hk1 hk2
        have HR := Lib.hid hR; clear hR H0 hk1 hk2 c0 d0
        generalize Op.bytesLess s1.data.toList s2.data.toList = r1 at *
        generalize Op.bytesLess s2.data.toList s1.data.toList = r2 at *
        cases r1 <;> cases r2
        all_goals
          go_wp2
          go_quiet ((first
            | (go_at_call_of 100 (Value.string s1); first | with_reducible exact Calls.quiet_of (HB.out _) | with_reducible exact Calls.quiet_of (HC.out _))))
          go_wp2
          go_ret
          exact ⟨ret_int (by rw [HR.out]; rfl), below_drewN hb _⟩
    · have hR := H0.out.2.2.1 hpq
      have HR := Lib.hid hR; clear hR H0
      have hne : (p != q) = true := by simpa using hpq
      by_cases hlt : p < q
      · go_wp2
        go_ret
        exact ⟨ret_int (by rw [HR.out, if_pos hlt]), hb⟩
      · go_wp2
        go_ret
        exact ⟨ret_int (by rw [HR.out, if_neg (by omega)]), hb⟩
end Go.Proofs.YtgmemdedpklnhaaGreat.Vals

/-
  THE WALKS of vec.Less, stats.more, stats.lesser, boathouseref7.Null.
-/



namespace Go.Proofs.YtgmemdedpklnhaaGreat.Stats
open Go.RowKit ValMath Vals Sl

/-- A value stored whole into a block. -/
abbrev put4 (w : World) (g o : Nat) (u : Val) : World :=
  (((w.setCell ⟨g, o, none⟩ (.int .i64 u.k)).setCell ⟨g, o + 1, none⟩ (.int .i64 u.i)).setCell ⟨g, o + 2, none⟩ (.bool u.b)).setCell ⟨g, o + 3, none⟩ (.string u.s)
theorem heap_setCell_known {w : World} {g : Nat} {cs : Array Value} {t : TypeId} {fr : Nat × Nat} (h : w.heap[g]? = some (.cells cs t fr)) (o : Nat) (v : Value) : (w.setCell ⟨g, o, none⟩ v).heap[g]? = some (.cells (cs.setIfInBounds o v) t fr) := by
  simp [World.setCell, Array.getElem?_modify, h]
theorem _root_.Go.Proofs.YtgmemdedpklnhaaGreat.Box.put {w : World} {g : Nat} {v u : Val} (h : Box w g v) : Box ((((w.setCell ⟨g, 0, none⟩ (.int .i64 u.k)).setCell ⟨g, 1, none⟩ (.int .i64 u.i)).setCell ⟨g, 2, none⟩ (.bool u.b)).setCell ⟨g, 3, none⟩ (.string u.s)) g u := by
  unfold Box at h ⊢
  rw [heap_setCell_known (heap_setCell_known (heap_setCell_known (heap_setCell_known h 0 _) 1 _) 2 _) 3 _]
  rfl
theorem _root_.Go.Proofs.YtgmemdedpklnhaaGreat.Box.other {w : World} {g g' o : Nat} {v : Val} {x : Value} (h : Box w g v) (hne : g ≠ g') : Box (w.setCell ⟨g', o, none⟩ x) g v := by
  unfold Box at h ⊢
  rw [Below.heap_setCell _ _ _ _ hne]; exact h
theorem _root_.Go.Proofs.YtgmemdedpklnhaaGreat.Box.at4 {w : World} {g : Nat} {v : Val} (h : Box w g v) : At4 w g 0 v := by obtain ⟨a, b, c, d⟩ := h.cells; exact ⟨a, b, c, d⟩
theorem below_put4 {B : Nat} {w0 w : World} (h : Below B w0 w) {g : Nat} (hg : B ≤ g) (a b c d : Nat) (u0 u1 u2 u3 : Value) : Below B w0 ((((w.setCell ⟨g, a, none⟩ u0).setCell ⟨g, b, none⟩ u1).setCell ⟨g, c, none⟩ u2).setCell ⟨g, d, none⟩ u3) :=
  (((h.setCell (p := ⟨g, a, none⟩) hg _).setCell (p := ⟨g, b, none⟩) hg _).setCell (p := ⟨g, c, none⟩) hg _).setCell (p := ⟨g, d, none⟩) hg _
theorem box_new (w : World) (g : Nat) (hg : w.heap.size = g) (u : Val) : Box (w.alloc (.cells #[.int .i64 u.k, .int .i64 u.i, .bool u.b, .string u.s] 71)) g u := by subst hg; exact Box.new w u

set_option maxRecDepth 20000 in
set_option maxHeartbeats 2000000 in
theorem less_any (a b : Val) (w : World) :
    Calls Tryz.prog 91 #[vagg a, vagg b] w fun e w' => e = .returned (.bool (less a b)) ∧ Below w.heap.size w w' := by
  have hA : Box ((w.alloc (.cells #[.int .i64 a.k, .int .i64 a.i, .bool a.b, .string a.s] 71)).alloc (.cells #[.int .i64 b.k, .int .i64 b.i, .bool b.b, .string b.s] 71)) w.heap.size a := (Box.new w a).alloc _
  have hB : Box ((w.alloc (.cells #[.int .i64 a.k, .int .i64 a.i, .bool a.b, .string a.s] 71)).alloc (.cells #[.int .i64 b.k, .int .i64 b.i, .bool b.b, .string b.s] 71)) (w.heap.size + 1) b := box_new _ _ (by simp) b
  have hpa := plain_any a
  have hpb := plain_any b
  have hL : less a b = (if (clean a).k ≠ (clean b).k then decide ((clean a).k < (clean b).k)
    else if (clean a).k = 1 then decide ((clean a).i < (clean b).i)
    else if (clean a).k = 2 then (!(clean a).b && (clean b).b)
    else Op.bytesLess (clean a).s.data.toList (clean b).s.data.toList) := rfl
  generalize less a b = R at hL ⊢
  generalize clean a = p at *
  generalize clean b = q at *
  obtain ⟨k1, i1, b1, s1⟩ := a
  obtain ⟨k2, i2, b2, s2⟩ := b
  obtain ⟨kp, ip, bp, sp⟩ := p
  obtain ⟨kq, iq, bq, sq⟩ := q
  simp only [] at hpa hpb hL
  have HL := Lib.hid hL; clear hL
  have HPA := Lib.hid hpa; clear hpa
  have HPB := Lib.hid hpb; clear hpb
  have HA := Lib.hid hA; clear hA
  have HB := Lib.hid hB; clear hB
  have hne : w.heap.size ≠ w.heap.size + 1 := by omega
  have hbt := Vals.two_new (w := w) (.cells #[.int .i64 k1, .int .i64 i1, .bool b1, .string s1] 71) (.cells #[.int .i64 k2, .int .i64 i2, .bool b2, .string s2] 71)
  go_enter Tryz.func91, Tryz.ntmps91
  go_upto_region 1 with fail
  go_cut [] (fun wx => Box wx w.heap.size ⟨kp, ip, bp, sp⟩ ∧ Box wx (w.heap.size + 1) ⟨kq, iq, bq, sq⟩ ∧ Below w.heap.size w wx)
  case first =>
    obtain ⟨z0, z1, z2, z3⟩ := HA.out.cells
    obtain ⟨y0, y1, y2, y3⟩ := HB.out.cells
    simp only [] at z0 z1 z2 z3 y0 y1 y2 y3
    go_region_with (first
      | (go_at_call_of 71 (Value.string s1); with_reducible refine (HPA.out _).mono ?_; rintro e w1 ⟨rfl, hb1⟩; clear z0 z1 z2 z3 y0 y1 y2 y3; have HA1 := Lib.hid (HA.out.drew.below hb1); have HB1 := Lib.hid (HB.out.drew.below hb1); obtain ⟨y0, y1, y2, y3⟩ := HB1.out.cells; simp only [] at y0 y1 y2 y3)
      | (go_at_call_of 71 (Value.string s2); with_reducible refine (HPB.out _).mono ?_; rintro e w2 ⟨rfl, hb2⟩; clear y0 y1 y2 y3; have HA2 := Lib.hid (HA1.out.below hb2); have HB2 := Lib.hid (HB1.out.below hb2); obtain ⟨z0, z1, z2, z3⟩ := HA2.out.cells; obtain ⟨y0, y1, y2, y3⟩ := HB2.out.cells; have zf0 := HA2.out.free 0; have zf1 := HA2.out.free 1; have zf2 := HA2.out.free 2; have zf3 := HA2.out.free 3; have yf0 := HB2.out.free 0; have yf1 := HB2.out.free 1; have yf2 := HB2.out.free 2; have yf3 := HB2.out.free 3; simp only [] at z0 z1 z2 z3 y0 y1 y2 y3))
    all_goals
      go_wp2_with fail
      go_meet
      refine ⟨?_, ?_, ?_⟩
      · exact ((((HA2.out.put (u := ⟨kp, ip, bp, sp⟩)).other hne).other hne).other hne).other hne
      · exact ((((HB2.out.other hne.symm).other hne.symm).other hne.symm).other hne.symm).put (u := ⟨kq, iq, bq, sq⟩)
      · have hbb := bthen (bthen hbt.drew hb1 (Nat.le_refl _)) hb2 (Nat.le_refl _)
        have hg0 : w.heap.size ≤ w.heap.size + 1 := by omega
        exact below_put4 (below_put4 hbb (Nat.le_refl _) 0 1 2 3 _ _ _ _) hg0 0 1 2 3 _ _ _ _
  case rest =>
    obtain ⟨hA, hB, hb⟩ := hcut
    clear HPA HPB HA HB hbt hne
    obtain ⟨z0, z1, z2, z3⟩ := hA.cells
    obtain ⟨y0, y1, y2, y3⟩ := hB.cells
    simp only [] at z0 z1 z2 z3 y0 y1 y2 y3
    clear hA hB
    by_cases e0 : kp = kq
    · have h0 : (kp != kq) = false := by simp [e0]
      by_cases e1 : kp = 1
      · have h1 : (kp == 1) = true := by simp [e1]
        have hR : R = decide (ip < iq) := by rw [HL.out, if_neg (by simp [e0]), if_pos e1]
        have HR := Lib.hid hR; clear hR HL e0 e1
        go_wp2
        go_ret
        exact ⟨ret_bool HR.out.symm, hb⟩
      · have h1 : (kp == 1) = false := by simpa using e1
        by_cases e2 : kp = 2
        · have h2 : (kp == 2) = true := by simp [e2]
          have hR : R = (!bp && bq) := by rw [HL.out, if_neg (by simp [e0]), if_neg e1, if_pos e2]
          have HR := Lib.hid hR; clear hR HL e0 e1 e2
          cases bp <;> cases bq
          all_goals
            go_wp2
            go_ret
            exact ⟨ret_bool (by rw [HR.out]; rfl), hb⟩
        · have h2 : (kp == 2) = false := by simpa using e2
          have hR : R = Op.bytesLess sp.data.toList sq.data.toList := by rw [HL.out, if_neg (by simp [e0]), if_neg e1, if_neg e2]
          have HR := Lib.hid hR; clear hR HL e0 e1 e2
          go_wp2
          go_ret
          exact ⟨ret_bool (by rw [HR.out]; simp [Lib.toList_data]), hb⟩
    · have h0 : (kp != kq) = true := by simpa using e0
      have hR : R = decide (kp < kq) := by rw [HL.out, if_pos e0]
      have HR := Lib.hid hR; clear hR HL e0
      go_wp2
      go_ret
      exact ⟨ret_bool HR.out.symm, hb⟩

set_option maxHeartbeats 1000000 in
theorem null_any (v : Val) (w : World) : Calls Tryz.prog 64 #[vagg v] w fun e w' => e = .returned (.bool (null v)) ∧ Below w.heap.size w w' := by
  have hK := kind_any v
  have hN : null v = (kindOf v == 0) := by unfold null; rw [kindOf_clean]; by_cases h : (clean v).k = 0 <;> simp [h]
  generalize kindOf v = q at hK hN
  generalize null v = R at hN ⊢
  have hbt := Vals.one_new (w := w) (.cells #[.int .i64 v.k, .int .i64 v.i, .bool v.b, .string v.s] 71)
  obtain ⟨k1, i1, b1, s1⟩ := v
  simp only [] at hK hbt
  have HN := Lib.hid hN; clear hN
  have HK := Lib.hid hK; clear hK
  go_enter Tryz.func64, Tryz.ntmps64
  go_wp2_with (go_at_call 95; with_reducible refine (HK.out _).mono ?_; rintro e w1 ⟨rfl, hb1⟩)
  go_ret
  exact ⟨ret_bool (by rw [HN.out]), bthen hbt hb1 (Nat.le_refl _)⟩

set_option maxHeartbeats 1000000 in
theorem more_any (a b : Val) (w : World) : Calls Tryz.prog 92 #[vagg a, vagg b] w fun e w' => e = .returned (.bool (less b a)) ∧ Below w.heap.size w w' := by
  have hK := less_any b a
  generalize less b a = R at hK ⊢
  have hbt := Vals.two_new (w := w) (.cells #[.int .i64 a.k, .int .i64 a.i, .bool a.b, .string a.s] 71) (.cells #[.int .i64 b.k, .int .i64 b.i, .bool b.b, .string b.s] 71)
  obtain ⟨k1, i1, b1, s1⟩ := a
  obtain ⟨k2, i2, b2, s2⟩ := b
  simp only [] at hK hbt
  have HK := Lib.hid hK; clear hK
  go_enter Tryz.func92, Tryz.ntmps92
  go_wp2_with (go_at_call 91; with_reducible refine (HK.out _).mono ?_; rintro e w1 ⟨rfl, hb1⟩)
  go_ret
  exact ⟨rfl, bthen hbt hb1 (Nat.le_refl _)⟩

theorem ret_box {fn : Func} {p : Tmp} {w : World} {g : Nat} {u : Val} {a : Act} {R : Ending → World → Prop} (hb : Box w g u) (h : fn.results = #[.cell p 71]) (hp : a.tmps.getD p undef = .pointer (some ⟨g, 0, none⟩)) (hd : a.defers = []) (hr : R (.returned (vagg u)) w) : bodyPost Tryz.prog fn R .ret a w :=
  bodyPost_ret (results_cell_row h _ _ g 71 _ (0, 0) _ hp hb Tryz.underlying71 rfl (by kernel_rfl)) hd hr
theorem lesser_eq (a b : Val) : lesser a b = if (null a || (!null b && less (clean b) (clean a))) then clean b else clean a := by rw [less_clean]; rfl
theorem greater_eq (a b : Val) : greater a b = if (null a || (!null b && less (clean a) (clean b))) then clean b else clean a := by rw [less_clean]; rfl
end Go.Proofs.YtgmemdedpklnhaaGreat.Stats

/-
  STATISTICS as a value of ten cells, and as a block known whole. (Printed by wip/tools/genstat.py.)
-/

namespace Go.Proofs.YtgmemdedpklnhaaGreat.Stats
open Go.RowKit ValMath Vals Sl
abbrev sagg (c n : Int) (mn mx : Val) : Value := .agg #[.int .i64 c, .int .i64 n, .int .i64 mn.k, .int .i64 mn.i, .bool mn.b, .string mn.s, .int .i64 mx.k, .int .i64 mx.i, .bool mx.b, .string mx.s]
def SBox (w : World) (g : Nat) (c n : Int) (mn mx : Val) : Prop := w.heap[g]? = some (.cells #[.int .i64 c, .int .i64 n, .int .i64 mn.k, .int .i64 mn.i, .bool mn.b, .string mn.s, .int .i64 mx.k, .int .i64 mx.i, .bool mx.b, .string mx.s] 73 (0, 0))
theorem SBox.lt {w : World} {g : Nat} {c n : Int} {mn mx : Val} (h : SBox w g c n mn mx) : g < w.heap.size := by
  unfold SBox at h
  by_cases hl : g < w.heap.size
  · exact hl
  · rw [Array.getElem?_eq_none (by omega)] at h; cases h
theorem SBox.below {w w' : World} {g : Nat} {c n : Int} {mn mx : Val} (h : SBox w g c n mn mx) {B : Nat} (hb : Below B w w') (hB : g < B) : SBox w' g c n mn mx := by
  unfold SBox at h ⊢; rw [hb.block g hB]; exact h
theorem SBox.drew {w : World} {g : Nat} {c n : Int} {mn mx : Val} (h : SBox w g c n mn mx) : SBox w.drew g c n mn mx := h
theorem SBox.drewN {w : World} {g : Nat} {c n : Int} {mn mx : Val} (h : SBox w g c n mn mx) (k : Nat) : SBox (w.drewN k) g c n mn mx := h
theorem SBox.free {w : World} {g : Nat} {c n : Int} {mn mx : Val} (h : SBox w g c n mn mx) (j : Nat) : w.frozen? ⟨g, j, none⟩ = false := frozen_of_row w g j _ _ h
theorem SBox.new (w : World) (g : Nat) (hg : w.heap.size = g) (c n : Int) (mn mx : Val) : SBox (w.alloc (.cells #[.int .i64 c, .int .i64 n, .int .i64 mn.k, .int .i64 mn.i, .bool mn.b, .string mn.s, .int .i64 mx.k, .int .i64 mx.i, .bool mx.b, .string mx.s] 73)) g c n mn mx := by subst hg; exact heap_alloc_new w _
theorem SBox.alloc {w : World} {g : Nat} {c n : Int} {mn mx : Val} (h : SBox w g c n mn mx) (x : Obj) : SBox (w.alloc x) g c n mn mx := h.below (Vals.one_new x) h.lt
theorem SBox.other {w : World} {g g' o : Nat} {c n : Int} {mn mx : Val} {x : Value} (h : SBox w g c n mn mx) (hne : g ≠ g') : SBox (w.setCell ⟨g', o, none⟩ x) g c n mn mx := by
  unfold SBox at h ⊢
  rw [Below.heap_setCell _ _ _ _ hne]; exact h
theorem SBox.cells {w : World} {g : Nat} {c n : Int} {mn mx : Val} (h : SBox w g c n mn mx) : w.cell? ⟨g, 0, none⟩ = some (.int .i64 c) ∧ w.cell? ⟨g, 1, none⟩ = some (.int .i64 n) ∧ w.cell? ⟨g, 2, none⟩ = some (.int .i64 mn.k) ∧ w.cell? ⟨g, 3, none⟩ = some (.int .i64 mn.i) ∧ w.cell? ⟨g, 4, none⟩ = some (.bool mn.b) ∧ w.cell? ⟨g, 5, none⟩ = some (.string mn.s) ∧ w.cell? ⟨g, 6, none⟩ = some (.int .i64 mx.k) ∧ w.cell? ⟨g, 7, none⟩ = some (.int .i64 mx.i) ∧ w.cell? ⟨g, 8, none⟩ = some (.bool mx.b) ∧ w.cell? ⟨g, 9, none⟩ = some (.string mx.s) := by
  refine ⟨?_, ?_, ?_, ?_, ?_, ?_, ?_, ?_, ?_, ?_⟩
  all_goals (rw [cell_of_row w g _ _ _ _ h]; rfl)
theorem SBox.put {w : World} {g : Nat} {c n : Int} {mn mx : Val} (h : SBox w g c n mn mx) (c' n' : Int) (mn' mx' : Val) : SBox ((((((((((w.setCell ⟨g, 0, none⟩ (.int .i64 c')).setCell ⟨g, 1, none⟩ (.int .i64 n')).setCell ⟨g, 2, none⟩ (.int .i64 mn'.k)).setCell ⟨g, 3, none⟩ (.int .i64 mn'.i)).setCell ⟨g, 4, none⟩ (.bool mn'.b)).setCell ⟨g, 5, none⟩ (.string mn'.s)).setCell ⟨g, 6, none⟩ (.int .i64 mx'.k)).setCell ⟨g, 7, none⟩ (.int .i64 mx'.i)).setCell ⟨g, 8, none⟩ (.bool mx'.b)).setCell ⟨g, 9, none⟩ (.string mx'.s)) g c' n' mn' mx' := by
  unfold SBox at h ⊢
  rw [heap_setCell_known (heap_setCell_known (heap_setCell_known (heap_setCell_known (heap_setCell_known (heap_setCell_known (heap_setCell_known (heap_setCell_known (heap_setCell_known (heap_setCell_known h 0 _) 1 _) 2 _) 3 _) 4 _) 5 _) 6 _) 7 _) 8 _) 9 _]
  kernel_rfl
theorem SBox.put1 {w : World} {g : Nat} {c n : Int} {mn mx : Val} (h : SBox w g c n mn mx) (n' : Int) : SBox (w.setCell ⟨g, 1, none⟩ (.int .i64 n')) g c n' mn mx := by
  unfold SBox at h ⊢
  rw [heap_setCell_known h 1 _]
  kernel_rfl
theorem SBox.put2 {w : World} {g : Nat} {c n : Int} {mn mx : Val} (h : SBox w g c n mn mx) (mn' : Val) : SBox ((((w.setCell ⟨g, 2, none⟩ (.int .i64 mn'.k)).setCell ⟨g, 3, none⟩ (.int .i64 mn'.i)).setCell ⟨g, 4, none⟩ (.bool mn'.b)).setCell ⟨g, 5, none⟩ (.string mn'.s)) g c n mn' mx := by
  unfold SBox at h ⊢
  rw [heap_setCell_known (heap_setCell_known (heap_setCell_known (heap_setCell_known h 2 _) 3 _) 4 _) 5 _]
  kernel_rfl
theorem SBox.put3 {w : World} {g : Nat} {c n : Int} {mn mx : Val} (h : SBox w g c n mn mx) (mx' : Val) : SBox ((((w.setCell ⟨g, 6, none⟩ (.int .i64 mx'.k)).setCell ⟨g, 7, none⟩ (.int .i64 mx'.i)).setCell ⟨g, 8, none⟩ (.bool mx'.b)).setCell ⟨g, 9, none⟩ (.string mx'.s)) g c n mn mx' := by
  unfold SBox at h ⊢
  rw [heap_setCell_known (heap_setCell_known (heap_setCell_known (heap_setCell_known h 6 _) 7 _) 8 _) 9 _]
  kernel_rfl
theorem below_put10 {B : Nat} {w0 w : World} (h : Below B w0 w) {g : Nat} (hg : B ≤ g) (u0 u1 u2 u3 u4 u5 u6 u7 u8 u9 : Value) : Below B w0 ((((((((((w.setCell ⟨g, 0, none⟩ u0).setCell ⟨g, 1, none⟩ u1).setCell ⟨g, 2, none⟩ u2).setCell ⟨g, 3, none⟩ u3).setCell ⟨g, 4, none⟩ u4).setCell ⟨g, 5, none⟩ u5).setCell ⟨g, 6, none⟩ u6).setCell ⟨g, 7, none⟩ u7).setCell ⟨g, 8, none⟩ u8).setCell ⟨g, 9, none⟩ u9) :=
  ((((((((((h.setCell (p := ⟨g, 0, none⟩) hg _).setCell (p := ⟨g, 1, none⟩) hg _).setCell (p := ⟨g, 2, none⟩) hg _).setCell (p := ⟨g, 3, none⟩) hg _).setCell (p := ⟨g, 4, none⟩) hg _).setCell (p := ⟨g, 5, none⟩) hg _).setCell (p := ⟨g, 6, none⟩) hg _).setCell (p := ⟨g, 7, none⟩) hg _).setCell (p := ⟨g, 8, none⟩) hg _).setCell (p := ⟨g, 9, none⟩) hg _)
theorem ret_sbox {fn : Func} {p : Tmp} {w : World} {g : Nat} {c n : Int} {mn mx : Val} {a : Act} {R : Ending → World → Prop} (hb : SBox w g c n mn mx) (h : fn.results = #[.cell p 73]) (hp : a.tmps.getD p undef = .pointer (some ⟨g, 0, none⟩)) (hd : a.defers = []) (hr : R (.returned (sagg c n mn mx)) w) : bodyPost Tryz.prog fn R .ret a w :=
  bodyPost_ret (results_cell_row h _ _ g 73 _ (0, 0) _ hp hb Tryz.underlying73 rfl (by kernel_rfl)) hd hr
end Go.Proofs.YtgmemdedpklnhaaGreat.Stats

/-
  THE WALKS of package vec, the small ones: Kind, flag, count, pack, Scalar, Fits, may.
-/







namespace Go.Proofs.YtgmemdedpklnhaaGreat.Vec
open Go.RowKit ValMath Vals Sl VecMath

theorem kind_any (k : Int) (w : World) : Calls Tryz.prog 36 #[.int .i64 k] w fun e w' => e = .returned (.bool (decide (1 ≤ k ∧ k ≤ 3))) ∧ w = w' := by
  by_cases h1 : 1 ≤ k
  · by_cases h2 : k ≤ 3
    · have e : decide (1 ≤ k ∧ k ≤ 3) = true := decide_eq_true ⟨h1, h2⟩
      rw [e]; clear e
      go_enter Tryz.func36, Tryz.ntmps36
      go_wp2
      go_ret
      exact ⟨rfl, rfl⟩
    · have e : decide (1 ≤ k ∧ k ≤ 3) = false := decide_eq_false (fun h => h2 h.2)
      rw [e]; clear e
      go_enter Tryz.func36, Tryz.ntmps36
      go_wp2
      go_ret
      exact ⟨rfl, rfl⟩
  · have e : decide (1 ≤ k ∧ k ≤ 3) = false := decide_eq_false (fun h => h1 h.1)
    rw [e]; clear e
    go_enter Tryz.func36, Tryz.ntmps36
    go_wp2
    go_ret
    exact ⟨rfl, rfl⟩
theorem flag_any (b : Bool) (w : World) : Calls Tryz.prog 84 #[.bool b] w fun e w' => e = .returned (.int .i64 (flag b : Nat)) ∧ w = w' := by
  cases b
  all_goals
    go_enter Tryz.func84, Tryz.ntmps84
    go_wp2
    go_ret
    exact ⟨rfl, rfl⟩
set_option maxRecDepth 100000 in
theorem count_any (n : Nat) (w : World) (hn : n < 9223372036854775808) : Calls Tryz.prog 88 #[.int .i64 (n : Nat)] w fun e w' => e = .returned (.string (str (cnt n))) ∧ Below w.heap.size w w' := by
  have H := fun w => Varint.Put_any (n : Int) w (by omega)
  rw [if_neg (by omega), if_neg (by omega), Int.toNat_natCast] at H
  unfold cnt
  generalize str (VarMath.enc n) = S at H ⊢
  have HH := Lib.hid H; clear H
  go_enter Tryz.func88, Tryz.ntmps88
  go_wp2_with (go_at_call 56; with_reducible refine (HH.out _).mono ?_; rintro e w1 ⟨rfl, hb1⟩)
  go_ret
  exact ⟨rfl, hb1⟩
set_option maxRecDepth 100000 in
theorem pack_any (A : Option Addr) (n c : Nat) (xs : List Int) (width : Int) (w : World) (hx : ISl w A n xs) (hn : n ≤ 17592186044416) : Calls Tryz.prog 89 #[.slice A n c, .int .i64 width] w fun e w' => e = .returned (.string (str (BitMath.packS xs width))) ∧ Below w.heap.size w w' := by
  have H := Bitpack.pack_any A n c xs width w hx hn
  generalize str (BitMath.packS xs width) = S at H ⊢
  generalize BitMath.packE xs width = E at H
  have HH := Lib.hid H; clear H hx
  go_enter Tryz.func89, Tryz.ntmps89
  go_wp2_with (go_at_call 113; with_reducible refine HH.out.mono ?_; rintro e w1 ⟨rfl, hb1⟩)
  go_ret
  exact ⟨rfl, hb1⟩

theorem str_one (b : Bool) : str [UInt8.ofNat (flag b)] = strOfNums [flag b] := by cases b <;> rfl
/-- The sizes of what is written stay small. -/
theorem cnt_size (n : Nat) : (cnt n).length ≤ 10 := VarMath.enc_length_le n
theorem add_str (a b : ByteArray) (h : a.size + b.size ≤ 9223372036854775807) (W : World) : (Op.stringOp .add a b).run Tryz.prog W = .ok (.string (a ++ b)) W := run_string_add_sum W a b h
set_option maxRecDepth 100000 in
set_option maxHeartbeats 2000000 in
theorem scalar_any (v : Val) (w : World) (hv : Fine v) : Calls Tryz.prog 60 #[vagg v] w fun e w' => e = .returned (.string (str (scalar v))) ∧ Below w.heap.size w w' := by
  have hs := hv.s
  have hZ := fun w => Varint.Zig_any v.i w hv.i1 hv.i2
  have hC := fun w => count_any v.s.size w (by omega)
  have hbx := At4.new w w.heap.size rfl v 71
  have hbt := Vals.one_new (w := w) (.cells #[.int .i64 v.k, .int .i64 v.i, .bool v.b, .string v.s] 71)
  have hsc : scalar v = if v.k = 1 then VarMath.enc (VarMath.zig v.i) else if v.k = 2 then [UInt8.ofNat (flag v.b)] else cnt v.s.size ++ v.s.data.toList := rfl
  have hcl := cnt_size v.s.size
  generalize scalar v = R at hsc ⊢
  obtain ⟨k, i, b, s⟩ := v
  simp only [] at hs hZ hC hbx hbt hsc hcl
  have HR := Lib.hid hsc; clear hsc
  have HZ := Lib.hid hZ; clear hZ
  have HC := Lib.hid hC; clear hC hv
  have HX := Lib.hid hbx; clear hbx
  by_cases h1 : k = 1
  · have hk : (k == 1) = true := by simp [h1]
    have hR : R = VarMath.enc (VarMath.zig i) := by rw [HR.out, if_pos h1]
    have HR := Lib.hid hR; clear hR h1
    go_enter Tryz.func60, Tryz.ntmps60
    go_wp2_with (go_at_call 93; with_reducible refine (HZ.out _).mono ?_; rintro e w1 ⟨rfl, hb1⟩)
    go_ret
    exact ⟨ret_str (by rw [HR.out]), bthen hbt hb1 (Nat.le_refl _)⟩
  · have hk : (k == 1) = false := by simpa using h1
    by_cases h2 : k = 2
    · have hk2 : (k == 2) = true := by simp [h2]
      have hR : R = [UInt8.ofNat (flag b)] := by rw [HR.out, if_neg h1, if_pos h2]
      have HR := Lib.hid hR; clear hR h1 h2
      have hF := fun w => flag_any b w
      have hfl : flag b < 2 := by unfold flag; split <;> omega
      have hst := str_one b
      generalize flag b = f at *
      have HF := Lib.hid hF; clear hF
      have HST := Lib.hid hst; clear hst
      have kc := @run_str1 Tryz.prog 54 9 5 Tryz.underlying54 Tryz.underlying5 Tryz.underlying9 (w.alloc (.cells #[.int .i64 k, .int .i64 i, .bool b, .string s] 71)) 1 (f : Int)
      rw [World.size_alloc] at kc
      go_enter Tryz.func60, Tryz.ntmps60
      go_wp2_with (go_at_call 84; with_reducible refine (HF.out _).mono ?_; rintro e w1 ⟨rfl, rfl⟩)
      go_ret
      exact ⟨ret_str (by rw [HR.out, HST.out]), (bthen hbt (Vals.one_new _) (Nat.le_refl _))⟩
    · have hk2 : (k == 2) = false := by simpa using h2
      have hR : R = cnt s.size ++ s.data.toList := by rw [HR.out, if_neg h1, if_neg h2]
      have HR := Lib.hid hR; clear hR h1 h2
      obtain ⟨f0, f1, f2, f3⟩ := HX.out.zero
      simp only [] at f0 f1 f2 f3
      have hz : (str (cnt s.size)).size = (cnt s.size).length := str_size _
      have hadd := add_str (str (cnt s.size)) s (by omega)
      have hrt : R = (str (cnt s.size) ++ s).data.toList := by rw [HR.out, append_toList]; rfl
      have HRT := Lib.hid hrt; clear hrt hz hcl
      generalize str (cnt s.size) = T at *
      go_enter Tryz.func60, Tryz.ntmps60
      go_wp2
      go_region_held3 (fun w' => w'.cell? ⟨w.heap.size, 3, none⟩ = some (.string s))
        (first | go_keep | exact (hbK.cell (p := ⟨w.heap.size, 3, none⟩) (by simp)).trans f3)
        ((first | (go_at_call 88; with_reducible refine (HC.out _).mono ?_; rintro e w1 ⟨rfl, hbK⟩)))
      all_goals
        go_wp2
        go_ret
        exact ⟨ret_str (str_eq HRT.out.symm), bthen hbt.drew hbK (Nat.le_refl _)⟩

theorem fits_of (k : Int) (v : Val) : fits k v = (decide ((clean v).k = 0) || (decide ((clean v).k = k) && decide ((clean v).s.size ≤ 64) && UtfMath.valid (clean v).s.data.toList)) := rfl
set_option maxRecDepth 100000 in
set_option maxHeartbeats 4000000 in
theorem fits_any (k : Int) (v : Val) (w : World) (hv : Fine v) : Calls Tryz.prog 37 #[.int .i64 k, vagg v] w fun e w' => e = .returned (.bool (fits k v)) ∧ Below w.heap.size w w' := by
  have hs : (clean v).s.size ≤ maxReach := Nat.le_trans (clean_size v) (Nat.le_trans hv.s (by unfold maxReach; omega))
  have hP := plain_any v
  have hV := fun w => Utf.valid_any (clean v).s w hs
  have hf := fits_of k v
  have hbt := Vals.one_new (w := w) (.cells #[.int .i64 v.k, .int .i64 v.i, .bool v.b, .string v.s] 71)
  have hbx := Box.new w v
  generalize fits k v = R at hf ⊢
  generalize clean v = u at *
  generalize UtfMath.valid u.s.data.toList = V at *
  obtain ⟨kv, iv, bv, sv⟩ := v
  obtain ⟨ku, iu, bu, su⟩ := u
  simp only [] at hP hV hf hbt hs
  have HF := Lib.hid hf; clear hf
  have HP := Lib.hid hP; clear hP
  have HV := Lib.hid hV; clear hV hs hv
  have HX := Lib.hid hbx; clear hbx
  go_enter Tryz.func37, Tryz.ntmps37
  go_upto_region 2 with (first
    | (go_at_call 71; (with_reducible refine (HP.out _).mono ?_); rintro e w1 ⟨rfl, hb2⟩; have HB1 := Lib.hid (HX.out.below hb2); have HBT1 := Lib.hid (bthen hbt hb2 (Nat.le_refl _)); clear hb2)
    | (refine wpList_store_val rfl (.tmp 3) (.tmp 6) rfl w.heap.size ⟨ku, iu, bu, su⟩ ⟨kv, iv, bv, sv⟩ rfl rfl HB1.out ?_; intro wq hBq hgq hsq; have HBq := Lib.hid hBq; have hbq := HBT1.out.grown hgq HBT1.out.size (fun j hj => by simp at hj; omega); clear hgq hBq hsq))
  obtain ⟨y0, y1, y2, y3⟩ := HBq.out.cells
  simp only [] at y0 y1 y2 y3
  clear HBT1 HB1 HX hbt
  by_cases e0 : ku = 0
  · have h0 : (ku == 0) = true := by simp [e0]
    have hR : R = true := by rw [HF.out]; simp [e0]
    have HR := Lib.hid hR; clear hR HF e0
    go_wp2
    go_ret
    exact ⟨by rw [HR.out]; rfl, hbq⟩
  · have h0 : (ku == 0) = false := by simpa using e0
    by_cases e1 : ku = k
    · have h1 : (ku == k) = true := by simp [e1]
      by_cases e2 : su.size ≤ 64
      · have h2 : decide (su.size ≤ 64) = true := decide_eq_true e2
        have h2' : decide ((su.size : Int) ≤ 64) = true := decide_eq_true (by omega)
        have hR : R = V := by rw [HF.out, decide_eq_false e0, decide_eq_true e1, h2]; rfl
        have HR := Lib.hid hR; clear hR HF e0 e1 e2
        go_wp2_with (go_at_call 72; with_reducible refine (HV.out _).mono ?_; rintro e w3 ⟨rfl, hb3⟩)
        go_ret
        exact ⟨ret_bool HR.out.symm, bthen hbq hb3 (Nat.le_refl _)⟩
      · have h2 : decide (su.size ≤ 64) = false := decide_eq_false e2
        have h2' : decide ((su.size : Int) ≤ 64) = false := decide_eq_false (by omega)
        have hR : R = false := by rw [HF.out, decide_eq_false e0, decide_eq_true e1, h2]; rfl
        have HR := Lib.hid hR; clear hR HF e0 e1 e2
        go_wp2
        go_ret
        exact ⟨ret_bool HR.out.symm, hbq⟩
    · have h1 : (ku == k) = false := by simpa using e1
      have hR : R = false := by rw [HF.out, decide_eq_false e0, decide_eq_false e1]; rfl
      have HR := Lib.hid hR; clear hR HF e0 e1
      go_wp2
      go_ret
      exact ⟨ret_bool HR.out.symm, hbq⟩
theorem all_snoc {α : Type} {l : List α} {k : Nat} {x : α} {f : α → Bool} (h : l[k]? = some x) (h2 : (l.take k).all f = true) : (l.take (k + 1)).all f = f x := by
  rw [List.take_add_one, h, List.all_append, h2]; simp
theorem mayErr_no {k : Int} {vs : List Val} {v : Val} (h1 : ¬ (k < 1 ∨ 3 < k)) (h2 : ¬ 4096 < vs.length) (h3 : v ∈ vs) (h4 : fits k v = false) : mayErr k vs = 901 := by
  unfold mayErr
  rw [if_neg h1, if_neg h2, if_neg]
  intro h
  have := List.all_eq_true.1 h v h3
  rw [h4] at this; cases this
theorem ret_int64 {a b : Int} (h : a = b) : Ending.returned (.int .i64 a) = .returned (.int .i64 b) := by rw [h]
set_option maxRecDepth 100000 in
set_option maxHeartbeats 4000000 in
theorem may_any (k : Int) (A : Option Addr) (n c : Nat) (vs : List Val) (w : World) (hv : VSl w A n vs) (hf : ∀ v ∈ vs, Fine v) :
    Calls Tryz.prog 57 #[.int .i64 k, .slice A n c] w fun e w' => e = .returned (.int .i64 (mayErr k vs : Nat)) ∧ Below w.heap.size w w' := by
  have hl := hv.1
  have HK := Lib.hid (fun w => kind_any k w)
  have HF := Lib.hid hf; clear hf
  have HL := Lib.hid hl; clear hl
  by_cases h1 : 1 ≤ k ∧ k ≤ 3
  · have hk1 : ¬ (k < 1 ∨ 3 < k) := by omega
    have hd : decide (1 ≤ k ∧ k ≤ 3) = true := decide_eq_true h1
    rw [hd] at HK
    clear hd h1
    by_cases h2 : 4096 < n
    · have hE : mayErr k vs = 901 := by unfold mayErr; rw [if_neg hk1, if_pos (by rw [HL.out]; exact h2)]
      have HE := Lib.hid hE; clear hE
      have hd1 : decide (4096 < n) = true := decide_eq_true h2
      have hd1' : decide ((4096 : Int) < (n : Int)) = true := decide_eq_true (by omega)
      go_enter Tryz.func57, Tryz.ntmps57
      go_wp2_with (go_at_call 36; with_reducible refine (HK.out _).mono ?_; rintro e w1 ⟨rfl, rfl⟩)
      go_ret
      exact ⟨ret_int64 (by rw [HE.out]; rfl), Below.refl _ _⟩
    · have hd1 : decide (4096 < n) = false := decide_eq_false h2
      have hd1' : decide ((4096 : Int) < (n : Int)) = false := decide_eq_false (by omega)
      go_enter Tryz.func57, Tryz.ntmps57
      go_wp2_with (go_at_call 36; with_reducible refine (HK.out _).mono ?_; rintro e w1 ⟨rfl, rfl⟩)
      go_loopw [17] (fun iv wr => ∃ q : Nat, q ≤ n ∧ iv = .int .i64 q ∧ (vs.take q).all (fits k) = true ∧ Below w.heap.size w wr) (fun iv _ => n - (intOf iv).toNat)
      case atStart => exact ⟨0, Nat.zero_le _, rfl, by simp, Below.refl _ _⟩
      case round =>
        obtain ⟨q, hq, rfl, hA, hb⟩ := hrel
        by_cases hlt : q < n
        · obtain ⟨b1, o1, v, hv1, rfl, hb1, c0, c1, c2, c3⟩ := (hv.below hb).at_ hlt
          have hX := fun w => fits_any k v w (HF.out v (List.mem_of_getElem? hv1))
          have hall := all_snoc hv1 hA
          have hno := fun h => mayErr_no (k := k) hk1 (by rw [HL.out]; exact h2) (List.mem_of_getElem? hv1) h
          generalize fits k v = F at hX hall hno
          obtain ⟨kv, iv, bv, sv⟩ := v
          simp only [] at c0 c1 c2 c3 hX
          have HX := Lib.hid hX; clear hX
          have HA := Lib.hid (And.intro hall hno); clear hall hno hv1 hA
          have hbt := bthen hb (Vals.one_new (.cells #[.int .i64 kv, .int .i64 iv, .bool bv, .string sv] 71)) (Nat.le_refl _)
          cases F
          case false =>
            go_wp2_with (go_at_call 37; with_reducible refine (HX.out _).mono ?_; rintro e w2 ⟨rfl, hb2⟩)
            go_ret
            exact ⟨ret_int64 (by rw [HA.out.2 (by trivial)]; rfl), bthen hbt hb2 (Nat.le_refl _)⟩
          case true =>
            go_wp2_with (go_at_call 37; with_reducible refine (HX.out _).mono ?_; rintro e w2 ⟨rfl, hb2⟩)
            go_roundw
            case rel => exact ⟨q + 1, by omega, by go_num, HA.out.1, bthen hbt hb2 (Nat.le_refl _)⟩
            case measure => simp [intOf]; omega
        · obtain rfl : q = n := by omega
          have hE : mayErr k vs = 0 := by
            unfold mayErr
            rw [if_neg hk1, if_neg (by rw [HL.out]; exact h2), if_pos]
            rwa [List.take_of_length_le (by rw [HL.out]; exact Nat.le_refl _)] at hA
          have HE := Lib.hid hE; clear hE hA
          go_wp2
          go_ret
          exact ⟨ret_int64 (by rw [HE.out]; rfl), hb⟩
  · have hd : decide (1 ≤ k ∧ k ≤ 3) = false := decide_eq_false h1
    have hE : mayErr k vs = 900 := by unfold mayErr; rw [if_pos (by omega)]
    have HE := Lib.hid hE; clear hE
    rw [hd] at HK
    clear hd
    go_enter Tryz.func57, Tryz.ntmps57
    go_wp2_with (go_at_call 36; with_reducible refine (HK.out _).mono ?_; rintro e w1 ⟨rfl, rfl⟩)
    go_ret
    exact ⟨ret_int64 (by rw [HE.out]; rfl), Below.refl _ _⟩
end Go.Proofs.YtgmemdedpklnhaaGreat.Vec

/-
  CONTRACTS OF THE LIBRARY: math/bits.Len, strings.HasPrefix, (*strings.Builder).String. (Written by the kit's own tool, numbers and names turned.)
-/





namespace Go.Proofs.YtgmemdedpklnhaaGreat.Shelf
open Go.Shelf
def lays169_ren : Go.Shelf.Ren := ⟨fun | 169 => 31 | n => n, fun | 70 => 53 | 9 => 9 | 0 => 0 | 72 => 56 | 37 => 54 | 127 => 105 | 3 => 3 | 5 => 5 | n => n, fun | n => n⟩
theorem lays169 : Go.Proofs.Lays.n169 Tryz.prog lays169_ren := {
  mixed := by kernel_rfl
  f169 := Tryz.func31.trans (congrArg some (by kernel_rfl))
  t0 := Tryz.underlying0
  a0 := Tryz.isAgg0
  z0 := Tryz.sizeOf0
  v0 := Tryz.zeroValue0
  t3 := Tryz.underlying3
  a3 := Tryz.isAgg3
  z3 := Tryz.sizeOf3
  v3 := Tryz.zeroValue3
  t9 := Tryz.underlying9
  a9 := Tryz.isAgg9
  z9 := Tryz.sizeOf9
  v9 := Tryz.zeroValue9
  t37 := Tryz.underlying54
  a37 := Tryz.isAgg54
  z37 := Tryz.sizeOf54
  v37 := Tryz.zeroValue54
  t70 := Tryz.underlying53
  a70 := Tryz.isAgg53
  z70 := Tryz.sizeOf53
  v70 := Tryz.zeroValue53
  t72 := Tryz.underlying56
  a72 := Tryz.isAgg56
  z72 := Tryz.sizeOf56
  v72 := Tryz.zeroValue56
  t127 := Tryz.underlying105
  a127 := Tryz.isAgg105
  z127 := Tryz.sizeOf105
  v127 := Tryz.zeroValue105 }
theorem Builder_Extra_169 : Builder.Extra Tryz.prog lays169_ren := {
  sizeBuilder := by kernel_rfl
  liesBuilder := by kernel_rfl
  t5 := Tryz.underlying5
  a5 := Tryz.isAgg5
  z5 := Tryz.sizeOf5
  v5 := Tryz.zeroValue5
  infoByte := by kernel_rfl
  cellsByte := by kernel_rfl
  sizeByte := by kernel_rfl
  neB5 := by decide }
open Go.RowKit in
theorem Builder_String_any (B b : Nat) (l : List UInt8) (w : World) (h : Lib.IsBuilder 56 5 B b (Lib.byteCells l) w) (hBw : B ≤ w.heap.size) :
    Calls Tryz.prog 31 #[.pointer (some ⟨b, 0, none⟩)] w fun e w' => e = .returned (.string ⟨l.toArray⟩) ∧ Below B w w' := Any.Builder_String_any lays169 Builder_Extra_169 B b l w h hBw
open Go.RowKit in
theorem Builder_String_any_k (B b : Nat) (l : List UInt8) (w : World) (h : Lib.IsBuilderF 56 5 B b (Lib.byteCells l) w) (hBw : B ≤ w.heap.size) :
    Calls Tryz.prog 31 #[.pointer (some ⟨b, 0, none⟩)] w fun e w' => e = .returned (.string ⟨l.toArray⟩) ∧ (Lib.IsBuilderF 56 5 B b (Lib.byteCells l) w' ∧ Below B w w' ∧ Lib.OthersKept 5 (some b) w w') := Any.Builder_String_any_k lays169 Builder_Extra_169 B b l w h hBw
def lays128_ren : Go.Shelf.Ren := ⟨fun | 128 => 122 | n => n, fun | 51 => 116 | 3 => 3 | 4 => 4 | 46 => 83 | 5 => 5 | 9 => 9 | n => n, fun | n => n⟩
theorem lays128 : Go.Proofs.Lays.n128 Tryz.prog lays128_ren := {
  mixed := by kernel_rfl
  f128 := Tryz.func122.trans (congrArg some (by kernel_rfl))
  t3 := Tryz.underlying3
  a3 := Tryz.isAgg3
  z3 := Tryz.sizeOf3
  v3 := Tryz.zeroValue3
  t4 := Tryz.underlying4
  a4 := Tryz.isAgg4
  z4 := Tryz.sizeOf4
  v4 := Tryz.zeroValue4
  t5 := Tryz.underlying5
  a5 := Tryz.isAgg5
  z5 := Tryz.sizeOf5
  v5 := Tryz.zeroValue5
  t9 := Tryz.underlying9
  a9 := Tryz.isAgg9
  z9 := Tryz.sizeOf9
  v9 := Tryz.zeroValue9
  t46 := Tryz.underlying83
  a46 := Tryz.isAgg83
  z46 := Tryz.sizeOf83
  v46 := Tryz.zeroValue83
  t51 := Tryz.underlying116
  a51 := Tryz.isAgg116
  z51 := Tryz.sizeOf116
  v51 := Tryz.zeroValue116 }
theorem bits_Len32 (x : Int) (w : World) (h0 : 0 ≤ x) (h1 : x ≤ 4294967295) :
    Calls Tryz.prog 122 #[.int .u32 x] w fun e w' => e = .returned (.int .i64 (Lib.bitLen x.toNat)) ∧ w' = w := Any.bits_Len32 lays128 x w h0 h1
def lays125_ren : Go.Shelf.Ren := ⟨fun | 125 => 117 | 128 => 122 | 129 => 123 | n => n, fun | 46 => 83 | 3 => 3 | 51 => 116 | 53 => 107 | 4 => 4 | 5 => 5 | 9 => 9 | n => n, fun | n => n⟩
theorem lays125 : Go.Proofs.Lays.n125 Tryz.prog lays125_ren := {
  mixed := by kernel_rfl
  f125 := Tryz.func117.trans (congrArg some (by kernel_rfl))
  f128 := Tryz.func122.trans (congrArg some (by kernel_rfl))
  f129 := Tryz.func123.trans (congrArg some (by kernel_rfl))
  t3 := Tryz.underlying3
  a3 := Tryz.isAgg3
  z3 := Tryz.sizeOf3
  v3 := Tryz.zeroValue3
  t4 := Tryz.underlying4
  a4 := Tryz.isAgg4
  z4 := Tryz.sizeOf4
  v4 := Tryz.zeroValue4
  t5 := Tryz.underlying5
  a5 := Tryz.isAgg5
  z5 := Tryz.sizeOf5
  v5 := Tryz.zeroValue5
  t9 := Tryz.underlying9
  a9 := Tryz.isAgg9
  z9 := Tryz.sizeOf9
  v9 := Tryz.zeroValue9
  t46 := Tryz.underlying83
  a46 := Tryz.isAgg83
  z46 := Tryz.sizeOf83
  v46 := Tryz.zeroValue83
  t51 := Tryz.underlying116
  a51 := Tryz.isAgg116
  z51 := Tryz.sizeOf116
  v51 := Tryz.zeroValue116
  t53 := Tryz.underlying107
  a53 := Tryz.isAgg107
  z53 := Tryz.sizeOf107
  v53 := Tryz.zeroValue107 }
theorem bits_Len (x : Int) (w : World) (h0 : 0 ≤ x) (h1 : x ≤ 18446744073709551615) :
    Calls Tryz.prog 117 #[.int .u64 x] w fun e w' => e = .returned (.int .i64 (Lib.bitLen x.toNat)) ∧ w' = w := Any.bits_Len lays125 x w h0 h1
def lays129_ren : Go.Shelf.Ren := ⟨fun | 129 => 123 | n => n, fun | 53 => 107 | 3 => 3 | 4 => 4 | 46 => 83 | 5 => 5 | 9 => 9 | n => n, fun | n => n⟩
theorem lays129 : Go.Proofs.Lays.n129 Tryz.prog lays129_ren := {
  mixed := by kernel_rfl
  f129 := Tryz.func123.trans (congrArg some (by kernel_rfl))
  t3 := Tryz.underlying3
  a3 := Tryz.isAgg3
  z3 := Tryz.sizeOf3
  v3 := Tryz.zeroValue3
  t4 := Tryz.underlying4
  a4 := Tryz.isAgg4
  z4 := Tryz.sizeOf4
  v4 := Tryz.zeroValue4
  t5 := Tryz.underlying5
  a5 := Tryz.isAgg5
  z5 := Tryz.sizeOf5
  v5 := Tryz.zeroValue5
  t9 := Tryz.underlying9
  a9 := Tryz.isAgg9
  z9 := Tryz.sizeOf9
  v9 := Tryz.zeroValue9
  t46 := Tryz.underlying83
  a46 := Tryz.isAgg83
  z46 := Tryz.sizeOf83
  v46 := Tryz.zeroValue83
  t53 := Tryz.underlying107
  a53 := Tryz.isAgg107
  z53 := Tryz.sizeOf107
  v53 := Tryz.zeroValue107 }
theorem bits_Len64 (x : Int) (w : World) (h0 : 0 ≤ x) (h1 : x ≤ 18446744073709551615) :
    Calls Tryz.prog 123 #[.int .u64 x] w fun e w' => e = .returned (.int .i64 (Lib.bitLen x.toNat)) ∧ w' = w := Any.bits_Len64 lays129 x w h0 h1
def lays206_ren : Go.Shelf.Ren := ⟨fun | 206 => 74 | n => n, fun | 9 => 9 | 4 => 4 | 3 => 3 | n => n, fun | n => n⟩
theorem lays206 : Go.Proofs.Lays.n206 Tryz.prog lays206_ren := {
  mixed := by kernel_rfl
  f206 := Tryz.func74.trans (congrArg some (by kernel_rfl))
  t3 := Tryz.underlying3
  a3 := Tryz.isAgg3
  z3 := Tryz.sizeOf3
  v3 := Tryz.zeroValue3
  t4 := Tryz.underlying4
  a4 := Tryz.isAgg4
  z4 := Tryz.sizeOf4
  v4 := Tryz.zeroValue4
  t9 := Tryz.underlying9
  a9 := Tryz.isAgg9
  z9 := Tryz.sizeOf9
  v9 := Tryz.zeroValue9 }
open Go.RowKit Go.Lib in
theorem stringslite_HasPrefix (s p : ByteArray) (w : World) :
    Calls Tryz.prog 74 #[.string s, .string p] w fun e w' => e = .returned (.bool (Lib.hasPrefix s.data.toList p.data.toList)) ∧ w' = w := Any.stringslite_HasPrefix lays206 s p w
def lays99_ren : Go.Shelf.Ren := ⟨fun | 99 => 42 | 206 => 74 | n => n, fun | 9 => 9 | 4 => 4 | 3 => 3 | n => n, fun | n => n⟩
theorem lays99 : Go.Proofs.Lays.n99 Tryz.prog lays99_ren := {
  mixed := by kernel_rfl
  f99 := Tryz.func42.trans (congrArg some (by kernel_rfl))
  f206 := Tryz.func74.trans (congrArg some (by kernel_rfl))
  t3 := Tryz.underlying3
  a3 := Tryz.isAgg3
  z3 := Tryz.sizeOf3
  v3 := Tryz.zeroValue3
  t4 := Tryz.underlying4
  a4 := Tryz.isAgg4
  z4 := Tryz.sizeOf4
  v4 := Tryz.zeroValue4
  t9 := Tryz.underlying9
  a9 := Tryz.isAgg9
  z9 := Tryz.sizeOf9
  v9 := Tryz.zeroValue9 }
open Go.RowKit Go.Lib in
theorem strings_HasPrefix (s p : ByteArray) (w : World) :
    Calls Tryz.prog 42 #[.string s, .string p] w fun e w' => e = .returned (.bool (Lib.hasPrefix s.data.toList p.data.toList)) ∧ w' = w := Any.strings_HasPrefix lays99 s p w
end Go.Proofs.YtgmemdedpklnhaaGreat.Shelf

/-
  THE WALKS of strings.Builder's copyCheck and WriteString at this version of Go's library.
-/





namespace Go.Proofs.YtgmemdedpklnhaaGreat.Bld
open Go.RowKit

/-- A builder of the call's own that holds these bytes. -/
def Bld (w : World) (B b : Nat) (l : List UInt8) : Prop := Lib.IsBuilder 56 5 B b (Lib.byteCells l) w
def Used (w : World) (B b : Nat) (l : List UInt8) : Prop := Lib.BuilderAt 56 5 B b (.pointer (some ⟨b, 0, none⟩)) (Lib.byteCells l) w
theorem Used.bld {w : World} {B b : Nat} {l : List UInt8} (h : Used w B b l) : Bld w B b l := .inr h
theorem Bld.new (w : World) : Bld (w.alloc (.cells #[.pointer none, .slice none 0 0] 56)) w.heap.size w.heap.size [] := Lib.fresh_isBuilder _ _ w
theorem neB : (56 : TypeId) ≠ 5 := by decide
theorem info_builder : ∃ j, Tryz.prog.info? 56 = some j ∧ j.size ≠ 0 := by
  obtain ⟨j, hj, hs⟩ := Option.map_eq_some_iff.1 (show (Tryz.prog.info? 56).map (·.size) = some 2 by kernel_rfl)
  exact ⟨j, hj, by rw [hs]; decide⟩
theorem lies_builder : liesAt Tryz.prog Tryz.prog.depth 56 (2 / Tryz.prog.cellsOf 56) 0 56 1 = true := by kernel_rfl

set_option maxRecDepth 100000 in
set_option maxHeartbeats 1000000 in
theorem check_used (b : Nat) (w : World) (h0 : w.cell? ⟨b, 0, none⟩ = some (.pointer (some ⟨b, 0, none⟩))) :
    Calls Tryz.prog 55 #[.pointer (some ⟨b, 0, none⟩)] w fun e w' => e = .returned (.tuple #[]) ∧ w' = w := by
  obtain ⟨j, hj, _⟩ := info_builder
  have hne := Lib.run_neq_ptr_same w ⟨b, 0, none⟩ Tryz.underlying53 hj
  go_enter Tryz.func55, Tryz.ntmps55
  go_wp2
  go_end0
  exact ⟨rfl, rfl⟩
set_option maxRecDepth 100000 in
set_option maxHeartbeats 1000000 in
theorem check_fresh (b : Nat) (w : World) (h0 : w.cell? ⟨b, 0, none⟩ = some (.pointer none)) (hsh : w.shape? b = some (56, 2)) (hfz : w.frozen? ⟨b, 0, none⟩ = false) :
    Calls Tryz.prog 55 #[.pointer (some ⟨b, 0, none⟩)] w fun e w' => e = .returned (.tuple #[]) ∧ w' = w.setCell ⟨b, 0, none⟩ (.pointer (some ⟨b, 0, none⟩)) := by
  obtain ⟨j, hj, hjs⟩ := info_builder
  have r1 := Lib.run_to_unsafe w ⟨b, 0, none⟩ Tryz.underlying53 Tryz.underlying123 hj hjs hsh (Nat.zero_lt_succ 1)
  have r3 := Lib.run_from_unsafe w ⟨b, 0, none⟩ Tryz.underlying123 Tryz.underlying53 hj hsh lies_builder
  have r2 : (callFunc 82 #[.pointer (some ⟨b, 0, none⟩)]).run Tryz.prog w = .ok (.value (.pointer (some ⟨b, 0, none⟩))) w := by
    rw [run_callFunc_extern Tryz.func82 (by kernel_rfl) (by kernel_rfl) (by kernel_rfl) (e := Extern.AbiNoEscape.same) (by kernel_rfl), Lib.run_noEscape]
    rfl
  go_enter Tryz.func55, Tryz.ntmps55
  go_wp2
  go_end0
  exact ⟨rfl, rfl⟩
theorem check_any (B b : Nat) (l : List UInt8) (w : World) (h : Bld w B b l) :
    Calls Tryz.prog 55 #[.pointer (some ⟨b, 0, none⟩)] w fun e w' => e = .returned (.tuple #[]) ∧ Used w' B b l ∧ Below B w w' := by
  rcases h with h | h
  · refine (check_fresh b w h.cell0 h.shape h.frozen0).mono ?_
    rintro e w' ⟨rfl, rfl⟩
    exact ⟨rfl, h.used _, (Below.refl B w).setCell (p := ⟨b, 0, none⟩) h.1 _⟩
  · refine (check_used b w h.cell0).mono ?_
    rintro e w' ⟨rfl, rfl⟩
    exact ⟨rfl, h, Below.refl B _⟩

theorem cells_append (l : List UInt8) (s : ByteArray) : Lib.byteCells l ++ Lib.strCells s = Lib.byteCells (l ++ s.data.toList) := by
  unfold Lib.byteCells Lib.strCells
  simp
set_option maxRecDepth 100000 in
set_option maxHeartbeats 2000000 in
theorem write_any (B b : Nat) (l : List UInt8) (s : ByteArray) (w : World) (h : Bld w B b l) (hlen : l.length + s.size ≤ 140737488355328) (hB : B ≤ w.heap.size) :
    Calls Tryz.prog 25 #[.pointer (some ⟨b, 0, none⟩), .string s] w fun e w' => e = .returned (.tuple #[.int .i64 s.size, .nilIface]) ∧ Used w' B b (l ++ s.data.toList) ∧ Below B w w' := by
  obtain ⟨i0, hi, hz0, hz1, hz2⟩ := info_parts (show (Tryz.prog.info? 5).map (fun i => (i.zero, i.size, i.bytes)) = some (some (.int .u8 0), 1, 1) by kernel_rfl)
  go_enter Tryz.func25, Tryz.ntmps25
  go_wp2_with (first
    | (go_at_call 55; (refine (check_any B b l _ h).mono ?_); (rintro e w1 ⟨rfl, h1, hb1⟩); (obtain ⟨hBb, v, hbk, hown, hne⟩ := h1); (have c0 : w1.cell? ⟨b, 0, none⟩ = some (.pointer (some ⟨b, 0, none⟩)) := by (rw [Lib.cell_of_heap hbk]; rfl)); (have c1 : w1.cell? ⟨b, 1, none⟩ = some v := by (rw [Lib.cell_of_heap hbk]; rfl)); have HH := Lib.hid (And.intro hbk (And.intro hown hne)); clear hbk hown hne; have hsz1 := hb1.size)
    | (at_builtin; (refine Lib.wpList_append_own_string w1 rfl (.tmp 12) (.tmp 13) 54 9 rfl B 5 i0 Tryz.underlying54 Tryz.underlying9 hi hz0 hz1 hz2 v _ _ rfl HH.out.2.1 s rfl (by rw [Lib.byteCells_length]; unfold maxLen; omega) (by rw [Lib.byteCells_length]; omega) (Nat.le_trans hB hb1.size) ?_); (intro v' w2 hown' hgrow _); (obtain ⟨ao, n', cap, rfl⟩ : ∃ ao n' cap, v' = .slice ao n' cap := (by rcases hown'.2 with ⟨hv, _⟩ | ⟨g, cap, cur, hv, _⟩; exact ⟨_, _, _, hv⟩; exact ⟨_, _, _, hv⟩)); (have hlt : b < w1.heap.size := Lib.BuilderAt.lt (T := 56) (e := 5) (p := .pointer (some ⟨b, 0, none⟩)) (bs := Lib.byteCells l) ⟨hBb, v, HH.out⟩); (have hb2 : w2.heap[b]? = some (.cells #[.pointer (some ⟨b, 0, none⟩), v] 56 (0, 0)) := (hgrow.block b hlt (fun e => HH.out.2.2 e.symm)).trans HH.out.1); (have d0 : w2.cell? ⟨b, 0, none⟩ = some (.pointer (some ⟨b, 0, none⟩)) := by (rw [Lib.cell_of_heap hb2]; rfl)); (have d1 : w2.cell? ⟨b, 1, none⟩ = some v := by (rw [Lib.cell_of_heap hb2]; rfl)); (have f1 : w2.frozen? ⟨b, 1, none⟩ = false := Lib.frozen_of_heap hb2 1); (have H2 := Lib.hid (And.intro hown' (And.intro hgrow hb2))); (clear hown' hgrow hb2; clear c0 c1)))
  go_ret2
  refine ⟨rfl, ?_, ?_⟩
  · have := Lib.BuilderAt.put (T := 56) (e := 5) hBb H2.out.2.2 (bs' := Lib.byteCells l ++ Lib.strCells s) (v' := .slice ao n' cap) (by have := H2.out.1; simpa [Lib.strCells_length] using this) neB
    rw [cells_append] at this
    exact this
  · exact (hb1.grown H2.out.2.1 (by have := hb1.size; omega) (fun k hk => (HH.out.2.1.lt k hk).1)).setCell (p := ⟨b, 1, none⟩) hBb _
/-- The string of a builder. -/
theorem string_any (B b : Nat) (l : List UInt8) (w : World) (h : Bld w B b l) (hB : B ≤ w.heap.size) :
    Calls Tryz.prog 31 #[.pointer (some ⟨b, 0, none⟩)] w fun e w' => e = .returned (.string (str l)) ∧ Below B w w' := Shelf.Builder_String_any B b l w h hB
theorem Bld.lt {w : World} {B b : Nat} {l : List UInt8} (h : Bld w B b l) : b < w.heap.size ∧ B ≤ b := by
  rcases h with h | h
  · exact ⟨h.lt, h.1⟩
  · exact ⟨h.lt, h.1⟩
/-- A builder is as it was where nothing old changed. -/
theorem at_below {p : Value} {w w' : World} {B b : Nat} {l : List UInt8} (h : Lib.BuilderAt 56 5 B b p (Lib.byteCells l) w) (hb : Below w.heap.size w w') : Lib.BuilderAt 56 5 B b p (Lib.byteCells l) w' := by
  have hlt := h.lt
  obtain ⟨h1, v, h2, h3, h4⟩ := h
  exact ⟨h1, v, (hb.block b hlt).trans h2, own_below h3 hb, h4⟩
theorem Bld.below {w w' : World} {B b : Nat} {l : List UInt8} (h : Bld w B b l) (hb : Below w.heap.size w w') : Bld w' B b l := by
  rcases h with h | h
  · exact .inl (at_below h hb)
  · exact .inr (at_below h hb)
theorem Bld.drew {w : World} {B b : Nat} {l : List UInt8} (h : Bld w B b l) : Bld w.drew B b l := h
theorem Bld.drewN {w : World} {B b : Nat} {l : List UInt8} (h : Bld w B b l) (k : Nat) : Bld (w.drewN k) B b l := h
theorem Bld.alloc {w : World} {B b : Nat} {l : List UInt8} (h : Bld w B b l) (o : Obj) : Bld (w.alloc o) B b l := h.below (Vals.one_new o)
/-- .. and behind an append to another row. -/
theorem at_grown {p : Value} {w w' : World} {B b B2 z n : Nat} {e : TypeId} {l : List UInt8} {u : Value} {xs : List Value} (h : Lib.BuilderAt 56 5 B b p (Lib.byteCells l) w) (ho : w.ownsRow B2 e z u n xs) (he : e ≠ 5) (he2 : e ≠ 56) (hg : w.grownBy w' u.ownBlock) : Lib.BuilderAt 56 5 B b p (Lib.byteCells l) w' := by
  have hlt := h.lt
  obtain ⟨h1, v, h2, h3, h4⟩ := h
  refine ⟨h1, v, (hg.block b hlt ?_).trans h2, World.ownsRow.kept h3 hg (own_ne h3 ho (fun e2 => he e2.symm)), h4⟩
  intro e2
  rcases ho.2 with ⟨rfl, _⟩ | ⟨g, k, cur, rfl, _, hg2, _⟩
  · simp [Value.ownBlock] at e2
  · simp only [Value.ownBlock, Option.some.injEq] at e2
    subst e2
    rw [h2] at hg2
    injection hg2 with hg2
    injection hg2 with _ hg2 _
    exact he2 hg2.symm
theorem Bld.keepI {w w' : World} {B b B2 : Nat} {l : List UInt8} {u : Value} {xs : List Int} (h : Bld w B b l) (ho : OwnI w B2 u xs) (hg : w.grownBy w' u.ownBlock) : Bld w' B b l := by
  rcases h with h | h
  · exact .inl (at_grown h ho (by decide) (by decide) hg)
  · exact .inr (at_grown h ho (by decide) (by decide) hg)
theorem string_k (B b : Nat) (l : List UInt8) (w : World) (h : Bld w B b l) (hB : B ≤ w.heap.size) :
    Calls Tryz.prog 31 #[.pointer (some ⟨b, 0, none⟩)] w fun e w' => e = .returned (.string (str l)) ∧ Below B w w' ∧ Lib.OthersKept 5 (some b) w w' := by
  refine (Shelf.Builder_String_any_k B b l w (Lib.IsBuilderF.of h) hB).mono ?_
  rintro e w' ⟨rfl, _, h1, h2⟩
  exact ⟨rfl, h1, h2⟩
theorem own_others {w w' : World} {b B z n : Nat} {e : TypeId} {v : Value} {xs : List Value} (ho : w.ownsRow B e z v n xs) (hk : Lib.OthersKept 5 (some b) w w') (he : e ≠ 5) (hne : v.ownBlock ≠ some b) : w'.ownsRow B e z v n xs := by
  refine ⟨ho.1, ?_⟩
  rcases ho.2 with h | ⟨g, k, cur, rfl, h1, hg, h2⟩
  · exact .inl h
  · exact .inr ⟨g, k, cur, rfl, h1, hk g _ hg (by simpa [Value.ownBlock] using hne) (fun c fz e2 => by injection e2 with _ e2 _; exact he e2), h2⟩
theorem OwnI.others {w w' : World} {b B : Nat} {v : Value} {xs : List Int} (ho : OwnI w B v xs) (hk : Lib.OthersKept 5 (some b) w w') (hne : v.ownBlock ≠ some b) : OwnI w' B v xs := own_others ho hk (by decide) hne
end Go.Proofs.YtgmemdedpklnhaaGreat.Bld

/-
  CLOSED FACTS OF THE PROGRAM that every law's row asks: proved once, the head's words over a list of signs in the place of the string (so the kernel need not take a long string apart).
-/



namespace Go.Proofs.YtgmemdedpklnhaaGreat.Facts
open Go

def signs : List Char := [104, 97, 114, 110, 101, 115, 115, 32, 55, 98, 56, 54, 102, 100, 51, 98, 52, 100, 102, 50, 57, 97, 55, 100, 98, 55, 54, 97, 102, 48, 100, 51, 54, 99, 50, 51, 102, 101, 50, 51, 55, 99, 52, 53, 52, 55, 51, 99, 57, 98, 53, 50, 54, 102, 53, 100, 99, 100, 54, 48, 54, 48, 101, 51, 51, 51, 49, 102, 53, 51, 49, 56, 32, 99, 117, 116, 32, 97, 116, 32, 98, 111, 97, 116, 104, 111, 117, 115, 101, 47, 98, 111, 97, 116, 104, 111, 117, 115, 101, 108, 97, 119, 49, 49, 46, 70, 105, 108, 101, 80, 117, 116, 115, 32, 98, 111, 97, 116, 104, 111, 117, 115, 101, 47, 98, 111, 97, 116, 104, 111, 117, 115, 101, 108, 97, 119, 49, 49, 46, 70, 105, 108, 101, 71, 101, 116, 115].map Char.ofNat

theorem init_is : Tryz.prog.initOrder = String.ofList signs := by kernel_rfl
theorem init_eq : Tryz.prog.initOrder.toList = signs := by rw [init_is]; exact String.toList_ofList

/-- The head's words behind the harness's own: 'cut', then whatever. -/
theorem words_cons : behindMainWord (wordsSigns signs) = "cut".toList :: (behindMainWord (wordsSigns signs)).tail := by kernel_rfl
theorem strip_cut (rest : List (List Char)) : stripLifts liftWords ("cut".toList :: rest) = ([], "cut".toList :: rest) := by kernel_rfl
theorem lifts_gen (P : Program) (rest : List (List Char)) (h : behindMainWord (wordsSigns P.initOrder.toList) = "cut".toList :: rest) : P.headLifts = [] := by
  unfold Program.headLifts; rw [h, strip_cut]; rfl
theorem make_gen (P : Program) (rest : List (List Char)) (h : behindMainWord (wordsSigns P.initOrder.toList) = "cut".toList :: rest) : P.make = some .cut := by
  unfold Program.make; rw [h]
  kernel_rfl
theorem final_gen (P : Program) (rest : List (List Char)) (h : behindMainWord (wordsSigns P.initOrder.toList) = "cut".toList :: rest) : P.liftsFinal = false := by
  unfold Program.liftsFinal; rw [lifts_gen P rest h, h]
  kernel_rfl
theorem enter_gen (P : Program) (rest : List (List Char)) (h : behindMainWord (wordsSigns P.initOrder.toList) = "cut".toList :: rest)
    (h1 : P.laysLater = false) (h2 : P.bearsReflect = false) (h3 : P.doorFits [] = true) : P.mayEnter = true := by
  unfold Program.mayEnter; rw [h]
  simp only [strip_cut, h1, h2, h3]
  kernel_rfl
theorem head_is : behindMainWord (wordsSigns Tryz.prog.initOrder.toList) = "cut".toList :: (behindMainWord (wordsSigns signs)).tail := by rw [init_eq]; exact words_cons
theorem make_eq : Tryz.prog.make = some .cut := make_gen Tryz.prog _ head_is
theorem final_eq : Tryz.prog.liftsFinal = false := final_gen Tryz.prog _ head_is
theorem later_eq : Tryz.prog.laysLater = false := by kernel_rfl
theorem reflect_eq : Tryz.prog.bearsReflect = false := by kernel_rfl
theorem door_eq : Tryz.prog.doorFits [] = true := by kernel_rfl
theorem enter_eq : Tryz.prog.mayEnter = true := enter_gen Tryz.prog _ head_is later_eq reflect_eq door_eq
theorem laid_eq : laidOutB Tryz.prog = true := by kernel_rfl
theorem maps_eq : mapsRowed Tryz.prog = true := by kernel_rfl
theorem heard_eq : Tryz.prog.stopsHeard = true := by kernel_rfl
theorem keys_eq : Tryz.prog.plainKeys = false := by kernel_rfl
theorem own : ownKnob Tryz.prog.godebug = none := by kernel_rfl
end Go.Proofs.YtgmemdedpklnhaaGreat.Facts

/-
  MAPS WHOSE KEYS ARE VALUES: places (to int), seen (to bool).
-/





namespace Go.Proofs.YtgmemdedpklnhaaGreat.MapV
open Go.RowKit ValMath Vals Sl
open Go.Maps (Keyed)

theorem row_val : (71 : TypeId) < Tryz.prog.types.size := of_decide_eq_true (by kernel_rfl)
theorem cells_val : Tryz.prog.cellsOf 71 = 4 := by kernel_rfl
theorem key_type : Tryz.prog.keyType 71 = true := by kernel_rfl
theorem wide_val : (match Tryz.prog.underlying 71 with | some (.array _ _) | some (.struct _) => true | _ => false) = true := by rw [Tryz.underlying71]
set_option maxRecDepth 100000 in
theorem law : WideMaps.KeyLaw Tryz.prog 71 := deep_law_laid Facts.laid_eq (m := 2) (by omega) row_val (by kernel_rfl) wide_val
theorem keyed : Keyed Tryz.prog 71 := Keyed.of_law law
/-- What a value reads as, as a key. -/
def klit (u : Val) : Lit := .string (keyBytes [.int .i64 u.k, .int .i64 u.i, .bool u.b, .string u.s.data.toList])
theorem wf_i64 {x : Int} (h1 : -9223372036854775808 ≤ x) (h2 : x < 9223372036854775808) : (Lit.int .i64 x).wf = true := by
  simp [Lit.wf, IntKind.min, IntKind.max, IntKind.signed, IntKind.bits]; omega
set_option maxRecDepth 100000 in
theorem key_val {u : Val} (h : Fine u) : keyOf Tryz.prog 71 (vagg u) = some (klit u) := by
  have hs : u.s.size ≤ maxLen := Nat.le_trans h.s (by decide)
  have w1 := wf_i64 h.k1 h.k2
  have w2 := wf_i64 h.i1 h.i2
  have hf : (vagg u).formed Tryz.prog 71 = true := by simp [Value.formed, Tryz.underlying71, cells_val]
  obtain ⟨d, hd⟩ : ∃ d, Tryz.prog.types.size + 1 = d + 2 := ⟨Tryz.prog.types.size - 1, by have h : (71 : Nat) < Tryz.prog.types.size := row_val; omega⟩
  have c1 : Tryz.prog.cellsOf 3 = 1 := by kernel_rfl
  have c2 : Tryz.prog.cellsOf 4 = 1 := by kernel_rfl
  have c3 : Tryz.prog.cellsOf 9 = 1 := by kernel_rfl
  have hl : Tryz.prog.keyLits (d + 2) 71 [.int .i64 u.k, .int .i64 u.i, .bool u.b, .string u.s] = some [.int .i64 u.k, .int .i64 u.i, .bool u.b, .string u.s.data.toList] := by
    simp [Program.keyLits, Tryz.underlying71, Tryz.underlying3, Tryz.underlying4, Tryz.underlying9, cells_val, c1, c2, c3, w1, w2, hs]
  unfold keyOf
  rw [Tryz.underlying71]
  simp only []
  rw [key_type, hf, hd]
  show (Option.map _ (Tryz.prog.keyLits (d + 2) 71 [.int .i64 u.k, .int .i64 u.i, .bool u.b, .string u.s])) = _
  rw [hl]; rfl
theorem klit_inj {u v : Val} (hu : Fine u) (hv : Fine v) (e : klit u = klit v) : u = v := by
  have h := keyed.inj (key_val hu) (e ▸ key_val hv)
  have h' : (#[Value.int .i64 u.k, .int .i64 u.i, .bool u.b, .string u.s] : Array Value) = #[.int .i64 v.k, .int .i64 v.i, .bool v.b, .string v.s] := by injection h
  simp only [Array.mk.injEq, List.cons.injEq, Value.int.injEq, Value.bool.injEq, Value.string.injEq, and_true, true_and] at h'
  exact Val.ext_ h'.1 h'.2.1 h'.2.2.1 h'.2.2.2
theorem klit_key (u : Val) : WideAt.IsKeyLit (klit u) := trivial

/-- Block b maps each word to its place. -/
def Places (w : World) (b n : Nat) (ws : List Val) : Prop :=
  ∃ D : DataW Unit, w.ownsMap Tryz.prog 71 (plainElem Tryz.prog 3) b n D ∧ (∀ u, Fine u → Maps.has D (klit u) = decide (u ∈ ws)) ∧ ∀ u, Fine u → u ∈ ws → ∀ z, D.atKey (klit u) z = .lit (.int .i64 (place ws u : Nat))
/-- Block b tells which values have been seen. -/
def Seen (w : World) (b n : Nat) (ws : List Val) : Prop :=
  ∃ D : DataW Unit, w.ownsMap Tryz.prog 71 (plainElem Tryz.prog 4) b n D ∧ Maps.IsMap D ∧ (∀ u, Fine u → ∀ z, D.atKey (klit u) z = if u ∈ ws then .lit (.bool true) else z)

theorem Places.made (w : World) : Places (w.alloc (.map #[] 0)) w.heap.size 0 [] := ⟨.map [], World.ownsMap_made w _ _ _, fun u _ => by simp [Maps.has_eq], fun u _ h => by simp at h⟩
theorem Seen.made (w : World) : Seen (w.alloc (.map #[] 0)) w.heap.size 0 [] := ⟨.map [], World.ownsMap_made w _ _ _, Maps.isMap_empty, fun u _ z => by simp [WideAt.atKey_none]⟩
theorem Places.kept {w w' : World} {b n : Nat} {ws : List Val} {row : Option Nat} (h : Places w b n ws) (hg : w.grownBy w' row) (hne : some b ≠ row) : Places w' b n ws := by obtain ⟨D, h1, h2⟩ := h; exact ⟨D, h1.kept hg hne, h2⟩
theorem Seen.kept {w w' : World} {b n : Nat} {ws : List Val} {row : Option Nat} (h : Seen w b n ws) (hg : w.grownBy w' row) (hne : some b ≠ row) : Seen w' b n ws := by obtain ⟨D, h1, h2⟩ := h; exact ⟨D, h1.kept hg hne, h2⟩
theorem Places.alloc {w : World} {b n : Nat} {ws : List Val} (h : Places w b n ws) (o : Obj) : Places (w.alloc o) b n ws := by obtain ⟨D, h1, h2⟩ := h; exact ⟨D, h1.alloc o, h2⟩
theorem Seen.alloc {w : World} {b n : Nat} {ws : List Val} (h : Seen w b n ws) (o : Obj) : Seen (w.alloc o) b n ws := by obtain ⟨D, h1, h2⟩ := h; exact ⟨D, h1.alloc o, h2⟩
theorem Places.drew {w : World} {b n : Nat} {ws : List Val} (h : Places w b n ws) : Places w.drew b n ws := h
theorem Seen.drew {w : World} {b n : Nat} {ws : List Val} (h : Seen w b n ws) : Seen w.drew b n ws := h
theorem Places.lt {w : World} {b n : Nat} {ws : List Val} (h : Places w b n ws) : b < w.heap.size := by obtain ⟨D, h1, _⟩ := h; exact h1.lt
theorem Seen.lt {w : World} {b n : Nat} {ws : List Val} (h : Seen w b n ws) : b < w.heap.size := by obtain ⟨D, h1, _⟩ := h; exact h1.lt
theorem grown_of_below {w w' : World} (h : Below w.heap.size w w') : w.grownBy w' none := ⟨h.os, h.tape, h.output, h.size, fun i hi _ => h.block i hi⟩
theorem Places.below {w w' : World} {b n : Nat} {ws : List Val} (h : Places w b n ws) (hb : Below w.heap.size w w') : Places w' b n ws := h.kept (grown_of_below hb) (by simp)
theorem Seen.below {w w' : World} {b n : Nat} {ws : List Val} (h : Seen w b n ws) (hb : Below w.heap.size w w') : Seen w' b n ws := h.kept (grown_of_below hb) (by simp)
/-- A map's block is no row's. -/
theorem map_no_row {H : Type} {w : World} {b n B m z : Nat} {e k : TypeId} {R : Value → Option (DataW H × List MemPlace)} {D : DataW H} {v : Value} {xs : List Value} (h : w.ownsMap Tryz.prog k R b n D) (ho : w.ownsRow B e z v m xs) : some b ≠ v.ownBlock := by
  obtain ⟨es, clock, hb, _⟩ := h
  rcases ho.2 with ⟨rfl, _⟩ | ⟨g, c, cur, rfl, _, hg, _⟩
  · simp [Value.ownBlock]
  · intro he
    have : b = g := by simpa [Value.ownBlock] using he
    subst this
    rw [hb] at hg; cases hg
theorem Places.no_row {w : World} {b n B m z : Nat} {e : TypeId} {ws : List Val} {v : Value} {xs : List Value} (h : Places w b n ws) (ho : w.ownsRow B e z v m xs) : some b ≠ v.ownBlock := by obtain ⟨D, h1, _⟩ := h; exact map_no_row h1 ho
theorem Seen.no_row {w : World} {b n B m z : Nat} {e : TypeId} {ws : List Val} {v : Value} {xs : List Value} (h : Seen w b n ws) (ho : w.ownsRow B e z v m xs) : some b ≠ v.ownBlock := by obtain ⟨D, h1, _⟩ := h; exact map_no_row h1 ho

theorem place_snoc_mem {ws : List Val} {u v : Val} (h : u ∈ ws) : place (ws ++ [v]) u = place ws u := by
  unfold place; rw [List.findIdx_append, if_pos]; exact place_lt.2 h
theorem place_snoc_self {ws : List Val} {v : Val} (h : v ∉ ws) : place (ws ++ [v]) v = ws.length := by
  have hn : ¬ place ws v < ws.length := fun h2 => h (place_lt.1 h2)
  unfold place at hn ⊢; rw [List.findIdx_append, if_neg hn]; simp

section
variable {w : World} {ops : Array Oper} {rest : List Oper} {o : Oper} {a : Act} {Q : Exit → Act → World → Prop}
set_option maxRecDepth 100000 in
theorem zero_int (w : World) : (zeroValue 3).run Tryz.prog w = .ok (.int .i64 0) w := by kernel_rfl
theorem zero_bool (w : World) : (zeroValue 4).run Tryz.prog w = .ok (.bool false) w := by kernel_rfl
/-- 'k, is := places[v]'. -/
theorem wpList_places_look (hg : o.guard = none) (m x : Operand) (hop : o.op = Op.lookup 154 m x true) (b n : Nat) (ws : List Val) (u : Val)
    (hm : a.eval m = .map (some b)) (h : Places w b n ws) (hx : a.eval x = vagg u) (hu : Fine u)
    (hK : ∀ c : Int, (u ∈ ws → c = (place ws u : Nat)) → wpList Tryz.prog ops Q rest (a.put o.dst (.tuple #[.int .i64 c, .bool (decide (u ∈ ws))])) w) : wpList Tryz.prog ops Q (o :: rest) a w := by
  obtain ⟨D, h1, h2, h3⟩ := h
  refine wpList_lookup_own_ok_int w hg m x _ hop 71 3 .i64 keyed Tryz.underlying154 Tryz.underlying3 (zero_int w) b n D hm h1 _ _ hx (key_val hu) fun c hat _ => ?_
  rw [h2 u hu]
  refine hK c fun hmem => ?_
  rw [h3 u hu hmem] at hat
  injection hat with hat; injection hat with _ hat; exact hat.symm
/-- 'places[v] = k', v being new. -/
theorem wpList_places_put (hg : o.guard = none) (m x v : Operand) (hop : o.op = Op.mapUpdate 154 m x v) (b n : Nat) (ws : List Val) (u : Val)
    (hm : a.eval m = .map (some b)) (h : Places w b n ws) (hn : n < maxLen) (hx : a.eval x = vagg u) (hu : Fine u) (hnew : u ∉ ws) (k : Nat) (hk : k = ws.length) (hk2 : k < maxLen) (hv : a.eval v = .int .i64 (k : Nat))
    (hK : ∀ w', Places w' b (n + 1) (ws ++ [u]) → w.grownBy w' (some b) → wpList Tryz.prog ops Q rest (a.put o.dst undef) w') : wpList Tryz.prog ops Q (o :: rest) a w := by
  subst hk
  obtain ⟨D, h1, h2, h3⟩ := h
  have hM := h1.isMap
  unfold maxLen at hk2
  refine wpList_mapUpdate_own w hg m x v _ hop 71 3 keyed Tryz.underlying154 _ b n D hm h1 hn _ _ _ hx hv (key_val hu) _ _ (plainElem_int Tryz.underlying3 (wf_i64 (by omega) (by omega))) fun w' h4 h5 => hK w' ⟨_, h4, fun y hy => ?_, fun y hy hmem z => ?_⟩ h5
  · by_cases e : y = u
    · subst e; rw [Maps.has_put_same hM (klit_key _)]; simp
    · rw [Maps.has_put_other (fun e2 => e (klit_inj hy hu e2)), h2 y hy]; simp [e]
  · by_cases e : y = u
    · subst e; rw [Maps.atKey_put_same hM (klit_key _), place_snoc_self hnew]
    · have hmem' : y ∈ ws := by simpa [e] using hmem
      rw [Maps.atKey_put_other (fun e2 => e (klit_inj hy hu e2)), h3 y hy hmem', place_snoc_mem hmem']
set_option maxRecDepth 100000 in
/-- 'seen[w]'. -/
theorem wpList_seen_look (hg : o.guard = none) (m x : Operand) (hop : o.op = Op.lookup 153 m x false) (b n : Nat) (ws : List Val) (u : Val)
    (hm : a.eval m = .map (some b)) (h : Seen w b n ws) (hx : a.eval x = vagg u) (hu : Fine u)
    (hK : wpList Tryz.prog ops Q rest (a.put o.dst (.bool (decide (u ∈ ws)))) w) : wpList Tryz.prog ops Q (o :: rest) a w := by
  obtain ⟨D, h1, _, h3⟩ := h
  refine wpList_plain hg fun K' hK' => ?_
  obtain ⟨v, ps, hrun, hv⟩ := h1.lookup keyed Tryz.underlying153 (zero_bool w) (plainElem_bool Tryz.underlying4 false) (key_val hu)
  have hvb : v = .bool (decide (u ∈ ws)) := by
    rw [h3 u hu] at hv
    unfold plainElem at hv
    rw [Tryz.underlying4] at hv
    cases v <;> simp at hv
    rename_i x
    by_cases hm : u ∈ ws
    · rw [if_pos hm] at hv; simp at hv; rw [hv.1]; simp [hm]
    · rw [if_neg hm] at hv; simp at hv; rw [hv.1]; simp [hm]
  subst hvb
  unfold Oper.wp
  simp [execOp, hop, hm, hx, hrun, Result.andThen]
  exact hK' _ _ hK
/-- 'seen[w] = true'. -/
theorem wpList_seen_put (hg : o.guard = none) (m x v : Operand) (hop : o.op = Op.mapUpdate 153 m x v) (b n : Nat) (ws : List Val) (u : Val)
    (hm : a.eval m = .map (some b)) (h : Seen w b n ws) (hn : n < maxLen) (hx : a.eval x = vagg u) (hu : Fine u) (hv : a.eval v = .bool true)
    (hK : ∀ w', Seen w' b (n + 1) (ws ++ [u]) → w.grownBy w' (some b) → wpList Tryz.prog ops Q rest (a.put o.dst undef) w') : wpList Tryz.prog ops Q (o :: rest) a w := by
  obtain ⟨D, h1, hM, h3⟩ := h
  refine wpList_mapUpdate_own w hg m x v _ hop 71 4 keyed Tryz.underlying153 _ b n D hm h1 hn _ _ _ hx hv (key_val hu) _ _ (plainElem_bool Tryz.underlying4 true) fun w' h4 h5 => hK w' ⟨_, h4, hM.put _ _, fun y hy z => ?_⟩ h5
  by_cases e : y = u
  · subst e; rw [Maps.atKey_put_same hM (klit_key _)]; simp
  · rw [Maps.atKey_put_other (fun e2 => e (klit_inj hy hu e2)), h3 y hy]; simp [e]
end
end Go.Proofs.YtgmemdedpklnhaaGreat.MapV
