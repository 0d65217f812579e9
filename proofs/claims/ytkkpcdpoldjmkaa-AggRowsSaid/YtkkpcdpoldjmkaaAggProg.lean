/-
  THE WALKS of agg.number, agg.sum.
-/
import Derived.Test.YtkkpcdpoldjmkaaAggMath
import Derived.Test.YtkkpcdpoldjmkaaStatOf
import Derived.Laws.Externs
import Derived.Laws.ResultCell
namespace Go.Proofs.Ytkkpcdpoldjmkaa.Agg
open Go.RowKit ValMath Vals Sl Stats

theorem ret_box_tmp {fn : Func} {p u : Tmp} {w : World} {g : Nat} {v : Val} {a : Act} {R : Ending → World → Prop} (hb : Box w g v) (h : fn.results = #[.cell p 52, .tmp u]) (hp : a.tmps.getD p undef = .pointer (some ⟨g, 0, none⟩)) (hd : a.defers = []) (hr : R (.returned (.tuple #[vagg v, a.tmps.getD u undef])) w) : bodyPost Try.prog fn R .ret a w := by
  refine bodyPost_ret ?_ hd hr
  rw [results_cell_tmp h, hp]
  simp [asAddr, run_loadVar_row w g _ 52 _ _ _ hb Try.underlying52 rfl (by kernel_rfl), Result.andThen]

theorem add64 (x y : Int) (hx : 0 ≤ x) (hy : 0 ≤ y) (W : World) : (callFunc 176 #[.int .u64 x, .int .u64 y, .int .u64 0]).run Try.prog W = .ok (.value (.tuple #[.int .u64 ((x + y) % 18446744073709551616), .int .u64 ((x + y) / 18446744073709551616)])) W := by
  rw [run_callFunc_extern Try.func176 (by kernel_rfl) (by kernel_rfl) (by kernel_rfl) (e := add64Entry) (by kernel_rfl), run_add64 x y 0 hx hy (by omega) (by omega)]
  simp only [Result.andThen, Int.add_zero]

set_option maxHeartbeats 1000000 in
theorem number_any (x : Int) (w : World) : Calls Try.prog 156 #[.int .i64 x] w fun e w' => e = .returned (vagg (number x)) ∧ Below w.heap.size w w' := by
  go_enter Try.func156, Try.ntmps156
  go_wp2
  go_returns
  exact ⟨rfl, Vals.one_new _⟩

/-- A sum. -/
def aggSum (vs : List Val) : Val × Nat :=
  if odd_ vs then (nul, 1701)
  else if some_ vs = 0 then (nul, 0)
  else if total vs < -9223372036854775808 ∨ 9223372036854775807 < total vs then (nul, 1702)
  else (number (total vs), 0)
theorem agg_two (vs : List Val) : agg 2 vs = aggSum vs := by
  unfold agg aggSum
  rw [if_neg (by omega), if_neg (by omega), if_neg (by omega), if_neg (by omega), if_neg (by omega)]
structure SumAt (ps : List Val) (k : Nat) (lo hi : Int) (sm : Bool) : Prop where
  low : lo = lowW (total (ps.take k))
  high : hi = highW (total (ps.take k)) % 18446744073709551616
  some : sm = decide (0 < some_ (ps.take k))
  odd : odd_ (ps.take k) = false
theorem SumAt.zero (ps : List Val) : SumAt ps 0 0 0 false := ⟨rfl, rfl, rfl, rfl⟩
theorem null_k {v : Val} (h : clean v = v) : null v = decide (v.k = 0) := by unfold null; rw [h]
theorem SumAt.null_ {ps : List Val} {k : Nat} {lo hi : Int} {sm : Bool} {v : Val} (h : SumAt ps k lo hi sm) (hv : ps[k]? = Option.some v) (hn : null v = true) : SumAt ps (k + 1) lo hi sm := by
  have e := take_more hv
  obtain ⟨h1, h2, h3, h4⟩ := h
  refine ⟨?_, ?_, ?_, ?_⟩
  · rw [e, total_snoc, hn]; simpa using h1
  · rw [e, total_snoc, hn]; simpa using h2
  · rw [e, some_snoc, hn]; simpa using h3
  · rw [e, odd_snoc, hn, h4]; rfl
theorem SumAt.add {ps : List Val} {k : Nat} {lo hi : Int} {sm : Bool} {v : Val} (h : SumAt ps k lo hi sm) (hv : ps[k]? = Option.some v) (hn : null v = false) (hk : v.k = 1) (h1 : -9223372036854775808 ≤ v.i) (h2 : v.i < 9223372036854775808) :
    SumAt ps (k + 1) ((lo + v.i % 18446744073709551616) % 18446744073709551616) ((hi + ((lo + v.i % 18446744073709551616) / 18446744073709551616 + (if v.i < 0 then 18446744073709551615 else 0)) % 18446744073709551616) % 18446744073709551616) true := by
  have e := take_more hv
  obtain ⟨a1, a2, a3, a4⟩ := h
  obtain ⟨l1, l2⟩ := low_step (total (ps.take k)) v.i h1 h2
  rw [← a1] at l1 l2
  refine ⟨?_, ?_, ?_, ?_⟩
  · rw [e, total_snoc, hn]; exact l1
  · rw [e, total_snoc, hn]
    show _ = highW (total (ps.take k) + v.i) % _
    rw [l2, a2]
    by_cases hx : v.i < 0
    · rw [if_pos hx, if_pos hx]; omega
    · rw [if_neg hx, if_neg hx]; omega
  · rw [e, some_snoc, hn]; simp
  · rw [e, odd_snoc, hn, hk, a4]; rfl
theorem odd_take {ps : List Val} {k : Nat} {v : Val} (hv : ps[k]? = Option.some v) (hn : null v = false) (hk : v.k ≠ 1) : aggSum ps = (nul, 1701) := by
  unfold aggSum
  rw [if_pos]
  unfold odd_
  rw [List.any_eq_true]
  exact ⟨v, List.mem_of_getElem? hv, by rw [hn]; simp [hk]⟩
/-- The words at the end. -/
theorem SumAt.done {ps : List Val} {lo hi : Int} {sm : Bool} (h : SumAt ps ps.length lo hi sm) (hl : ps.length < 4611686018427387904) (hf : ∀ v ∈ ps, -9223372036854775808 ≤ v.i ∧ v.i < 9223372036854775808) :
    (sm = false → aggSum ps = (nul, 0)) ∧ (sm = true → hi ≠ (if 9223372036854775808 ≤ lo then 18446744073709551615 else 0) → aggSum ps = (nul, 1702)) ∧
    (sm = true → hi = (if 9223372036854775808 ≤ lo then 18446744073709551615 else 0) → aggSum ps = (number (if 9223372036854775808 ≤ lo then lo - 18446744073709551616 else lo), 0)) := by
  obtain ⟨a1, a2, a3, a4⟩ := h
  rw [List.take_length] at a1 a2 a3 a4
  have hb := total_bounds ps hf
  have hw := fits_words (total ps) (by omega) (by omega)
  have hH : -9223372036854775808 ≤ highW (total ps) ∧ highW (total ps) < 9223372036854775808 := by unfold highW; omega
  rw [← a1] at hw
  have key : hi = (if 9223372036854775808 ≤ lo then 18446744073709551615 else 0) ↔ -9223372036854775808 ≤ total ps ∧ total ps < 9223372036854775808 := by
    rw [← hw, a2]; split <;> omega
  unfold aggSum
  rw [a4]
  refine ⟨fun hs => ?_, fun hs hne => ?_, fun hs he => ?_⟩
  · rw [if_neg (by simp), if_pos]; rw [hs] at a3; have := of_decide_eq_false a3.symm; omega
  · have h0 : 0 < some_ ps := by rw [hs] at a3; exact of_decide_eq_true a3.symm
    have h1 : ¬ (-9223372036854775808 ≤ total ps ∧ total ps < 9223372036854775808) := fun x => hne (key.2 x)
    rw [if_neg (by simp), if_neg (by omega), if_pos (by omega)]
  · have h0 : 0 < some_ ps := by rw [hs] at a3; exact of_decide_eq_true a3.symm
    obtain ⟨h1, h2⟩ := key.1 he
    rw [if_neg (by simp), if_neg (by omega), if_neg (by omega)]
    have := i64_low h1 h2
    rw [← a1] at this
    rw [this]

set_option maxRecDepth 20000 in
set_option maxHeartbeats 8000000 in
theorem sum_any (A : Option Addr) (n c : Nat) (ps : List Val) (w : World) (hv : VSl w A n ps) (hn : n ≤ 140737488355328) (hcl : ∀ p ∈ ps, clean p = p) (hf : ∀ p ∈ ps, -9223372036854775808 ≤ p.i ∧ p.i < 9223372036854775808) :
    Calls Try.prog 157 #[.slice A n c] w fun e w' => e = .returned (.tuple #[vagg (aggSum ps).1, .int .i64 ((aggSum ps).2 : Nat)]) ∧ Below w.heap.size w w' := by
  obtain ⟨R, hR⟩ : ∃ R, aggSum ps = R := ⟨_, rfl⟩
  rw [hR]
  have hlen : ps.length = n := hv.1
  have HR := Lib.hid hR; clear hR
  have HC := Lib.hid (And.intro hcl (And.intro hf hlen)); clear hcl hf hlen
  go_enter Try.func157, Try.ntmps157
  go_wp2
  go_loopw [4, 5, 6, 12] (fun lv hv_ sv iv wr => ∃ (k : Nat) (lo hi : Int) (sm : Bool), k ≤ n ∧ iv = .int .i64 k ∧ lv = .int .u64 lo ∧ hv_ = .int .u64 hi ∧ sv = .bool sm ∧ 0 ≤ lo ∧ lo < 18446744073709551616 ∧ 0 ≤ hi ∧ hi < 18446744073709551616 ∧ Hid (SumAt ps k lo hi sm) ∧ Box wr w.heap.size nul ∧ Below w.heap.size w wr) (fun _ _ _ iv _ => n - (intOf iv).toNat)
  case atStart => exact ⟨0, 0, 0, false, Nat.zero_le _, rfl, rfl, rfl, rfl, by omega, by omega, by omega, by omega, Lib.hid (SumAt.zero ps), Box.new w nul, Vals.one_new _⟩
  case round =>
    obtain ⟨k, lo, hi, sm, hk, rfl, rfl, rfl, rfl, hl0, hl1, hh0, hh1, hs, hB, hb⟩ := hrel
    have HB := Lib.hid hB; clear hB
    by_cases hkn : k < n
    · obtain ⟨b1, o1, v, hv1, rfl, hb1, c0, c1, c2, c3⟩ := (hv.below hb).at_ hkn
      have hvc := HC.out.1 v (List.mem_of_getElem? hv1)
      have hvf := HC.out.2.1 v (List.mem_of_getElem? hv1)
      have hnk := null_k hvc
      have hst := hs.out.null_ hv1
      have had := hs.out.add hv1
      have hod := odd_take hv1
      by_cases h0 : v.k = 0
      · have hs2 := hst (by rw [hnk]; exact decide_eq_true h0)
        have HS2 := Lib.hid hs2
        clear hs2 hst had hod hnk hvf hvc
        obtain ⟨kv, iv, bv, sv⟩ := v
        simp only [] at h0 c0 c1 c2 c3
        subst h0
        go_wp2
        go_roundw
        case rel => exact ⟨k + 1, lo, hi, sm, by omega, by go_num, rfl, rfl, rfl, hl0, hl1, hh0, hh1, HS2, HB.out.alloc _, hb.alloc hb.size _⟩
        case measure => simp [intOf]; omega
      have hn0 : null v = false := by rw [hnk]; exact decide_eq_false h0
      obtain ⟨z0, z1, z2, z3⟩ := HB.out.cells
      have zf0 := HB.out.free 0; have zf1 := HB.out.free 1; have zf2 := HB.out.free 2; have zf3 := HB.out.free 3
      simp only [nul] at z0 z1 z2 z3
      by_cases h1 : v.k = 1
      · have hs2 := had hn0 h1 hvf.1 hvf.2
        clear hst had hod hnk hvc hn0
        obtain ⟨kv, iv, bv, sv⟩ := v
        simp only [] at h0 h1 c0 c1 c2 c3 hs2 hvf
        subst h1
        clear h0
        have hwx : IntKind.u64.wrap iv = iv % 18446744073709551616 := by rw [IntKind.wrap_u64]
        have hsh : IntKind.u64.wrap (iv / 9223372036854775808) = (if iv < 0 then 18446744073709551615 else 0) := by rw [IntKind.wrap_u64]; split <;> omega
        have hy0 : 0 ≤ iv % 18446744073709551616 := by omega
        have hsg : 0 ≤ (if iv < 0 then (18446744073709551615 : Int) else 0) := by split <;> omega
        generalize iv % 18446744073709551616 = y at *
        generalize (if iv < 0 then (18446744073709551615 : Int) else 0) = sg at *
        have hadd := add64 lo y hl0 hy0
        have g0 : 0 ≤ (lo + y) % 18446744073709551616 := by omega
        have g1 : (lo + y) % 18446744073709551616 < 18446744073709551616 := by omega
        have g2 : 0 ≤ (lo + y) / 18446744073709551616 := by omega
        generalize (lo + y) % 18446744073709551616 = s1 at *
        generalize (lo + y) / 18446744073709551616 = c1' at *
        have hm1 : IntKind.u64.wrap (c1' + sg) = (c1' + sg) % 18446744073709551616 := by rw [IntKind.wrap_u64]
        generalize (c1' + sg) % 18446744073709551616 = m1 at *
        have hm2 : IntKind.u64.wrap (hi + m1) = (hi + m1) % 18446744073709551616 := by rw [IntKind.wrap_u64]
        have g3 : 0 ≤ (hi + m1) % 18446744073709551616 := by omega
        have g4 : (hi + m1) % 18446744073709551616 < 18446744073709551616 := by omega
        generalize (hi + m1) % 18446744073709551616 = h2 at *
        have HS2 := Lib.hid hs2
        have HG := Lib.hid (And.intro g0 (And.intro g1 (And.intro g3 g4)))
        clear hs2 g0 g1 g2 g3 g4 hsg hy0 hvf hl0 hl1 hh0 hh1 hs
        go_wp2
        go_roundw
        case rel => exact ⟨k + 1, s1, h2, true, by omega, by go_num, rfl, rfl, rfl, HG.out.1, HG.out.2.1, HG.out.2.2.1, HG.out.2.2.2, HS2, HB.out.alloc _, hb.alloc hb.size _⟩
        case measure => simp [intOf]; omega
      · have HO := Lib.hid (hod hn0 h1)
        have h1' : (v.k != 1) = true := by rw [bne_iff_ne]; exact h1
        clear hst had hod hnk hvc hn0 hvf hs
        obtain ⟨kv, iv, bv, sv⟩ := v
        simp only [] at h0 h1 h1' c0 c1 c2 c3
        have HBA := Lib.hid (HB.out.alloc (.cells #[.int .i64 kv, .int .i64 iv, .bool bv, .string sv] 52))
        have hbA := hb.alloc hb.size (.cells #[.int .i64 kv, .int .i64 iv, .bool bv, .string sv] 52)
        clear z0 z1 z2 z3 zf0 zf1 zf2 zf3
        obtain ⟨z0, z1, z2, z3⟩ := HBA.out.cells
        have zf0 := HBA.out.free 0; have zf1 := HBA.out.free 1; have zf2 := HBA.out.free 2; have zf3 := HBA.out.free 3
        simp only [nul] at z0 z1 z2 z3
        go_wp2
        exact ret_box_tmp (HBA.out.put (u := nul)) rfl rfl rfl ⟨by rw [← HR.out, HO.out]; rfl, below_put4 hbA (Nat.le_refl _) 0 1 2 3 _ _ _ _⟩
    · obtain rfl : n = k := by omega
      have hs2 := hs.out
      rw [← HC.out.2.2] at hs2
      obtain ⟨d1, d2, d3⟩ := hs2.done (by rw [HC.out.2.2]; omega) HC.out.2.1
      obtain ⟨z0, z1, z2, z3⟩ := HB.out.cells
      have zf0 := HB.out.free 0; have zf1 := HB.out.free 1; have zf2 := HB.out.free 2; have zf3 := HB.out.free 3
      simp only [nul] at z0 z1 z2 z3
      cases sm with
      | false =>
        have HO := Lib.hid (d1 rfl)
        clear d1 d2 d3 hs2 hs hl0 hl1 hh0 hh1
        go_wp2
        exact ret_box_tmp (HB.out.put (u := nul)) rfl rfl rfl ⟨by rw [← HR.out, HO.out]; rfl, below_put4 hb (Nat.le_refl _) 0 1 2 3 _ _ _ _⟩
      | true =>
        have e2 := d2 rfl
        have e3 := d3 rfl
        have hsg : IntKind.u64.wrap ((IntKind.i64.wrap lo) / 9223372036854775808) = (if 9223372036854775808 ≤ lo then 18446744073709551615 else 0) := by
          rw [IntKind.wrap_i64, IntKind.wrap_u64]; split <;> omega
        have hlw : IntKind.i64.wrap lo = (if 9223372036854775808 ≤ lo then lo - 18446744073709551616 else lo) := by rw [IntKind.wrap_i64]; split <;> omega
        generalize (if 9223372036854775808 ≤ lo then (18446744073709551615 : Int) else 0) = sg at *
        generalize (if 9223372036854775808 ≤ lo then lo - 18446744073709551616 else lo) = T at *
        rw [hlw] at hsg
        clear d1 d2 d3 hs2 hs hl0 hl1 hh0 hh1
        by_cases hE : hi = sg
        · subst hE
          have HO := Lib.hid (e3 rfl)
          have HN := Lib.hid (fun w => number_any T w)
          clear e2 e3
          go_wp2_with (go_at_call 156; with_reducible refine (HN.out _).mono ?_; unfold number; rintro e w1 ⟨rfl, hb1⟩; have HB1 := Lib.hid (HB.out.below hb1); have hbB := bthen hb hb1 (Nat.le_refl _); clear z0 z1 z2 z3 zf0 zf1 zf2 zf3; obtain ⟨z0, z1, z2, z3⟩ := HB1.out.cells; have zf0 := HB1.out.free 0; have zf1 := HB1.out.free 1; have zf2 := HB1.out.free 2; have zf3 := HB1.out.free 3; simp only [nul] at z0 z1 z2 z3)
          exact ret_box_tmp (HB1.out.put (u := number T)) rfl rfl rfl ⟨by rw [← HR.out, HO.out]; rfl, below_put4 hbB (Nat.le_refl _) 0 1 2 3 _ _ _ _⟩
        · have HO := Lib.hid (e2 hE)
          have hE' : (hi != sg) = true := by rw [bne_iff_ne]; exact hE
          clear e2 e3 hE
          go_wp2
          exact ret_box_tmp (HB.out.put (u := nul)) rfl rfl rfl ⟨by rw [← HR.out, HO.out]; rfl, below_put4 hb (Nat.le_refl _) 0 1 2 3 _ _ _ _⟩
end Go.Proofs.Ytkkpcdpoldjmkaa.Agg
