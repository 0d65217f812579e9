/-
  THE WALKS of boathouseref12.sum, Agg.
-/
import Derived.Test.YtkkpcdpoldjmkaaAggProg2
import Derived.Test.YtkkpcdpoldjmkaaStatR
namespace Go.Proofs.Ytkkpcdpoldjmkaa.Agg
open Go.RowKit ValMath Vals Sl Stats

structure SumR (vs : List Val) (k : Nat) (lo hi : Int) : Prop where
  low : lo = lowW (total (vs.take k))
  high : hi = highW (total (vs.take k))
theorem SumR.zero (vs : List Val) : SumR vs 0 0 0 := ⟨rfl, rfl⟩
theorem SumR.null_ {vs : List Val} {k : Nat} {lo hi : Int} {v : Val} (h : SumR vs k lo hi) (hv : vs[k]? = Option.some v) (hn : null v = true) : SumR vs (k + 1) lo hi := by
  have e := take_more hv
  obtain ⟨h1, h2⟩ := h
  refine ⟨?_, ?_⟩
  · rw [e, total_snoc, hn]; simpa using h1
  · rw [e, total_snoc, hn]; simpa using h2
theorem SumR.add {vs : List Val} {k : Nat} {lo hi : Int} {v : Val} (h : SumR vs k lo hi) (hv : vs[k]? = Option.some v) (hn : null v = false) (h1 : -9223372036854775808 ≤ v.i) (h2 : v.i < 9223372036854775808) :
    SumR vs (k + 1) ((lo + v.i % 18446744073709551616) % 18446744073709551616) (hi + (if (lo + v.i % 18446744073709551616) % 18446744073709551616 < lo then 1 else 0) + (if v.i < 0 then -1 else 0)) := by
  have e := take_more hv
  obtain ⟨a1, a2⟩ := h
  obtain ⟨l1, l2⟩ := low_step (total (vs.take k)) v.i h1 h2
  have hr := lowW_range (total (vs.take k))
  rw [← a1] at l1 l2 hr
  refine ⟨?_, ?_⟩
  · rw [e, total_snoc, hn]; exact l1
  · rw [e, total_snoc, hn]
    show _ = highW (total (vs.take k) + v.i)
    rw [l2, a2]
    congr 1; congr 1
    split <;> omega
theorem SumR.bounds {vs : List Val} {k : Nat} {lo hi : Int} (h : SumR vs k lo hi) (hk : vs.length < 4611686018427387904) (hf : ∀ v ∈ vs, -9223372036854775808 ≤ v.i ∧ v.i < 9223372036854775808) :
    0 ≤ lo ∧ lo < 18446744073709551616 ∧ -4611686018427387904 ≤ hi ∧ hi ≤ 4611686018427387904 := by
  obtain ⟨a1, a2⟩ := h
  have hr := lowW_range (total (vs.take k))
  have hb := total_bounds (vs.take k) (fun v hv => hf v (List.mem_of_mem_take hv))
  have hl := List.length_take_le k vs
  have hl2 : (vs.take k).length ≤ vs.length := by rw [List.length_take]; omega
  refine ⟨by rw [a1]; exact hr.1, by rw [a1]; exact hr.2, ?_, ?_⟩
  · rw [a2]; unfold highW; omega
  · rw [a2]; unfold highW; omega
/-- Does it fit? -/
def fitsT (vs : List Val) : Bool := decide (-9223372036854775808 ≤ total vs ∧ total vs < 9223372036854775808)
theorem SumR.done {vs : List Val} {lo hi : Int} (h : SumR vs vs.length lo hi) :
    (hi = 0 → lo < 9223372036854775808 → fitsT vs = true ∧ total vs = IntKind.i64.wrap lo) ∧ (hi = 0 → ¬ lo < 9223372036854775808 → fitsT vs = false) ∧
    (hi = -1 → 9223372036854775808 ≤ lo → fitsT vs = true ∧ total vs = IntKind.i64.wrap lo) ∧ (hi = -1 → ¬ 9223372036854775808 ≤ lo → fitsT vs = false) ∧ (hi ≠ 0 → hi ≠ -1 → fitsT vs = false) := by
  obtain ⟨a1, a2⟩ := h
  rw [List.take_length] at a1 a2
  unfold lowW at a1
  unfold highW at a2
  unfold fitsT
  refine ⟨fun h1 h2 => ⟨decide_eq_true (by omega), by rw [IntKind.wrap_i64]; omega⟩, fun h1 h2 => decide_eq_false (by omega), fun h1 h2 => ⟨decide_eq_true (by omega), by rw [IntKind.wrap_i64]; omega⟩, fun h1 h2 => decide_eq_false (by omega), fun h1 h2 => decide_eq_false (by omega)⟩

set_option maxRecDepth 20000 in
set_option maxHeartbeats 8000000 in
theorem sumR_any (A : Option Addr) (n c : Nat) (vs : List Val) (w : World) (hv : VSl w A n vs) (hn : n ≤ 140737488355328) (hf : ∀ p ∈ vs, -9223372036854775808 ≤ p.i ∧ p.i < 9223372036854775808) :
    Calls Try.prog 158 #[.slice A n c] w fun e w' => (∃ X, e = .returned (.tuple #[.int .i64 X, .bool (fitsT vs)]) ∧ (fitsT vs = true → X = total vs)) ∧ Below w.heap.size w w' := by
  have hlen : vs.length = n := hv.1
  obtain ⟨F, hF⟩ : ∃ F, F = fitsT vs := ⟨_, rfl⟩
  rw [← hF]
  have HF := Lib.hid hF; clear hF
  obtain ⟨T, hT⟩ : ∃ T, T = total vs := ⟨_, rfl⟩
  rw [← hT]
  have HT := Lib.hid hT; clear hT
  have HC := Lib.hid (And.intro hf hlen); clear hf hlen
  go_enter Try.func158, Try.ntmps158
  go_wp2
  go_loopw [4, 5, 6] (fun lv hv_ iv wr => ∃ (k : Nat) (lo hi : Int), k ≤ n ∧ iv = .int .i64 k ∧ lv = .int .u64 lo ∧ hv_ = .int .i64 hi ∧ Hid (SumR vs k lo hi) ∧ Below w.heap.size w wr) (fun _ _ iv _ => n - (intOf iv).toNat)
  case atStart => exact ⟨0, 0, 0, Nat.zero_le _, rfl, rfl, rfl, Lib.hid (SumR.zero vs), Below.refl _ _⟩
  case round =>
    obtain ⟨k, lo, hi, hk, rfl, rfl, rfl, hs, hb⟩ := hrel
    obtain ⟨hl0, hl1, hh0, hh1⟩ := hs.out.bounds (by rw [HC.out.2]; omega) HC.out.1
    by_cases hkn : k < n
    · obtain ⟨b1, o1, v, hv1, rfl, hb1, c0, c1, c2, c3⟩ := (hv.below hb).at_ hkn
      have hvf := HC.out.1 v (List.mem_of_getElem? hv1)
      have hst := hs.out.null_ hv1
      have had := hs.out.add hv1
      have hN := null_any v
      have H4 := Lib.hid (show At4 wr b1 (o1 + k * 4) v from ⟨c0, c1, c2, c3⟩)
      have H4l := Lib.hid hb1
      cases hnv : null v with
      | true =>
        have HS2 := Lib.hid (hst hnv)
        rw [hnv] at hN
        clear hst had hnv hvf
        obtain ⟨kv, iv, bv, sv⟩ := v
        simp only [vagg] at c0 c1 c2 c3 hN
        have HN := Lib.hid hN; clear hN
        go_wp2_with (go_at_call 78; with_reducible refine (HN.out _).mono ?_; rintro e w1 ⟨rfl, hbn⟩)
        go_roundw
        case rel => exact ⟨k + 1, lo, hi, by omega, by go_num, rfl, rfl, HS2, bthen hb hbn (Nat.le_refl _)⟩
        case measure => simp [intOf]; omega
      | false =>
        have hs2 := had hnv hvf.1 hvf.2
        rw [hnv] at hN
        clear hst had hnv
        obtain ⟨kv, iv, bv, sv⟩ := v
        simp only [vagg] at c0 c1 c2 c3 hN hs2 hvf
        have HN := Lib.hid hN; clear hN
        have hwx : IntKind.u64.wrap iv = iv % 18446744073709551616 := by rw [IntKind.wrap_u64]
        generalize iv % 18446744073709551616 = y at *
        have hws : IntKind.u64.wrap (lo + y) = (lo + y) % 18446744073709551616 := by rw [IntKind.wrap_u64]
        generalize (lo + y) % 18446744073709551616 = s1 at *
        clear hs
        by_cases hc1 : s1 < lo
        · by_cases hc2 : iv < 0
          ·
            have hs3 : SumR vs (k + 1) s1 (hi + 1 + -1) := by
              rw [if_pos hc1, if_pos hc2] at hs2
              exact hs2
            have HS2 := Lib.hid hs3
            clear hs2 hs3
            go_wp2_with (go_at_call 78; go_loud (with_reducible refine (HN.out _).mono ?_); rintro e w1 ⟨rfl, hbn⟩; go_loud (have H4n := Lib.hid (H4.out.below hbn H4l.out); clear c0 c1 c2 c3; obtain ⟨c0, c1, c2, c3⟩ := H4n.out; (try simp only [] at c0 c1 c2 c3)))
            go_roundw
            case rel => exact ⟨k + 1, s1, (hi + 1 + -1), by omega, by go_num, rfl, by first | rfl | go_num, HS2, bthen hb hbn (Nat.le_refl _)⟩
            case measure => simp [intOf]; omega
          ·
            have hs3 : SumR vs (k + 1) s1 (hi + 1 + 0) := by
              rw [if_pos hc1, if_neg hc2] at hs2
              exact hs2
            have HS2 := Lib.hid hs3
            clear hs2 hs3
            go_wp2_with (go_at_call 78; go_loud (with_reducible refine (HN.out _).mono ?_); rintro e w1 ⟨rfl, hbn⟩; go_loud (have H4n := Lib.hid (H4.out.below hbn H4l.out); clear c0 c1 c2 c3; obtain ⟨c0, c1, c2, c3⟩ := H4n.out; (try simp only [] at c0 c1 c2 c3)))
            go_roundw
            case rel => exact ⟨k + 1, s1, (hi + 1 + 0), by omega, by go_num, rfl, by first | rfl | go_num, HS2, bthen hb hbn (Nat.le_refl _)⟩
            case measure => simp [intOf]; omega
        · by_cases hc2 : iv < 0
          ·
            have hs3 : SumR vs (k + 1) s1 (hi + 0 + -1) := by
              rw [if_neg hc1, if_pos hc2] at hs2
              exact hs2
            have HS2 := Lib.hid hs3
            clear hs2 hs3
            go_wp2_with (go_at_call 78; go_loud (with_reducible refine (HN.out _).mono ?_); rintro e w1 ⟨rfl, hbn⟩; go_loud (have H4n := Lib.hid (H4.out.below hbn H4l.out); clear c0 c1 c2 c3; obtain ⟨c0, c1, c2, c3⟩ := H4n.out; (try simp only [] at c0 c1 c2 c3)))
            go_roundw
            case rel => exact ⟨k + 1, s1, (hi + 0 + -1), by omega, by go_num, rfl, by first | rfl | go_num, HS2, bthen hb hbn (Nat.le_refl _)⟩
            case measure => simp [intOf]; omega
          ·
            have hs3 : SumR vs (k + 1) s1 (hi + 0 + 0) := by
              rw [if_neg hc1, if_neg hc2] at hs2
              exact hs2
            have HS2 := Lib.hid hs3
            clear hs2 hs3
            go_wp2_with (go_at_call 78; go_loud (with_reducible refine (HN.out _).mono ?_); rintro e w1 ⟨rfl, hbn⟩; go_loud (have H4n := Lib.hid (H4.out.below hbn H4l.out); clear c0 c1 c2 c3; obtain ⟨c0, c1, c2, c3⟩ := H4n.out; (try simp only [] at c0 c1 c2 c3)))
            go_roundw
            case rel => exact ⟨k + 1, s1, (hi + 0 + 0), by omega, by go_num, rfl, by first | rfl | go_num, HS2, bthen hb hbn (Nat.le_refl _)⟩
            case measure => simp [intOf]; omega
    · obtain rfl : n = k := by omega
      have hs2 := hs.out
      rw [← HC.out.2] at hs2
      obtain ⟨d1, d2, d3, d4, d5⟩ := hs2.done
      have HD := Lib.hid (And.intro d1 (And.intro d2 (And.intro d3 (And.intro d4 d5)))); clear d1 d2 d3 d4 d5 hs hs2
      by_cases g0 : hi = 0
      · subst g0
        by_cases g1 : lo < 9223372036854775808
        · have HX := Lib.hid (HD.out.1 rfl g1); clear HD
          go_wp2
          go_ret2
          exact ⟨⟨_, by rw [HF.out, HX.out.1]; rfl, fun _ => by rw [HT.out, HX.out.2]; rw [IntKind.wrap_i64]; omega⟩, hb⟩
        · have HX := Lib.hid (HD.out.2.1 rfl g1); clear HD
          go_wp2
          go_ret2
          exact ⟨⟨_, by rw [HF.out, HX.out]; rfl, fun h => by rw [HF.out, HX.out] at h; cases h⟩, hb⟩
      · by_cases g2 : hi = -1
        · subst g2
          by_cases g1 : 9223372036854775808 ≤ lo
          · have HX := Lib.hid (HD.out.2.2.1 rfl g1); clear HD
            go_wp2
            go_ret2
            exact ⟨⟨_, by rw [HF.out, HX.out.1]; rfl, fun _ => by rw [HT.out, HX.out.2]; simp only [wrap64, IntKind.wrap_i64]⟩, hb⟩
          · have HX := Lib.hid (HD.out.2.2.2.1 rfl g1); clear HD
            go_wp2
            go_ret2
            exact ⟨⟨_, by rw [HF.out, HX.out]; rfl, fun h => by rw [HF.out, HX.out] at h; cases h⟩, hb⟩
        · have hx := HD.out.2.2.2.2 g0 g2
          have HX := Lib.hid hx; clear hx HD
          go_wp2
          go_ret2
          exact ⟨⟨_, by rw [HF.out, HX.out]; rfl, fun h => by rw [HF.out, HX.out] at h; cases h⟩, hb⟩
end Go.Proofs.Ytkkpcdpoldjmkaa.Agg
