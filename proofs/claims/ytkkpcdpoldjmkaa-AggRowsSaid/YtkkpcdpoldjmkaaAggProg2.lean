/-
  THE WALK of agg.Of.
-/
import Derived.Test.YtkkpcdpoldjmkaaAggProg
import Derived.Test.YtkkpcdpoldjmkaaPush
import Derived.Test.YtkkpcdpoldjmkaaJoinMath
namespace Go.Proofs.Ytkkpcdpoldjmkaa.Agg
open Go.RowKit ValMath Vals Sl Stats

theorem clean_k_of {v : Val} (h : null v = false) : (clean v).k = v.k := by
  unfold null at h
  have h := of_decide_eq_false h
  rw [clean_kind] at h ⊢
  split
  · rfl
  · rename_i h2; rw [if_neg h2] at h; exact absurd rfl h
theorem odd_clean (vs : List Val) : odd_ (vs.map clean) = odd_ vs := by
  unfold odd_
  rw [List.any_map]
  congr 1; funext v
  simp only [Function.comp, null_clean]
  cases h : null v with
  | true => rfl
  | false => rw [clean_k_of h]
theorem some_clean (vs : List Val) : some_ (vs.map clean) = some_ vs := by
  unfold some_
  rw [List.filter_map, List.length_map]
  congr 2; funext v
  simp only [Function.comp, null_clean]
theorem total_clean {vs : List Val} (h : odd_ vs = false) : total (vs.map clean) = total vs := by
  unfold total
  rw [List.map_map]
  congr 1
  refine List.map_congr_left fun v hv => ?_
  simp only [Function.comp, null_clean]
  cases hn : null v with
  | true => rfl
  | false =>
    have hk : v.k = 1 := by
      unfold odd_ at h
      have := List.any_eq_false.1 h v hv
      rw [hn] at this; simpa using this
    simp only [Bool.false_eq_true, if_false]
    unfold clean; rw [if_pos hk]
theorem sum_clean (vs : List Val) : aggSum (vs.map clean) = aggSum vs := by
  unfold aggSum
  rw [odd_clean, some_clean]
  cases h : odd_ vs with
  | true => rfl
  | false => rw [total_clean h]
theorem stat_clean_map (vs : List Val) : stat (vs.map clean) = stat vs := by
  induction vs using snoc_ind with
  | h0 => rfl
  | h1 vs v ih =>
    rw [List.map_append, List.map_cons, List.map_nil, stat_snoc, stat_snoc, ih]
    unfold addS
    rw [lesser_best, lesser_best, greater_best, greater_best, best_clean_right less less_clean_left, best_clean_right (fun x y => less y x) (fun x y => less_clean_right y x), null_clean]
theorem clean_i {v : Val} (h : -9223372036854775808 ≤ v.i ∧ v.i < 9223372036854775808) : -9223372036854775808 ≤ (clean v).i ∧ (clean v).i < 9223372036854775808 := by
  unfold clean nul
  split
  · exact h
  · split
    · simp
    · split <;> simp
theorem agg_other {kind : Int} (vs : List Val) (h : kind < 0 ∨ 4 < kind) : agg kind vs = (nul, 1700) := by unfold agg; rw [if_pos h]
theorem agg_0 (vs : List Val) : agg 0 vs = (nul, 0) := rfl
theorem agg_1 (vs : List Val) : agg 1 vs = (number (some_ vs), 0) := rfl
theorem agg_3 (vs : List Val) : agg 3 vs = ((stat vs).mn, 0) := rfl
theorem agg_4 (vs : List Val) : agg 4 vs = ((stat vs).mx, 0) := rfl

set_option maxRecDepth 20000 in
set_option maxHeartbeats 8000000 in
theorem aggOf_any (kind : Int) (A : Option Addr) (n c : Nat) (vs : List Val) (w : World) (hv : VSl w A n vs) (hn : n * 40 ≤ 140737488355280) (hf : ∀ v ∈ vs, -9223372036854775808 ≤ v.i ∧ v.i < 9223372036854775808) :
    Calls Try.prog 116 #[.int .i64 kind, .slice A n c] w fun e w' => e = .returned (.tuple #[vagg (agg kind vs).1, .int .i64 ((agg kind vs).2 : Nat)]) ∧ Below w.heap.size w w' := by
  obtain ⟨R, hR⟩ : ∃ R, agg kind vs = R := ⟨_, rfl⟩
  rw [hR]
  have hlen : vs.length = n := hv.1
  have HR := Lib.hid hR; clear hR
  have HC := Lib.hid (And.intro hf hlen); clear hf hlen
  go_enter Try.func116, Try.ntmps116
  go_wp2
  go_loopw [6, 12] (fun pv iv wr => ∃ k : Nat, k ≤ n ∧ iv = .int .i64 k ∧ OwnV wr (w.heap.size + 1) pv ((vs.take k).map clean) ∧ Below (w.heap.size + 1) (w.alloc (.cells #[.int .i64 0, .int .i64 0, .bool false, .string { data := #[] }] 52)) wr) (fun _ iv _ => n - (intOf iv).toNat)
  case atStart => exact ⟨0, Nat.zero_le _, rfl, OwnV.nil _ _, Below.refl _ _⟩
  case round =>
    obtain ⟨k, hk, rfl, hO, hb⟩ := hrel
    have HO := Lib.hid hO; clear hO
    have hszr : w.heap.size + 1 ≤ wr.heap.size := by have := hb.size; simp at this; omega
    by_cases hkn : k < n
    · have hbb := (Vals.one_new (w := w) (.cells #[.int .i64 0, .int .i64 0, .bool false, .string { data := #[] }] 52)).trans (hb.mono (Nat.le_succ _))
      obtain ⟨b1, o1, v, hv1, rfl, hb1, c0, c1, c2, c3⟩ := (hv.below hbb).at_ hkn
      have hts : (vs.take (k + 1)).map clean = (vs.take k).map clean ++ [clean v] := by rw [take_more hv1, List.map_append]; rfl
      have hp := plain_any v
      have hfl : ((vs.take k).map clean).length < few := by rw [List.length_map, List.length_take]; unfold few; omega
      have HFL := Lib.hid hfl; clear hfl
      generalize clean v = u at hp hts
      have HT := Lib.hid hts; clear hts hv1
      obtain ⟨kv, iv, bv, sv⟩ := v
      obtain ⟨ku, iu, bu, su⟩ := u
      simp only [vagg] at c0 c1 c2 c3 hp
      have HP := Lib.hid hp; clear hp
      go_wp2_with (first
        | (go_at_call 130; with_reducible refine (HP.out _).mono ?_; rintro e w1 ⟨rfl, hb2⟩; have hs1 := hb2.size; have hb3 := bthen (hb.alloc hszr (.cells #[.int .i64 kv, .int .i64 iv, .bool bv, .string sv] 52)) hb2 (by simp))
        | (refine wpList_push_val rfl _ _ rfl (w.heap.size + 1) _ ((vs.take k).map clean) ⟨ku, iu, bu, su⟩ w1.heap.size 1 rfl rfl (t := 52) (fr := (0, 0)) (heap_alloc_new w1 _) (((HO.out.alloc _).below hb2).alloc _) HFL.out (by simp at hs1 ⊢; omega) ?_; intro u2 wB hB2 hgB hatB; have HB2 := Lib.hid hB2; clear hB2))
      go_roundw
      case rel => exact ⟨k + 1, by omega, by go_num, by rw [HT.out]; exact HB2.out, (hb3.alloc (by simp at hs1 ⊢; omega) _).grown hgB (by simp at hs1 ⊢; omega) (own_base HO.out)⟩
      case measure => simp [intOf]; omega
    · obtain rfl : n = k := by omega
      have htk : vs.take n = vs := List.take_of_length_le (by rw [HC.out.2]; exact Nat.le_refl _)
      have hO2 := HO.out
      rw [htk] at hO2
      clear HO htk
      obtain ⟨A2, c2, rfl, hps, hc2⟩ := hO2.form' (n := n) (by rw [List.length_map]; exact HC.out.2)
      have hbb := (Vals.one_new (w := w) (.cells #[.int .i64 0, .int .i64 0, .bool false, .string { data := #[] }] 52)).trans (hb.mono (Nat.le_succ _))
      have HB := Lib.hid (show Box wr w.heap.size nul from (hb.block w.heap.size (Nat.lt_succ_self _)).trans (Box.new w nul))
      have hof := fun w h => of_any 0 A2 n c2 (vs.map clean) w h (by unfold maxLen; omega)
      have hsm := fun w h => sum_any A2 n c2 (vs.map clean) w h (by omega) (fun p hp => by rw [List.mem_map] at hp; obtain ⟨v, _, rfl⟩ := hp; exact clean_clean v) (fun p hp => by rw [List.mem_map] at hp; obtain ⟨v, hv, rfl⟩ := hp; exact clean_i (HC.out.1 v hv))
      simp only [stat_clean_map] at hof
      simp only [sum_clean] at hsm
      have hst := some_stat vs
      rw [HC.out.2] at hst
      have h1 := agg_1 vs
      have h3 := agg_3 vs
      have h4 := agg_4 vs
      have h2 := agg_two vs
      have ho := fun h => agg_other (kind := kind) vs h
      have HO := Lib.hid (And.intro ho (And.intro (agg_0 vs) (And.intro h1 (And.intro h2 (And.intro h3 h4))))); clear ho h1 h2 h3 h4
      generalize (stat vs).nulls = q at *
      generalize (stat vs).mn = mn at *
      generalize (stat vs).mx = mx at *
      generalize some_ vs = m at *
      have hwn : IntKind.i64.wrap ((n : Int) - (q : Int)) = (m : Int) := by rw [IntWalk.i64_in _ (by omega)]; omega
      clear hst hO2
      generalize hS : aggSum vs = S at *
      obtain ⟨⟨ks, is_, bs, ss⟩, es⟩ := S
      obtain ⟨km, im, bm, sm⟩ := mn
      obtain ⟨kx, ix, bx, sx⟩ := mx
      simp only [sagg, vagg] at hof hsm
      have HOF := Lib.hid hof; clear hof
      have HSM := Lib.hid hsm; clear hsm
      have HN := Lib.hid (fun w => number_any (m : Int) w)
      have HPS := Lib.hid hps; clear hps
      have hks : (kind < 0 ∨ 4 < kind) ∨ kind = 0 ∨ kind = 1 ∨ kind = 2 ∨ kind = 3 ∨ kind = 4 := by omega
      clear hb
      rcases hks with hko | rfl | rfl | rfl | rfl | rfl
      · have k0 : ¬ kind = 0 := by omega
        have k1 : ¬ kind = 1 := by omega
        have k2 : ¬ kind = 2 := by omega
        have k3 : ¬ kind = 3 := by omega
        have k4 : ¬ kind = 4 := by omega
        have hoo := HO.out.1 hko
        have HOO := Lib.hid hoo
        clear hko hoo
        go_wp2_with (first
          | (go_at_call 73; with_reducible refine (HOF.out _ HPS.out).mono ?_; rintro e w1 ⟨rfl, hb1⟩; have HX := Lib.hid ((HB.out.below hb1).alloc (.cells #[.int .i64 0, .int .i64 q, .int .i64 km, .int .i64 im, .bool bm, .string sm, .int .i64 kx, .int .i64 ix, .bool bx, .string sx] 58)); have HBT := Lib.hid ((bthen hbb hb1 (Nat.le_refl _)).alloc (Nat.le_trans hbb.size hb1.size) (.cells #[.int .i64 0, .int .i64 q, .int .i64 km, .int .i64 im, .bool bm, .string sm, .int .i64 kx, .int .i64 ix, .bool bx, .string sx] 58)); have HPX := Lib.hid ((HPS.out.below hb1).alloc (.cells #[.int .i64 0, .int .i64 q, .int .i64 km, .int .i64 im, .bool bm, .string sm, .int .i64 kx, .int .i64 ix, .bool bx, .string sx] 58)); obtain ⟨z0, z1, z2, z3⟩ := HX.out.cells; have zf0 := HX.out.free 0; have zf1 := HX.out.free 1; have zf2 := HX.out.free 2; have zf3 := HX.out.free 3; simp only [nul] at z0 z1 z2 z3)
          | (go_at_call 156; with_reducible refine (HN.out _).mono ?_; unfold number; rintro e w2 ⟨rfl, hb2⟩; replace HX := Lib.hid (HX.out.below hb2); replace HBT := Lib.hid (bthen HBT.out hb2 (Nat.le_refl _)); clear z0 z1 z2 z3 zf0 zf1 zf2 zf3; obtain ⟨z0, z1, z2, z3⟩ := HX.out.cells; have zf0 := HX.out.free 0; have zf1 := HX.out.free 1; have zf2 := HX.out.free 2; have zf3 := HX.out.free 3; simp only [nul] at z0 z1 z2 z3)
          | (go_at_call 157; with_reducible refine (HSM.out _ HPX.out).mono ?_; rintro e w2 ⟨rfl, hb2⟩; replace HX := Lib.hid (HX.out.below hb2); replace HBT := Lib.hid (bthen HBT.out hb2 (Nat.le_refl _)); clear z0 z1 z2 z3 zf0 zf1 zf2 zf3; obtain ⟨z0, z1, z2, z3⟩ := HX.out.cells; have zf0 := HX.out.free 0; have zf1 := HX.out.free 1; have zf2 := HX.out.free 2; have zf3 := HX.out.free 3; simp only [nul] at z0 z1 z2 z3))
        exact ret_box_tmp (HX.out.put (u := nul)) rfl rfl rfl ⟨by rw [← HR.out, HOO.out]; rfl, below_put4 HBT.out (Nat.le_refl _) 0 1 2 3 _ _ _ _⟩
      · have HOO := Lib.hid HO.out.2.1
        go_wp2_with (first
          | (go_at_call 73; with_reducible refine (HOF.out _ HPS.out).mono ?_; rintro e w1 ⟨rfl, hb1⟩; have HX := Lib.hid ((HB.out.below hb1).alloc (.cells #[.int .i64 0, .int .i64 q, .int .i64 km, .int .i64 im, .bool bm, .string sm, .int .i64 kx, .int .i64 ix, .bool bx, .string sx] 58)); have HBT := Lib.hid ((bthen hbb hb1 (Nat.le_refl _)).alloc (Nat.le_trans hbb.size hb1.size) (.cells #[.int .i64 0, .int .i64 q, .int .i64 km, .int .i64 im, .bool bm, .string sm, .int .i64 kx, .int .i64 ix, .bool bx, .string sx] 58)); have HPX := Lib.hid ((HPS.out.below hb1).alloc (.cells #[.int .i64 0, .int .i64 q, .int .i64 km, .int .i64 im, .bool bm, .string sm, .int .i64 kx, .int .i64 ix, .bool bx, .string sx] 58)); obtain ⟨z0, z1, z2, z3⟩ := HX.out.cells; have zf0 := HX.out.free 0; have zf1 := HX.out.free 1; have zf2 := HX.out.free 2; have zf3 := HX.out.free 3; simp only [nul] at z0 z1 z2 z3)
          | (go_at_call 156; with_reducible refine (HN.out _).mono ?_; unfold number; rintro e w2 ⟨rfl, hb2⟩; replace HX := Lib.hid (HX.out.below hb2); replace HBT := Lib.hid (bthen HBT.out hb2 (Nat.le_refl _)); clear z0 z1 z2 z3 zf0 zf1 zf2 zf3; obtain ⟨z0, z1, z2, z3⟩ := HX.out.cells; have zf0 := HX.out.free 0; have zf1 := HX.out.free 1; have zf2 := HX.out.free 2; have zf3 := HX.out.free 3; simp only [nul] at z0 z1 z2 z3)
          | (go_at_call 157; with_reducible refine (HSM.out _ HPX.out).mono ?_; rintro e w2 ⟨rfl, hb2⟩; replace HX := Lib.hid (HX.out.below hb2); replace HBT := Lib.hid (bthen HBT.out hb2 (Nat.le_refl _)); clear z0 z1 z2 z3 zf0 zf1 zf2 zf3; obtain ⟨z0, z1, z2, z3⟩ := HX.out.cells; have zf0 := HX.out.free 0; have zf1 := HX.out.free 1; have zf2 := HX.out.free 2; have zf3 := HX.out.free 3; simp only [nul] at z0 z1 z2 z3))
        exact ret_box_tmp (HX.out.put (u := nul)) rfl rfl rfl ⟨by rw [← HR.out, HOO.out]; rfl, below_put4 HBT.out (Nat.le_refl _) 0 1 2 3 _ _ _ _⟩
      · have HOO := Lib.hid HO.out.2.2.1
        go_wp2_with (first
          | (go_at_call 73; with_reducible refine (HOF.out _ HPS.out).mono ?_; rintro e w1 ⟨rfl, hb1⟩; have HX := Lib.hid ((HB.out.below hb1).alloc (.cells #[.int .i64 0, .int .i64 q, .int .i64 km, .int .i64 im, .bool bm, .string sm, .int .i64 kx, .int .i64 ix, .bool bx, .string sx] 58)); have HBT := Lib.hid ((bthen hbb hb1 (Nat.le_refl _)).alloc (Nat.le_trans hbb.size hb1.size) (.cells #[.int .i64 0, .int .i64 q, .int .i64 km, .int .i64 im, .bool bm, .string sm, .int .i64 kx, .int .i64 ix, .bool bx, .string sx] 58)); have HPX := Lib.hid ((HPS.out.below hb1).alloc (.cells #[.int .i64 0, .int .i64 q, .int .i64 km, .int .i64 im, .bool bm, .string sm, .int .i64 kx, .int .i64 ix, .bool bx, .string sx] 58)); obtain ⟨z0, z1, z2, z3⟩ := HX.out.cells; have zf0 := HX.out.free 0; have zf1 := HX.out.free 1; have zf2 := HX.out.free 2; have zf3 := HX.out.free 3; simp only [nul] at z0 z1 z2 z3)
          | (go_at_call 156; with_reducible refine (HN.out _).mono ?_; unfold number; rintro e w2 ⟨rfl, hb2⟩; replace HX := Lib.hid (HX.out.below hb2); replace HBT := Lib.hid (bthen HBT.out hb2 (Nat.le_refl _)); clear z0 z1 z2 z3 zf0 zf1 zf2 zf3; obtain ⟨z0, z1, z2, z3⟩ := HX.out.cells; have zf0 := HX.out.free 0; have zf1 := HX.out.free 1; have zf2 := HX.out.free 2; have zf3 := HX.out.free 3; simp only [nul] at z0 z1 z2 z3)
          | (go_at_call 157; with_reducible refine (HSM.out _ HPX.out).mono ?_; rintro e w2 ⟨rfl, hb2⟩; replace HX := Lib.hid (HX.out.below hb2); replace HBT := Lib.hid (bthen HBT.out hb2 (Nat.le_refl _)); clear z0 z1 z2 z3 zf0 zf1 zf2 zf3; obtain ⟨z0, z1, z2, z3⟩ := HX.out.cells; have zf0 := HX.out.free 0; have zf1 := HX.out.free 1; have zf2 := HX.out.free 2; have zf3 := HX.out.free 3; simp only [nul] at z0 z1 z2 z3))
        exact ret_box_tmp (HX.out.put (u := (number (m : Int)))) rfl rfl rfl ⟨by rw [← HR.out, HOO.out]; rfl, below_put4 HBT.out (Nat.le_refl _) 0 1 2 3 _ _ _ _⟩
      · have HOO := Lib.hid HO.out.2.2.2.1
        go_wp2_with (first
          | (go_at_call 73; with_reducible refine (HOF.out _ HPS.out).mono ?_; rintro e w1 ⟨rfl, hb1⟩; have HX := Lib.hid ((HB.out.below hb1).alloc (.cells #[.int .i64 0, .int .i64 q, .int .i64 km, .int .i64 im, .bool bm, .string sm, .int .i64 kx, .int .i64 ix, .bool bx, .string sx] 58)); have HBT := Lib.hid ((bthen hbb hb1 (Nat.le_refl _)).alloc (Nat.le_trans hbb.size hb1.size) (.cells #[.int .i64 0, .int .i64 q, .int .i64 km, .int .i64 im, .bool bm, .string sm, .int .i64 kx, .int .i64 ix, .bool bx, .string sx] 58)); have HPX := Lib.hid ((HPS.out.below hb1).alloc (.cells #[.int .i64 0, .int .i64 q, .int .i64 km, .int .i64 im, .bool bm, .string sm, .int .i64 kx, .int .i64 ix, .bool bx, .string sx] 58)); obtain ⟨z0, z1, z2, z3⟩ := HX.out.cells; have zf0 := HX.out.free 0; have zf1 := HX.out.free 1; have zf2 := HX.out.free 2; have zf3 := HX.out.free 3; simp only [nul] at z0 z1 z2 z3)
          | (go_at_call 156; with_reducible refine (HN.out _).mono ?_; unfold number; rintro e w2 ⟨rfl, hb2⟩; replace HX := Lib.hid (HX.out.below hb2); replace HBT := Lib.hid (bthen HBT.out hb2 (Nat.le_refl _)); clear z0 z1 z2 z3 zf0 zf1 zf2 zf3; obtain ⟨z0, z1, z2, z3⟩ := HX.out.cells; have zf0 := HX.out.free 0; have zf1 := HX.out.free 1; have zf2 := HX.out.free 2; have zf3 := HX.out.free 3; simp only [nul] at z0 z1 z2 z3)
          | (go_at_call 157; with_reducible refine (HSM.out _ HPX.out).mono ?_; rintro e w2 ⟨rfl, hb2⟩; replace HX := Lib.hid (HX.out.below hb2); replace HBT := Lib.hid (bthen HBT.out hb2 (Nat.le_refl _)); clear z0 z1 z2 z3 zf0 zf1 zf2 zf3; obtain ⟨z0, z1, z2, z3⟩ := HX.out.cells; have zf0 := HX.out.free 0; have zf1 := HX.out.free 1; have zf2 := HX.out.free 2; have zf3 := HX.out.free 3; simp only [nul] at z0 z1 z2 z3))
        exact ret_box_tmp (HX.out.put (u := (⟨ks, is_, bs, ss⟩ : Val))) rfl rfl rfl ⟨by rw [← HR.out, HOO.out]; rfl, below_put4 HBT.out (Nat.le_refl _) 0 1 2 3 _ _ _ _⟩
      · have HOO := Lib.hid HO.out.2.2.2.2.1
        go_wp2_with (first
          | (go_at_call 73; with_reducible refine (HOF.out _ HPS.out).mono ?_; rintro e w1 ⟨rfl, hb1⟩; have HX := Lib.hid ((HB.out.below hb1).alloc (.cells #[.int .i64 0, .int .i64 q, .int .i64 km, .int .i64 im, .bool bm, .string sm, .int .i64 kx, .int .i64 ix, .bool bx, .string sx] 58)); have HBT := Lib.hid ((bthen hbb hb1 (Nat.le_refl _)).alloc (Nat.le_trans hbb.size hb1.size) (.cells #[.int .i64 0, .int .i64 q, .int .i64 km, .int .i64 im, .bool bm, .string sm, .int .i64 kx, .int .i64 ix, .bool bx, .string sx] 58)); have HPX := Lib.hid ((HPS.out.below hb1).alloc (.cells #[.int .i64 0, .int .i64 q, .int .i64 km, .int .i64 im, .bool bm, .string sm, .int .i64 kx, .int .i64 ix, .bool bx, .string sx] 58)); obtain ⟨z0, z1, z2, z3⟩ := HX.out.cells; have zf0 := HX.out.free 0; have zf1 := HX.out.free 1; have zf2 := HX.out.free 2; have zf3 := HX.out.free 3; simp only [nul] at z0 z1 z2 z3)
          | (go_at_call 156; with_reducible refine (HN.out _).mono ?_; unfold number; rintro e w2 ⟨rfl, hb2⟩; replace HX := Lib.hid (HX.out.below hb2); replace HBT := Lib.hid (bthen HBT.out hb2 (Nat.le_refl _)); clear z0 z1 z2 z3 zf0 zf1 zf2 zf3; obtain ⟨z0, z1, z2, z3⟩ := HX.out.cells; have zf0 := HX.out.free 0; have zf1 := HX.out.free 1; have zf2 := HX.out.free 2; have zf3 := HX.out.free 3; simp only [nul] at z0 z1 z2 z3)
          | (go_at_call 157; with_reducible refine (HSM.out _ HPX.out).mono ?_; rintro e w2 ⟨rfl, hb2⟩; replace HX := Lib.hid (HX.out.below hb2); replace HBT := Lib.hid (bthen HBT.out hb2 (Nat.le_refl _)); clear z0 z1 z2 z3 zf0 zf1 zf2 zf3; obtain ⟨z0, z1, z2, z3⟩ := HX.out.cells; have zf0 := HX.out.free 0; have zf1 := HX.out.free 1; have zf2 := HX.out.free 2; have zf3 := HX.out.free 3; simp only [nul] at z0 z1 z2 z3))
        exact ret_box_tmp (HX.out.put (u := (⟨km, im, bm, sm⟩ : Val))) rfl rfl rfl ⟨by rw [← HR.out, HOO.out]; rfl, below_put4 HBT.out (Nat.le_refl _) 0 1 2 3 _ _ _ _⟩
      · have HOO := Lib.hid HO.out.2.2.2.2.2
        go_wp2_with (first
          | (go_at_call 73; with_reducible refine (HOF.out _ HPS.out).mono ?_; rintro e w1 ⟨rfl, hb1⟩; have HX := Lib.hid ((HB.out.below hb1).alloc (.cells #[.int .i64 0, .int .i64 q, .int .i64 km, .int .i64 im, .bool bm, .string sm, .int .i64 kx, .int .i64 ix, .bool bx, .string sx] 58)); have HBT := Lib.hid ((bthen hbb hb1 (Nat.le_refl _)).alloc (Nat.le_trans hbb.size hb1.size) (.cells #[.int .i64 0, .int .i64 q, .int .i64 km, .int .i64 im, .bool bm, .string sm, .int .i64 kx, .int .i64 ix, .bool bx, .string sx] 58)); have HPX := Lib.hid ((HPS.out.below hb1).alloc (.cells #[.int .i64 0, .int .i64 q, .int .i64 km, .int .i64 im, .bool bm, .string sm, .int .i64 kx, .int .i64 ix, .bool bx, .string sx] 58)); obtain ⟨z0, z1, z2, z3⟩ := HX.out.cells; have zf0 := HX.out.free 0; have zf1 := HX.out.free 1; have zf2 := HX.out.free 2; have zf3 := HX.out.free 3; simp only [nul] at z0 z1 z2 z3)
          | (go_at_call 156; with_reducible refine (HN.out _).mono ?_; unfold number; rintro e w2 ⟨rfl, hb2⟩; replace HX := Lib.hid (HX.out.below hb2); replace HBT := Lib.hid (bthen HBT.out hb2 (Nat.le_refl _)); clear z0 z1 z2 z3 zf0 zf1 zf2 zf3; obtain ⟨z0, z1, z2, z3⟩ := HX.out.cells; have zf0 := HX.out.free 0; have zf1 := HX.out.free 1; have zf2 := HX.out.free 2; have zf3 := HX.out.free 3; simp only [nul] at z0 z1 z2 z3)
          | (go_at_call 157; with_reducible refine (HSM.out _ HPX.out).mono ?_; rintro e w2 ⟨rfl, hb2⟩; replace HX := Lib.hid (HX.out.below hb2); replace HBT := Lib.hid (bthen HBT.out hb2 (Nat.le_refl _)); clear z0 z1 z2 z3 zf0 zf1 zf2 zf3; obtain ⟨z0, z1, z2, z3⟩ := HX.out.cells; have zf0 := HX.out.free 0; have zf1 := HX.out.free 1; have zf2 := HX.out.free 2; have zf3 := HX.out.free 3; simp only [nul] at z0 z1 z2 z3))
        exact ret_box_tmp (HX.out.put (u := (⟨kx, ix, bx, sx⟩ : Val))) rfl rfl rfl ⟨by rw [← HR.out, HOO.out]; rfl, below_put4 HBT.out (Nat.le_refl _) 0 1 2 3 _ _ _ _⟩
end Go.Proofs.Ytkkpcdpoldjmkaa.Agg
