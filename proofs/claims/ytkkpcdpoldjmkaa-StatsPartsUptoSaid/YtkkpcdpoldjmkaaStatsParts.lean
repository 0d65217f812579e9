/-
  THE WALK of StatsParts, for lists whose lengths together stay in bounds.
-/
import Derived.Test.YtkkpcdpoldjmkaaAwake10
import Derived.Test.YtkkpcdpoldjmkaaStatR
import Derived.Test.YtkkpcdpoldjmkaaMem
namespace Go.Proofs.Ytkkpcdpoldjmkaa.Stats
open Go.RowKit ValMath Vals Sl Mem

set_option maxRecDepth 100000 in
set_option maxHeartbeats 8000000 in
theorem statsParts_any (c : Int) (A1 : Option Addr) (n1 c1 : Nat) (as_ : List Val) (A2 : Option Addr) (n2 c2 : Nat) (bs_ : List Val) (w : World) (_hc : (Lit.int .i64 c).wf = true) (h1 : VArg w A1 n1 c1 as_) (hn1 : n1 ≤ 1048576) (h2 : VArg w A2 n2 c2 bs_) (hn2 : n2 ≤ 1048576) :
    Calls Try.prog 11 #[.int .i64 c, .slice A1 n1 c1, .slice A2 n2 c2] w fun e w' => e = .returned (.bool true) ∧ Below w.heap.size w w' := by
  clear _hc
  have hl1 := h1.sl.1
  have hl2 := h2.sl.1
  obtain ⟨n, hn⟩ : ∃ n, n = n1 + n2 := ⟨_, rfl⟩
  have hll : (as_ ++ bs_).length = n := by rw [List.length_append, hl1, hl2, hn]
  have hn3 : n ≤ 2097152 := by omega
  have hs1 : ∀ v ∈ as_ ++ bs_, v.s.size ≤ maxLen := fun v hv => by
    rw [List.mem_append] at hv
    rcases hv with h | h
    · exact Nat.le_trans (h1.fine v h).s (by unfold maxLen; omega)
    · exact Nat.le_trans (h2.fine v h).s (by unfold maxLen; omega)
  obtain ⟨hz1, hz2⟩ := stat_size (as_ ++ bs_) maxLen hs1
  have hOa : ∀ (w : World) (A : Option Addr) (cap : Nat), VSl w A n1 as_ → Calls Try.prog 73 #[.int .i64 c, .slice A n1 cap] w fun e w' => e = .returned (sagg c (stat as_).nulls (stat as_).mn (stat as_).mx) ∧ Below w.heap.size w w' := fun w A cap h => of_any c A n1 cap _ w h (by unfold maxLen; omega)
  have hOb : ∀ (w : World) (A : Option Addr) (cap : Nat), VSl w A n2 bs_ → Calls Try.prog 73 #[.int .i64 c, .slice A n2 cap] w fun e w' => e = .returned (sagg c (stat bs_).nulls (stat bs_).mn (stat bs_).mx) ∧ Below w.heap.size w w' := fun w A cap h => of_any c A n2 cap _ w h (by unfold maxLen; omega)
  have hOc : ∀ (w : World) (A : Option Addr) (cap : Nat), VSl w A n (as_ ++ bs_) → Calls Try.prog 73 #[.int .i64 c, .slice A n cap] w fun e w' => e = .returned (sagg c (stat (as_ ++ bs_)).nulls (stat (as_ ++ bs_)).mn (stat (as_ ++ bs_)).mx) ∧ Below w.heap.size w w' := fun w A cap h => of_any c A n cap _ w h (by unfold maxLen; omega)
  have hqa := stat_nulls_le as_
  have hqb := stat_nulls_le bs_
  have hJ : ∀ w, Calls Try.prog 75 #[sagg c (stat as_).nulls (stat as_).mn (stat as_).mx, sagg c (stat bs_).nulls (stat bs_).mn (stat bs_).mx] w fun e w' => e = .returned (sagg c (stat (as_ ++ bs_)).nulls (stat (as_ ++ bs_)).mn (stat (as_ ++ bs_)).mx) ∧ Below w.heap.size w w' := fun w => by
    have hq : IntKind.i64.wrap (((stat as_).nulls : Int) + ((stat bs_).nulls : Int)) = ((both (stat as_) (stat bs_)).nulls : Int) := by
      show IntKind.i64.wrap _ = (((stat as_).nulls + (stat bs_).nulls : Nat) : Int)
      rw [IntWalk.i64_in _ (by omega)]; push_cast; rfl
    have := join_any c (stat as_).nulls c (stat bs_).nulls _ (stat as_).mn (stat as_).mx (stat bs_).mn (stat bs_).mx w hq
    rw [stat_append]; exact this
  have hst := stat_count (as_ ++ bs_)
  rw [hll] at hst
  have hbd := stat_bounds (as_ ++ bs_)
  have hqn := neq_stat c (stat (as_ ++ bs_)).nulls (stat (as_ ++ bs_)).mn (stat (as_ ++ bs_)).mx
  generalize ((stat as_).nulls : Int) = qa at *
  generalize (stat as_).mn = mna at *
  generalize (stat as_).mx = mxa at *
  generalize ((stat bs_).nulls : Int) = qb at *
  generalize (stat bs_).mn = mnb at *
  generalize (stat bs_).mx = mxb at *
  have hqc := stat_nulls_le (as_ ++ bs_)
  rw [hll] at hqc
  generalize (stat (as_ ++ bs_)).nulls = q at *
  generalize (stat (as_ ++ bs_)).mn = mn at *
  generalize (stat (as_ ++ bs_)).mx = mx at *
  obtain ⟨ka, ia, ba, sa⟩ := mna
  obtain ⟨kb, ib, bb, sb⟩ := mnb
  obtain ⟨kc, ic, bc, sc⟩ := mxa
  obtain ⟨kd, id, bd, sd⟩ := mxb
  obtain ⟨km, im, bm, sm⟩ := mn
  obtain ⟨kx, ix, bx, sx⟩ := mx
  simp only [sagg] at hOa hOb hOc hJ hqn
  have HOa := Lib.hid hOa; clear hOa
  have HOb := Lib.hid hOb; clear hOb
  have HOc := Lib.hid hOc; clear hOc
  have HJ := Lib.hid hJ; clear hJ
  have HC := Lib.hid (And.intro hs1 (And.intro hbd (And.intro hst (And.intro hll (And.intro hl1 (And.intro hl2 (And.intro hz1 hz2))))))); clear hs1 hbd hst hll hl1 hl2 hz1 hz2 hqa hqb
  have H1 := Lib.hid h1; clear h1
  have H2 := Lib.hid h2; clear h2
  have HN := Lib.hid hn; clear hn
  go_enter Try.func11, Try.ntmps11
  go_wp2_with fail
  refine (awake_any _).mono ?_
  rintro e w1 ⟨rfl, hb1⟩
  have hown : OwnV (w1.alloc (.cells #[] 52)) w1.heap.size (.slice (some ⟨w1.heap.size, 0, none⟩) 0 0) [] := made0 w1 52 4
  replace H1 := Lib.hid (H1.out.below hb1)
  replace H2 := Lib.hid (H2.out.below hb1)
  have HO := Lib.hid hown; clear hown
  go_wp2_with (first
    | (refine wpList_pushes_val rfl (.tmp 13) (.tmp 14) rfl w1.heap.size (.slice (some ⟨w1.heap.size, 0, none⟩) 0 0) [] as_ A1 n1 c1 rfl rfl (H1.out.sl.alloc _) H1.out.nil HO.out (by rw [HC.out.2.2.2.2.1]; unfold few; simp; omega) (by simp) ?_; intro u wA hA hgA hatA hnA; have HbA := Lib.hid ((Vals.one_new (w := w1) (.cells #[] 52)).grown hgA (by simp) (own_base HO.out)); have HA := Lib.hid hA; clear hA hgA hatA hnA)
    | (refine wpList_pushes_val rfl (.tmp 16) (.tmp 17) rfl w1.heap.size u ([] ++ as_) bs_ A2 n2 c2 rfl rfl (H2.out.sl.below HbA.out) H2.out.nil HA.out (by rw [List.nil_append, HC.out.2.2.2.2.1, HC.out.2.2.2.2.2.1]; unfold few; omega) HbA.out.size ?_; intro u2 wB hB hgB hatB hnB; have HbB := Lib.hid (HbA.out.grown hgB HbA.out.size (own_base HA.out)); obtain ⟨A, cc, rfl, hsl, hcm⟩ := hB.form' (n := n) HC.out.2.2.2.1; have HV := Lib.hid (show VSl wB A n (as_ ++ bs_) from hsl); clear hB hgB hatB hnB hsl))
  (with_reducible refine (HOc.out _ _ _ HV.out).mono ?_)
  rintro e w3 ⟨rfl, hb3⟩
  replace H1 := Lib.hid ((H1.out.below HbB.out).below hb3)
  replace H2 := Lib.hid ((H2.out.below HbB.out).below hb3)
  replace HV := Lib.hid (HV.out.below hb3)
  have HBT := Lib.hid (bthen (bthen hb1 HbB.out (Nat.le_refl _)) hb3 (Nat.le_refl _)); clear hb1 hb3 HbA HbB HO HA
  go_upto_region 6 with fail
  have H8 := Lib.hid (SBox.new w3 _ rfl c q ⟨km, im, bm, sm⟩ ⟨kx, ix, bx, sx⟩)
  replace H1 := Lib.hid (H1.out.below (Vals.one_new (w := w3) (.cells #[.int .i64 c, .int .i64 q, .int .i64 km, .int .i64 im, .bool bm, .string sm, .int .i64 kx, .int .i64 ix, .bool bx, .string sx] 58)))
  replace H2 := Lib.hid (H2.out.below (Vals.one_new (w := w3) (.cells #[.int .i64 c, .int .i64 q, .int .i64 km, .int .i64 im, .bool bm, .string sm, .int .i64 kx, .int .i64 ix, .bool bx, .string sx] 58)))
  replace HV := Lib.hid (HV.out.alloc (.cells #[.int .i64 c, .int .i64 q, .int .i64 km, .int .i64 im, .bool bm, .string sm, .int .i64 kx, .int .i64 ix, .bool bx, .string sx] 58))
  replace HBT := Lib.hid (HBT.out.alloc HBT.out.size (.cells #[.int .i64 c, .int .i64 q, .int .i64 km, .int .i64 im, .bool bm, .string sm, .int .i64 kx, .int .i64 ix, .bool bx, .string sx] 58))
  generalize w3.heap.size = g8 at *
  obtain ⟨w4, hw4⟩ : ∃ w4, w4 = w3.alloc (.cells #[.int .i64 c, .int .i64 q, .int .i64 km, .int .i64 im, .bool bm, .string sm, .int .i64 kx, .int .i64 ix, .bool bx, .string sx] 58) := ⟨_, rfl⟩
  rw [← hw4] at HBT H1 H2 HV
  replace H8 : Hid (SBox w4 g8 c q ⟨km, im, bm, sm⟩ ⟨kx, ix, bx, sx⟩) := Lib.hid (by rw [hw4]; exact H8.out)
  rw [← hw4]
  clear hw4
  replace H1 : Hid (VArg w4.drew A1 n1 c1 as_) := Lib.hid ⟨H1.out.sl, H1.out.le, H1.out.cap, H1.out.fine, H1.out.nil⟩
  replace H2 : Hid (VArg w4.drew A2 n2 c2 bs_) := Lib.hid ⟨H2.out.sl, H2.out.le, H2.out.cap, H2.out.fine, H2.out.nil⟩
  replace HV : Hid (VSl w4.drew A n (as_ ++ bs_)) := Lib.hid (HV.out.drewN 1)
  replace H8 := Lib.hid H8.out.drew
  replace HBT := Lib.hid HBT.out.drew
  have hSK := H8.out.cells
  go_region_held3 (fun w' => (w'.cell? ⟨g8, 0, none⟩ = some (.int .i64 c) ∧ w'.cell? ⟨g8, 1, none⟩ = some (.int .i64 q) ∧ w'.cell? ⟨g8, 2, none⟩ = some (.int .i64 km) ∧ w'.cell? ⟨g8, 3, none⟩ = some (.int .i64 im) ∧ w'.cell? ⟨g8, 4, none⟩ = some (.bool bm) ∧ w'.cell? ⟨g8, 5, none⟩ = some (.string sm) ∧ w'.cell? ⟨g8, 6, none⟩ = some (.int .i64 kx) ∧ w'.cell? ⟨g8, 7, none⟩ = some (.int .i64 ix) ∧ w'.cell? ⟨g8, 8, none⟩ = some (.bool bx) ∧ w'.cell? ⟨g8, 9, none⟩ = some (.string sx)))
    (first | (with_reducible exact hSK) | exact hSK)
    ((first
      | (go_at_call 73; (with_reducible refine (HOa.out _ _ _ H1.out.sl).mono ?_); rintro e wA ⟨rfl, hbwA⟩; replace H1 := Lib.hid (H1.out.below hbwA); replace H2 := Lib.hid (H2.out.below hbwA); replace HV := Lib.hid (HV.out.below hbwA); replace H8 := Lib.hid (SBox.below H8.out hbwA H8.out.lt); replace HBT := Lib.hid (bthen HBT.out hbwA (Nat.le_refl _)); clear hSK hbwA; have hSK := H8.out.cells)
      | (go_at_call 73; (with_reducible refine (HOb.out _ _ _ H2.out.sl).mono ?_); rintro e wC ⟨rfl, hbwC⟩; replace H1 := Lib.hid (H1.out.below hbwC); replace H2 := Lib.hid (H2.out.below hbwC); replace HV := Lib.hid (HV.out.below hbwC); replace H8 := Lib.hid (SBox.below H8.out hbwC H8.out.lt); replace HBT := Lib.hid (bthen HBT.out hbwC (Nat.le_refl _)); clear hSK hbwC; have hSK := H8.out.cells)
      | (go_at_call 75; (with_reducible refine (HJ.out _).mono ?_); rintro e wD ⟨rfl, hbwD⟩; replace H1 := Lib.hid (H1.out.below hbwD); replace H2 := Lib.hid (H2.out.below hbwD); replace HV := Lib.hid (HV.out.below hbwD); replace H8 := Lib.hid (SBox.below H8.out hbwD H8.out.lt); replace HBT := Lib.hid (bthen HBT.out hbwD (Nat.le_refl _)); clear hSK hbwD; have hSK := H8.out.cells)))
  clear hSK HOa HOb HOc HJ H1 H2
  obtain ⟨z0, z1, z2, z3, z4, z5, z6, z7, z8, z9⟩ := H8.out.cells
  go_wp2_with fail
  clear z0 z1 z2 z3 z4 z5 z6 z7 z8 z9
  generalize hw5 : wD = w5 at *
  clear hw5
  go_loopw [9, 10] (fun sv iv wr => ∃ k : Nat, k ≤ n ∧ iv = .int .i64 k ∧ sv = .int .i64 (((as_ ++ bs_).take k).filter (fun v => !null v)).length ∧ Below w5.heap.size w5 wr) (fun _ iv _ => n - (intOf iv).toNat)
  case atStart => exact ⟨0, Nat.zero_le _, rfl, rfl, Below.refl _ _⟩
  case round =>
    obtain ⟨k, hk, rfl, rfl, hb⟩ := hrel
    have hfl : (((as_ ++ bs_).take k).filter (fun v => !null v)).length ≤ k := Nat.le_trans (List.length_filter_le _ _) (List.length_take_le _ _)
    have HSr := Lib.hid (SBox.below H8.out hb H8.out.lt)
    by_cases hkn : k < n
    · obtain ⟨b1, o1, v, hv1, rfl, hb1, c0, c1, c2, c3⟩ := (HV.out.below hb).at_ hkn
      have hvm := List.mem_of_getElem? hv1
      have hvs := HC.out.1 v hvm
      have hvb := HC.out.2.1 v hvm
      have hN := null_any v
      have hK1 := fun w => cmp_any v ⟨km, im, bm, sm⟩ w hvs HC.out.2.2.2.2.2.2.1
      have hK2 := fun w => cmp_any v ⟨kx, ix, bx, sx⟩ w hvs HC.out.2.2.2.2.2.2.2
      have hts : ((as_ ++ bs_).take (k + 1)).filter (fun v => !null v) = ((as_ ++ bs_).take k).filter (fun v => !null v) ++ (if null v then [] else [v]) := by
        rw [take_more hv1, List.filter_append]
        cases h : null v <;> simp [h]
      have H4 := Lib.hid (show At4 wr b1 (o1 + k * 4) v from ⟨c0, c1, c2, c3⟩)
      have H4l := Lib.hid hb1
      have hg1 := cmp_neg v ⟨km, im, bm, sm⟩
      have hg2 := cmp_pos v ⟨kx, ix, bx, sx⟩
      generalize hm : (((as_ ++ bs_).take k).filter (fun v => !null v)).length = m at *
      cases hnv : null v with
      | true =>
        rw [hnv] at hN hts
        simp only [if_true, List.append_nil] at hts
        have hts2 : (((as_ ++ bs_).take (k + 1)).filter (fun v => !null v)).length = ((((as_ ++ bs_).take k).filter (fun v => !null v))).length := by rw [hts]
        rw [hm] at hts2
        have HT := Lib.hid hts2
        clear hts hts2 hnv hK1 hK2 hg1 hg2 hvb hvs hvm hv1 hm
        obtain ⟨kv, iv, bv, sv⟩ := v
        simp only [vagg] at c0 c1 c2 c3 hN
        have HN := Lib.hid hN; clear hN
        go_wp2_with (go_at_call 78; (with_reducible refine (HN.out _).mono ?_); rintro e wE ⟨rfl, hbn⟩)
        go_roundw
        case rel => exact ⟨k + 1, by omega, by go_num, by rw [HT.out], bthen hb hbn (Nat.le_refl _)⟩
        case measure => simp [intOf]; omega
      | false =>
        rw [hnv] at hN hts
        simp only [Bool.false_eq_true, if_false] at hts
        have hts2 : (((as_ ++ bs_).take (k + 1)).filter (fun v => !null v)).length = ((((as_ ++ bs_).take k).filter (fun v => !null v))).length + 1 := by rw [hts, List.length_append]; rfl
        rw [hm] at hts2
        have HT := Lib.hid hts2
        have hb2 := hvb hnv
        have hr1 : ¬ cmp v ⟨km, im, bm, sm⟩ < 0 := fun h => by have := hg1.1 h; rw [hb2.1] at this; cases this
        have hr2 : ¬ 0 < cmp v ⟨kx, ix, bx, sx⟩ := fun h => by have := hg2.1 h; rw [hb2.2.1] at this; cases this
        generalize cmp v ⟨km, im, bm, sm⟩ = r1 at *
        generalize cmp v ⟨kx, ix, bx, sx⟩ = r2 at *
        have hd1 : decide (r1 < 0) = false := decide_eq_false hr1
        have hd2 : decide (0 < r2) = false := decide_eq_false hr2
        clear hts hts2 hnv hg1 hg2 hvb hvs hvm hv1 hm hb2
        obtain ⟨kv, iv, bv, sv⟩ := v
        simp only [vagg] at c0 c1 c2 c3 hN hK1 hK2
        have HN := Lib.hid hN; clear hN
        have HK1 := Lib.hid hK1; clear hK1
        have HK2 := Lib.hid hK2; clear hK2
        have HBr := Lib.hid hb
        go_upto_region 14 with (go_at_call 78; (with_reducible refine (HN.out _).mono ?_); rintro e wE ⟨rfl, hbn⟩; replace H4 := Lib.hid (H4.out.below hbn H4l.out); replace H4l := Lib.hid (Nat.lt_of_lt_of_le H4l.out hbn.size); replace HSr := Lib.hid (SBox.below HSr.out hbn HSr.out.lt); replace HBr := Lib.hid (bthen HBr.out hbn (Nat.le_refl _)); clear c0 c1 c2 c3 hbn)
        replace H4 := Lib.hid H4.out.drew
        replace H4l : Hid (b1 < wE.drew.heap.size) := Lib.hid H4l.out
        replace HSr := Lib.hid HSr.out.drew
        replace HBr := Lib.hid HBr.out.drew
        have hSK := And.intro H4.out HSr.out.cells
        go_region_held3 (fun w' => (w'.cell? ⟨b1, o1 + k * 4, none⟩ = some (.int .i64 kv) ∧ w'.cell? ⟨b1, o1 + k * 4 + 1, none⟩ = some (.int .i64 iv) ∧ w'.cell? ⟨b1, o1 + k * 4 + 2, none⟩ = some (.bool bv) ∧ w'.cell? ⟨b1, o1 + k * 4 + 3, none⟩ = some (.string sv)) ∧ (w'.cell? ⟨g8, 0, none⟩ = some (.int .i64 c) ∧ w'.cell? ⟨g8, 1, none⟩ = some (.int .i64 q) ∧ w'.cell? ⟨g8, 2, none⟩ = some (.int .i64 km) ∧ w'.cell? ⟨g8, 3, none⟩ = some (.int .i64 im) ∧ w'.cell? ⟨g8, 4, none⟩ = some (.bool bm) ∧ w'.cell? ⟨g8, 5, none⟩ = some (.string sm) ∧ w'.cell? ⟨g8, 6, none⟩ = some (.int .i64 kx) ∧ w'.cell? ⟨g8, 7, none⟩ = some (.int .i64 ix) ∧ w'.cell? ⟨g8, 8, none⟩ = some (.bool bx) ∧ w'.cell? ⟨g8, 9, none⟩ = some (.string sx)))
          (first | (with_reducible exact hSK) | exact hSK)
          ((first
            | (go_at_call_of 72 (Value.string sm); (with_reducible refine (HK1.out _).mono ?_); rintro e wF ⟨rfl, hbF⟩; replace H4 := Lib.hid (H4.out.below hbF H4l.out); replace H4l := Lib.hid (Nat.lt_of_lt_of_le H4l.out hbF.size); replace HSr := Lib.hid (SBox.below HSr.out hbF HSr.out.lt); replace HBr := Lib.hid (bthen HBr.out hbF (Nat.le_refl _)); clear hSK hbF; have hSK := And.intro H4.out HSr.out.cells)
            | (go_at_call_of 72 (Value.string sx); (with_reducible refine (HK2.out _).mono ?_); rintro e wG ⟨rfl, hbG⟩; replace H4 := Lib.hid (H4.out.below hbG H4l.out); replace H4l := Lib.hid (Nat.lt_of_lt_of_le H4l.out hbG.size); replace HSr := Lib.hid (SBox.below HSr.out hbG HSr.out.lt); replace HBr := Lib.hid (bthen HBr.out hbG (Nat.le_refl _)); clear hSK hbG; have hSK := And.intro H4.out HSr.out.cells)))
        all_goals
          clear hSK
          go_wp2
          go_roundw
          case rel => exact ⟨k + 1, by omega, by go_num, by rw [HT.out]; go_num, HBr.out⟩
          case measure => simp [intOf]; omega
    · obtain rfl : n = k := by omega
      have htk : (as_ ++ bs_).take n = as_ ++ bs_ := List.take_of_length_le (by rw [HC.out.2.2.2.1]; exact Nat.le_refl _)
      rw [htk] at hfl ⊢
      have hst := HC.out.2.2.1
      generalize ((as_ ++ bs_).filter (fun v => !null v)).length = m at *
      have hwn : IntKind.i64.wrap ((n : Int) - (m : Int)) = (q : Int) := by rw [IntWalk.i64_in _ (by omega)]; omega
      obtain ⟨z0, z1, z2, z3, z4, z5, z6, z7, z8, z9⟩ := HSr.out.cells
      clear hst
      go_wp2
      go_ret
      exact ⟨rfl, bthen HBT.out hb (Nat.le_refl _)⟩
end Go.Proofs.Ytkkpcdpoldjmkaa.Stats
