/-
  THE WALK of boathouselaw7.RunsMore.
-/
import Derived.Test.YtkkpcdpoldjmkaaRunsBack
namespace Go.Proofs.Ytkkpcdpoldjmkaa.Runs
open Go.RowKit ValMath Vals Sl Mem


theorem GotRuns.drewN {w : World} {B m c1 c2 : Nat} {A1 A2 : Option Addr} {acc : List (Nat × Val)} (h : GotRuns w B A1 A2 m c1 c2 acc) (k : Nat) : GotRuns (w.drewN k) B A1 A2 m c1 c2 acc := ⟨h.own1.drewN k, h.own2.drewN k, h.len⟩

set_option maxRecDepth 20000 in
set_option maxHeartbeats 4000000 in
theorem runsMore_any (A0 : Option Addr) (n0 c0 : Nat) (vs : List Val) (v : Val) (w : World) (h0 : VArg w A0 n0 c0 vs) (hv : Fine v) :
    Calls Try.prog 9 #[.slice A0 n0 c0, vagg v] w fun e w' => e = .returned (.bool true) ∧ Below w.heap.size w w' := by
  have b0 := h0.le; have b0' := h0.cap
  have hvl := h0.sl.1
  have hs0 := fine_len h0.fine
  have hvs : v.s.size ≤ maxLen := Nat.le_trans hv.s (by unfold maxLen; omega)
  obtain ⟨m, hm⟩ : ∃ m, (cut vs).length = m := ⟨_, rfl⟩
  obtain ⟨m2, hm2⟩ : ∃ m2, (cut (vs ++ [v])).length = m2 := ⟨_, rfl⟩
  have hmn : m ≤ n0 := by have := cut_length vs; omega
  have hm2n : m2 ≤ n0 + 1 := by have := cut_length (vs ++ [v]); rw [List.length_append, hvl] at this; simp at this; omega
  have H0 := Lib.hid (h0.below (Vals.one_new (.cells #[.int .i64 v.k, .int .i64 v.i, .bool v.b, .string v.s] 52))); clear h0
  have HM := Lib.hid hm; clear hm
  have HM2 := Lib.hid hm2; clear hm2
  have HVL := Lib.hid hvl; clear hvl
  have HS := Lib.hid (And.intro hs0 hvs); clear hs0 hvs
  have hbx := At4.new w w.heap.size rfl v 52
  have HBX := Lib.hid hbx; clear hbx
  have hbt := Vals.one_new (w := w) (.cells #[.int .i64 v.k, .int .i64 v.i, .bool v.b, .string v.s] 52)
  have HBT := Lib.hid hbt; clear hbt
  have hB0 : w.heap.size < (w.alloc (.cells #[.int .i64 v.k, .int .i64 v.i, .bool v.b, .string v.s] 52)).heap.size := by simp
  go_enter Try.func9, Try.ntmps9
  go_wp2_with fail
  refine (awake_any _).mono ?_
  rintro e w1 ⟨rfl, hb1⟩
  (try replace H0 := Lib.hid (H0.out.below hb1))
  (try replace H1 := Lib.hid (H1.out.below hb1))
  (try replace H2 := Lib.hid (H2.out.below hb1))
  (try replace H7 := Lib.hid (H7.out.below hb1))
  (try replace H8 := Lib.hid (H8.out.below hb1))
  (try replace H9 := Lib.hid (H9.out.below hb1))
  (try replace HA := Lib.hid (HA.out.below hb1))
  (try replace HC := Lib.hid (HC.out.below hb1))
  (try replace HE := Lib.hid (HE.out.below hb1))
  (try replace HG := Lib.hid (HG.out.below hb1))
  (try replace HBT := Lib.hid (bthen HBT.out hb1 (Nat.le_refl _)))
  replace HBX := Lib.hid (HBX.out.below hb1 hB0)
  replace hB0 := Nat.lt_of_lt_of_le hB0 hb1.size
  clear hb1
  go_wp2_with fail
  refine (cut_got _ n0 _ vs _ H0.out.sl (by omega) m HM.out).mono ?_
  rintro e w2 ⟨A5, c5, A6, c6, rfl, hA, hb2⟩
  (try replace H0 := Lib.hid (H0.out.below hb2))
  (try replace H1 := Lib.hid (H1.out.below hb2))
  (try replace H2 := Lib.hid (H2.out.below hb2))
  (try replace H7 := Lib.hid (H7.out.below hb2))
  (try replace H8 := Lib.hid (H8.out.below hb2))
  (try replace H9 := Lib.hid (H9.out.below hb2))
  (try replace HA := Lib.hid (HA.out.below hb2))
  (try replace HC := Lib.hid (HC.out.below hb2))
  (try replace HE := Lib.hid (HE.out.below hb2))
  (try replace HG := Lib.hid (HG.out.below hb2))
  (try replace HBT := Lib.hid (bthen HBT.out hb2 (Nat.le_refl _)))
  replace HBX := Lib.hid (HBX.out.below hb2 hB0)
  replace hB0 := Nat.lt_of_lt_of_le hB0 hb2.size
  have HA := Lib.hid hA; clear hA hb2
  have hown0 : OwnV (w2.alloc (.cells #[] 52)) w2.heap.size (.slice (some ⟨w2.heap.size, 0, none⟩) 0 0) [] := made0 w2 52 4
  have HO0 := Lib.hid hown0; clear hown0
  have HN := Lib.hid H0.out.nil
  go_wp2_with (first
    | (refine wpList_pushes_val rfl _ _ rfl w2.heap.size (.slice (some ⟨w2.heap.size, 0, none⟩) 0 0) [] vs A0 n0 c0 rfl rfl (H0.out.sl.alloc _) HN.out HO0.out (by rw [HVL.out]; unfold few; simp; omega) (by simp) ?_; intro u3 w3 hA3 hgA3 hatA3 hnA3; obtain ⟨g3, k3, rfl⟩ := own_lit hA3 (m := n0) (by simp [HVL.out]) (fun e => by cases (hnA3.1 e).1); have hb3 := (Vals.one_new (.cells #[] 52)).grown hgA3 (by simp) (fun j hj => by simp only [Value.ownBlock, Option.some.injEq] at hj; omega); have hBX3 := HBX.out.below hb3 hB0; have hB03 := Nat.lt_of_lt_of_le hB0 hb3.size; obtain ⟨f0, f1, f2, f3⟩ := hBX3.zero; have HA3 := Lib.hid hA3; have HBX3 := Lib.hid hBX3; clear hA3 hgA3 hatA3 hnA3 hBX3)
    | (refine wpList_push_val rfl _ _ rfl w2.heap.size (.slice (some ⟨g3, 0, none⟩) n0 k3) vs v w3.heap.size 1 rfl rfl (t := 52) (fr := (0, 0)) (heap_alloc_new w3 _) (HA3.out.alloc _) (by rw [HVL.out]; unfold few; omega) (by have := hb3.size; simp; omega) ?_; intro u4 w4 hA4 hgA4 hatA4; obtain ⟨A4, c4, rfl, _⟩ := hA4.form' (n := n0 + 1) (by simp [HVL.out]); have hb4 := (hb3.alloc hb3.size _).grown hgA4 (by have := hb3.size; simp; omega) (fun j hj => by simp only [Value.ownBlock, Option.some.injEq] at hj; have := (own_base_of HA3.out).1; omega); have HA4 := Lib.hid hA4; clear hA4 hgA4 hatA4 f0 f1 f2 f3))
  refine (cut_got _ (n0 + 1) _ (vs ++ [v]) _ (HA4.out.sl (by simp [HVL.out])) (by omega) m2 HM2.out).mono ?_
  rintro e wz ⟨A8, c8, A9, c9, rfl, hD, hb5⟩
  have hbz := bthen hb4 hb5 (Nat.le_refl _)
  replace HA := Lib.hid (HA.out.below hbz)
  replace HBX := Lib.hid (HBX.out.below hbz hB0)
  replace HBT := Lib.hid (bthen HBT.out hbz (Nat.le_refl _))
  replace hB0 := Nat.lt_of_lt_of_le hB0 hbz.size
  have HD := Lib.hid hD; clear hD hb3 hb4 hb5 hbz HA3 HBX3 hB03 HA4 HO0 HN H0
  have hcs := cut_snoc vs v
  have HCS := Lib.hid hcs; clear hcs
  go_upto_region 8 with fail
  rcases List.eq_nil_or_concat (cut vs) with hn | ⟨acc', ⟨mm, x⟩, hn⟩
  · have hE : cut (vs ++ [v]) = cut vs ++ [(1, clean v)] := by rw [HCS.out, hn]; exact push_other (lastIs_nil _)
    have HE := Lib.hid hE; clear hE
    have hm0 : m = 0 := by rw [← HM.out, hn]; rfl
    have hm21 : m2 = m + 1 := by rw [← HM2.out, HE.out, List.length_append, HM.out]; rfl
    have hd1 : decide ((0 : Int) < (m : Int)) = false := decide_eq_false (by omega)
    have hd2 : decide (0 < m) = false := decide_eq_false (by omega)
    subst hm21
    have HM0 := Lib.hid hm0; clear hm0 hn
    obtain ⟨f0, f1, f2, f3⟩ := HBX.out.zero
    go_quiet (fail)
    replace HA := Lib.hid (HA.out.drewN nq)
    replace HD := Lib.hid (HD.out.drewN nq)
    replace HBX := Lib.hid (HBX.out.drewN nq)
    replace HBT := Lib.hid (below_drewN HBT.out nq)
    replace hB0 : w.heap.size < (wz.drewN nq).heap.size := by simpa using hB0
    clear f0 f1 f2 f3
    generalize wz.drewN nq = wz at *
    obtain ⟨kv, iv, bv, sv⟩ := v
    go_wp2
    have hi8 := HD.out.sl1
    have hi9 := HD.out.sl2
    rw [HE.out] at hi8 hi9
    obtain ⟨b8, o8, x8, hx8, rfl, hl8, d0⟩ := hi8.at_ (k := m) (by omega)
    obtain ⟨b9, o9, x9, hx9, rfl, hl9, e0, e1, e2, e3⟩ := hi9.at_ (k := m) (by omega)
    obtain rfl : x8 = 1 := by
      rw [counts_append, List.getElem?_append_right (by rw [counts_length, HM.out]; exact Nat.le_refl _), counts_length, HM.out, Nat.sub_self] at hx8
      simpa [counts] using hx8.symm
    obtain rfl : x9 = clean ⟨kv, iv, bv, sv⟩ := by
      rw [vals_append, List.getElem?_append_right (by rw [vals_length, HM.out]; exact Nat.le_refl _), vals_length, HM.out, Nat.sub_self] at hx9
      simpa [vals] using hx9.symm
    have hi8' := hi8.take (m := m) (by omega)
    rw [counts_append, List.take_append_of_le_length (by rw [counts_length, HM.out]; exact Nat.le_refl _), List.take_of_length_le (by rw [counts_length, HM.out]; exact Nat.le_refl _)] at hi8'
    have ha := HA.out.sl1
    have hp := clean_any ⟨kv, iv, bv, sv⟩
    have hbx := HBX.out
    have hx4 : At4 wz b9 (o9 + m * 4) (clean ⟨kv, iv, bv, sv⟩) := ⟨e0, e1, e2, e3⟩
    have HI8 := Lib.hid (And.intro hi8' ha); clear hi8' ha hi8 hi9 hx8 hx9
    have HX := Lib.hid (And.intro d0 (And.intro hx4 hbx)); clear hx4
    clear hbx
    have hq0 := eql_val (clean ⟨kv, iv, bv, sv⟩) (clean ⟨kv, iv, bv, sv⟩)
    have hg0 := fun x y (W : World) => guard_val .eql x y #[.int .i64 (clean ⟨kv, iv, bv, sv⟩).k, .int .i64 (clean ⟨kv, iv, bv, sv⟩).i, .bool (clean ⟨kv, iv, bv, sv⟩).b, .string (clean ⟨kv, iv, bv, sv⟩).s] #[.int .i64 (clean ⟨kv, iv, bv, sv⟩).k, .int .i64 (clean ⟨kv, iv, bv, sv⟩).i, .bool (clean ⟨kv, iv, bv, sv⟩).b, .string (clean ⟨kv, iv, bv, sv⟩).s] W
    rw [decide_eq_true rfl] at hq0
    generalize clean ⟨kv, iv, bv, sv⟩ = u at *
    obtain ⟨ku, iu, bu, su⟩ := u
    obtain ⟨f0, f1, f2, f3⟩ := HX.out.2.2.zero
    simp only [] at e0 e1 e2 e3 f0 f1 f2 f3 hp hq0 hg0
    have HP := Lib.hid hp; clear hp
    have hl9' := hl9
    have hlb : w.heap.size < wz.heap.size := hB0
    have hcap8 := (own_len HD.out.own1).2.1
    have hu5 : ((m : Nat) : Int) ≤ (c8 : Int) := by omega
    have hu1 : (0 : Int) ≤ ((m : Nat) : Int) := by omega
    have hu3 : IntKind.i64.wrap (((m : Nat) : Int) + 1) = ((m : Nat) : Int) + 1 := IntWalk.i64_in _ (by omega)
    have hu4 : ((((m : Nat) : Int) + 1) == (((m : Nat) : Int) + 1)) = true := by simp
    have hu2 : (((m : Nat)) : Int) < (((m : Nat)) : Int) + 1 := by omega
    (try simp only [Int.natCast_add, Int.cast_ofNat_Int] at hu1 hu2 hu3 hu4 hu5)
    go_region_held3 (fun w' => w'.cell? ⟨b8, o8 + m, none⟩ = some (.int .i64 1) ∧ (w'.cell? ⟨b9, o9 + m * 4, none⟩ = some (.int .i64 ku) ∧ w'.cell? ⟨b9, o9 + m * 4 + 1, none⟩ = some (.int .i64 iu) ∧ w'.cell? ⟨b9, o9 + m * 4 + 2, none⟩ = some (.bool bu) ∧ w'.cell? ⟨b9, o9 + m * 4 + 3, none⟩ = some (.string su)) ∧
        (w'.cell? ⟨w.heap.size, 0, none⟩ = some (.int .i64 kv) ∧ w'.cell? ⟨w.heap.size, 1, none⟩ = some (.int .i64 iv) ∧ w'.cell? ⟨w.heap.size, 2, none⟩ = some (.bool bv) ∧ w'.cell? ⟨w.heap.size, 3, none⟩ = some (.string sv)))
      (first | go_keep | exact ⟨(hbK.cell (p := ⟨b8, o8 + m, none⟩) hl8).trans HX.out.1, HX.out.2.1.drew.below hbK hl9, (HX.out.2.2.drew.below hbK hlb).zero⟩ | exact ⟨(hbS.cell (p := ⟨b8, o8 + m, none⟩) (Nat.lt_of_lt_of_le hl8 hbK.size)).trans ((hbK.cell (p := ⟨b8, o8 + m, none⟩) hl8).trans HX.out.1), (HX.out.2.1.drew.below hbK hl9).below hbS (Nat.lt_of_lt_of_le hl9 hbK.size), ((HX.out.2.2.drew.below hbK hlb).below hbS (Nat.lt_of_lt_of_le hlb hbK.size)).zero⟩)
      ((first
        | (go_at_call 71; with_reducible refine (HP.out _).mono ?_; rintro e wK ⟨rfl, hbK⟩)
        | (go_at_call 64; refine ((sameInts_any _ _ m m _ _ _ _ _ (ISl.below (w := wz.drew) HI8.out.1 hbK) (ISl.below (w := wz.drew) HI8.out.2 hbK) (by unfold maxLen; omega)).mono (fun _ _ h => true_of (decide_eq_true rfl) h)).mono ?_; rintro e wS ⟨rfl, hbS⟩)))
    go_wp2
    go_ret
    exact ⟨rfl, bthen (bthen HBT.out.drew hbK (Nat.le_refl _)) hbS (Nat.le_refl _)⟩
  · rw [List.concat_eq_append] at hn
    have hml : m = acc'.length + 1 := by rw [← HM.out, hn]; simp
    obtain ⟨g5, q5, g6, q6, ev1, ev2, _, hg5, _, hg6, _, hic, d0, d1, d2, d3⟩ := runs_last (by have := HA.out.own1; rwa [hn] at this) (by have := HA.out.own2; rwa [hn] at this)
    injection ev1 with ev1 _ ev1c
    injection ev2 with ev2 _ ev2c
    subst ev1; subst ev2; subst ev1c; subst ev2c
    have hxc : clean x = x := cut_clean vs (mm, x) (by rw [hn]; simp)
    have hxs : x.s.size ≤ maxLen := by
      obtain ⟨u, hu, e⟩ := cut_mem vs (mm, x) (by rw [hn]; simp)
      have e' : clean u = x := e
      rw [← e']; exact Nat.le_trans (clean_size u) (HS.out.1 u hu)
    have hmm : mm ≤ n0 := by
      have := (cut_counts vs (mm, x) (by rw [hn]; simp)).2
      rw [HVL.out] at this; exact this
    have hcz := cmp_zero x v
    rw [hxc] at hcz
    have hK := fun w => cmp_any x v w hxs HS.out.2
    have hx4 : At4 wz g6 (acc'.length * 4) x := ⟨d0, d1, d2, d3⟩
    have HX4 := Lib.hid (And.intro hx4 HBX.out); clear hx4
    obtain ⟨f0, f1, f2, f3⟩ := HBX.out.zero
    have hw1 : IntKind.i64.wrap ((acc'.length : Int) + 1 - 1) = (acc'.length : Int) := by rw [show (acc'.length : Int) + 1 - 1 = (acc'.length : Int) by omega]; exact IntWalk.i64_in _ (by omega)
    have hw6 : IntKind.i64.wrap (acc'.length : Int) = (acc'.length : Int) := IntWalk.i64_in _ (by omega)
    have hw2 : (0 : Int) ≤ (acc'.length : Int) := by omega
    have hw3 : (acc'.length : Int) < (acc'.length : Int) + 1 := by omega
    have hd1 : decide ((0 : Int) < (m : Int)) = true := decide_eq_true (by omega)
    have hd2 : decide (0 < m) = true := decide_eq_true (by omega)
    subst hml
    by_cases he : x = clean v
    · have hE : cut (vs ++ [v]) = acc' ++ [(mm + 1, x)] := by rw [HCS.out, hn]; exact push_same he
      have HE := Lib.hid hE; clear hE
      have hm21 : m2 = acc'.length + 1 := by rw [← HM2.out, HE.out]; simp
      subst hm21
      have hC := hcz.2 he
      rw [hC] at hK
      obtain ⟨g8, q8, g9, q9, ev1, ev2, _, hg8, _, hg9, _, hic8, _⟩ := runs_last (by have := HD.out.own1; rwa [HE.out] at this) (by have := HD.out.own2; rwa [HE.out] at this)
      injection ev1 with ev1 _ ev1c
      injection ev2 with ev2 _ ev2c
      subst ev1; subst ev2; subst ev1c; subst ev2c
      have hs9 := HD.out.sl2
      rw [HE.out, vals_append] at hs9
      have hs6 := HA.out.sl2
      rw [hn, vals_append] at hs6
      have hvv : vals [(mm, x)] = vals [(mm + 1, x)] := rfl
      rw [hvv] at hs6
      have HS9 := Lib.hid (And.intro hs9 hs6); clear hs9 hs6 hvv
      clear hcz he hxc hxs hn hC
      obtain ⟨kv, iv, bv, sv⟩ := v
      obtain ⟨kx, ix, bx, sx⟩ := x
      simp only [] at d0 d1 d2 d3 f0 f1 f2 f3 hK
      have HK := Lib.hid hK; clear hK
      go_region_held3 (fun w' => (w'.cell? ⟨g6, acc'.length * 4, none⟩ = some (.int .i64 kx) ∧ w'.cell? ⟨g6, acc'.length * 4 + 1, none⟩ = some (.int .i64 ix) ∧ w'.cell? ⟨g6, acc'.length * 4 + 2, none⟩ = some (.bool bx) ∧ w'.cell? ⟨g6, acc'.length * 4 + 3, none⟩ = some (.string sx)) ∧
          (w'.cell? ⟨w.heap.size, 0, none⟩ = some (.int .i64 kv) ∧ w'.cell? ⟨w.heap.size, 1, none⟩ = some (.int .i64 iv) ∧ w'.cell? ⟨w.heap.size, 2, none⟩ = some (.bool bv) ∧ w'.cell? ⟨w.heap.size, 3, none⟩ = some (.string sv)))
        (first | go_keep | exact ⟨HX4.out.1.drew.below hbK hg6, (HX4.out.2.drew.below hbK hB0).zero⟩)
        ((first | (go_at_call 72; with_reducible refine (HK.out _).mono ?_; rintro e wy ⟨rfl, hbK⟩)))
      have ha5 : wy.cell? ⟨g5, acc'.length, none⟩ = some (.int .i64 mm) := (hbK.cell (p := ⟨g5, acc'.length, none⟩) hg5).trans hic
      have ha8 : wy.cell? ⟨g8, acc'.length, none⟩ = some (.int .i64 ((mm + 1 : Nat) : Int)) := (hbK.cell (p := ⟨g8, acc'.length, none⟩) hg8).trans hic8
      rw [Int.natCast_add] at ha8
      simp only [Int.cast_ofNat_Int] at ha8
      replace HS9 := Lib.hid (And.intro (VSl.below (w := wz.drew) HS9.out.1 hbK) (VSl.below (w := wz.drew) HS9.out.2 hbK))
      replace HBT := Lib.hid (bthen HBT.out.drew hbK (Nat.le_refl _))
      have hg5' : g5 < wy.heap.size := Nat.lt_of_lt_of_le hg5 hbK.size
      have hg8' : g8 < wy.heap.size := Nat.lt_of_lt_of_le hg8 hbK.size
      have hw8 : IntKind.i64.wrap ((mm : Int) + 1) = (mm : Int) + 1 := IntWalk.i64_in _ (by omega)
      have hw9 : ((mm : Int) + 1 == (mm : Int) + 1) = true := by simp
      have hwA : ((acc'.length : Int) + 1 == (acc'.length : Int) + 1) = true := by simp
      clear d0 d1 d2 d3 f0 f1 f2 f3 HX4 hbK HK hic hic8 hg5 hg6 hg8 hg9 HBX hB0
      have HA58 := Lib.hid (And.intro ha8 ha5)
      go_wp2
      go_region_held3 (fun w' => w'.cell? ⟨g8, acc'.length, none⟩ = some (.int .i64 ((mm : Int) + 1)) ∧ w'.cell? ⟨g5, acc'.length, none⟩ = some (.int .i64 (mm : Int)))
        (first | go_keep | exact ⟨(hbS.cell (p := ⟨g8, acc'.length, none⟩) hg8').trans HA58.out.1, (hbS.cell (p := ⟨g5, acc'.length, none⟩) hg5').trans HA58.out.2⟩)
        ((first
          | (go_at_call 65; refine ((sameValues_any _ _ (acc'.length + 1) (acc'.length + 1) _ _ _ _ wy.drew HS9.out.1 HS9.out.2 (by unfold maxLen; omega)).mono (fun _ _ h => true_of (decide_eq_true rfl) h)).mono ?_; rintro e wS ⟨rfl, hbS⟩)))
      go_wp2
      go_ret
      exact ⟨rfl, bthen HBT.out.drew hbS (Nat.le_refl _)⟩
    · have hE : cut (vs ++ [v]) = cut vs ++ [(1, clean v)] := by rw [HCS.out, hn]; exact push_other (by rw [lastIs_snoc]; simpa using he)
      have HE := Lib.hid hE; clear hE
      have hm21 : m2 = acc'.length + 1 + 1 := by rw [← HM2.out, HE.out, List.length_append, HM.out]; rfl
      subst hm21
      have hC : cmp x v ≠ 0 := fun e => he (hcz.1 e)
      generalize cmp x v = r at hC hK
      have hC : (r == 0) = false := by simpa using hC
      clear hcz he hxc hxs hn
      obtain ⟨kv, iv, bv, sv⟩ := v
      obtain ⟨kx, ix, bx, sx⟩ := x
      simp only [] at d0 d1 d2 d3 f0 f1 f2 f3 hK
      have HK := Lib.hid hK; clear hK
      go_region_held3 (fun w' => (w'.cell? ⟨g6, acc'.length * 4, none⟩ = some (.int .i64 kx) ∧ w'.cell? ⟨g6, acc'.length * 4 + 1, none⟩ = some (.int .i64 ix) ∧ w'.cell? ⟨g6, acc'.length * 4 + 2, none⟩ = some (.bool bx) ∧ w'.cell? ⟨g6, acc'.length * 4 + 3, none⟩ = some (.string sx)) ∧
          (w'.cell? ⟨w.heap.size, 0, none⟩ = some (.int .i64 kv) ∧ w'.cell? ⟨w.heap.size, 1, none⟩ = some (.int .i64 iv) ∧ w'.cell? ⟨w.heap.size, 2, none⟩ = some (.bool bv) ∧ w'.cell? ⟨w.heap.size, 3, none⟩ = some (.string sv)))
        (first | go_keep | exact ⟨HX4.out.1.drew.below hbK hg6, (HX4.out.2.drew.below hbK hB0).zero⟩)
        ((first | (go_at_call 72; with_reducible refine (HK.out _).mono ?_; rintro e wz ⟨rfl, hbK⟩)))
      replace HA := Lib.hid (HA.out.drewN 1 |>.below hbK)
      replace HD := Lib.hid (HD.out.drewN 1 |>.below hbK)
      replace HBT := Lib.hid (bthen HBT.out.drew hbK (Nat.le_refl _))
      replace HBX := Lib.hid (HBX.out.drew.below hbK hB0)
      replace hB0 := Nat.lt_of_lt_of_le hB0 hbK.size
      clear d0 d1 d2 d3 f0 f1 f2 f3 HX4 hbK HK hic hg5 hg6
      go_wp2
      have hi8 := HD.out.sl1
      have hi9 := HD.out.sl2
      rw [HE.out] at hi8 hi9
      obtain ⟨b8, o8, x8, hx8, rfl, hl8, d0⟩ := hi8.at_ (k := (acc'.length + 1)) (by omega)
      obtain ⟨b9, o9, x9, hx9, rfl, hl9, e0, e1, e2, e3⟩ := hi9.at_ (k := (acc'.length + 1)) (by omega)
      obtain rfl : x8 = 1 := by
        rw [counts_append, List.getElem?_append_right (by rw [counts_length, HM.out]; exact Nat.le_refl _), counts_length, HM.out, Nat.sub_self] at hx8
        simpa [counts] using hx8.symm
      obtain rfl : x9 = clean ⟨kv, iv, bv, sv⟩ := by
        rw [vals_append, List.getElem?_append_right (by rw [vals_length, HM.out]; exact Nat.le_refl _), vals_length, HM.out, Nat.sub_self] at hx9
        simpa [vals] using hx9.symm
      have hi8' := hi8.take (m := (acc'.length + 1)) (by omega)
      rw [counts_append, List.take_append_of_le_length (by rw [counts_length, HM.out]; exact Nat.le_refl _), List.take_of_length_le (by rw [counts_length, HM.out]; exact Nat.le_refl _)] at hi8'
      have ha := HA.out.sl1
      have hp := clean_any ⟨kv, iv, bv, sv⟩
      have hbx := HBX.out
      have hx4 : At4 wz b9 (o9 + (acc'.length + 1) * 4) (clean ⟨kv, iv, bv, sv⟩) := ⟨e0, e1, e2, e3⟩
      have HI8 := Lib.hid (And.intro hi8' ha); clear hi8' ha hi8 hi9 hx8 hx9
      have HX := Lib.hid (And.intro d0 (And.intro hx4 hbx)); clear hx4
      clear hbx
      have hq0 := eql_val (clean ⟨kv, iv, bv, sv⟩) (clean ⟨kv, iv, bv, sv⟩)
      have hg0 := fun x y (W : World) => guard_val .eql x y #[.int .i64 (clean ⟨kv, iv, bv, sv⟩).k, .int .i64 (clean ⟨kv, iv, bv, sv⟩).i, .bool (clean ⟨kv, iv, bv, sv⟩).b, .string (clean ⟨kv, iv, bv, sv⟩).s] #[.int .i64 (clean ⟨kv, iv, bv, sv⟩).k, .int .i64 (clean ⟨kv, iv, bv, sv⟩).i, .bool (clean ⟨kv, iv, bv, sv⟩).b, .string (clean ⟨kv, iv, bv, sv⟩).s] W
      rw [decide_eq_true rfl] at hq0
      generalize clean ⟨kv, iv, bv, sv⟩ = u at *
      obtain ⟨ku, iu, bu, su⟩ := u
      obtain ⟨f0, f1, f2, f3⟩ := HX.out.2.2.zero
      simp only [] at e0 e1 e2 e3 f0 f1 f2 f3 hp hq0 hg0
      have HP := Lib.hid hp; clear hp
      have hl9' := hl9
      have hlb : w.heap.size < wz.heap.size := hB0
      have hcap8 := (own_len HD.out.own1).2.1
      have hu5 : (((acc'.length + 1) : Nat) : Int) ≤ (c8 : Int) := by omega
      have hu1 : (0 : Int) ≤ (((acc'.length + 1) : Nat) : Int) := by omega
      have hu3 : IntKind.i64.wrap ((((acc'.length + 1) : Nat) : Int) + 1) = (((acc'.length + 1) : Nat) : Int) + 1 := IntWalk.i64_in _ (by omega)
      have hu4 : (((((acc'.length + 1) : Nat) : Int) + 1) == ((((acc'.length + 1) : Nat) : Int) + 1)) = true := by simp
      have hu2 : ((((acc'.length + 1) : Nat)) : Int) < ((((acc'.length + 1) : Nat)) : Int) + 1 := by omega
      (try simp only [Int.natCast_add, Int.cast_ofNat_Int] at hu1 hu2 hu3 hu4 hu5)
      go_region_held3 (fun w' => w'.cell? ⟨b8, o8 + (acc'.length + 1), none⟩ = some (.int .i64 1) ∧ (w'.cell? ⟨b9, o9 + (acc'.length + 1) * 4, none⟩ = some (.int .i64 ku) ∧ w'.cell? ⟨b9, o9 + (acc'.length + 1) * 4 + 1, none⟩ = some (.int .i64 iu) ∧ w'.cell? ⟨b9, o9 + (acc'.length + 1) * 4 + 2, none⟩ = some (.bool bu) ∧ w'.cell? ⟨b9, o9 + (acc'.length + 1) * 4 + 3, none⟩ = some (.string su)) ∧
          (w'.cell? ⟨w.heap.size, 0, none⟩ = some (.int .i64 kv) ∧ w'.cell? ⟨w.heap.size, 1, none⟩ = some (.int .i64 iv) ∧ w'.cell? ⟨w.heap.size, 2, none⟩ = some (.bool bv) ∧ w'.cell? ⟨w.heap.size, 3, none⟩ = some (.string sv)))
        (first | go_keep | exact ⟨(hbK.cell (p := ⟨b8, o8 + (acc'.length + 1), none⟩) hl8).trans HX.out.1, HX.out.2.1.drew.below hbK hl9, (HX.out.2.2.drew.below hbK hlb).zero⟩ | exact ⟨(hbS.cell (p := ⟨b8, o8 + (acc'.length + 1), none⟩) (Nat.lt_of_lt_of_le hl8 hbK.size)).trans ((hbK.cell (p := ⟨b8, o8 + (acc'.length + 1), none⟩) hl8).trans HX.out.1), (HX.out.2.1.drew.below hbK hl9).below hbS (Nat.lt_of_lt_of_le hl9 hbK.size), ((HX.out.2.2.drew.below hbK hlb).below hbS (Nat.lt_of_lt_of_le hlb hbK.size)).zero⟩)
        ((first
          | (go_at_call 71; with_reducible refine (HP.out _).mono ?_; rintro e wK ⟨rfl, hbK⟩)
          | (go_at_call 64; refine ((sameInts_any _ _ (acc'.length + 1) (acc'.length + 1) _ _ _ _ _ (ISl.below (w := wz.drew) HI8.out.1 hbK) (ISl.below (w := wz.drew) HI8.out.2 hbK) (by unfold maxLen; omega)).mono (fun _ _ h => true_of (decide_eq_true rfl) h)).mono ?_; rintro e wS ⟨rfl, hbS⟩)))
      go_wp2
      go_ret
      exact ⟨rfl, bthen (bthen HBT.out.drew hbK (Nat.le_refl _)) hbS (Nat.le_refl _)⟩
end Go.Proofs.Ytkkpcdpoldjmkaa.Runs
