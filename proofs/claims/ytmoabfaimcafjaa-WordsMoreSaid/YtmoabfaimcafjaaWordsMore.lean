/-
  THE WALK of boathouselaw8.WordsMore.
-/
import Derived.Test.YtmoabfaimcafjaaWordsBack
namespace Go.Proofs.Ytmoabfaimcafjaa.Words
open Go.RowKit ValMath Vals Sl Mem

theorem more_at (vs : List Val) (v : Val) : (build (vs ++ [v])).2 = (build vs).2 ++ [place (build vs).1 (clean v)] := by rw [build_snoc]; rfl
theorem more_take (vs : List Val) (v : Val) : (build (vs ++ [v])).1.take (build vs).1.length = (build vs).1 := by
  obtain ⟨r, hr⟩ := addW_prefix (build vs) v
  rw [build_snoc, hr, List.take_left]
theorem more_le (vs : List Val) (v : Val) : (build vs).1.length ≤ (build (vs ++ [v])).1.length := by
  obtain ⟨r, hr⟩ := addW_prefix (build vs) v
  rw [build_snoc, hr, List.length_append]; omega
theorem more_word (vs : List Val) (v : Val) : (build (vs ++ [v])).1[place (build vs).1 (clean v)]? = some (clean v) := by
  rw [build_snoc]; exact addW_word _ v
theorem more_lt (vs : List Val) (v : Val) : place (build vs).1 (clean v) < (build (vs ++ [v])).1.length := by
  have h := more_word vs v
  rcases Nat.lt_or_ge (place (build vs).1 (clean v)) (build (vs ++ [v])).1.length with h2 | h2
  · exact h2
  · rw [List.getElem?_eq_none h2] at h; cases h
theorem more_known (vs : List Val) (v : Val) : (build (vs ++ [v])).1.length = (build vs).1.length ↔ clean v ∈ (build vs).1 := by
  rw [build_snoc]
  by_cases h : clean v ∈ (build vs).1
  · rw [add_known h]; simp [h]
  · rw [add_new h]; simp [h]
theorem more_look (vs : List Val) (v : Val) : lookVals (build (vs ++ [v])).1 [(place (build vs).1 (clean v) : Int)] = [clean v] ∧ lookCode (build (vs ++ [v])).1 [(place (build vs).1 (clean v) : Int)] = 0 := by
  have h := look_all (ws := (build (vs ++ [v])).1) (ks := [(place (build vs).1 (clean v) : Int)]) (by rw [map_clean_id (build_ws_clean _)]; exact build_nodup _) (fun a ha => by simp at ha; subst ha; have := more_lt vs v; omega)
  refine ⟨h.1.trans ?_, h.2⟩
  simp only [List.map_cons, List.map_nil]
  unfold lookAt
  rw [Int.toNat_natCast, List.getD_eq_getElem?_getD, more_word]
  simp [clean_clean]

set_option maxRecDepth 20000 in
set_option maxHeartbeats 8000000 in
theorem wordsMore_any (A0 : Option Addr) (n0 c0 : Nat) (vs : List Val) (v : Val) (w : World) (h0 : VArg w A0 n0 c0 vs) (hv : Fine v) :
    Calls Try.prog 7 #[.slice A0 n0 c0, vagg v] w fun e w' => e = .returned (.bool true) ∧ Below w.heap.size w w' := by
  have b0 := h0.le; have b0' := h0.cap
  have hvl := h0.sl.1
  obtain ⟨m, hm⟩ : ∃ m, (build vs).1.length = m := ⟨_, rfl⟩
  obtain ⟨m2, hm2⟩ : ∃ m2, (build (vs ++ [v])).1.length = m2 := ⟨_, rfl⟩
  obtain ⟨p, hp⟩ : ∃ p, place (build vs).1 (clean v) = p := ⟨_, rfl⟩
  have hmn : m ≤ n0 := by have := build_ws_length vs; omega
  have hmm2 : m ≤ m2 := by have := more_le vs v; omega
  have hm2n : m2 ≤ n0 + 1 := by have := build_ws_length (vs ++ [v]); rw [List.length_append, hvl] at this; simp at this; omega
  have hpm2 : p < m2 := by have := more_lt vs v; omega
  have hal := build_at_length vs
  rw [hvl] at hal
  have hfa : ∀ x ∈ vs ++ [v], Fine x := fun x hx => by rw [List.mem_append] at hx; rcases hx with hx | hx; exact h0.fine x hx; (simp at hx; subst hx; exact hv)
  have hfw : ∀ x ∈ (build (vs ++ [v])).1, Fine x := fun u hu => by
    obtain ⟨x, hx, e⟩ := (build_ws_mem (vs ++ [v]) u).1 hu
    rw [← e]; exact fine_clean (hfa x hx)
  have hfw0 : ∀ x ∈ (build vs).1, x.s.size ≤ maxLen := fun u hu => by
    obtain ⟨x, hx, e⟩ := (build_ws_mem vs u).1 hu
    rw [← e]; exact Nat.le_trans (fine_clean (h0.fine x hx)).s (by unfold maxLen; omega)
  have hvs : v.s.size ≤ maxLen := Nat.le_trans hv.s (by unfold maxLen; omega)
  have hat := more_at vs v
  have htk := more_take vs v
  have hkn := more_known vs v
  have hlk := more_look vs v
  have hcl := build_ws_clean vs
  rw [hp] at hat hlk
  rw [hm, hm2] at hkn
  rw [hm] at htk
  have H0 := Lib.hid (h0.below (Vals.one_new (.cells #[.int .i64 v.k, .int .i64 v.i, .bool v.b, .string v.s] 38))); clear h0
  have HM := Lib.hid (And.intro hm (And.intro hm2 (And.intro hvl hal))); clear hm hm2 hvl hal
  have HF := Lib.hid (And.intro hfa (And.intro hfw (And.intro hfw0 hvs))); clear hfa hfw hfw0 hvs hv
  have HX := Lib.hid (And.intro hat (And.intro htk (And.intro hkn (And.intro hlk hcl)))); clear hat htk hkn hlk hcl hp
  have hbx := At4.new w w.heap.size rfl v 38
  have HBX := Lib.hid hbx; clear hbx
  have hbt := Vals.one_new (w := w) (.cells #[.int .i64 v.k, .int .i64 v.i, .bool v.b, .string v.s] 38)
  have HBT := Lib.hid hbt; clear hbt
  have hB0 : w.heap.size < (w.alloc (.cells #[.int .i64 v.k, .int .i64 v.i, .bool v.b, .string v.s] 38)).heap.size := by simp
  go_enter Try.func7, Try.ntmps7
  go_wp2_with fail
  refine (awake_any _).mono ?_
  rintro e w1 ⟨rfl, hb1⟩
  (try replace H0 := Lib.hid (H0.out.below hb1))
  (try replace H1 := Lib.hid (H1.out.below hb1))
  (try replace H2 := Lib.hid (H2.out.below hb1))
  (try replace H7 := Lib.hid (H7.out.below hb1))
  (try replace H8 := Lib.hid (H8.out.below hb1))
  (try replace H9 := Lib.hid (H9.out.below hb1))
  (try replace HA := Lib.hid (HA.out.below hb1))
  (try replace HC := Lib.hid (HC.out.below hb1))
  (try replace HE := Lib.hid (HE.out.below hb1))
  (try replace HG := Lib.hid (HG.out.below hb1))
  (try replace HBT := Lib.hid (bthen HBT.out hb1 (Nat.le_refl _)))
  replace HBX := Lib.hid (HBX.out.below hb1 hB0)
  replace hB0 := Nat.lt_of_lt_of_le hB0 hb1.size
  clear hb1
  go_wp2_with fail
  refine (build_got _ n0 _ vs _ H0.out.sl (by omega) H0.out.fine m HM.out.1).mono ?_
  rintro e w2 ⟨A5, c5, A6, c6, rfl, hA, hb2⟩
  (try replace H0 := Lib.hid (H0.out.below hb2))
  (try replace H1 := Lib.hid (H1.out.below hb2))
  (try replace H2 := Lib.hid (H2.out.below hb2))
  (try replace H7 := Lib.hid (H7.out.below hb2))
  (try replace H8 := Lib.hid (H8.out.below hb2))
  (try replace H9 := Lib.hid (H9.out.below hb2))
  (try replace HA := Lib.hid (HA.out.below hb2))
  (try replace HC := Lib.hid (HC.out.below hb2))
  (try replace HE := Lib.hid (HE.out.below hb2))
  (try replace HG := Lib.hid (HG.out.below hb2))
  (try replace HBT := Lib.hid (bthen HBT.out hb2 (Nat.le_refl _)))
  replace HBX := Lib.hid (HBX.out.below hb2 hB0)
  replace hB0 := Nat.lt_of_lt_of_le hB0 hb2.size
  have HA := Lib.hid hA; clear hA hb2
  have hown0 : OwnV (w2.alloc (.cells #[] 38)) w2.heap.size (.slice (some ⟨w2.heap.size, 0, none⟩) 0 0) [] := made0 w2 38 4
  have HO0 := Lib.hid hown0; clear hown0
  have HN := Lib.hid H0.out.nil
  go_wp2_with (first
    | (refine wpList_pushes_val rfl _ _ rfl w2.heap.size (.slice (some ⟨w2.heap.size, 0, none⟩) 0 0) [] vs A0 n0 c0 rfl rfl (H0.out.sl.alloc _) HN.out HO0.out (by rw [HM.out.2.2.1]; unfold few; simp; omega) (by simp) ?_; intro u3 w3 hA3 hgA3 hatA3 hnA3; obtain ⟨g3, k3, rfl⟩ := own_lit hA3 (m := n0) (by simp [HM.out.2.2.1]) (fun e => by cases (hnA3.1 e).1); have hb3 := (Vals.one_new (.cells #[] 38)).grown hgA3 (by simp) (fun j hj => by simp only [Value.ownBlock, Option.some.injEq] at hj; omega); have hBX3 := HBX.out.below hb3 hB0; have hB03 := Nat.lt_of_lt_of_le hB0 hb3.size; obtain ⟨f0, f1, f2, f3⟩ := hBX3.zero; have HA3 := Lib.hid hA3; have HBX3 := Lib.hid hBX3; clear hA3 hgA3 hatA3 hnA3 hBX3)
    | (refine wpList_push_val rfl _ _ rfl w2.heap.size (.slice (some ⟨g3, 0, none⟩) n0 k3) vs v w3.heap.size 1 rfl rfl (t := 38) (fr := (0, 0)) (heap_alloc_new w3 _) (HA3.out.alloc _) (by rw [HM.out.2.2.1]; unfold few; omega) (by have := hb3.size; simp; omega) ?_; intro u4 w4 hA4 hgA4 hatA4; obtain ⟨A4, c4, rfl, _⟩ := hA4.form' (n := n0 + 1) (by simp [HM.out.2.2.1]); have hb4 := (hb3.alloc hb3.size _).grown hgA4 (by have := hb3.size; simp; omega) (fun j hj => by simp only [Value.ownBlock, Option.some.injEq] at hj; have := (own_base_of HA3.out).1; omega); have HA4 := Lib.hid hA4; clear hA4 hgA4 hatA4 f0 f1 f2 f3))
  refine (build_got _ (n0 + 1) _ (vs ++ [v]) _ (HA4.out.sl (by simp [HM.out.2.2.1])) (by omega) HF.out.1 m2 HM.out.2.1).mono ?_
  rintro e wz ⟨A8, c8, A9, c9, rfl, hD, hb5⟩
  have hbz := bthen hb4 hb5 (Nat.le_refl _)
  replace HA := Lib.hid (HA.out.below hbz)
  replace HBX := Lib.hid (HBX.out.below hbz hB0)
  replace HBT := Lib.hid (bthen HBT.out hbz (Nat.le_refl _))
  replace hB0 := Nat.lt_of_lt_of_le hB0 hbz.size
  have HD := Lib.hid hD; clear hD hb3 hb4 hb5 hbz HA3 HBX3 hB03 HA4 HO0 HN H0
  have hc8 := (own_len HD.out.own1).2.1
  have hc9 := (own_len HD.out.own2).2.1
  have hdA : decide ((m2 : Int) < (m : Int)) = false := decide_eq_false (by omega)
  have hdA' : decide (m2 < m) = false := decide_eq_false (by omega)
  go_wp2_with fail
  have hs9 : ISl wz A9 n0 (iat (build vs).2) := by
    have h := HD.out.sl2.take (m := n0) (by omega)
    rw [HX.out.1] at h
    have e : (iat ((build vs).2 ++ [p])).take n0 = iat (build vs).2 := by
      rw [iat_snoc, List.take_append_of_le_length (by rw [iat_length, HM.out.2.2.2]; exact Nat.le_refl _), List.take_of_length_le (by rw [iat_length, HM.out.2.2.2]; exact Nat.le_refl _)]
    rwa [e] at h
  refine ((sameInts_any _ _ n0 n0 _ _ _ _ _ hs9 HA.out.sl2 (by unfold maxLen; omega)).mono (fun _ _ h => true_of (decide_eq_true rfl) h)).mono ?_
  clear hs9
  rintro e w6 ⟨rfl, hb6⟩
  (try replace H0 := Lib.hid (H0.out.below hb6))
  (try replace H1 := Lib.hid (H1.out.below hb6))
  (try replace H2 := Lib.hid (H2.out.below hb6))
  (try replace H7 := Lib.hid (H7.out.below hb6))
  (try replace H8 := Lib.hid (H8.out.below hb6))
  (try replace H9 := Lib.hid (H9.out.below hb6))
  (try replace HA := Lib.hid (HA.out.below hb6))
  (try replace HC := Lib.hid (HC.out.below hb6))
  (try replace HE := Lib.hid (HE.out.below hb6))
  (try replace HG := Lib.hid (HG.out.below hb6))
  (try replace HBT := Lib.hid (bthen HBT.out hb6 (Nat.le_refl _)))
  replace HD := Lib.hid (HD.out.below hb6)
  replace HBX := Lib.hid (HBX.out.below hb6 hB0)
  replace hB0 := Nat.lt_of_lt_of_le hB0 hb6.size
  clear hb6
  go_wp2_with fail
  have hs8 : VSl w6 A8 m (build vs).1 := by
    have h := HD.out.sl1.take (m := m) (by omega)
    rwa [HX.out.2.1] at h
  refine ((sameValues_any _ _ m m _ _ _ _ _ hs8 HA.out.sl1 (by unfold maxLen; omega)).mono (fun _ _ h => true_of (decide_eq_true rfl) h)).mono ?_
  clear hs8
  rintro e w7 ⟨rfl, hb7⟩
  (try replace H0 := Lib.hid (H0.out.below hb7))
  (try replace H1 := Lib.hid (H1.out.below hb7))
  (try replace H2 := Lib.hid (H2.out.below hb7))
  (try replace H7 := Lib.hid (H7.out.below hb7))
  (try replace H8 := Lib.hid (H8.out.below hb7))
  (try replace H9 := Lib.hid (H9.out.below hb7))
  (try replace HA := Lib.hid (HA.out.below hb7))
  (try replace HC := Lib.hid (HC.out.below hb7))
  (try replace HE := Lib.hid (HE.out.below hb7))
  (try replace HG := Lib.hid (HG.out.below hb7))
  (try replace HBT := Lib.hid (bthen HBT.out hb7 (Nat.le_refl _)))
  replace HD := Lib.hid (HD.out.below hb7)
  replace HBX := Lib.hid (HBX.out.below hb7 hB0)
  replace hB0 := Nat.lt_of_lt_of_le hB0 hb7.size
  clear hb7
  obtain ⟨b9, o9, x9, hx9, rfl, hl9, d9⟩ := HD.out.sl2.at_ (k := n0) (by omega)
  obtain rfl : x9 = (p : Int) := by
    rw [HX.out.1, iat_snoc, List.getElem?_append_right (by rw [iat_length, HM.out.2.2.2]; exact Nat.le_refl _), iat_length, HM.out.2.2.2, Nat.sub_self] at hx9
    simpa using hx9.symm
  clear hx9
  go_wp2
  obtain ⟨wo, rfl⟩ : ∃ wo : World, wo = w7 := ⟨_, rfl⟩
  clear d9 hl9
  go_loopw [11, 12] (fun s i wr => ∃ k : Nat, k ≤ m ∧ i = .int .i64 k ∧ (∃ kb, decide (clean v ∈ (build vs).1.take k) = kb ∧ s = .bool kb) ∧ Below wo.heap.size wo wr) (fun _ i _ => m - (intOf i).toNat)
  case atStart => exact ⟨0, Nat.zero_le _, rfl, ⟨false, by simp, rfl⟩, Below.refl _ _⟩
  case round =>
    obtain ⟨k, hk, rfl, ⟨kb, hkb, rfl⟩, hb⟩ := hrel
    by_cases hlt : k < m
    · obtain ⟨b5, o5, x, hx1, rfl, hl5, d0, d1, d2, d3⟩ := (HA.out.below hb).sl1.at_ hlt
      have hts := take_more hx1
      have hxm : x ∈ (build vs).1 := List.mem_of_getElem? hx1
      have hbx := HBX.out.below hb hB0
      have hl0 : w.heap.size < wr.heap.size := Nat.lt_of_lt_of_le hB0 hb.size
      obtain ⟨f0, f1, f2, f3⟩ := hbx.zero
      have hi1 : (0 : Int) ≤ (k : Int) := by omega
      have hi2 : (k : Int) < (m : Int) := by omega
      cases kb
      case true =>
        have hnx : decide (clean v ∈ (build vs).1.take (k + 1)) = true := by
          rw [hts]; have := of_decide_eq_true hkb; simp [this]
        have HNX := Lib.hid hnx; clear hnx hts hxm hx1 hkb hbx
        obtain ⟨kv, iv, bv, sv⟩ := v
        obtain ⟨kx, ix, bx, sx⟩ := x
        simp only [] at d0 d1 d2 d3 f0 f1 f2 f3
        go_wp2
        go_quiet (fail)
        have hb2 := below_drewN hb nq
        go_wp2
        go_roundw
        case rel => exact ⟨k + 1, by omega, by go_num, ⟨true, HNX.out, rfl⟩, hb2⟩
        case measure => simp [intOf]; omega
      case false =>
        have hxc := HX.out.2.2.2.2 x hxm
        have hK := fun w => cmp_any x v w (HF.out.2.2.1 x hxm) HF.out.2.2.2
        have hcz := cmp_zero x v
        rw [hxc] at hcz
        have hnx : decide (clean v ∈ (build vs).1.take (k + 1)) = decide (cmp x v = 0) := by
          rw [hts]
          have h1 := of_decide_eq_false hkb
          by_cases h2 : cmp x v = 0
          · have h3 := hcz.1 h2
            rw [decide_eq_true h2]; simp [h3]
          · have h3 : ¬ x = clean v := fun e => h2 (hcz.2 e)
            rw [decide_eq_false h2]
            refine decide_eq_false fun h4 => ?_
            rw [List.mem_append] at h4
            rcases h4 with h4 | h4
            · exact h1 h4
            · simp at h4; exact h3 h4.symm
        have HNX := Lib.hid hnx
        have hx4 : At4 wr b5 (o5 + k * 4) x := ⟨d0, d1, d2, d3⟩
        have HX4 := Lib.hid (And.intro hx4 hbx); clear hx4
        clear hnx hts hxm hx1 hkb hbx hxc hcz
        obtain ⟨kv, iv, bv, sv⟩ := v
        obtain ⟨kx, ix, bx, sx⟩ := x
        simp only [] at d0 d1 d2 d3 f0 f1 f2 f3 hK
        by_cases hr : cmp ⟨kx, ix, bx, sx⟩ ⟨kv, iv, bv, sv⟩ = 0
        · rw [decide_eq_true hr] at HNX
          rw [hr] at hK
          have HK := Lib.hid hK; clear hK hr
          go_wp2
          go_region_held3 (fun w' => (w'.cell? ⟨b5, o5 + k * 4, none⟩ = some (.int .i64 kx) ∧ w'.cell? ⟨b5, o5 + k * 4 + 1, none⟩ = some (.int .i64 ix) ∧ w'.cell? ⟨b5, o5 + k * 4 + 2, none⟩ = some (.bool bx) ∧ w'.cell? ⟨b5, o5 + k * 4 + 3, none⟩ = some (.string sx)) ∧
              (w'.cell? ⟨w.heap.size, 0, none⟩ = some (.int .i64 kv) ∧ w'.cell? ⟨w.heap.size, 1, none⟩ = some (.int .i64 iv) ∧ w'.cell? ⟨w.heap.size, 2, none⟩ = some (.bool bv) ∧ w'.cell? ⟨w.heap.size, 3, none⟩ = some (.string sv)))
            (first | go_keep | exact ⟨HX4.out.1.drew.below hbK hl5, (HX4.out.2.drew.below hbK hl0).zero⟩)
            ((first | (go_at_call 38; with_reducible refine (HK.out _).mono ?_; rintro e wK ⟨rfl, hbK⟩)))
          have hb2 := bthen hb.drew hbK (Nat.le_refl _)
          go_wp2
          go_roundw
          case rel => exact ⟨k + 1, by omega, by go_num, ⟨true, HNX.out, rfl⟩, hb2⟩
          case measure => simp [intOf]; omega
        · rw [decide_eq_false hr] at HNX
          generalize cmp ⟨kx, ix, bx, sx⟩ ⟨kv, iv, bv, sv⟩ = r at hr hK
          have hr : (r == 0) = false := by simpa using hr
          have HK := Lib.hid hK; clear hK
          go_wp2
          go_region_held3 (fun w' => (w'.cell? ⟨b5, o5 + k * 4, none⟩ = some (.int .i64 kx) ∧ w'.cell? ⟨b5, o5 + k * 4 + 1, none⟩ = some (.int .i64 ix) ∧ w'.cell? ⟨b5, o5 + k * 4 + 2, none⟩ = some (.bool bx) ∧ w'.cell? ⟨b5, o5 + k * 4 + 3, none⟩ = some (.string sx)) ∧
              (w'.cell? ⟨w.heap.size, 0, none⟩ = some (.int .i64 kv) ∧ w'.cell? ⟨w.heap.size, 1, none⟩ = some (.int .i64 iv) ∧ w'.cell? ⟨w.heap.size, 2, none⟩ = some (.bool bv) ∧ w'.cell? ⟨w.heap.size, 3, none⟩ = some (.string sv)))
            (first | go_keep | exact ⟨HX4.out.1.drew.below hbK hl5, (HX4.out.2.drew.below hbK hl0).zero⟩)
            ((first | (go_at_call 38; with_reducible refine (HK.out _).mono ?_; rintro e wK ⟨rfl, hbK⟩)))
          have hb2 := bthen hb.drew hbK (Nat.le_refl _)
          go_wp2
          go_roundw
          case rel => exact ⟨k + 1, by omega, by go_num, ⟨false, HNX.out, rfl⟩, hb2⟩
          case measure => simp [intOf]; omega
    · obtain rfl : k = m := by omega
      have hkn : decide (m2 = k) = kb := by
        rw [← hkb, List.take_of_length_le (by rw [HM.out.1]; exact Nat.le_refl _)]
        exact decide_eq_decide.2 HX.out.2.2.1
      (try replace H0 := Lib.hid (H0.out.below hb))
      (try replace H1 := Lib.hid (H1.out.below hb))
      (try replace H2 := Lib.hid (H2.out.below hb))
      (try replace H7 := Lib.hid (H7.out.below hb))
      (try replace H8 := Lib.hid (H8.out.below hb))
      (try replace H9 := Lib.hid (H9.out.below hb))
      (try replace HA := Lib.hid (HA.out.below hb))
      (try replace HC := Lib.hid (HC.out.below hb))
      (try replace HE := Lib.hid (HE.out.below hb))
      (try replace HG := Lib.hid (HG.out.below hb))
      (try replace HBT := Lib.hid (bthen HBT.out hb (Nat.le_refl _)))
      replace HD := Lib.hid (HD.out.below hb)
      replace HBX := Lib.hid (HBX.out.below hb hB0)
      replace hB0 := Nat.lt_of_lt_of_le hB0 hb.size
      clear hkb hb
      go_wp2_with fail
      have ho := Vals.one_new (w := wr) (.cells #[.int .i64 (p : Int)] 3)
      (try replace H0 := Lib.hid (H0.out.below ho))
      (try replace H1 := Lib.hid (H1.out.below ho))
      (try replace H2 := Lib.hid (H2.out.below ho))
      (try replace H7 := Lib.hid (H7.out.below ho))
      (try replace H8 := Lib.hid (H8.out.below ho))
      (try replace H9 := Lib.hid (H9.out.below ho))
      (try replace HA := Lib.hid (HA.out.below ho))
      (try replace HC := Lib.hid (HC.out.below ho))
      (try replace HE := Lib.hid (HE.out.below ho))
      (try replace HG := Lib.hid (HG.out.below ho))
      (try replace HBT := Lib.hid (bthen HBT.out ho (Nat.le_refl _)))
      replace HD := Lib.hid (HD.out.below ho)
      replace HBX := Lib.hid (HBX.out.below ho hB0)
      replace hB0 := Nat.lt_of_lt_of_le hB0 ho.size
      clear ho
      refine (look_got _ _ m2 1 _ _ _ [(p : Int)] _ HD.out.sl1 (ISl.at_new _ _ (by simp) [(p : Int)] _ _ rfl) (by omega) (by omega) HF.out.2.1 1 (by rw [HX.out.2.2.2.1.1]; rfl) 0 HX.out.2.2.2.1.2).mono ?_
      rintro e w9 ⟨A10, c10, rfl, hG, hb9⟩
      rw [HX.out.2.2.2.1.1] at hG
      (try replace H0 := Lib.hid (H0.out.below hb9))
      (try replace H1 := Lib.hid (H1.out.below hb9))
      (try replace H2 := Lib.hid (H2.out.below hb9))
      (try replace H7 := Lib.hid (H7.out.below hb9))
      (try replace H8 := Lib.hid (H8.out.below hb9))
      (try replace H9 := Lib.hid (H9.out.below hb9))
      (try replace HA := Lib.hid (HA.out.below hb9))
      (try replace HC := Lib.hid (HC.out.below hb9))
      (try replace HE := Lib.hid (HE.out.below hb9))
      (try replace HG := Lib.hid (HG.out.below hb9))
      (try replace HBT := Lib.hid (bthen HBT.out hb9 (Nat.le_refl _)))
      replace HD := Lib.hid (HD.out.below hb9)
      replace HBX := Lib.hid (HBX.out.below hb9 hB0)
      replace hB0 := Nat.lt_of_lt_of_le hB0 hb9.size
      clear hb9
      obtain ⟨b10, o10, x, hx1, rfl, hl10, d0, d1, d2, d3⟩ := hG.sl.at_ (k := 0) (by omega)
      obtain rfl : x = clean v := by simpa using hx1.symm
      simp only [Nat.zero_mul, Nat.add_zero] at d0 d1 d2 d3
      have hx4 : At4 w9 b10 o10 (clean v) := ⟨d0, d1, d2, d3⟩
      have HX4 := Lib.hid (And.intro hx4 HBX.out); clear hx4 hx1 hG
      obtain ⟨f0, f1, f2, f3⟩ := HBX.out.zero
      have hp := clean_any v
      have hq0 := eql_val (clean v) (clean v)
      have hg0 := fun x y (W : World) => guard_val .eql x y #[.int .i64 (clean v).k, .int .i64 (clean v).i, .bool (clean v).b, .string (clean v).s] #[.int .i64 (clean v).k, .int .i64 (clean v).i, .bool (clean v).b, .string (clean v).s] W
      rw [decide_eq_true rfl] at hq0
      clear HX HF HD HA
      generalize clean v = u at *
      obtain ⟨kv, iv, bv, sv⟩ := v
      obtain ⟨ku, iu, bu, su⟩ := u
      simp only [] at d0 d1 d2 d3 f0 f1 f2 f3 hp hq0 hg0
      have HP := Lib.hid hp; clear hp
      have he1 : ((m2 : Int) == (k : Int)) = kb := by
        rw [← hkn]
        by_cases h : m2 = k
        · simp [h]
        · rw [decide_eq_false h]; simp; omega
      have he2 : (m2 == k) = kb := by
        rw [← hkn]
        by_cases h : m2 = k
        · simp [h]
        · rw [decide_eq_false h]; simpa using h
      have hd2 : decide ((p : Int) < (m2 : Int)) = true := decide_eq_true (by omega)
      clear hkn
      go_wp2
      go_region_held3 (fun w' => (w'.cell? ⟨b10, o10, none⟩ = some (.int .i64 ku) ∧ w'.cell? ⟨b10, o10 + 1, none⟩ = some (.int .i64 iu) ∧ w'.cell? ⟨b10, o10 + 2, none⟩ = some (.bool bu) ∧ w'.cell? ⟨b10, o10 + 3, none⟩ = some (.string su)) ∧
          (w'.cell? ⟨w.heap.size, 0, none⟩ = some (.int .i64 kv) ∧ w'.cell? ⟨w.heap.size, 1, none⟩ = some (.int .i64 iv) ∧ w'.cell? ⟨w.heap.size, 2, none⟩ = some (.bool bv) ∧ w'.cell? ⟨w.heap.size, 3, none⟩ = some (.string sv)))
        (first | go_keep | exact ⟨HX4.out.1.drew.below hbK hl10, (HX4.out.2.drew.below hbK hB0).zero⟩)
        ((first
          | (go_at_call 16; refine (Nums.num_any _ _).mono ?_; rintro e w' ⟨rfl, rfl⟩)
          | (go_at_call 35; with_reducible refine (HP.out _).mono ?_; rintro e wK ⟨rfl, hbK⟩)))
      go_wp2
      go_ret
      exact ⟨rfl, bthen HBT.out.drew hbK (Nat.le_refl _)⟩
end Go.Proofs.Ytmoabfaimcafjaa.Words
