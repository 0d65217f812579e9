/-
  THE WALKS of boathouselaw7.RunsBack and RunsMore.
-/
import Derived.Test.YtkkpcdpoldjmkaaRunsAll
namespace Go.Proofs.Ytkkpcdpoldjmkaa.Runs
open Go.RowKit ValMath Vals Sl Mem

theorem sum_take_le (l : List Int) (h : ∀ x ∈ l, 0 ≤ x) (k : Nat) : 0 ≤ (l.take k).sum ∧ (l.take k).sum ≤ l.sum := by
  induction l generalizing k with
  | nil => simp
  | cons a l ih =>
    have ha := h a (by simp)
    cases k with
    | zero =>
      have := (ih (fun x hx => h x (by simp [hx])) 0).2
      simp at this ⊢; omega
    | succ k =>
      have := ih (fun x hx => h x (by simp [hx])) k
      simp only [List.take_succ_cons, List.sum_cons]; omega
theorem sum_take_succ (l : List Int) (k : Nat) (x : Int) (h : l[k]? = some x) : (l.take (k + 1)).sum = (l.take k).sum + x := by
  rw [take_more h, List.sum_append]; simp
theorem counts_sum (vs : List Val) : (counts (cut vs)).sum = (vs.length : Int) := cmany_sum vs
theorem counts_pos (vs : List Val) : ∀ x ∈ counts (cut vs), 0 ≤ x := by
  intro x hx; simp only [counts, List.mem_map] at hx; obtain ⟨p, _, rfl⟩ := hx; omega
theorem back_vals (vs : List Val) (h : vs.length ≤ 4096) : joinVals (counts (cut vs)) (vals (cut vs)) = vs.map clean ∧ joinCode (counts (cut vs)) (vals (cut vs)) = 0 := join_good (join_cut vs h)
theorem back_long (vs : List Val) (h : 4096 < vs.length) : joinVals (counts (cut vs)) (vals (cut vs)) = [] ∧ joinCode (counts (cut vs)) (vals (cut vs)) = 700 := join_bad (join_cut_long vs h)

set_option maxRecDepth 20000 in
set_option maxHeartbeats 4000000 in
theorem runsBack_any (A0 : Option Addr) (n0 c0 : Nat) (vs : List Val) (w : World) (h0 : VArg w A0 n0 c0 vs) :
    Calls Try.prog 8 #[.slice A0 n0 c0] w fun e w' => e = .returned (.bool true) ∧ Below w.heap.size w w' := by
  have b0 := h0.le; have b0' := h0.cap
  obtain ⟨m, hm⟩ : ∃ m, (cut vs).length = m := ⟨_, rfl⟩
  have hvl := h0.sl.1
  have hmn : m ≤ n0 := by have := cut_length vs; omega
  obtain ⟨q, hq⟩ : ∃ q, (joinVals (counts (cut vs)) (vals (cut vs))).length = q := ⟨_, rfl⟩
  obtain ⟨cd, hcd⟩ : ∃ cd, joinCode (counts (cut vs)) (vals (cut vs)) = cd := ⟨_, rfl⟩
  have hqn : q ≤ 4096 := by
    rw [← hq]
    by_cases h : vs.length ≤ 4096
    · rw [(back_vals vs h).1]; simpa using h
    · rw [(back_long vs (by omega)).1]; simp
  have hsum := counts_sum vs
  have hcl1 : (counts (cut vs)).length = m := by rw [counts_length, hm]
  have H0 := Lib.hid h0; clear h0
  have HM := Lib.hid hm; clear hm
  have HQ := Lib.hid hq; clear hq
  have HCD := Lib.hid hcd; clear hcd
  have HVL := Lib.hid (And.intro hvl (And.intro hsum hcl1)); clear hvl hsum hcl1
  have HBT := Lib.hid (Below.refl w.heap.size w)
  go_enter Try.func8, Try.ntmps8
  go_wp2_with fail
  refine (awake_any _).mono ?_
  rintro e w1 ⟨rfl, hb1⟩
  (try replace H0 := Lib.hid (H0.out.below hb1))
  (try replace H1 := Lib.hid (H1.out.below hb1))
  (try replace H2 := Lib.hid (H2.out.below hb1))
  (try replace H7 := Lib.hid (H7.out.below hb1))
  (try replace H8 := Lib.hid (H8.out.below hb1))
  (try replace H9 := Lib.hid (H9.out.below hb1))
  (try replace HA := Lib.hid (HA.out.below hb1))
  (try replace HC := Lib.hid (HC.out.below hb1))
  (try replace HE := Lib.hid (HE.out.below hb1))
  (try replace HG := Lib.hid (HG.out.below hb1))
  (try replace HBT := Lib.hid (bthen HBT.out hb1 (Nat.le_refl _)))
  clear hb1
  go_wp2_with fail
  refine (cut_got _ n0 _ vs _ H0.out.sl (by omega) m HM.out).mono ?_
  rintro e w2 ⟨A3, c3, A4, c4, rfl, hA, hb2⟩
  (try replace H0 := Lib.hid (H0.out.below hb2))
  (try replace H1 := Lib.hid (H1.out.below hb2))
  (try replace H2 := Lib.hid (H2.out.below hb2))
  (try replace H7 := Lib.hid (H7.out.below hb2))
  (try replace H8 := Lib.hid (H8.out.below hb2))
  (try replace H9 := Lib.hid (H9.out.below hb2))
  (try replace HA := Lib.hid (HA.out.below hb2))
  (try replace HC := Lib.hid (HC.out.below hb2))
  (try replace HE := Lib.hid (HE.out.below hb2))
  (try replace HG := Lib.hid (HG.out.below hb2))
  (try replace HBT := Lib.hid (bthen HBT.out hb2 (Nat.le_refl _)))
  have HA := Lib.hid hA; clear hA hb2
  go_wp2_with fail
  refine (join_got _ _ m m _ _ _ _ _ HA.out.sl1 HA.out.sl2 (by omega) (by omega) q HQ.out cd HCD.out).mono ?_
  rintro e w3 ⟨A5, c5, rfl, hE, hb3⟩
  (try replace H0 := Lib.hid (H0.out.below hb3))
  (try replace H1 := Lib.hid (H1.out.below hb3))
  (try replace H2 := Lib.hid (H2.out.below hb3))
  (try replace H7 := Lib.hid (H7.out.below hb3))
  (try replace H8 := Lib.hid (H8.out.below hb3))
  (try replace H9 := Lib.hid (H9.out.below hb3))
  (try replace HA := Lib.hid (HA.out.below hb3))
  (try replace HC := Lib.hid (HC.out.below hb3))
  (try replace HE := Lib.hid (HE.out.below hb3))
  (try replace HG := Lib.hid (HG.out.below hb3))
  (try replace HBT := Lib.hid (bthen HBT.out hb3 (Nat.le_refl _)))
  have HE := Lib.hid hE; clear hE hb3
  go_wp2
  go_loop [7, 8] (fun s i => ∃ k : Nat, k ≤ m ∧ i = .int .i64 k ∧ s = .int .i64 ((counts (cut vs)).take k).sum) (fun _ i => m - (intOf i).toNat)
  case atStart => exact ⟨0, Nat.zero_le _, rfl, rfl⟩
  case round =>
    obtain ⟨k, hk, rfl, rfl⟩ := hrel
    have hsk := sum_take_le (counts (cut vs)) (counts_pos vs) k
    rw [HVL.out.2.1, HVL.out.1] at hsk
    by_cases hlt : k < m
    · obtain ⟨b, o, x, hx, rfl, _, a0⟩ := HA.out.sl1.at_ hlt
      have hs1 := sum_take_le (counts (cut vs)) (counts_pos vs) (k + 1)
      rw [HVL.out.2.1, HVL.out.1, sum_take_succ _ _ _ hx] at hs1
      have hss := sum_take_succ _ _ _ hx
      have HSS := Lib.hid hss; clear hss hx
      generalize ((counts (cut vs)).take k).sum = y at hsk hs1 HSS
      go_wp2
      go_round
      case rel => exact ⟨k + 1, by omega, by go_num, by rw [HSS.out]⟩
      case measure => simp [intOf]; omega
    · have hke : ((counts (cut vs)).take k).sum = (n0 : Int) := by
        rw [List.take_of_length_le (by rw [HVL.out.2.2]; omega), HVL.out.2.1, HVL.out.1]
      rw [hke]
      clear hsk hke
      by_cases hlong : (4096 : Int) < (n0 : Int)
      · have hc := (back_long vs (by rw [HVL.out.1]; omega)).2
        rw [HCD.out] at hc
        subst hc
        have hd : decide ((4096 : Int) < (n0 : Int)) = true := decide_eq_true hlong
        go_wp2_with (go_at_call 56; refine (boathouseNames.num_any _ _).mono ?_; rintro e w' ⟨rfl, rfl⟩)
        go_ret
        exact ⟨rfl, HBT.out⟩
      · have hb := back_vals vs (by rw [HVL.out.1]; omega)
        rw [HCD.out] at hb
        have hc := hb.2
        subst hc
        have hqq : q = n0 := by rw [← HQ.out, hb.1, List.length_map, HVL.out.1]
        subst hqq
        have HBV := Lib.hid hb.1; clear hb
        have hd : decide ((4096 : Int) < (q : Int)) = false := decide_eq_false hlong
        go_wp2
        obtain ⟨wo, rfl⟩ : ∃ wo : World, wo = w3 := ⟨_, rfl⟩
        go_loopw [9, 10] (fun v9 i wr => ∃ k : Nat, k ≤ q ∧ i = .int .i64 k ∧ OwnV wr wo.heap.size v9 ((vs.map clean).take k) ∧ Below wo.heap.size wo wr) (fun _ i _ => q - (intOf i).toNat)
        case atStart => exact ⟨0, Nat.zero_le _, rfl, OwnV.nil _ _, Below.refl _ _⟩
        case round =>
          obtain ⟨k2, hk2, rfl, hO, hb⟩ := hrel
          have hl9 : ((vs.map clean).take k2).length = k2 := by rw [List.length_take, List.length_map, HVL.out.1]; omega
          obtain ⟨A9, c9, rfl, _⟩ := hO.form' hl9
          have HO := Lib.hid hO; clear hO
          have HL9 := Lib.hid hl9; clear hl9
          by_cases hlt2 : k2 < q
          · obtain ⟨b, o, v, hv1, rfl, hbl, a0, a1, a2, a3⟩ := H0.out.sl.at_ hlt2
            have hbc := (bcell hb).1
            have hp := clean_any v
            have hts : (vs.map clean).take (k2 + 1) = (vs.map clean).take k2 ++ [clean v] := take_more (by rw [List.getElem?_map, hv1]; rfl)
            generalize clean v = u at hp hts
            obtain ⟨kv, iv, bv, sv⟩ := v
            obtain ⟨ku, iu, bu, su⟩ := u
            simp only [] at a0 a1 a2 a3 hp
            have HP := Lib.hid hp; clear hp
            have HTS := Lib.hid hts; clear hts hv1
            go_wp2_with (first
              | (go_at_call 71; with_reducible refine (HP.out _).mono ?_; rintro e w5 ⟨rfl, hb5⟩; have hbB := bthen hb hb5 (Nat.le_refl _); have HO5 := Lib.hid (HO.out.below hb5); clear hbc)
              | (refine wpList_push_val rfl _ _ rfl wo.heap.size _ _ ⟨ku, iu, bu, su⟩ w5.heap.size 1 rfl rfl (t := 52) (fr := (0, 0)) (heap_alloc_new w5 _) (HO5.out.alloc _) (by rw [HL9.out]; unfold few; omega) (Below.size (hbB.alloc hbB.size _)) ?_; intro u6 wA hA hgA hatA; have hbA := (hbB.alloc hbB.size _).grown hgA (Below.size (hbB.alloc hbB.size _)) (own_base HO5.out); have HA2 := Lib.hid hA; clear hA hgA hatA))
            go_roundw
            case rel => exact ⟨k2 + 1, by omega, by go_num, by rw [HTS.out]; exact HA2.out, hbA⟩
            case measure => simp [intOf]; omega
          · have hkq : k2 = q := by omega
            subst hkq
            have hw : OwnV wr wo.heap.size (.slice A9 k2 c9) (vs.map clean) := by have := HO.out; rwa [List.take_of_length_le (by rw [List.length_map, HVL.out.1]; exact Nat.le_refl _)] at this
            have hs5 := (HE.out.below hb).sl
            rw [HBV.out] at hs5
            have HS := Lib.hid (And.intro hs5 (hw.sl (by rw [List.length_map, HVL.out.1]))); clear hs5 hw
            go_wp2_with (first
              | (go_at_call 56; refine (boathouseNames.num_any _ _).mono ?_; rintro e w' ⟨rfl, rfl⟩)
              | (go_at_call 65; refine ((sameValues_any _ _ k2 k2 _ _ _ _ _ HS.out.1 HS.out.2 (by unfold maxLen; omega)).mono (fun _ _ h => true_of (decide_eq_true rfl) h)).mono ?_; rintro e w7 ⟨rfl, hb7⟩))
            go_ret
            exact ⟨rfl, bthen (bthen HBT.out hb (Nat.le_refl _)) hb7 (Nat.le_refl _)⟩
end Go.Proofs.Ytkkpcdpoldjmkaa.Runs
