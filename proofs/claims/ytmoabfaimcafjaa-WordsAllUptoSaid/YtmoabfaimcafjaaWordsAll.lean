/-
  THE WALK of boathouselaw8.WordsAll, for lists of bounded length.
-/
import Derived.Test.YtmoabfaimcafjaaWordGot
namespace Go.Proofs.Ytmoabfaimcafjaa.Words
open Go.RowKit ValMath Vals Sl Mem

theorem lookVals_length (ws : List Val) (ks : List Int) : (lookVals ws ks).length ≤ ks.length := by
  unfold lookVals ValMath.look
  split <;> simp

set_option maxRecDepth 20000 in
set_option maxHeartbeats 4000000 in
theorem wordsAll_any (A0 : Option Addr) (n0 c0 : Nat) (vs : List Val) (A1 : Option Addr) (n1 c1 : Nat) (rs : List Val) (A2 : Option Addr) (n2 c2 : Nat) (ks : List Int) (w : World) (h0 : VArg w A0 n0 c0 vs) (_hn0 : n0 ≤ 1048576) (h1 : VArg w A1 n1 c1 rs) (hn1 : n1 ≤ 1048576) (h2 : IArg w A2 n2 c2 ks) (hn2 : n2 ≤ 1048576) :
    Calls Try.prog 4 #[.slice A0 n0 c0, .slice A1 n1 c1, .slice A2 n2 c2] w fun e w' => e = .returned (.bool true) ∧ Below w.heap.size w w' := by
  have b0 := h0.le; have b0' := h0.cap
  have b1 := h1.le; have b1' := h1.cap
  have b2 := h2.le; have b2' := h2.cap
  have hf0 := h0.fine
  have hf1 := h1.fine
  obtain ⟨m, hm⟩ : ∃ m, (build vs).1.length = m := ⟨_, rfl⟩
  have hmn : m ≤ n0 := by have := build_ws_length vs; rw [h0.sl.1] at this; omega
  obtain ⟨q, hq⟩ : ∃ q, (lookVals rs ks).length = q := ⟨_, rfl⟩
  have hqn : q ≤ n2 := by have := lookVals_length rs ks; rw [h2.sl.1] at this; omega
  obtain ⟨cd, hcd⟩ : ∃ cd, lookCode rs ks = cd := ⟨_, rfl⟩
  have H0 := Lib.hid h0; clear h0
  have H1 := Lib.hid h1; clear h1
  have H2 := Lib.hid h2; clear h2
  have HM := Lib.hid hm; clear hm
  have HQ := Lib.hid hq; clear hq
  have HCD := Lib.hid hcd; clear hcd
  have HS := Lib.hid (And.intro hf0 hf1); clear hf0 hf1
  have HBT := Lib.hid (Below.refl w.heap.size w)
  go_enter Try.func4, Try.ntmps4
  go_wp2_with fail
  refine (lendValues_any _ _ _ vs _ H0.out).mono ?_
  rintro e w1 ⟨g7, k7, rfl, h7, hb1⟩
  (try replace H0 := Lib.hid (H0.out.below hb1))
  (try replace H1 := Lib.hid (H1.out.below hb1))
  (try replace H2 := Lib.hid (H2.out.below hb1))
  (try replace H7 := Lib.hid (H7.out.below hb1))
  (try replace H8 := Lib.hid (H8.out.below hb1))
  (try replace H9 := Lib.hid (H9.out.below hb1))
  (try replace HA := Lib.hid (HA.out.below hb1))
  (try replace HC := Lib.hid (HC.out.below hb1))
  (try replace HE := Lib.hid (HE.out.below hb1))
  (try replace HG := Lib.hid (HG.out.below hb1))
  (try replace HBT := Lib.hid (bthen HBT.out hb1 (Nat.le_refl _)))
  have cap7 := h7.cap
  have H7 := Lib.hid h7; clear h7
  clear hb1
  go_wp2_with fail
  refine (lendValues_any _ _ _ rs _ H1.out).mono ?_
  rintro e w2 ⟨g8, k8, rfl, h8, hb2⟩
  (try replace H0 := Lib.hid (H0.out.below hb2))
  (try replace H1 := Lib.hid (H1.out.below hb2))
  (try replace H2 := Lib.hid (H2.out.below hb2))
  (try replace H7 := Lib.hid (H7.out.below hb2))
  (try replace H8 := Lib.hid (H8.out.below hb2))
  (try replace H9 := Lib.hid (H9.out.below hb2))
  (try replace HA := Lib.hid (HA.out.below hb2))
  (try replace HC := Lib.hid (HC.out.below hb2))
  (try replace HE := Lib.hid (HE.out.below hb2))
  (try replace HG := Lib.hid (HG.out.below hb2))
  (try replace HBT := Lib.hid (bthen HBT.out hb2 (Nat.le_refl _)))
  have cap8 := h8.cap
  have H8 := Lib.hid h8; clear h8 hb2
  go_wp2_with fail
  refine (lendInts_any _ _ _ ks _ H2.out).mono ?_
  rintro e w3 ⟨g9, k9, rfl, h9, hb3⟩
  (try replace H0 := Lib.hid (H0.out.below hb3))
  (try replace H1 := Lib.hid (H1.out.below hb3))
  (try replace H2 := Lib.hid (H2.out.below hb3))
  (try replace H7 := Lib.hid (H7.out.below hb3))
  (try replace H8 := Lib.hid (H8.out.below hb3))
  (try replace H9 := Lib.hid (H9.out.below hb3))
  (try replace HA := Lib.hid (HA.out.below hb3))
  (try replace HC := Lib.hid (HC.out.below hb3))
  (try replace HE := Lib.hid (HE.out.below hb3))
  (try replace HG := Lib.hid (HG.out.below hb3))
  (try replace HBT := Lib.hid (bthen HBT.out hb3 (Nat.le_refl _)))
  have cap9 := h9.cap
  have H9 := Lib.hid h9; clear h9 hb3
  have g7lt := H7.out.base.2
  have w3sz := HBT.out.size
  go_wp2_with fail
  refine (build_got _ n0 _ vs _ H7.out.sl (by omega) HS.out.1 m HM.out).mono ?_
  rintro e w4 ⟨A10, c10, A11, c11, rfl, hA, hb4⟩
  (try replace H0 := Lib.hid (H0.out.below hb4))
  (try replace H1 := Lib.hid (H1.out.below hb4))
  (try replace H2 := Lib.hid (H2.out.below hb4))
  (try replace H7 := Lib.hid (H7.out.below hb4))
  (try replace H8 := Lib.hid (H8.out.below hb4))
  (try replace H9 := Lib.hid (H9.out.below hb4))
  (try replace HA := Lib.hid (HA.out.below hb4))
  (try replace HC := Lib.hid (HC.out.below hb4))
  (try replace HE := Lib.hid (HE.out.below hb4))
  (try replace HG := Lib.hid (HG.out.below hb4))
  (try replace HBT := Lib.hid (bthen HBT.out hb4 (Nat.le_refl _)))
  have w4sz := hb4.size
  have RA := Lib.hid (And.intro (World.ownsRow.lt hA.own1) (World.ownsRow.lt hA.own2))
  have HA := Lib.hid hA; clear hA hb4
  go_wp2_with fail
  refine (buildR_got _ n0 _ vs _ H0.out.sl (by omega) (fine_len HS.out.1) m HM.out).mono ?_
  rintro e w5 ⟨A12, c12, A13, c13, rfl, hC, hb5⟩
  (try replace H0 := Lib.hid (H0.out.below hb5))
  (try replace H1 := Lib.hid (H1.out.below hb5))
  (try replace H2 := Lib.hid (H2.out.below hb5))
  (try replace H7 := Lib.hid (H7.out.below hb5))
  (try replace H8 := Lib.hid (H8.out.below hb5))
  (try replace H9 := Lib.hid (H9.out.below hb5))
  (try replace HA := Lib.hid (HA.out.below hb5))
  (try replace HC := Lib.hid (HC.out.below hb5))
  (try replace HE := Lib.hid (HE.out.below hb5))
  (try replace HG := Lib.hid (HG.out.below hb5))
  (try replace HBT := Lib.hid (bthen HBT.out hb5 (Nat.le_refl _)))
  have w5sz := hb5.size
  have HC := Lib.hid hC; clear hC hb5
  go_wp2_with fail
  refine (look_got _ _ n1 n2 _ _ rs ks _ H8.out.sl H9.out.sl (by omega) (by omega) HS.out.2 q HQ.out cd HCD.out).mono ?_
  rintro e w6 ⟨A14, c14, rfl, hE, hb6⟩
  (try replace H0 := Lib.hid (H0.out.below hb6))
  (try replace H1 := Lib.hid (H1.out.below hb6))
  (try replace H2 := Lib.hid (H2.out.below hb6))
  (try replace H7 := Lib.hid (H7.out.below hb6))
  (try replace H8 := Lib.hid (H8.out.below hb6))
  (try replace H9 := Lib.hid (H9.out.below hb6))
  (try replace HA := Lib.hid (HA.out.below hb6))
  (try replace HC := Lib.hid (HC.out.below hb6))
  (try replace HE := Lib.hid (HE.out.below hb6))
  (try replace HG := Lib.hid (HG.out.below hb6))
  (try replace HBT := Lib.hid (bthen HBT.out hb6 (Nat.le_refl _)))
  have HE := Lib.hid hE; clear hE hb6
  go_wp2_with fail
  refine (lookR_got _ _ n1 n2 _ _ rs ks _ H1.out.sl H2.out.sl (by omega) (by omega) (fine_len HS.out.2) q HQ.out cd HCD.out).mono ?_
  rintro e w7 ⟨A16, c16, rfl, hG, hb7⟩
  (try replace H0 := Lib.hid (H0.out.below hb7))
  (try replace H1 := Lib.hid (H1.out.below hb7))
  (try replace H2 := Lib.hid (H2.out.below hb7))
  (try replace H7 := Lib.hid (H7.out.below hb7))
  (try replace H8 := Lib.hid (H8.out.below hb7))
  (try replace H9 := Lib.hid (H9.out.below hb7))
  (try replace HA := Lib.hid (HA.out.below hb7))
  (try replace HC := Lib.hid (HC.out.below hb7))
  (try replace HE := Lib.hid (HE.out.below hb7))
  (try replace HG := Lib.hid (HG.out.below hb7))
  (try replace HBT := Lib.hid (bthen HBT.out hb7 (Nat.le_refl _)))
  have HG := Lib.hid hG; clear hG hb7
  go_wp2_with fail
  refine ((sameValues_any _ _ m m _ _ _ _ _ HA.out.sl1 HC.out.sl1 (by unfold maxLen; omega)).mono (fun _ _ h => true_of (decide_eq_true rfl) h)).mono ?_
  rintro e w9 ⟨rfl, hb9⟩
  (try replace H0 := Lib.hid (H0.out.below hb9))
  (try replace H1 := Lib.hid (H1.out.below hb9))
  (try replace H2 := Lib.hid (H2.out.below hb9))
  (try replace H7 := Lib.hid (H7.out.below hb9))
  (try replace H8 := Lib.hid (H8.out.below hb9))
  (try replace H9 := Lib.hid (H9.out.below hb9))
  (try replace HA := Lib.hid (HA.out.below hb9))
  (try replace HC := Lib.hid (HC.out.below hb9))
  (try replace HE := Lib.hid (HE.out.below hb9))
  (try replace HG := Lib.hid (HG.out.below hb9))
  (try replace HBT := Lib.hid (bthen HBT.out hb9 (Nat.le_refl _)))
  clear hb9
  go_wp2_with fail
  refine ((sameInts_any _ _ n0 n0 _ _ _ _ _ HA.out.sl2 HC.out.sl2 (by unfold maxLen; omega)).mono (fun _ _ h => true_of (decide_eq_true rfl) h)).mono ?_
  rintro e w8 ⟨rfl, hb8⟩
  (try replace H0 := Lib.hid (H0.out.below hb8))
  (try replace H1 := Lib.hid (H1.out.below hb8))
  (try replace H2 := Lib.hid (H2.out.below hb8))
  (try replace H7 := Lib.hid (H7.out.below hb8))
  (try replace H8 := Lib.hid (H8.out.below hb8))
  (try replace H9 := Lib.hid (H9.out.below hb8))
  (try replace HA := Lib.hid (HA.out.below hb8))
  (try replace HC := Lib.hid (HC.out.below hb8))
  (try replace HE := Lib.hid (HE.out.below hb8))
  (try replace HG := Lib.hid (HG.out.below hb8))
  (try replace HBT := Lib.hid (bthen HBT.out hb8 (Nat.le_refl _)))
  clear hb8
  go_wp2_with fail
  refine ((sameValues_any _ _ q q _ _ _ _ _ HE.out.sl HG.out.sl (by unfold maxLen; omega)).mono (fun _ _ h => true_of (decide_eq_true rfl) h)).mono ?_
  rintro e w10 ⟨rfl, hb10⟩
  (try replace H0 := Lib.hid (H0.out.below hb10))
  (try replace H1 := Lib.hid (H1.out.below hb10))
  (try replace H2 := Lib.hid (H2.out.below hb10))
  (try replace H7 := Lib.hid (H7.out.below hb10))
  (try replace H8 := Lib.hid (H8.out.below hb10))
  (try replace H9 := Lib.hid (H9.out.below hb10))
  (try replace HA := Lib.hid (HA.out.below hb10))
  (try replace HC := Lib.hid (HC.out.below hb10))
  (try replace HE := Lib.hid (HE.out.below hb10))
  (try replace HG := Lib.hid (HG.out.below hb10))
  (try replace HBT := Lib.hid (bthen HBT.out hb10 (Nat.le_refl _)))
  clear hb10
  go_wp2_with (go_at_call 16; refine (Nums.num_any _ _).mono ?_; rintro e w' ⟨rfl, rfl⟩)
  refine (keptValues_any _ _ _ n0 _ _ _ _ H7.out H0.out.sl).mono ?_
  rintro e w11 ⟨rfl, hb11⟩
  (try replace H0 := Lib.hid (H0.out.below hb11))
  (try replace H1 := Lib.hid (H1.out.below hb11))
  (try replace H2 := Lib.hid (H2.out.below hb11))
  (try replace H7 := Lib.hid (H7.out.below hb11))
  (try replace H8 := Lib.hid (H8.out.below hb11))
  (try replace H9 := Lib.hid (H9.out.below hb11))
  (try replace HA := Lib.hid (HA.out.below hb11))
  (try replace HC := Lib.hid (HC.out.below hb11))
  (try replace HE := Lib.hid (HE.out.below hb11))
  (try replace HG := Lib.hid (HG.out.below hb11))
  (try replace HBT := Lib.hid (bthen HBT.out hb11 (Nat.le_refl _)))
  clear hb11
  go_wp2_with fail
  refine (keptValues_any _ _ _ n1 _ _ _ _ H8.out H1.out.sl).mono ?_
  rintro e w12 ⟨rfl, hb12⟩
  (try replace H0 := Lib.hid (H0.out.below hb12))
  (try replace H1 := Lib.hid (H1.out.below hb12))
  (try replace H2 := Lib.hid (H2.out.below hb12))
  (try replace H7 := Lib.hid (H7.out.below hb12))
  (try replace H8 := Lib.hid (H8.out.below hb12))
  (try replace H9 := Lib.hid (H9.out.below hb12))
  (try replace HA := Lib.hid (HA.out.below hb12))
  (try replace HC := Lib.hid (HC.out.below hb12))
  (try replace HE := Lib.hid (HE.out.below hb12))
  (try replace HG := Lib.hid (HG.out.below hb12))
  (try replace HBT := Lib.hid (bthen HBT.out hb12 (Nat.le_refl _)))
  clear hb12
  go_wp2_with fail
  refine (keptInts_any _ _ _ n2 _ _ _ _ H9.out H2.out.sl).mono ?_
  rintro e w13 ⟨rfl, hb13⟩
  (try replace H0 := Lib.hid (H0.out.below hb13))
  (try replace H1 := Lib.hid (H1.out.below hb13))
  (try replace H2 := Lib.hid (H2.out.below hb13))
  (try replace H7 := Lib.hid (H7.out.below hb13))
  (try replace H8 := Lib.hid (H8.out.below hb13))
  (try replace H9 := Lib.hid (H9.out.below hb13))
  (try replace HA := Lib.hid (HA.out.below hb13))
  (try replace HC := Lib.hid (HC.out.below hb13))
  (try replace HE := Lib.hid (HE.out.below hb13))
  (try replace HG := Lib.hid (HG.out.below hb13))
  (try replace HBT := Lib.hid (bthen HBT.out hb13 (Nat.le_refl _)))
  clear hb13
  go_wp2_with fail
  refine (spoilValues_any _ _ m _ _ _ HA.out.own1 HM.out (by unfold maxLen; omega)).mono ?_
  rintro e w14 ⟨rfl, hgr⟩
  have H7' := Lib.hid (H7.out.grown hgr (by intro e; have := (RA.out.1 g7 e.symm).1; omega))
  have HC' := Lib.hid (HC.out.grown hgr (fun k hk => (RA.out.1 k hk).2))
  have HA2 := Lib.hid (World.ownsRow.kept HA.out.own2 hgr (own_ne HA.out.own2 HA.out.own1 (by decide)))
  have HL2 := Lib.hid HA.out.len2
  have HBT' := Lib.hid (HBT.out.grown hgr HBT.out.size (fun k hk => Nat.le_trans w3sz (RA.out.1 k hk).1))
  clear hgr H0 H1 H2 H8 H9 HE HG HA H7 HC HBT
  go_wp2_with fail
  refine (spoilInts_any _ _ n0 _ _ _ HA2.out (by rw [iat_length]; exact HL2.out) (by unfold maxLen; omega)).mono ?_
  rintro e w15 ⟨rfl, hgr⟩
  have H7 := Lib.hid (H7'.out.grown hgr (by intro e; have := (RA.out.2 g7 e.symm).1; omega))
  have HC := Lib.hid (HC'.out.grown hgr (fun k hk => (RA.out.2 k hk).2))
  have HBT := Lib.hid (HBT'.out.grown hgr HBT'.out.size (fun k hk => Nat.le_trans w3sz (RA.out.2 k hk).1))
  clear hgr H7' HC' HBT' HA2
  go_wp2_with fail
  refine (build_got _ n0 _ vs _ H7.out.sl (by omega) HS.out.1 m HM.out).mono ?_
  rintro e w16 ⟨A18, c18, A19, c19, rfl, hA, hb16⟩
  (try replace H0 := Lib.hid (H0.out.below hb16))
  (try replace H1 := Lib.hid (H1.out.below hb16))
  (try replace H2 := Lib.hid (H2.out.below hb16))
  (try replace H7 := Lib.hid (H7.out.below hb16))
  (try replace H8 := Lib.hid (H8.out.below hb16))
  (try replace H9 := Lib.hid (H9.out.below hb16))
  (try replace HA := Lib.hid (HA.out.below hb16))
  (try replace HC := Lib.hid (HC.out.below hb16))
  (try replace HE := Lib.hid (HE.out.below hb16))
  (try replace HG := Lib.hid (HG.out.below hb16))
  (try replace HBT := Lib.hid (bthen HBT.out hb16 (Nat.le_refl _)))
  have HA := Lib.hid hA; clear hA hb16
  go_wp2_with fail
  refine ((sameValues_any _ _ m m _ _ _ _ _ HA.out.sl1 HC.out.sl1 (by unfold maxLen; omega)).mono (fun _ _ h => true_of (decide_eq_true rfl) h)).mono ?_
  rintro e w18 ⟨rfl, hb18⟩
  (try replace H0 := Lib.hid (H0.out.below hb18))
  (try replace H1 := Lib.hid (H1.out.below hb18))
  (try replace H2 := Lib.hid (H2.out.below hb18))
  (try replace H7 := Lib.hid (H7.out.below hb18))
  (try replace H8 := Lib.hid (H8.out.below hb18))
  (try replace H9 := Lib.hid (H9.out.below hb18))
  (try replace HA := Lib.hid (HA.out.below hb18))
  (try replace HC := Lib.hid (HC.out.below hb18))
  (try replace HE := Lib.hid (HE.out.below hb18))
  (try replace HG := Lib.hid (HG.out.below hb18))
  (try replace HBT := Lib.hid (bthen HBT.out hb18 (Nat.le_refl _)))
  clear hb18
  go_wp2_with fail
  refine ((sameInts_any _ _ n0 n0 _ _ _ _ _ HA.out.sl2 HC.out.sl2 (by unfold maxLen; omega)).mono (fun _ _ h => true_of (decide_eq_true rfl) h)).mono ?_
  rintro e w17 ⟨rfl, hb17⟩
  (try replace H0 := Lib.hid (H0.out.below hb17))
  (try replace H1 := Lib.hid (H1.out.below hb17))
  (try replace H2 := Lib.hid (H2.out.below hb17))
  (try replace H7 := Lib.hid (H7.out.below hb17))
  (try replace H8 := Lib.hid (H8.out.below hb17))
  (try replace H9 := Lib.hid (H9.out.below hb17))
  (try replace HA := Lib.hid (HA.out.below hb17))
  (try replace HC := Lib.hid (HC.out.below hb17))
  (try replace HE := Lib.hid (HE.out.below hb17))
  (try replace HG := Lib.hid (HG.out.below hb17))
  (try replace HBT := Lib.hid (bthen HBT.out hb17 (Nat.le_refl _)))
  clear hb17
  go_wp2_with fail
  refine (awake_any _).mono ?_
  rintro e w19 ⟨rfl, hb19⟩
  (try replace H0 := Lib.hid (H0.out.below hb19))
  (try replace H1 := Lib.hid (H1.out.below hb19))
  (try replace H2 := Lib.hid (H2.out.below hb19))
  (try replace H7 := Lib.hid (H7.out.below hb19))
  (try replace H8 := Lib.hid (H8.out.below hb19))
  (try replace H9 := Lib.hid (H9.out.below hb19))
  (try replace HA := Lib.hid (HA.out.below hb19))
  (try replace HC := Lib.hid (HC.out.below hb19))
  (try replace HE := Lib.hid (HE.out.below hb19))
  (try replace HG := Lib.hid (HG.out.below hb19))
  (try replace HBT := Lib.hid (bthen HBT.out hb19 (Nat.le_refl _)))
  clear hb19
  go_wp2
  go_ret
  exact ⟨rfl, HBT.out⟩
end Go.Proofs.Ytmoabfaimcafjaa.Words
