/-
  THE WALKS of chapter 6's laws: awake, Bitpacks.
-/
import Derived.Test.YtkkpcdpoldjmkaaBitRef2
import Derived.Test.YtkkpcdpoldjmkaaMem
namespace Go.Proofs.Ytkkpcdpoldjmkaa.Bitpack
open Go.RowKit BitMath Sl Mem Go.ChangeShapes Go.WideShapes

theorem true_of {p : Prop} [Decidable p] {w w' : World} {e : Ending} {b : Bool} (hp : decide p = b) (h : e = .returned (.bool (decide p)) ∧ ∃ k, w' = w.drewN k) : e = .returned (.bool b) ∧ Below w.heap.size w w' := by
  obtain ⟨rfl, k, rfl⟩ := h; rw [hp]; exact ⟨rfl, below_drewN (Below.refl _ _) k⟩
theorem own_keep_grown {w w' : World} {B : Nat} {v : Value} {xs : List Int} {row : Option Nat} (h : OwnI w B v xs) (hg : w.grownBy w' row) (hne : v.ownBlock = none ∨ v.ownBlock ≠ row) : OwnI w' B v xs := World.ownsRow.kept h hg hne
/-- What Unpack hands back. -/
theorem unpack_got (s : ByteArray) (many width : Int) (w : World) (hs : s.size ≤ maxReach) (n : Nat) (hn : (unpackL s.data.toList many width).length = n) (E : Int) (hE : unpackE s.data.toList many width = E) :
    Calls Try.prog 111 #[.string s, .int .i64 many, .int .i64 width] w fun e w' => ∃ A c, e = .returned (.tuple #[.slice A n c, .int .i64 E]) ∧ OwnI w' w.heap.size (.slice A n c) (unpackL s.data.toList many width) ∧ Below w.heap.size w w' := by
  refine (unpack_any s many width w hs).mono ?_
  rintro e w' ⟨v, rfl, hO, hb⟩
  obtain ⟨A, c, rfl, _⟩ := hO.form hn
  subst hE
  exact ⟨A, c, rfl, hO, hb⟩
theorem refUnpack_got (s : ByteArray) (many width : Int) (w : World) (hs : s.size ≤ maxReach) (n : Nat) (hn : (unpackL s.data.toList many width).length = n) (E : Int) (hE : unpackE s.data.toList many width = E) :
    Calls Try.prog 112 #[.string s, .int .i64 many, .int .i64 width] w fun e w' => ∃ A c, e = .returned (.tuple #[.slice A n c, .int .i64 E]) ∧ OwnI w' w.heap.size (.slice A n c) (unpackL s.data.toList many width) ∧ Below w.heap.size w w' := by
  refine (refUnpack_any s many width w hs).mono ?_
  rintro e w' ⟨v, rfl, hO, hb⟩
  obtain ⟨A, c, rfl, _⟩ := hO.form hn
  subst hE
  exact ⟨A, c, rfl, hO, hb⟩
theorem unpack_length (s : List UInt8) (many width : Int) : (unpackL s many width).length ≤ 65536 := by
  unfold unpackL
  split
  · rename_i h
    rw [many_length]
    unfold unpackE at h
    split at h
    · omega
    · split at h <;> omega
  · simp

def nine : ByteArray := { data := #[57] }
theorem p123 (A : Option Addr) (c : Nat) (w : World) (h : ISl w A 3 [1, 2, 3]) : Calls Try.prog 109 #[.slice A 3 c, .int .i64 2] w fun e w' => e = .returned (.tuple #[.string { data := #[57] }, .int .i64 0]) ∧ Below w.heap.size w w' := by
  have h1 : packS [1, 2, 3] 2 = [57] := by decide
  have h2 : packE [1, 2, 3] 2 = 0 := by decide
  have := pack_any A 3 c _ 2 w h (by omega)
  rw [h1, h2] at this; exact this
theorem p4 (A : Option Addr) (c : Nat) (w : World) (h : ISl w A 1 [4]) : Calls Try.prog 109 #[.slice A 1 c, .int .i64 2] w fun e w' => e = .returned (.tuple #[.string (str []), .int .i64 601]) ∧ Below w.heap.size w w' := by
  have h1 : packS [4] 2 = [] := by decide
  have h2 : packE [4] 2 = 601 := by decide
  have := pack_any A 1 c _ 2 w h (by omega)
  rw [h1, h2] at this; exact this
theorem p17 (w : World) : Calls Try.prog 109 #[.slice none 0 0, .int .i64 17] w fun e w' => e = .returned (.tuple #[.string (str []), .int .i64 600]) ∧ Below w.heap.size w w' := by
  have := pack_any none 0 0 [] 17 w ⟨rfl, fun h => absurd h (by omega)⟩ (by omega)
  have h1 : packS [] 17 = [] := by decide
  have h2 : packE [] 17 = 600 := by decide
  rw [h1, h2] at this; exact this
theorem u3 (w : World) : Calls Try.prog 111 #[.string { data := #[57] }, .int .i64 3, .int .i64 2] w fun e w' => ∃ A c, e = .returned (.tuple #[.slice A 3 c, .int .i64 0]) ∧ OwnI w' w.heap.size (.slice A 3 c) [1, 2, 3] ∧ Below w.heap.size w w' := by
  have h1 : unpackL nine.data.toList 3 2 = [1, 2, 3] := by decide
  have h2 : unpackE nine.data.toList 3 2 = 0 := by decide
  have := unpack_got nine 3 2 w (by decide) 3 (by rw [h1]; rfl) 0 h2
  rw [h1] at this; exact this
theorem u9 (w : World) : Calls Try.prog 111 #[.string { data := #[57] }, .int .i64 9, .int .i64 2] w fun e w' => ∃ A c, e = .returned (.tuple #[.slice A 0 c, .int .i64 602]) ∧ OwnI w' w.heap.size (.slice A 0 c) [] ∧ Below w.heap.size w w' := by
  have h1 : unpackL nine.data.toList 9 2 = [] := by decide
  have h2 : unpackE nine.data.toList 9 2 = 602 := by decide
  have := unpack_got nine 9 2 w (by decide) 0 (by rw [h1]; rfl) 602 h2
  rw [h1] at this; exact this
theorem w8 (w : World) : Calls Try.prog 113 #[.int .i64 8] w fun e w' => e = .returned (.int .i64 4) ∧ w = w' := by
  have h : width 8 = 4 := by decide
  have := width_any 8 w (by omega)
  rw [h] at this; exact this

set_option maxRecDepth 100000 in
set_option maxHeartbeats 4000000 in
theorem awake_any (w : World) : Calls Try.prog 115 #[] w fun e w' => e = .returned (.bool true) ∧ Below w.heap.size w w' := by
  go_enter Try.func115, Try.ntmps115
  go_wp2_with fail
  refine (p123 _ _ _ (ISl.at_new _ _ rfl [1, 2, 3] _ _ rfl)).mono ?_
  rintro e w1 ⟨rfl, hb1⟩
  have HBT := Lib.hid (bthen (Vals.one_new _) hb1 (Nat.le_refl _)); clear hb1
  go_wp2_with fail
  refine (u3 _).mono ?_
  rintro e w2 ⟨A, c, rfl, hO, hb2⟩
  replace HBT := Lib.hid (bthen HBT.out hb2 (Nat.le_refl _)); clear hb2
  have HO := Lib.hid hO; clear hO
  have hcap := (own_len HO.out).2
  go_wp2_with fail
  refine (p4 _ _ _ (ISl.at_new _ _ rfl [4] _ _ rfl)).mono ?_
  rintro e w3 ⟨rfl, hb3⟩
  have HO3 := Lib.hid ((HO.out.alloc _).below hb3); clear HO
  replace HBT := Lib.hid (bthen (HBT.out.alloc HBT.out.size _) hb3 (Nat.le_refl _)); clear hb3
  go_wp2_with fail
  refine (u9 _).mono ?_
  rintro e w4 ⟨A4, c4, rfl, _, hb4⟩
  have HO4 := Lib.hid (HO3.out.below hb4); clear HO3
  replace HBT := Lib.hid (bthen HBT.out hb4 (Nat.le_refl _)); clear hb4
  go_wp2_with fail
  refine (p17 _).mono ?_
  rintro e w5 ⟨rfl, hb5⟩
  have HO5 := Lib.hid (HO4.out.below hb5); clear HO4
  replace HBT := Lib.hid (bthen HBT.out hb5 (Nat.le_refl _)); clear hb5
  go_wp2_with (go_at_call 56; refine (boathouseNames.num_any _ _).mono ?_; rintro e w' ⟨rfl, rfl⟩)
  refine ((sameInts_any _ _ 3 3 _ _ _ _ _ ((HO5.out.alloc _).sl rfl) (ISl.at_new _ _ rfl [1, 2, 3] _ _ rfl) (by unfold maxLen; omega)).mono (fun _ _ h => true_of (decide_eq_true rfl) h)).mono ?_
  rintro e w6 ⟨rfl, hb6⟩
  replace HBT := Lib.hid (bthen (HBT.out.alloc HBT.out.size _) hb6 (Nat.le_refl _)); clear hb6 HO5
  go_wp2_with (first
    | (go_at_call 56; refine (boathouseNames.num_any _ _).mono ?_; rintro e w' ⟨rfl, rfl⟩)
    | (go_at_call 113; refine (w8 _).mono ?_; rintro e w' ⟨rfl, rfl⟩))
  go_ret
  exact ⟨rfl, HBT.out⟩

set_option maxRecDepth 100000 in
set_option maxHeartbeats 8000000 in
theorem bitpacks_any (A0 : Option Addr) (n0 c0 : Nat) (xs : List Int) (width : Int) (s : ByteArray) (many : Int) (w : World) (h0 : IArg w A0 n0 c0 xs) (_hw : (Lit.int .i64 width).wf = true) (hs : s.size ≤ 140737488351232) (hm : (Lit.int .i64 many).wf = true) :
    Calls Try.prog 26 #[.slice A0 n0 c0, .int .i64 width, .string s, .int .i64 many] w fun e w' => e = .returned (.bool true) ∧ Below w.heap.size w w' := by
  have hr : s.size ≤ maxReach := by unfold maxReach; omega
  have bm := bounds_i64 hm
  have hle := h0.le; have hcap := h0.cap
  have hn0 : n0 ≤ 17592186044416 := by omega
  have hml : n0 ≤ maxLen := by unfold maxLen; omega
  have hf : ∀ x ∈ xs, x < 9223372036854775808 := fun x hx => (h0.fine x hx).2
  obtain ⟨q, hq⟩ : ∃ q, (unpackL s.data.toList many width).length = q := ⟨_, rfl⟩
  have hq2 : q ≤ 65536 := by rw [← hq]; exact unpack_length _ _ _
  obtain ⟨E, hE⟩ : ∃ E, unpackE s.data.toList many width = E := ⟨_, rfl⟩
  have HU := Lib.hid (fun w => unpack_got s many width w hr q hq E hE)
  have HV := Lib.hid (fun w => refUnpack_got s many width w hr q hq E hE)
  have HWd := Lib.hid (fun w => width_any many w (by omega))
  have HWr := Lib.hid (fun w => refWidth_any many w (by omega))
  have HQ := Lib.hid hq; clear hq hE
  generalize unpackL s.data.toList many width = L at *
  generalize BitMath.width many = wm at *
  have HML := Lib.hid hml; clear hml
  have HPk := Lib.hid (fun A c w h => pack_any A n0 c xs width w h hn0)
  have HPr := Lib.hid (fun A c w h => refPack_any A n0 c xs width w h hn0 hf)
  generalize str (packS xs width) = S at *
  generalize packE xs width = F at *
  clear hf bm hm hr _hw
  have HBT := Lib.hid (Below.refl w.heap.size w)
  have H0 := Lib.hid h0; clear h0
  go_enter Try.func26, Try.ntmps26
  go_wp2_with fail
  refine (lendInts_any _ _ _ xs _ H0.out).mono ?_
  rintro e w1 ⟨g1, k1, rfl, h1, hb1⟩
  (try replace H0 := Lib.hid (H0.out.below hb1))
  (try replace H1 := Lib.hid (H1.out.below hb1))
  (try replace H2 := Lib.hid (H2.out.below hb1))
  (try replace H7 := Lib.hid (H7.out.below hb1))
  (try replace H8 := Lib.hid (H8.out.below hb1))
  (try replace H9 := Lib.hid (H9.out.below hb1))
  (try replace HA := Lib.hid (HA.out.below hb1))
  (try replace HC := Lib.hid (HC.out.below hb1))
  (try replace HE := Lib.hid (HE.out.below hb1))
  (try replace HG := Lib.hid (HG.out.below hb1))
  (try replace HBT := Lib.hid (bthen HBT.out hb1 (Nat.le_refl _)))
  have cap1 := h1.cap
  have g1lt := h1.base.2
  have H1 := Lib.hid h1; have sz1 := hb1.size; clear h1 hb1
  go_wp2_with fail
  refine (HPk.out _ _ _ H1.out.sl).mono ?_
  rintro e w2 ⟨rfl, hb2⟩
  (try replace H0 := Lib.hid (H0.out.below hb2))
  (try replace H1 := Lib.hid (H1.out.below hb2))
  (try replace H2 := Lib.hid (H2.out.below hb2))
  (try replace H7 := Lib.hid (H7.out.below hb2))
  (try replace H8 := Lib.hid (H8.out.below hb2))
  (try replace H9 := Lib.hid (H9.out.below hb2))
  (try replace HA := Lib.hid (HA.out.below hb2))
  (try replace HC := Lib.hid (HC.out.below hb2))
  (try replace HE := Lib.hid (HE.out.below hb2))
  (try replace HG := Lib.hid (HG.out.below hb2))
  (try replace HBT := Lib.hid (bthen HBT.out hb2 (Nat.le_refl _)))
  have sz2 := hb2.size
  clear hb2
  go_wp2_with fail
  refine (HPr.out _ _ _ H0.out.sl).mono ?_
  rintro e w3 ⟨rfl, hb3⟩
  (try replace H0 := Lib.hid (H0.out.below hb3))
  (try replace H1 := Lib.hid (H1.out.below hb3))
  (try replace H2 := Lib.hid (H2.out.below hb3))
  (try replace H7 := Lib.hid (H7.out.below hb3))
  (try replace H8 := Lib.hid (H8.out.below hb3))
  (try replace H9 := Lib.hid (H9.out.below hb3))
  (try replace HA := Lib.hid (HA.out.below hb3))
  (try replace HC := Lib.hid (HC.out.below hb3))
  (try replace HE := Lib.hid (HE.out.below hb3))
  (try replace HG := Lib.hid (HG.out.below hb3))
  (try replace HBT := Lib.hid (bthen HBT.out hb3 (Nat.le_refl _)))
  have sz3 := hb3.size
  clear hb3
  go_wp2_with fail
  refine (HU.out _).mono ?_
  rintro e w4 ⟨A4, c4, rfl, hA, hb4⟩
  (try replace H0 := Lib.hid (H0.out.below hb4))
  (try replace H1 := Lib.hid (H1.out.below hb4))
  (try replace H2 := Lib.hid (H2.out.below hb4))
  (try replace H7 := Lib.hid (H7.out.below hb4))
  (try replace H8 := Lib.hid (H8.out.below hb4))
  (try replace H9 := Lib.hid (H9.out.below hb4))
  (try replace HA := Lib.hid (HA.out.below hb4))
  (try replace HC := Lib.hid (HC.out.below hb4))
  (try replace HE := Lib.hid (HE.out.below hb4))
  (try replace HG := Lib.hid (HG.out.below hb4))
  (try replace HBT := Lib.hid (bthen HBT.out hb4 (Nat.le_refl _)))
  have RA := Lib.hid (World.ownsRow.lt hA)
  have sz4 := hb4.size
  have HA := Lib.hid hA; clear hA hb4
  go_wp2_with fail
  refine (HU.out _).mono ?_
  rintro e w5 ⟨A5, c5, rfl, hC, hb5⟩
  (try replace H0 := Lib.hid (H0.out.below hb5))
  (try replace H1 := Lib.hid (H1.out.below hb5))
  (try replace H2 := Lib.hid (H2.out.below hb5))
  (try replace H7 := Lib.hid (H7.out.below hb5))
  (try replace H8 := Lib.hid (H8.out.below hb5))
  (try replace H9 := Lib.hid (H9.out.below hb5))
  (try replace HA := Lib.hid (HA.out.below hb5))
  (try replace HC := Lib.hid (HC.out.below hb5))
  (try replace HE := Lib.hid (HE.out.below hb5))
  (try replace HG := Lib.hid (HG.out.below hb5))
  (try replace HBT := Lib.hid (bthen HBT.out hb5 (Nat.le_refl _)))
  have RC := Lib.hid (World.ownsRow.lt hC)
  have sz5 := hb5.size
  have HC := Lib.hid hC; clear hC hb5
  go_wp2_with fail
  refine (HV.out _).mono ?_
  rintro e w6 ⟨A6, c6, rfl, hE, hb6⟩
  (try replace H0 := Lib.hid (H0.out.below hb6))
  (try replace H1 := Lib.hid (H1.out.below hb6))
  (try replace H2 := Lib.hid (H2.out.below hb6))
  (try replace H7 := Lib.hid (H7.out.below hb6))
  (try replace H8 := Lib.hid (H8.out.below hb6))
  (try replace H9 := Lib.hid (H9.out.below hb6))
  (try replace HA := Lib.hid (HA.out.below hb6))
  (try replace HC := Lib.hid (HC.out.below hb6))
  (try replace HE := Lib.hid (HE.out.below hb6))
  (try replace HG := Lib.hid (HG.out.below hb6))
  (try replace HBT := Lib.hid (bthen HBT.out hb6 (Nat.le_refl _)))
  have RE := Lib.hid (World.ownsRow.lt hE)
  have sz6 := hb6.size
  have HE := Lib.hid hE; clear hE hb6
  have hqm : q ≤ maxLen := by unfold maxLen; omega
  have HQM := Lib.hid hqm; clear hqm
  go_wp2_with (go_at_call 56; refine (boathouseNames.num_any _ _).mono ?_; rintro e w' ⟨rfl, rfl⟩)
  refine ((sameInts_any _ _ q q _ _ _ _ _ (HA.out.sl HQ.out) (HE.out.sl HQ.out) HQM.out).mono (fun _ _ h => true_of (decide_eq_true rfl) h)).mono ?_
  rintro e w8 ⟨rfl, hb8⟩
  (try replace H0 := Lib.hid (H0.out.below hb8))
  (try replace H1 := Lib.hid (H1.out.below hb8))
  (try replace H2 := Lib.hid (H2.out.below hb8))
  (try replace H7 := Lib.hid (H7.out.below hb8))
  (try replace H8 := Lib.hid (H8.out.below hb8))
  (try replace H9 := Lib.hid (H9.out.below hb8))
  (try replace HA := Lib.hid (HA.out.below hb8))
  (try replace HC := Lib.hid (HC.out.below hb8))
  (try replace HE := Lib.hid (HE.out.below hb8))
  (try replace HG := Lib.hid (HG.out.below hb8))
  (try replace HBT := Lib.hid (bthen HBT.out hb8 (Nat.le_refl _)))
  clear hb8
  go_wp2_with (go_at_call 56; refine (boathouseNames.num_any _ _).mono ?_; rintro e w' ⟨rfl, rfl⟩)
  refine (keptInts_any _ _ _ n0 _ _ _ _ H1.out H0.out.sl).mono ?_
  rintro e w9 ⟨rfl, hb9⟩
  (try replace H0 := Lib.hid (H0.out.below hb9))
  (try replace H1 := Lib.hid (H1.out.below hb9))
  (try replace H2 := Lib.hid (H2.out.below hb9))
  (try replace H7 := Lib.hid (H7.out.below hb9))
  (try replace H8 := Lib.hid (H8.out.below hb9))
  (try replace H9 := Lib.hid (H9.out.below hb9))
  (try replace HA := Lib.hid (HA.out.below hb9))
  (try replace HC := Lib.hid (HC.out.below hb9))
  (try replace HE := Lib.hid (HE.out.below hb9))
  (try replace HG := Lib.hid (HG.out.below hb9))
  (try replace HBT := Lib.hid (bthen HBT.out hb9 (Nat.le_refl _)))
  clear hb9
  go_wp2_with (first
    | (go_at_call 113; refine (HWd.out _).mono ?_; rintro e w' ⟨rfl, rfl⟩)
    | (go_at_call 114; refine (HWr.out _).mono ?_; rintro e w' ⟨rfl, rfl⟩))
  refine (spoilInts_any _ _ q _ _ _ HA.out HQ.out HQM.out).mono ?_
  rintro e w10 ⟨rfl, hgr⟩
  have HC' := Lib.hid (own_keep_grown HC.out hgr (by
    rcases hA : (Value.slice A4 q c4).ownBlock with _ | a
    · rcases hC : (Value.slice A5 q c5).ownBlock with _ | b
      · exact .inl rfl
      · exact .inr (by simp)
    · right; intro e; have h1 := RA.out a hA; have h2 := RC.out a e; omega))
  have HE' := Lib.hid (own_keep_grown HE.out hgr (by
    rcases hA : (Value.slice A4 q c4).ownBlock with _ | a
    · rcases hC : (Value.slice A6 q c6).ownBlock with _ | b
      · exact .inl rfl
      · exact .inr (by simp)
    · right; intro e; have h1 := RA.out a hA; have h2 := RE.out a e; omega))
  have HBT' := Lib.hid (HBT.out.grown hgr HBT.out.size (fun j hj => by have := (RA.out j hj).1; have := HBT.out.size; omega))
  clear HA HC HE HBT H0 H1 hgr
  go_wp2_with fail
  refine ((sameInts_any _ _ q q _ _ _ _ _ (HC'.out.sl HQ.out) (HE'.out.sl HQ.out) HQM.out).mono (fun _ _ h => true_of (decide_eq_true rfl) h)).mono ?_
  rintro e w11 ⟨rfl, hb11⟩
  replace HBT' := Lib.hid (bthen HBT'.out hb11 (Nat.le_refl _)); clear hb11
  go_wp2_with fail
  refine (awake_any _).mono ?_
  rintro e w12 ⟨rfl, hb12⟩
  replace HBT' := Lib.hid (bthen HBT'.out hb12 (Nat.le_refl _)); clear hb12
  go_wp2_with fail
  go_ret
  exact ⟨rfl, HBT'.out⟩
end Go.Proofs.Ytkkpcdpoldjmkaa.Bitpack
