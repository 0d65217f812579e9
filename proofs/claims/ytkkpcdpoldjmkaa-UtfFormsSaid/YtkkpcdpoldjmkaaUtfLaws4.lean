/-
  THE WALK of UtfForms.
-/
import Derived.Test.YtkkpcdpoldjmkaaUtfLaws2
namespace Go.Proofs.Ytkkpcdpoldjmkaa.Utf
open Go.RowKit UtfMath

/-- The forms that are none. -/
def badL (y : Nat) : Nat → List UInt8
  | 0 => [192, UInt8.ofNat (128 + y)]
  | 1 => [193, UInt8.ofNat (128 + y)]
  | 2 => [224, UInt8.ofNat (128 + y % 32), UInt8.ofNat (128 + y)]
  | 3 => [237, UInt8.ofNat (160 + y % 32), UInt8.ofNat (128 + y)]
  | 4 => [240, UInt8.ofNat (128 + y % 16), UInt8.ofNat (128 + y), UInt8.ofNat (128 + y)]
  | 5 => [244, UInt8.ofNat (144 + y % 16), UInt8.ofNat (128 + y), UInt8.ofNat (128 + y)]
  | 6 => [245, UInt8.ofNat (128 + y), UInt8.ofNat (128 + y), UInt8.ofNat (128 + y)]
  | 7 => [UInt8.ofNat (128 + y)]
  | _ => [255]
theorem bad_len (y k : Nat) : (badL y k).length ≤ 4 := by unfold badL; split <;> simp
theorem bad_pos (y k : Nat) : badL y k ≠ [] := by unfold badL; split <;> simp
set_option maxRecDepth 100000 in
theorem bad_rune {y k : Nat} (hy : y < 64) (hk : k < 9) : rune (badL y k) = (0, 0) := by
  have : ∀ y : Fin 64, ∀ k : Fin 9, rune (badL y.val k.val) = (0, 0) := by decide +kernel
  exact this ⟨y, hy⟩ ⟨k, hk⟩
theorem bad_first {y k : Nat} (hy : y < 64) (hk : k < 9) : first (badL y k) = 0 := first_bad (bad_pos y k) (by rw [bad_rune hy hk])
theorem bad_second {y k : Nat} (hy : y < 64) (hk : k < 9) : first ([97] ++ badL y k) = 1 := by
  rw [first_append (show first [97] = -1 by decide), bad_first hy hk, if_neg (by omega)]; rfl
section
variable {P : Program} {w : World} {ops : Array Oper} {rest : List Oper} {o : Oper} {a : Act} {Q : Exit → Act → World → Prop}
/-- 'string([]byte{..})': bytes just laid. -/
theorem wpList_new_string (hgd : o.guard = none) (src dst e : TypeId) (x : Operand) (ho : o.op = .convert src dst x) (g : Nat) (l : List UInt8) (n c : Nat) (hx : a.eval x = .slice (some ⟨g, 0, none⟩) n c) (hn : l.length = n)
    (hs : P.underlying src = some (.slice e)) (he : P.underlying e = some (.int .u8)) (hd : P.underlying dst = some .string)
    (W : World) (cs : Array Value) (t : TypeId) (hw : w = W.alloc (.cells cs t)) (hg : W.heap.size = g) (hcs : cs.toList = l.map bv)
    (h : wpList P ops Q rest (a.put o.dst (.string (str l))) w) : wpList P ops Q (o :: rest) a w := by
  refine wpList_to_string hgd src dst e x ho g l n c hx hn hs he hd (fun j hj => ?_) h
  subst hw; subst hg; subst hn
  rw [cell_of_row _ _ _ _ _ _ (heap_alloc_new W _), ← Array.getElem?_toList, hcs, List.getElem?_map, List.getElem?_eq_getElem hj, byteAt_get l j hj]; rfl
end
theorem bvn {z : Nat} (h : z < 256) : bv (UInt8.ofNat z) = .int .u8 (z : Int) := by unfold bv; rw [UInt8.toNat_ofNat', Nat.mod_eq_of_lt (by omega)]
theorem new_cell (W : World) (cs : Array Value) (t : TypeId) (g j : Nat) (hg : g = W.heap.size) : (W.alloc (.cells cs t)).cell? ⟨g, j, none⟩ = cs[j]? := by
  subst hg; exact cell_of_row _ _ _ _ _ _ (heap_alloc_new W _)
set_option maxRecDepth 100000 in
set_option maxHeartbeats 16000000 in
theorem utfForms_any (which low : Int) (w : World) (_h1 : (Lit.int .i64 which).wf = true) (_h2 : (Lit.int .i64 low).wf = true) :
    Calls Try.prog 24 #[.int .i64 which, .int .i64 low] w fun e w' => e = .returned (.bool true) ∧ Below w.heap.size w w' := by
  clear _h1 _h2
  obtain ⟨m, hm, hm2⟩ := Crc.mod_nat which 9 (by omega)
  have hm2 : (IntKind.u64.wrap which).tmod 9 = (m : Int) := hm2
  have ha : bits .and .i64 low 63 = low % 64 := by
    have := and_mask_i64 low 6 (by omega); exact this
  obtain ⟨y, hyy⟩ : ∃ y : Nat, y = (low % 64).toNat := ⟨_, rfl⟩
  have hy2 : low % 64 = (y : Int) := by omega
  rw [hy2] at ha
  have hy : y < 64 := by omega
  clear hy2 hyy
  have hx31 : bits .and .u8 (128 + (y : Int)) 31 = ((y % 32 : Nat) : Int) := by
    have := and_u8 (128 + y) 31 (by omega) (by omega)
    rw [show (128 + y) &&& 31 = (128 + y) % 32 from Nat.and_two_pow_sub_one_eq_mod _ 5, show (128 + y) % 32 = y % 32 by omega] at this
    exact this
  have hx15 : bits .and .u8 (128 + (y : Int)) 15 = ((y % 16 : Nat) : Int) := by
    have := and_u8 (128 + y) 15 (by omega) (by omega)
    rw [show (128 + y) &&& 15 = (128 + y) % 16 from Nat.and_two_pow_sub_one_eq_mod _ 4, show (128 + y) % 16 = y % 16 by omega] at this
    exact this
  have hms : m = 0 ∨ m = 1 ∨ m = 2 ∨ m = 3 ∨ m = 4 ∨ m = 5 ∨ m = 6 ∨ m = 7 ∨ m = 8 := by omega
  have HMS := Lib.hid hms; clear hms hm
  have HY := Lib.hid hy
  have y1 : y % 32 < 32 := Nat.mod_lt _ (by omega)
  have y2 : y % 16 < 16 := Nat.mod_lt _ (by omega)
  obtain ⟨y3, hy3⟩ : ∃ z, z = y % 32 := ⟨_, rfl⟩
  obtain ⟨y4, hy4⟩ : ∃ z, z = y % 16 := ⟨_, rfl⟩
  rw [← hy3] at hx31 y1
  rw [← hy4] at hx15 y2
  have n1 : bv (UInt8.ofNat (128 + y)) = .int .u8 (128 + (y : Int)) := by rw [bvn (by omega)]; congr 1
  have n2 : bv (UInt8.ofNat (128 + y3)) = .int .u8 (128 + (y3 : Int)) := by rw [bvn (by omega)]; congr 1
  have n3 : bv (UInt8.ofNat (160 + y3)) = .int .u8 (160 + (y3 : Int)) := by rw [bvn (by omega)]; congr 1
  have n4 : bv (UInt8.ofNat (128 + y4)) = .int .u8 (128 + (y4 : Int)) := by rw [bvn (by omega)]; congr 1
  have n5 : bv (UInt8.ofNat (144 + y4)) = .int .u8 (144 + (y4 : Int)) := by rw [bvn (by omega)]; congr 1
  have l0 : (badL y 0).map bv = [.int .u8 192, .int .u8 (128 + (y : Int))] := by simp only [badL, List.map, n1]; rfl
  have l1 : (badL y 1).map bv = [.int .u8 193, .int .u8 (128 + (y : Int))] := by simp only [badL, List.map, n1]; rfl
  have l2 : (badL y 2).map bv = [.int .u8 224, .int .u8 (128 + (y3 : Int)), .int .u8 (128 + (y : Int))] := by simp only [badL, List.map, n1, ← hy3, n2]; rfl
  have l3 : (badL y 3).map bv = [.int .u8 237, .int .u8 (160 + (y3 : Int)), .int .u8 (128 + (y : Int))] := by simp only [badL, List.map, n1, ← hy3, n3]; rfl
  have l4 : (badL y 4).map bv = [.int .u8 240, .int .u8 (128 + (y4 : Int)), .int .u8 (128 + (y : Int)), .int .u8 (128 + (y : Int))] := by simp only [badL, List.map, n1, ← hy4, n4]; rfl
  have l5 : (badL y 5).map bv = [.int .u8 244, .int .u8 (144 + (y4 : Int)), .int .u8 (128 + (y : Int)), .int .u8 (128 + (y : Int))] := by simp only [badL, List.map, n1, ← hy4, n5]; rfl
  have l6 : (badL y 6).map bv = [.int .u8 245, .int .u8 (128 + (y : Int)), .int .u8 (128 + (y : Int)), .int .u8 (128 + (y : Int))] := by simp only [badL, List.map, n1]; rfl
  have l7 : (badL y 7).map bv = [.int .u8 (128 + (y : Int))] := by simp only [badL, List.map, n1]
  have l8 : (badL y 8).map bv = [.int .u8 255] := rfl
  have HL := Lib.hid (And.intro l0 (And.intro l1 (And.intro l2 (And.intro l3 (And.intro l4 (And.intro l5 (And.intro l6 (And.intro l7 l8))))))))
  clear n1 n2 n3 n4 n5 l0 l1 l2 l3 l4 l5 l6 l7 l8 hy3 hy4
  go_enter Try.func24, Try.ntmps24
  go_upto_region 4 with (go_at_call 108; with_reducible refine (awake_any _).mono ?_; rintro e w1 ⟨rfl, hb1⟩)
  go_cut [6] (fun v6 wx => ∃ g, v6 = .slice (some ⟨g, 0, none⟩) 9 9 ∧ Below w.heap.size w wx ∧ Hid (∀ k, k < 9 → wx.cell? ⟨g, k, none⟩ = some (.string (str (badL y k)))))
  case first =>
    go_wp2_with (first
      | (refine wpList_new_string rfl 32 9 5 (.tmp 17) rfl _ (badL y 0) 2 2 rfl rfl Try.underlying32 Try.underlying5 Try.underlying9 _ _ _ rfl (by simp) (by rw [HL.out.1]) ?_)
      | (refine wpList_new_string rfl 32 9 5 (.tmp 20) rfl _ (badL y 1) 2 2 rfl rfl Try.underlying32 Try.underlying5 Try.underlying9 _ _ _ rfl (by simp) (by rw [HL.out.2.1]) ?_)
      | (refine wpList_new_string rfl 32 9 5 (.tmp 26) rfl _ (badL y 2) 3 3 rfl rfl Try.underlying32 Try.underlying5 Try.underlying9 _ _ _ rfl (by simp) (by rw [HL.out.2.2.1]) ?_)
      | (refine wpList_new_string rfl 32 9 5 (.tmp 32) rfl _ (badL y 3) 3 3 rfl rfl Try.underlying32 Try.underlying5 Try.underlying9 _ _ _ rfl (by simp) (by rw [HL.out.2.2.2.1]) ?_)
      | (refine wpList_new_string rfl 32 9 5 (.tmp 39) rfl _ (badL y 4) 4 4 rfl rfl Try.underlying32 Try.underlying5 Try.underlying9 _ _ _ rfl (by simp) (by rw [HL.out.2.2.2.2.1]) ?_)
      | (refine wpList_new_string rfl 32 9 5 (.tmp 46) rfl _ (badL y 5) 4 4 rfl rfl Try.underlying32 Try.underlying5 Try.underlying9 _ _ _ rfl (by simp) (by rw [HL.out.2.2.2.2.2.1]) ?_)
      | (refine wpList_new_string rfl 32 9 5 (.tmp 51) rfl _ (badL y 6) 4 4 rfl rfl Try.underlying32 Try.underlying5 Try.underlying9 _ _ _ rfl (by simp) (by rw [HL.out.2.2.2.2.2.2.1]) ?_)
      | (refine wpList_new_string rfl 32 9 5 (.tmp 54) rfl _ (badL y 7) 1 1 rfl rfl Try.underlying32 Try.underlying5 Try.underlying9 _ _ _ rfl (by simp) (by rw [HL.out.2.2.2.2.2.2.2.1]) ?_)
      | (refine wpList_new_string rfl 32 9 5 (.tmp 56) rfl _ (badL y 8) 1 1 rfl rfl Try.underlying32 Try.underlying5 Try.underlying9 _ _ _ rfl (by simp) (by rw [HL.out.2.2.2.2.2.2.2.2]) ?_))
    go_meet
    refine ⟨_, rfl, ?_, Lib.hid fun k hk => ?_⟩
    · exact (bthen (bthen (bthen (bthen (bthen (bthen (bthen (bthen (bthen (bthen hb1 (Vals.one_new _) (Nat.le_refl _)) (Vals.one_new _) (Nat.le_refl _)) (Vals.one_new _) (Nat.le_refl _)) (Vals.one_new _) (Nat.le_refl _)) (Vals.one_new _) (Nat.le_refl _)) (Vals.one_new _) (Nat.le_refl _)) (Vals.one_new _) (Nat.le_refl _)) (Vals.one_new _) (Nat.le_refl _)) (Vals.one_new _) (Nat.le_refl _)) (Vals.one_new _) (Nat.le_refl _))
    · rw [new_cell _ _ _ _ _ (by simp)]
      have hk9 : k = 0 ∨ k = 1 ∨ k = 2 ∨ k = 3 ∨ k = 4 ∨ k = 5 ∨ k = 6 ∨ k = 7 ∨ k = 8 := by omega
      rcases hk9 with rfl | rfl | rfl | rfl | rfl | rfl | rfl | rfl | rfl <;> rfl
  case rest =>
    obtain ⟨g, rfl, hb, hcl⟩ := hcut
    have HB1 := Lib.hid hb; clear hb
    clear ha hx31 hx15 y1 y2 HL y3 y4
    rcases HMS.out with rfl | rfl | rfl | rfl | rfl | rfl | rfl | rfl | rfl
    ·
      have hrn := bad_rune (k := 0) hy (by omega)
      have hfs := bad_first (k := 0) hy (by omega)
      have hsn := bad_second (k := 0) hy (by omega)
      have hln := bad_len y 0
      have hps := bad_pos y 0
      have h1 : ∀ w, Calls Try.prog 100 #[.string (str (badL y 0)), .int .i64 0] w fun e w' => e = .returned (.tuple #[.int .i64 0, .int .i64 0]) ∧ Below w.heap.size w w' := fun w => by
        have h := rune_any (str (badL y 0)) 0 w (by rw [str_size]; unfold maxReach; omega)
        have e : runeAt (str (badL y 0)).data.toList 0 = (0, 0) := by
          rw [str_toList]
          have := runeAt_in (l := badL y 0) (a := 0) (List.length_pos_iff.2 hps)
          rw [show ((0 : Nat) : Int) = 0 from rfl] at this
          rw [this, List.drop_zero, hrn]
        rw [e] at h; exact h
      have h2 : ∀ w, Calls Try.prog 106 #[.string (str (badL y 0))] w fun e w' => e = .returned (.bool false) ∧ Below w.heap.size w w' := fun w => by
        have h := valid_any (str (badL y 0)) w (by rw [str_size]; unfold maxReach; omega)
        have e : valid (str (badL y 0)).data.toList = false := by rw [str_toList]; unfold valid; rw [hfs]; rfl
        rw [e] at h; exact h
      have h3 : ∀ w, Calls Try.prog 104 #[.string ({ data := #[97] } ++ str (badL y 0))] w fun e w' => e = .returned (.int .i64 1) ∧ Below w.heap.size w w' := fun w => by
        have h := first_any ({ data := #[97] } ++ str (badL y 0)) w (by rw [ByteArray.size_append, str_size]; unfold maxReach; show 1 + _ ≤ _; omega)
        have e : first ({ data := #[97] } ++ str (badL y 0) : ByteArray).data.toList = 1 := by rw [append_toList]; exact hsn
        rw [e] at h; exact h
      have HF1 := Lib.hid h1
      have HF2 := Lib.hid h2
      have HF3 := Lib.hid h3
      have hsz : (str (badL y 0)).size ≤ 4 := by rw [str_size]; exact hln
      clear h1 h2 h3 hrn hfs hsn hln hps
      have hc0 := hcl.out 0 (by omega)
      generalize str (badL y 0) = S at *
      go_wp2_with (first
        | (go_at_call 100; with_reducible refine (HF1.out _).mono ?_; rintro e w2 ⟨rfl, hb2⟩)
        | (go_at_call 106; with_reducible refine (HF2.out _).mono ?_; rintro e w3 ⟨rfl, hb3⟩)
        | (go_at_call 104; with_reducible refine (HF3.out _).mono ?_; rintro e w4 ⟨rfl, hb4⟩)
        | (go_at_call 106; with_reducible refine (a_none _).mono ?_; rintro e w5 ⟨rfl, hb5⟩)
        | (go_at_call 56; with_reducible refine (boathouseNames.num_any _ _).mono ?_; rintro e w' ⟨rfl, rfl⟩))
      go_ret
      exact ⟨rfl, bthen (bthen (bthen (bthen HB1.out hb2 (Nat.le_refl _)) hb3 (Nat.le_refl _)) hb4 (Nat.le_refl _)) hb5 (Nat.le_refl _)⟩
    ·
      have hrn := bad_rune (k := 1) hy (by omega)
      have hfs := bad_first (k := 1) hy (by omega)
      have hsn := bad_second (k := 1) hy (by omega)
      have hln := bad_len y 1
      have hps := bad_pos y 1
      have h1 : ∀ w, Calls Try.prog 100 #[.string (str (badL y 1)), .int .i64 0] w fun e w' => e = .returned (.tuple #[.int .i64 0, .int .i64 0]) ∧ Below w.heap.size w w' := fun w => by
        have h := rune_any (str (badL y 1)) 0 w (by rw [str_size]; unfold maxReach; omega)
        have e : runeAt (str (badL y 1)).data.toList 0 = (0, 0) := by
          rw [str_toList]
          have := runeAt_in (l := badL y 1) (a := 0) (List.length_pos_iff.2 hps)
          rw [show ((0 : Nat) : Int) = 0 from rfl] at this
          rw [this, List.drop_zero, hrn]
        rw [e] at h; exact h
      have h2 : ∀ w, Calls Try.prog 106 #[.string (str (badL y 1))] w fun e w' => e = .returned (.bool false) ∧ Below w.heap.size w w' := fun w => by
        have h := valid_any (str (badL y 1)) w (by rw [str_size]; unfold maxReach; omega)
        have e : valid (str (badL y 1)).data.toList = false := by rw [str_toList]; unfold valid; rw [hfs]; rfl
        rw [e] at h; exact h
      have h3 : ∀ w, Calls Try.prog 104 #[.string ({ data := #[97] } ++ str (badL y 1))] w fun e w' => e = .returned (.int .i64 1) ∧ Below w.heap.size w w' := fun w => by
        have h := first_any ({ data := #[97] } ++ str (badL y 1)) w (by rw [ByteArray.size_append, str_size]; unfold maxReach; show 1 + _ ≤ _; omega)
        have e : first ({ data := #[97] } ++ str (badL y 1) : ByteArray).data.toList = 1 := by rw [append_toList]; exact hsn
        rw [e] at h; exact h
      have HF1 := Lib.hid h1
      have HF2 := Lib.hid h2
      have HF3 := Lib.hid h3
      have hsz : (str (badL y 1)).size ≤ 4 := by rw [str_size]; exact hln
      clear h1 h2 h3 hrn hfs hsn hln hps
      have hc0 := hcl.out 1 (by omega)
      generalize str (badL y 1) = S at *
      go_wp2_with (first
        | (go_at_call 100; with_reducible refine (HF1.out _).mono ?_; rintro e w2 ⟨rfl, hb2⟩)
        | (go_at_call 106; with_reducible refine (HF2.out _).mono ?_; rintro e w3 ⟨rfl, hb3⟩)
        | (go_at_call 104; with_reducible refine (HF3.out _).mono ?_; rintro e w4 ⟨rfl, hb4⟩)
        | (go_at_call 106; with_reducible refine (a_none _).mono ?_; rintro e w5 ⟨rfl, hb5⟩)
        | (go_at_call 56; with_reducible refine (boathouseNames.num_any _ _).mono ?_; rintro e w' ⟨rfl, rfl⟩))
      go_ret
      exact ⟨rfl, bthen (bthen (bthen (bthen HB1.out hb2 (Nat.le_refl _)) hb3 (Nat.le_refl _)) hb4 (Nat.le_refl _)) hb5 (Nat.le_refl _)⟩
    ·
      have hrn := bad_rune (k := 2) hy (by omega)
      have hfs := bad_first (k := 2) hy (by omega)
      have hsn := bad_second (k := 2) hy (by omega)
      have hln := bad_len y 2
      have hps := bad_pos y 2
      have h1 : ∀ w, Calls Try.prog 100 #[.string (str (badL y 2)), .int .i64 0] w fun e w' => e = .returned (.tuple #[.int .i64 0, .int .i64 0]) ∧ Below w.heap.size w w' := fun w => by
        have h := rune_any (str (badL y 2)) 0 w (by rw [str_size]; unfold maxReach; omega)
        have e : runeAt (str (badL y 2)).data.toList 0 = (0, 0) := by
          rw [str_toList]
          have := runeAt_in (l := badL y 2) (a := 0) (List.length_pos_iff.2 hps)
          rw [show ((0 : Nat) : Int) = 0 from rfl] at this
          rw [this, List.drop_zero, hrn]
        rw [e] at h; exact h
      have h2 : ∀ w, Calls Try.prog 106 #[.string (str (badL y 2))] w fun e w' => e = .returned (.bool false) ∧ Below w.heap.size w w' := fun w => by
        have h := valid_any (str (badL y 2)) w (by rw [str_size]; unfold maxReach; omega)
        have e : valid (str (badL y 2)).data.toList = false := by rw [str_toList]; unfold valid; rw [hfs]; rfl
        rw [e] at h; exact h
      have h3 : ∀ w, Calls Try.prog 104 #[.string ({ data := #[97] } ++ str (badL y 2))] w fun e w' => e = .returned (.int .i64 1) ∧ Below w.heap.size w w' := fun w => by
        have h := first_any ({ data := #[97] } ++ str (badL y 2)) w (by rw [ByteArray.size_append, str_size]; unfold maxReach; show 1 + _ ≤ _; omega)
        have e : first ({ data := #[97] } ++ str (badL y 2) : ByteArray).data.toList = 1 := by rw [append_toList]; exact hsn
        rw [e] at h; exact h
      have HF1 := Lib.hid h1
      have HF2 := Lib.hid h2
      have HF3 := Lib.hid h3
      have hsz : (str (badL y 2)).size ≤ 4 := by rw [str_size]; exact hln
      clear h1 h2 h3 hrn hfs hsn hln hps
      have hc0 := hcl.out 2 (by omega)
      generalize str (badL y 2) = S at *
      go_wp2_with (first
        | (go_at_call 100; with_reducible refine (HF1.out _).mono ?_; rintro e w2 ⟨rfl, hb2⟩)
        | (go_at_call 106; with_reducible refine (HF2.out _).mono ?_; rintro e w3 ⟨rfl, hb3⟩)
        | (go_at_call 104; with_reducible refine (HF3.out _).mono ?_; rintro e w4 ⟨rfl, hb4⟩)
        | (go_at_call 106; with_reducible refine (a_none _).mono ?_; rintro e w5 ⟨rfl, hb5⟩)
        | (go_at_call 56; with_reducible refine (boathouseNames.num_any _ _).mono ?_; rintro e w' ⟨rfl, rfl⟩))
      go_ret
      exact ⟨rfl, bthen (bthen (bthen (bthen HB1.out hb2 (Nat.le_refl _)) hb3 (Nat.le_refl _)) hb4 (Nat.le_refl _)) hb5 (Nat.le_refl _)⟩
    ·
      have hrn := bad_rune (k := 3) hy (by omega)
      have hfs := bad_first (k := 3) hy (by omega)
      have hsn := bad_second (k := 3) hy (by omega)
      have hln := bad_len y 3
      have hps := bad_pos y 3
      have h1 : ∀ w, Calls Try.prog 100 #[.string (str (badL y 3)), .int .i64 0] w fun e w' => e = .returned (.tuple #[.int .i64 0, .int .i64 0]) ∧ Below w.heap.size w w' := fun w => by
        have h := rune_any (str (badL y 3)) 0 w (by rw [str_size]; unfold maxReach; omega)
        have e : runeAt (str (badL y 3)).data.toList 0 = (0, 0) := by
          rw [str_toList]
          have := runeAt_in (l := badL y 3) (a := 0) (List.length_pos_iff.2 hps)
          rw [show ((0 : Nat) : Int) = 0 from rfl] at this
          rw [this, List.drop_zero, hrn]
        rw [e] at h; exact h
      have h2 : ∀ w, Calls Try.prog 106 #[.string (str (badL y 3))] w fun e w' => e = .returned (.bool false) ∧ Below w.heap.size w w' := fun w => by
        have h := valid_any (str (badL y 3)) w (by rw [str_size]; unfold maxReach; omega)
        have e : valid (str (badL y 3)).data.toList = false := by rw [str_toList]; unfold valid; rw [hfs]; rfl
        rw [e] at h; exact h
      have h3 : ∀ w, Calls Try.prog 104 #[.string ({ data := #[97] } ++ str (badL y 3))] w fun e w' => e = .returned (.int .i64 1) ∧ Below w.heap.size w w' := fun w => by
        have h := first_any ({ data := #[97] } ++ str (badL y 3)) w (by rw [ByteArray.size_append, str_size]; unfold maxReach; show 1 + _ ≤ _; omega)
        have e : first ({ data := #[97] } ++ str (badL y 3) : ByteArray).data.toList = 1 := by rw [append_toList]; exact hsn
        rw [e] at h; exact h
      have HF1 := Lib.hid h1
      have HF2 := Lib.hid h2
      have HF3 := Lib.hid h3
      have hsz : (str (badL y 3)).size ≤ 4 := by rw [str_size]; exact hln
      clear h1 h2 h3 hrn hfs hsn hln hps
      have hc0 := hcl.out 3 (by omega)
      generalize str (badL y 3) = S at *
      go_wp2_with (first
        | (go_at_call 100; with_reducible refine (HF1.out _).mono ?_; rintro e w2 ⟨rfl, hb2⟩)
        | (go_at_call 106; with_reducible refine (HF2.out _).mono ?_; rintro e w3 ⟨rfl, hb3⟩)
        | (go_at_call 104; with_reducible refine (HF3.out _).mono ?_; rintro e w4 ⟨rfl, hb4⟩)
        | (go_at_call 106; with_reducible refine (a_none _).mono ?_; rintro e w5 ⟨rfl, hb5⟩)
        | (go_at_call 56; with_reducible refine (boathouseNames.num_any _ _).mono ?_; rintro e w' ⟨rfl, rfl⟩))
      go_ret
      exact ⟨rfl, bthen (bthen (bthen (bthen HB1.out hb2 (Nat.le_refl _)) hb3 (Nat.le_refl _)) hb4 (Nat.le_refl _)) hb5 (Nat.le_refl _)⟩
    ·
      have hrn := bad_rune (k := 4) hy (by omega)
      have hfs := bad_first (k := 4) hy (by omega)
      have hsn := bad_second (k := 4) hy (by omega)
      have hln := bad_len y 4
      have hps := bad_pos y 4
      have h1 : ∀ w, Calls Try.prog 100 #[.string (str (badL y 4)), .int .i64 0] w fun e w' => e = .returned (.tuple #[.int .i64 0, .int .i64 0]) ∧ Below w.heap.size w w' := fun w => by
        have h := rune_any (str (badL y 4)) 0 w (by rw [str_size]; unfold maxReach; omega)
        have e : runeAt (str (badL y 4)).data.toList 0 = (0, 0) := by
          rw [str_toList]
          have := runeAt_in (l := badL y 4) (a := 0) (List.length_pos_iff.2 hps)
          rw [show ((0 : Nat) : Int) = 0 from rfl] at this
          rw [this, List.drop_zero, hrn]
        rw [e] at h; exact h
      have h2 : ∀ w, Calls Try.prog 106 #[.string (str (badL y 4))] w fun e w' => e = .returned (.bool false) ∧ Below w.heap.size w w' := fun w => by
        have h := valid_any (str (badL y 4)) w (by rw [str_size]; unfold maxReach; omega)
        have e : valid (str (badL y 4)).data.toList = false := by rw [str_toList]; unfold valid; rw [hfs]; rfl
        rw [e] at h; exact h
      have h3 : ∀ w, Calls Try.prog 104 #[.string ({ data := #[97] } ++ str (badL y 4))] w fun e w' => e = .returned (.int .i64 1) ∧ Below w.heap.size w w' := fun w => by
        have h := first_any ({ data := #[97] } ++ str (badL y 4)) w (by rw [ByteArray.size_append, str_size]; unfold maxReach; show 1 + _ ≤ _; omega)
        have e : first ({ data := #[97] } ++ str (badL y 4) : ByteArray).data.toList = 1 := by rw [append_toList]; exact hsn
        rw [e] at h; exact h
      have HF1 := Lib.hid h1
      have HF2 := Lib.hid h2
      have HF3 := Lib.hid h3
      have hsz : (str (badL y 4)).size ≤ 4 := by rw [str_size]; exact hln
      clear h1 h2 h3 hrn hfs hsn hln hps
      have hc0 := hcl.out 4 (by omega)
      generalize str (badL y 4) = S at *
      go_wp2_with (first
        | (go_at_call 100; with_reducible refine (HF1.out _).mono ?_; rintro e w2 ⟨rfl, hb2⟩)
        | (go_at_call 106; with_reducible refine (HF2.out _).mono ?_; rintro e w3 ⟨rfl, hb3⟩)
        | (go_at_call 104; with_reducible refine (HF3.out _).mono ?_; rintro e w4 ⟨rfl, hb4⟩)
        | (go_at_call 106; with_reducible refine (a_none _).mono ?_; rintro e w5 ⟨rfl, hb5⟩)
        | (go_at_call 56; with_reducible refine (boathouseNames.num_any _ _).mono ?_; rintro e w' ⟨rfl, rfl⟩))
      go_ret
      exact ⟨rfl, bthen (bthen (bthen (bthen HB1.out hb2 (Nat.le_refl _)) hb3 (Nat.le_refl _)) hb4 (Nat.le_refl _)) hb5 (Nat.le_refl _)⟩
    ·
      have hrn := bad_rune (k := 5) hy (by omega)
      have hfs := bad_first (k := 5) hy (by omega)
      have hsn := bad_second (k := 5) hy (by omega)
      have hln := bad_len y 5
      have hps := bad_pos y 5
      have h1 : ∀ w, Calls Try.prog 100 #[.string (str (badL y 5)), .int .i64 0] w fun e w' => e = .returned (.tuple #[.int .i64 0, .int .i64 0]) ∧ Below w.heap.size w w' := fun w => by
        have h := rune_any (str (badL y 5)) 0 w (by rw [str_size]; unfold maxReach; omega)
        have e : runeAt (str (badL y 5)).data.toList 0 = (0, 0) := by
          rw [str_toList]
          have := runeAt_in (l := badL y 5) (a := 0) (List.length_pos_iff.2 hps)
          rw [show ((0 : Nat) : Int) = 0 from rfl] at this
          rw [this, List.drop_zero, hrn]
        rw [e] at h; exact h
      have h2 : ∀ w, Calls Try.prog 106 #[.string (str (badL y 5))] w fun e w' => e = .returned (.bool false) ∧ Below w.heap.size w w' := fun w => by
        have h := valid_any (str (badL y 5)) w (by rw [str_size]; unfold maxReach; omega)
        have e : valid (str (badL y 5)).data.toList = false := by rw [str_toList]; unfold valid; rw [hfs]; rfl
        rw [e] at h; exact h
      have h3 : ∀ w, Calls Try.prog 104 #[.string ({ data := #[97] } ++ str (badL y 5))] w fun e w' => e = .returned (.int .i64 1) ∧ Below w.heap.size w w' := fun w => by
        have h := first_any ({ data := #[97] } ++ str (badL y 5)) w (by rw [ByteArray.size_append, str_size]; unfold maxReach; show 1 + _ ≤ _; omega)
        have e : first ({ data := #[97] } ++ str (badL y 5) : ByteArray).data.toList = 1 := by rw [append_toList]; exact hsn
        rw [e] at h; exact h
      have HF1 := Lib.hid h1
      have HF2 := Lib.hid h2
      have HF3 := Lib.hid h3
      have hsz : (str (badL y 5)).size ≤ 4 := by rw [str_size]; exact hln
      clear h1 h2 h3 hrn hfs hsn hln hps
      have hc0 := hcl.out 5 (by omega)
      generalize str (badL y 5) = S at *
      go_wp2_with (first
        | (go_at_call 100; with_reducible refine (HF1.out _).mono ?_; rintro e w2 ⟨rfl, hb2⟩)
        | (go_at_call 106; with_reducible refine (HF2.out _).mono ?_; rintro e w3 ⟨rfl, hb3⟩)
        | (go_at_call 104; with_reducible refine (HF3.out _).mono ?_; rintro e w4 ⟨rfl, hb4⟩)
        | (go_at_call 106; with_reducible refine (a_none _).mono ?_; rintro e w5 ⟨rfl, hb5⟩)
        | (go_at_call 56; with_reducible refine (boathouseNames.num_any _ _).mono ?_; rintro e w' ⟨rfl, rfl⟩))
      go_ret
      exact ⟨rfl, bthen (bthen (bthen (bthen HB1.out hb2 (Nat.le_refl _)) hb3 (Nat.le_refl _)) hb4 (Nat.le_refl _)) hb5 (Nat.le_refl _)⟩
    ·
      have hrn := bad_rune (k := 6) hy (by omega)
      have hfs := bad_first (k := 6) hy (by omega)
      have hsn := bad_second (k := 6) hy (by omega)
      have hln := bad_len y 6
      have hps := bad_pos y 6
      have h1 : ∀ w, Calls Try.prog 100 #[.string (str (badL y 6)), .int .i64 0] w fun e w' => e = .returned (.tuple #[.int .i64 0, .int .i64 0]) ∧ Below w.heap.size w w' := fun w => by
        have h := rune_any (str (badL y 6)) 0 w (by rw [str_size]; unfold maxReach; omega)
        have e : runeAt (str (badL y 6)).data.toList 0 = (0, 0) := by
          rw [str_toList]
          have := runeAt_in (l := badL y 6) (a := 0) (List.length_pos_iff.2 hps)
          rw [show ((0 : Nat) : Int) = 0 from rfl] at this
          rw [this, List.drop_zero, hrn]
        rw [e] at h; exact h
      have h2 : ∀ w, Calls Try.prog 106 #[.string (str (badL y 6))] w fun e w' => e = .returned (.bool false) ∧ Below w.heap.size w w' := fun w => by
        have h := valid_any (str (badL y 6)) w (by rw [str_size]; unfold maxReach; omega)
        have e : valid (str (badL y 6)).data.toList = false := by rw [str_toList]; unfold valid; rw [hfs]; rfl
        rw [e] at h; exact h
      have h3 : ∀ w, Calls Try.prog 104 #[.string ({ data := #[97] } ++ str (badL y 6))] w fun e w' => e = .returned (.int .i64 1) ∧ Below w.heap.size w w' := fun w => by
        have h := first_any ({ data := #[97] } ++ str (badL y 6)) w (by rw [ByteArray.size_append, str_size]; unfold maxReach; show 1 + _ ≤ _; omega)
        have e : first ({ data := #[97] } ++ str (badL y 6) : ByteArray).data.toList = 1 := by rw [append_toList]; exact hsn
        rw [e] at h; exact h
      have HF1 := Lib.hid h1
      have HF2 := Lib.hid h2
      have HF3 := Lib.hid h3
      have hsz : (str (badL y 6)).size ≤ 4 := by rw [str_size]; exact hln
      clear h1 h2 h3 hrn hfs hsn hln hps
      have hc0 := hcl.out 6 (by omega)
      generalize str (badL y 6) = S at *
      go_wp2_with (first
        | (go_at_call 100; with_reducible refine (HF1.out _).mono ?_; rintro e w2 ⟨rfl, hb2⟩)
        | (go_at_call 106; with_reducible refine (HF2.out _).mono ?_; rintro e w3 ⟨rfl, hb3⟩)
        | (go_at_call 104; with_reducible refine (HF3.out _).mono ?_; rintro e w4 ⟨rfl, hb4⟩)
        | (go_at_call 106; with_reducible refine (a_none _).mono ?_; rintro e w5 ⟨rfl, hb5⟩)
        | (go_at_call 56; with_reducible refine (boathouseNames.num_any _ _).mono ?_; rintro e w' ⟨rfl, rfl⟩))
      go_ret
      exact ⟨rfl, bthen (bthen (bthen (bthen HB1.out hb2 (Nat.le_refl _)) hb3 (Nat.le_refl _)) hb4 (Nat.le_refl _)) hb5 (Nat.le_refl _)⟩
    ·
      have hrn := bad_rune (k := 7) hy (by omega)
      have hfs := bad_first (k := 7) hy (by omega)
      have hsn := bad_second (k := 7) hy (by omega)
      have hln := bad_len y 7
      have hps := bad_pos y 7
      have h1 : ∀ w, Calls Try.prog 100 #[.string (str (badL y 7)), .int .i64 0] w fun e w' => e = .returned (.tuple #[.int .i64 0, .int .i64 0]) ∧ Below w.heap.size w w' := fun w => by
        have h := rune_any (str (badL y 7)) 0 w (by rw [str_size]; unfold maxReach; omega)
        have e : runeAt (str (badL y 7)).data.toList 0 = (0, 0) := by
          rw [str_toList]
          have := runeAt_in (l := badL y 7) (a := 0) (List.length_pos_iff.2 hps)
          rw [show ((0 : Nat) : Int) = 0 from rfl] at this
          rw [this, List.drop_zero, hrn]
        rw [e] at h; exact h
      have h2 : ∀ w, Calls Try.prog 106 #[.string (str (badL y 7))] w fun e w' => e = .returned (.bool false) ∧ Below w.heap.size w w' := fun w => by
        have h := valid_any (str (badL y 7)) w (by rw [str_size]; unfold maxReach; omega)
        have e : valid (str (badL y 7)).data.toList = false := by rw [str_toList]; unfold valid; rw [hfs]; rfl
        rw [e] at h; exact h
      have h3 : ∀ w, Calls Try.prog 104 #[.string ({ data := #[97] } ++ str (badL y 7))] w fun e w' => e = .returned (.int .i64 1) ∧ Below w.heap.size w w' := fun w => by
        have h := first_any ({ data := #[97] } ++ str (badL y 7)) w (by rw [ByteArray.size_append, str_size]; unfold maxReach; show 1 + _ ≤ _; omega)
        have e : first ({ data := #[97] } ++ str (badL y 7) : ByteArray).data.toList = 1 := by rw [append_toList]; exact hsn
        rw [e] at h; exact h
      have HF1 := Lib.hid h1
      have HF2 := Lib.hid h2
      have HF3 := Lib.hid h3
      have hsz : (str (badL y 7)).size ≤ 4 := by rw [str_size]; exact hln
      clear h1 h2 h3 hrn hfs hsn hln hps
      have hc0 := hcl.out 7 (by omega)
      generalize str (badL y 7) = S at *
      go_wp2_with (first
        | (go_at_call 100; with_reducible refine (HF1.out _).mono ?_; rintro e w2 ⟨rfl, hb2⟩)
        | (go_at_call 106; with_reducible refine (HF2.out _).mono ?_; rintro e w3 ⟨rfl, hb3⟩)
        | (go_at_call 104; with_reducible refine (HF3.out _).mono ?_; rintro e w4 ⟨rfl, hb4⟩)
        | (go_at_call 106; with_reducible refine (a_none _).mono ?_; rintro e w5 ⟨rfl, hb5⟩)
        | (go_at_call 56; with_reducible refine (boathouseNames.num_any _ _).mono ?_; rintro e w' ⟨rfl, rfl⟩))
      go_ret
      exact ⟨rfl, bthen (bthen (bthen (bthen HB1.out hb2 (Nat.le_refl _)) hb3 (Nat.le_refl _)) hb4 (Nat.le_refl _)) hb5 (Nat.le_refl _)⟩
    ·
      have hrn := bad_rune (k := 8) hy (by omega)
      have hfs := bad_first (k := 8) hy (by omega)
      have hsn := bad_second (k := 8) hy (by omega)
      have hln := bad_len y 8
      have hps := bad_pos y 8
      have h1 : ∀ w, Calls Try.prog 100 #[.string (str (badL y 8)), .int .i64 0] w fun e w' => e = .returned (.tuple #[.int .i64 0, .int .i64 0]) ∧ Below w.heap.size w w' := fun w => by
        have h := rune_any (str (badL y 8)) 0 w (by rw [str_size]; unfold maxReach; omega)
        have e : runeAt (str (badL y 8)).data.toList 0 = (0, 0) := by
          rw [str_toList]
          have := runeAt_in (l := badL y 8) (a := 0) (List.length_pos_iff.2 hps)
          rw [show ((0 : Nat) : Int) = 0 from rfl] at this
          rw [this, List.drop_zero, hrn]
        rw [e] at h; exact h
      have h2 : ∀ w, Calls Try.prog 106 #[.string (str (badL y 8))] w fun e w' => e = .returned (.bool false) ∧ Below w.heap.size w w' := fun w => by
        have h := valid_any (str (badL y 8)) w (by rw [str_size]; unfold maxReach; omega)
        have e : valid (str (badL y 8)).data.toList = false := by rw [str_toList]; unfold valid; rw [hfs]; rfl
        rw [e] at h; exact h
      have h3 : ∀ w, Calls Try.prog 104 #[.string ({ data := #[97] } ++ str (badL y 8))] w fun e w' => e = .returned (.int .i64 1) ∧ Below w.heap.size w w' := fun w => by
        have h := first_any ({ data := #[97] } ++ str (badL y 8)) w (by rw [ByteArray.size_append, str_size]; unfold maxReach; show 1 + _ ≤ _; omega)
        have e : first ({ data := #[97] } ++ str (badL y 8) : ByteArray).data.toList = 1 := by rw [append_toList]; exact hsn
        rw [e] at h; exact h
      have HF1 := Lib.hid h1
      have HF2 := Lib.hid h2
      have HF3 := Lib.hid h3
      have hsz : (str (badL y 8)).size ≤ 4 := by rw [str_size]; exact hln
      clear h1 h2 h3 hrn hfs hsn hln hps
      have hc0 := hcl.out 8 (by omega)
      generalize str (badL y 8) = S at *
      go_wp2_with (first
        | (go_at_call 100; with_reducible refine (HF1.out _).mono ?_; rintro e w2 ⟨rfl, hb2⟩)
        | (go_at_call 106; with_reducible refine (HF2.out _).mono ?_; rintro e w3 ⟨rfl, hb3⟩)
        | (go_at_call 104; with_reducible refine (HF3.out _).mono ?_; rintro e w4 ⟨rfl, hb4⟩)
        | (go_at_call 106; with_reducible refine (a_none _).mono ?_; rintro e w5 ⟨rfl, hb5⟩)
        | (go_at_call 56; with_reducible refine (boathouseNames.num_any _ _).mono ?_; rintro e w' ⟨rfl, rfl⟩))
      go_ret
      exact ⟨rfl, bthen (bthen (bthen (bthen HB1.out hb2 (Nat.le_refl _)) hb3 (Nat.le_refl _)) hb4 (Nat.le_refl _)) hb5 (Nat.le_refl _)⟩
end Go.Proofs.Ytkkpcdpoldjmkaa.Utf
