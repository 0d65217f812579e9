/-
  Lemmas of this claim, text behind text: VecOrder, VecShort, VecLimits. Each states its own conditions.
-/
import Derived.Test.YtcfjagbdjnlfoaaPart06
import Derived.Test.YtcfjagbdjnlfoaaPart12

/-
  THE WALK of boathouselaw9.VecOrder. (Printed by wip/tools/genvo.py.)
-/

namespace Go.Proofs.Ytcfjagbdjnlfoaa.Vec
open Go.RowKit ValMath Vals Sl VecMath Words

theorem keep3 {w : World} {f g h : Nat} {a b c : Val} (h1 : Box w f a) (h2 : Box w g b) (h3 : Box w h c) : (w.cell? ⟨f, 0, none⟩ = some (.int .i64 a.k) ∧ w.cell? ⟨f, 1, none⟩ = some (.int .i64 a.i) ∧ w.cell? ⟨f, 2, none⟩ = some (.bool a.b) ∧ w.cell? ⟨f, 3, none⟩ = some (.string a.s)) ∧ (w.cell? ⟨g, 0, none⟩ = some (.int .i64 b.k) ∧ w.cell? ⟨g, 1, none⟩ = some (.int .i64 b.i) ∧ w.cell? ⟨g, 2, none⟩ = some (.bool b.b) ∧ w.cell? ⟨g, 3, none⟩ = some (.string b.s)) ∧ (w.cell? ⟨h, 0, none⟩ = some (.int .i64 c.k) ∧ w.cell? ⟨h, 1, none⟩ = some (.int .i64 c.i) ∧ w.cell? ⟨h, 2, none⟩ = some (.bool c.b) ∧ w.cell? ⟨h, 3, none⟩ = some (.string c.s)) := ⟨h1.cells, h2.cells, h3.cells⟩
theorem order_facts (a b c : Val) : (less a b && less b a) = false ∧ less a a = false ∧ (less a b && less b c && !less a c) = false ∧ decide (clean a = clean b) = (!less a b && !less b a) := by
  refine ⟨?_, ?_, ?_, ?_⟩
  · cases h1 : less a b <;> cases h2 : less b a <;> first | rfl | exact (less_both h1 h2).elim
  · exact less_self a
  · cases h1 : less a b <;> cases h2 : less b c <;> first | rfl | (rw [less_over h1 h2]; rfl)
  · cases h1 : less a b <;> cases h2 : less b a
    · exact decide_eq_true ((same_iff a b).2 ⟨h1, h2⟩)
    all_goals exact decide_eq_false (fun e => by have := (same_iff a b).1 e; simp [h1, h2] at this)
set_option maxRecDepth 20000 in
set_option maxHeartbeats 8000000 in
theorem vecOrder_any (a b c : Val) (w : World) :
    Calls Try.prog 8 #[vagg a, vagg b, vagg c] w fun e w' => e = .returned (.bool true) ∧ Below w.heap.size w w' := by
  obtain ⟨f1, f2, f3, f4⟩ := order_facts a b c
  have hab := fun w => Stats.less_any a b w
  have hba := fun w => Stats.less_any b a w
  have haa := fun w => Stats.less_any a a w
  have hbc := fun w => Stats.less_any b c w
  have hac := fun w => Stats.less_any a c w
  have hca := fun w => clean_any a w
  have hcb := fun w => clean_any b w
  have hq := eql_val (clean a) (clean b)
  have hgd := fun x y W => guard_val .eql x y #[.int .i64 (clean a).k, .int .i64 (clean a).i, .bool (clean a).b, .string (clean a).s] #[.int .i64 (clean b).k, .int .i64 (clean b).i, .bool (clean b).b, .string (clean b).s] W
  rw [f4] at hq
  rw [f2] at haa
  generalize less a b = Lab at *
  generalize less b a = Lba at *
  generalize less b c = Lbc at *
  generalize less a c = Lac at *
  generalize clean a = ca at *
  generalize clean b = cb at *
  obtain ⟨ka, ia, ba, sa⟩ := a
  obtain ⟨kb, ib, bb, sb⟩ := b
  obtain ⟨kc, ic, bc, sc⟩ := c
  obtain ⟨kx, ix, bx, sx⟩ := ca
  obtain ⟨ky, iy, b_y, sy⟩ := cb
  clear f2 f4
  simp only [vagg] at hab hba haa hbc hac hca hcb hq hgd ⊢
  have h1 : Box (((w.alloc (.cells #[.int .i64 ka, .int .i64 ia, .bool ba, .string sa] 38)).alloc (.cells #[.int .i64 kb, .int .i64 ib, .bool bb, .string sb] 38)).alloc (.cells #[.int .i64 kc, .int .i64 ic, .bool bc, .string sc] 38)) w.heap.size ⟨ka, ia, ba, sa⟩ := ((Box.new w ⟨ka, ia, ba, sa⟩).alloc _).alloc _
  have h2 : Box (((w.alloc (.cells #[.int .i64 ka, .int .i64 ia, .bool ba, .string sa] 38)).alloc (.cells #[.int .i64 kb, .int .i64 ib, .bool bb, .string sb] 38)).alloc (.cells #[.int .i64 kc, .int .i64 ic, .bool bc, .string sc] 38)) (w.heap.size + 1) ⟨kb, ib, bb, sb⟩ := (Stats.box_new _ _ (by simp) ⟨kb, ib, bb, sb⟩).alloc _
  have h3 : Box (((w.alloc (.cells #[.int .i64 ka, .int .i64 ia, .bool ba, .string sa] 38)).alloc (.cells #[.int .i64 kb, .int .i64 ib, .bool bb, .string sb] 38)).alloc (.cells #[.int .i64 kc, .int .i64 ic, .bool bc, .string sc] 38)) (w.heap.size + 1 + 1) ⟨kc, ic, bc, sc⟩ := Stats.box_new _ _ (by simp) ⟨kc, ic, bc, sc⟩
  have hbt : Below w.heap.size w (((w.alloc (.cells #[.int .i64 ka, .int .i64 ia, .bool ba, .string sa] 38)).alloc (.cells #[.int .i64 kb, .int .i64 ib, .bool bb, .string sb] 38)).alloc (.cells #[.int .i64 kc, .int .i64 ic, .bool bc, .string sc] 38)) := Vals.three_new _ _ _
  have H1 := Lib.hid h1; clear h1
  have H2 := Lib.hid h2; clear h2
  have H3 := Lib.hid h3; clear h3
  have HBT := Lib.hid hbt; clear hbt
  have HCA := Lib.hid hca; clear hca
  have HCB := Lib.hid hcb; clear hcb
  have HLab := Lib.hid hab; clear hab
  have HLba := Lib.hid hba; clear hba
  have HLaa := Lib.hid haa; clear haa
  have HLbc := Lib.hid hbc; clear hbc
  have HLac := Lib.hid hac; clear hac
  cases Lab <;> cases Lba <;> cases Lbc <;> cases Lac <;> simp at f1 f3
  all_goals
    go_enter Try.func8, Try.ntmps8
    go_wp2_with (first
      | (go_at_call 28; refine (awake_any _).mono ?_; rintro e w1 ⟨rfl, hb1⟩; replace H1 := Lib.hid (H1.out.below hb1); replace H2 := Lib.hid (H2.out.below hb1); replace H3 := Lib.hid (H3.out.below hb1); replace HBT := Lib.hid (bthen HBT.out hb1 (Nat.le_refl _)); clear hb1; (try clear hSK x0 x1 x2 x3 y0 y1 y2 y3 z0 z1 z2 z3); have hSK := keep3 H1.out H2.out H3.out; obtain ⟨⟨x0, x1, x2, x3⟩, ⟨y0, y1, y2, y3⟩, ⟨z0, z1, z2, z3⟩⟩ := keep3 H1.out H2.out H3.out)
      | (go_at_call 26; (with_reducible refine (HLab.out _).mono ?_); rintro e w1 ⟨rfl, hb1⟩; replace H1 := Lib.hid (H1.out.below hb1); replace H2 := Lib.hid (H2.out.below hb1); replace H3 := Lib.hid (H3.out.below hb1); replace HBT := Lib.hid (bthen HBT.out hb1 (Nat.le_refl _)); clear hb1; (try clear hSK x0 x1 x2 x3 y0 y1 y2 y3 z0 z1 z2 z3); have hSK := keep3 H1.out H2.out H3.out; obtain ⟨⟨x0, x1, x2, x3⟩, ⟨y0, y1, y2, y3⟩, ⟨z0, z1, z2, z3⟩⟩ := keep3 H1.out H2.out H3.out)
          | (go_at_call 26; (with_reducible refine (HLba.out _).mono ?_); rintro e w1 ⟨rfl, hb1⟩; replace H1 := Lib.hid (H1.out.below hb1); replace H2 := Lib.hid (H2.out.below hb1); replace H3 := Lib.hid (H3.out.below hb1); replace HBT := Lib.hid (bthen HBT.out hb1 (Nat.le_refl _)); clear hb1; (try clear hSK x0 x1 x2 x3 y0 y1 y2 y3 z0 z1 z2 z3); have hSK := keep3 H1.out H2.out H3.out; obtain ⟨⟨x0, x1, x2, x3⟩, ⟨y0, y1, y2, y3⟩, ⟨z0, z1, z2, z3⟩⟩ := keep3 H1.out H2.out H3.out)
          | (go_at_call 26; (with_reducible refine (HLaa.out _).mono ?_); rintro e w1 ⟨rfl, hb1⟩; replace H1 := Lib.hid (H1.out.below hb1); replace H2 := Lib.hid (H2.out.below hb1); replace H3 := Lib.hid (H3.out.below hb1); replace HBT := Lib.hid (bthen HBT.out hb1 (Nat.le_refl _)); clear hb1; (try clear hSK x0 x1 x2 x3 y0 y1 y2 y3 z0 z1 z2 z3); have hSK := keep3 H1.out H2.out H3.out; obtain ⟨⟨x0, x1, x2, x3⟩, ⟨y0, y1, y2, y3⟩, ⟨z0, z1, z2, z3⟩⟩ := keep3 H1.out H2.out H3.out)
          | (go_at_call 26; (with_reducible refine (HLbc.out _).mono ?_); rintro e w1 ⟨rfl, hb1⟩; replace H1 := Lib.hid (H1.out.below hb1); replace H2 := Lib.hid (H2.out.below hb1); replace H3 := Lib.hid (H3.out.below hb1); replace HBT := Lib.hid (bthen HBT.out hb1 (Nat.le_refl _)); clear hb1; (try clear hSK x0 x1 x2 x3 y0 y1 y2 y3 z0 z1 z2 z3); have hSK := keep3 H1.out H2.out H3.out; obtain ⟨⟨x0, x1, x2, x3⟩, ⟨y0, y1, y2, y3⟩, ⟨z0, z1, z2, z3⟩⟩ := keep3 H1.out H2.out H3.out)
          | (go_at_call 26; (with_reducible refine (HLac.out _).mono ?_); rintro e w1 ⟨rfl, hb1⟩; replace H1 := Lib.hid (H1.out.below hb1); replace H2 := Lib.hid (H2.out.below hb1); replace H3 := Lib.hid (H3.out.below hb1); replace HBT := Lib.hid (bthen HBT.out hb1 (Nat.le_refl _)); clear hb1; (try clear hSK x0 x1 x2 x3 y0 y1 y2 y3 z0 z1 z2 z3); have hSK := keep3 H1.out H2.out H3.out; obtain ⟨⟨x0, x1, x2, x3⟩, ⟨y0, y1, y2, y3⟩, ⟨z0, z1, z2, z3⟩⟩ := keep3 H1.out H2.out H3.out))
    replace H1 := Lib.hid H1.out.drew
    replace H2 := Lib.hid H2.out.drew
    replace H3 := Lib.hid H3.out.drew
    replace HBT := Lib.hid HBT.out.drew
    clear hSK
    have hSK := keep3 H1.out H2.out H3.out
    go_region_held3 (fun w' => (w'.cell? ⟨w.heap.size, 0, none⟩ = some (.int .i64 ka) ∧ w'.cell? ⟨w.heap.size, 1, none⟩ = some (.int .i64 ia) ∧ w'.cell? ⟨w.heap.size, 2, none⟩ = some (.bool ba) ∧ w'.cell? ⟨w.heap.size, 3, none⟩ = some (.string sa)) ∧ (w'.cell? ⟨w.heap.size + 1, 0, none⟩ = some (.int .i64 kb) ∧ w'.cell? ⟨w.heap.size + 1, 1, none⟩ = some (.int .i64 ib) ∧ w'.cell? ⟨w.heap.size + 1, 2, none⟩ = some (.bool bb) ∧ w'.cell? ⟨w.heap.size + 1, 3, none⟩ = some (.string sb)) ∧ (w'.cell? ⟨w.heap.size + 1 + 1, 0, none⟩ = some (.int .i64 kc) ∧ w'.cell? ⟨w.heap.size + 1 + 1, 1, none⟩ = some (.int .i64 ic) ∧ w'.cell? ⟨w.heap.size + 1 + 1, 2, none⟩ = some (.bool bc) ∧ w'.cell? ⟨w.heap.size + 1 + 1, 3, none⟩ = some (.string sc)))
      (first | (with_reducible exact hSK) | exact hSK)
      ((first
        | (go_at_call 33; (with_reducible refine (HCA.out _).mono ?_); rintro e w1 ⟨rfl, hb1⟩; replace H1 := Lib.hid (H1.out.below hb1); replace H2 := Lib.hid (H2.out.below hb1); replace H3 := Lib.hid (H3.out.below hb1); replace HBT := Lib.hid (bthen HBT.out hb1 (Nat.le_refl _)); clear hb1; (try clear hSK x0 x1 x2 x3 y0 y1 y2 y3 z0 z1 z2 z3); have hSK := keep3 H1.out H2.out H3.out; obtain ⟨⟨x0, x1, x2, x3⟩, ⟨y0, y1, y2, y3⟩, ⟨z0, z1, z2, z3⟩⟩ := keep3 H1.out H2.out H3.out)
        | (go_at_call 33; (with_reducible refine (HCB.out _).mono ?_); rintro e w1 ⟨rfl, hb1⟩; replace H1 := Lib.hid (H1.out.below hb1); replace H2 := Lib.hid (H2.out.below hb1); replace H3 := Lib.hid (H3.out.below hb1); replace HBT := Lib.hid (bthen HBT.out hb1 (Nat.le_refl _)); clear hb1; (try clear hSK x0 x1 x2 x3 y0 y1 y2 y3 z0 z1 z2 z3); have hSK := keep3 H1.out H2.out H3.out; obtain ⟨⟨x0, x1, x2, x3⟩, ⟨y0, y1, y2, y3⟩, ⟨z0, z1, z2, z3⟩⟩ := keep3 H1.out H2.out H3.out)))
    all_goals
      go_wp2_with (first
        | (go_at_call 26; (with_reducible refine (HLab.out _).mono ?_); rintro e w1 ⟨rfl, hb1⟩; replace H1 := Lib.hid (H1.out.below hb1); replace H2 := Lib.hid (H2.out.below hb1); replace H3 := Lib.hid (H3.out.below hb1); replace HBT := Lib.hid (bthen HBT.out hb1 (Nat.le_refl _)); clear hb1; (try clear hSK x0 x1 x2 x3 y0 y1 y2 y3 z0 z1 z2 z3); have hSK := keep3 H1.out H2.out H3.out; obtain ⟨⟨x0, x1, x2, x3⟩, ⟨y0, y1, y2, y3⟩, ⟨z0, z1, z2, z3⟩⟩ := keep3 H1.out H2.out H3.out)
          | (go_at_call 26; (with_reducible refine (HLba.out _).mono ?_); rintro e w1 ⟨rfl, hb1⟩; replace H1 := Lib.hid (H1.out.below hb1); replace H2 := Lib.hid (H2.out.below hb1); replace H3 := Lib.hid (H3.out.below hb1); replace HBT := Lib.hid (bthen HBT.out hb1 (Nat.le_refl _)); clear hb1; (try clear hSK x0 x1 x2 x3 y0 y1 y2 y3 z0 z1 z2 z3); have hSK := keep3 H1.out H2.out H3.out; obtain ⟨⟨x0, x1, x2, x3⟩, ⟨y0, y1, y2, y3⟩, ⟨z0, z1, z2, z3⟩⟩ := keep3 H1.out H2.out H3.out)
          | (go_at_call 26; (with_reducible refine (HLaa.out _).mono ?_); rintro e w1 ⟨rfl, hb1⟩; replace H1 := Lib.hid (H1.out.below hb1); replace H2 := Lib.hid (H2.out.below hb1); replace H3 := Lib.hid (H3.out.below hb1); replace HBT := Lib.hid (bthen HBT.out hb1 (Nat.le_refl _)); clear hb1; (try clear hSK x0 x1 x2 x3 y0 y1 y2 y3 z0 z1 z2 z3); have hSK := keep3 H1.out H2.out H3.out; obtain ⟨⟨x0, x1, x2, x3⟩, ⟨y0, y1, y2, y3⟩, ⟨z0, z1, z2, z3⟩⟩ := keep3 H1.out H2.out H3.out)
          | (go_at_call 26; (with_reducible refine (HLbc.out _).mono ?_); rintro e w1 ⟨rfl, hb1⟩; replace H1 := Lib.hid (H1.out.below hb1); replace H2 := Lib.hid (H2.out.below hb1); replace H3 := Lib.hid (H3.out.below hb1); replace HBT := Lib.hid (bthen HBT.out hb1 (Nat.le_refl _)); clear hb1; (try clear hSK x0 x1 x2 x3 y0 y1 y2 y3 z0 z1 z2 z3); have hSK := keep3 H1.out H2.out H3.out; obtain ⟨⟨x0, x1, x2, x3⟩, ⟨y0, y1, y2, y3⟩, ⟨z0, z1, z2, z3⟩⟩ := keep3 H1.out H2.out H3.out)
          | (go_at_call 26; (with_reducible refine (HLac.out _).mono ?_); rintro e w1 ⟨rfl, hb1⟩; replace H1 := Lib.hid (H1.out.below hb1); replace H2 := Lib.hid (H2.out.below hb1); replace H3 := Lib.hid (H3.out.below hb1); replace HBT := Lib.hid (bthen HBT.out hb1 (Nat.le_refl _)); clear hb1; (try clear hSK x0 x1 x2 x3 y0 y1 y2 y3 z0 z1 z2 z3); have hSK := keep3 H1.out H2.out H3.out; obtain ⟨⟨x0, x1, x2, x3⟩, ⟨y0, y1, y2, y3⟩, ⟨z0, z1, z2, z3⟩⟩ := keep3 H1.out H2.out H3.out))
      go_ret
      exact ⟨rfl, HBT.out⟩
end Go.Proofs.Ytcfjagbdjnlfoaa.Vec

/-
  THE WALK of boathouselaw9.VecShort; 'make([]api.Value, n)'.
-/


namespace Go.Proofs.Ytcfjagbdjnlfoaa.Vec
open Go.RowKit ValMath Vals Sl VecMath Words Mem

theorem made_vals (n : Nat) : (madeCells (Value.agg #[.int .i64 0, .int .i64 0, .bool false, .string { data := #[] }]).cells (n * 4)).toList = vscells (List.replicate n nul) := by
  apply List.ext_getElem?
  intro j
  by_cases hj : j < n * 4
  · have hr := vscells_at (List.replicate n nul) (j / 4) (j % 4) (by rw [List.length_replicate]; omega) (Nat.mod_lt _ (by omega))
    rw [show j / 4 * 4 + j % 4 = j by omega, List.getElem_replicate] at hr
    rw [hr]
    have h4 : j % 4 = 0 ∨ j % 4 = 1 ∨ j % 4 = 2 ∨ j % 4 = 3 := by omega
    rcases h4 with h | h | h | h <;> simp [madeCells, hj, Value.cells, vcells, nul, h] <;> rfl
  · rw [List.getElem?_eq_none (by simp [madeCells]; omega), List.getElem?_eq_none (by rw [vscells_length, List.length_replicate]; omega)]
section
variable {w : World} {ops : Array Oper} {rest : List Oper} {o : Oper} {a : Act} {Q : Exit → Act → World → Prop}
theorem wpList_make_vals (hg : o.guard = none) (l c : Operand) (hop : o.op = Op.makeSlice 44 l c) (base : Nat) (kl kc : IntKind) (L C : Int) (n : Nat) (hl : a.eval l = .int kl L) (hc : a.eval c = .int kc C) (hL : L = (n : Int)) (hC : C = (n : Int))
    (b2 : n ≤ 7036874417766) (b4 : base ≤ w.heap.size)
    (hK : ∀ w', OwnV w' base (.slice (some ⟨w.heap.size, 0, none⟩) n n) (List.replicate n nul) → w.grownBy w' none → w.heap.size < w'.heap.size → wpList Try.prog ops Q rest (a.put o.dst (.slice (some ⟨w.heap.size, 0, none⟩) n n)) w') :
    wpList Try.prog ops Q (o :: rest) a w := by
  obtain ⟨i0, hi, hz, hs, hb⟩ := info_parts info_val
  refine wpList_make_full w hg l c _ hop base 38 i0 _ 4 Try.underlying44 hi hz hs kl kc L C n hl hc hL hC (by rw [hb]; omega) (by unfold maxLen; omega) b4 fun w' h1 h2 => hK w' ?_ h2 (h1.lt _ rfl).2
  unfold OwnV
  rw [List.length_replicate, ← made_vals]; exact h1
end
theorem and_low (a : Int) (p : Nat) (hp : p < 63) : ∃ r : Nat, r < 2 ^ p ∧ bits .and .i64 a ((2 ^ p - 1 : Nat) : Int) = (r : Int) := by
  have h0 : (0 : Int) < ((2 ^ p : Nat) : Int) := by have : 0 < 2 ^ p := Nat.pow_pos (by omega); omega
  refine ⟨(a % ((2 ^ p : Nat) : Int)).toNat, ?_, ?_⟩
  · have := Int.emod_lt_of_pos a h0; have := Int.emod_nonneg a (by omega : ((2 ^ p : Nat) : Int) ≠ 0); omega
  · rw [and_mask_i64 a p hp]; have := Int.emod_nonneg a (by omega : ((2 ^ p : Nat) : Int) ≠ 0); omega
theorem and_1023 (a : Int) : ∃ r : Nat, r ≤ 1023 ∧ bits .and .i64 a 1023 = (r : Int) := by
  obtain ⟨r, h1, h2⟩ := and_low a 10 (by omega)
  exact ⟨r, by omega, h2⟩
theorem fine_num {v : Int} (h1 : -9223372036854775808 ≤ v) (h2 : v < 9223372036854775808) : Fine (num1 v) := ⟨by simp [num1], by simp [num1], h1, h2, by simp [num1]⟩
theorem fine_rep {n : Nat} {v : Val} (h : Fine v) : ∀ u ∈ List.replicate n v, Fine u := by intro u hu; rw [(List.mem_replicate.1 hu).2]; exact h
theorem clean_rep {n : Nat} {v : Val} (h : clean v = v) : (List.replicate n v).map clean = List.replicate n v := by rw [List.map_replicate, h]
theorem put_set (v : Val) (q K : Nat) (h : q < K) : (List.replicate q v ++ List.replicate (K - q) nul).set q v = List.replicate (q + 1) v ++ List.replicate (K - (q + 1)) nul := by
  rw [List.set_append_right _ _ (by simp), List.length_replicate, Nat.sub_self, show K - q = K - (q + 1) + 1 by omega, List.replicate_succ, List.set_cons_zero, List.replicate_succ' (n := q), List.append_assoc]; rfl
set_option maxRecDepth 20000 in
set_option maxHeartbeats 8000000 in
theorem vecShort_any (v many : Int) (null : Bool) (w : World) (h1 : -9223372036854775808 ≤ v) (h2 : v < 9223372036854775808) :
    Calls Try.prog 9 #[.int .i64 v, .int .i64 many, .bool null] w fun e w' => e = .returned (.bool true) ∧ Below w.heap.size w w' := by
  obtain ⟨r, hr, hand⟩ := and_1023 many
  obtain ⟨K, hK⟩ : ∃ K, K = 64 + r := ⟨_, rfl⟩
  have hw : IntKind.i64.wrap (64 + (r : Int)) = (K : Int) := by rw [hK, IntWalk.i64_in _ (by omega)]; push_cast; rfl
  have hK1 : 64 ≤ K := by omega
  have hK2 : K ≤ 1087 := by omega
  clear hK
  have HBT := Lib.hid (Below.refl w.heap.size w)
  cases null with
  | true =>
    obtain ⟨VV, hVV⟩ : ∃ VV, VV = nul := ⟨_, rfl⟩
    have HM := Lib.hid (short_nul K hK2)
    have HF := Lib.hid (fine_rep (n := K) fine_nul)
    have HCL := Lib.hid (clean_rep (n := K) clean_nul)
    rw [← hVV] at HM HF HCL
    go_enter Try.func9, Try.ntmps9
    go_wp2_with (first
      | (go_at_call 28; refine (awake_any _).mono ?_; rintro e w1 ⟨rfl, hb1⟩; replace HBT := Lib.hid (bthen HBT.out hb1 (Nat.le_refl _)); clear hb1)
      | (at_make; refine wpList_make_vals rfl _ _ rfl w1.heap.size .i64 .i64 _ _ K rfl rfl (by first | rfl | omega) (by first | rfl | omega) (by omega) (Nat.le_refl _) ?_; intro w2 hO hg2 hsz2; have HO := Lib.hid hO; clear hO))
    have hg2B := (Below.refl w1.heap.size w1).grown hg2 (Nat.le_refl _) (fun j hj => by cases hj)
    replace HBT := Lib.hid (bthen HBT.out hg2B (Nat.le_refl _))
    rw [← hVV] at HO
    clear hg2 hg2B hVV
    go_loopw [9] (fun iv wr => iv = .int .i64 0 ∧ w2 = wr) (fun _ _ => 0)
    case atStart => exact ⟨rfl, rfl⟩
    case round =>
      obtain ⟨rfl, rfl⟩ := hrel
      have hK0 : (0 : Int) < (K : Int) := by omega
      have HL := Lib.hid (List.length_replicate (n := K) (a := VV))
      have hP := fun A c w h => put_any 1 A K c (List.replicate K VV) w h HF.out
      have hE := fun A c w h => encoding_any 1 A K c (List.replicate K VV) w h HF.out
      have hpb := put_back HM.out.1 HF.out
      have hG := fun w => get_any 1 (str (put 1 (List.replicate K VV))) w (put_reach 1 HF.out)
      rw [hpb.1, hpb.2, HCL.out] at hG
      rw [HM.out.1] at hP hE
      have hPl := HM.out.2.2
      rw [← str_size] at hPl
      have hEN := HM.out.2.1
      generalize str (put 1 (List.replicate K VV)) = P at *
      generalize encOf 1 (List.replicate K VV) = EN at *
      clear hpb HM HF HCL
      (try have hEN2 : ((EN : Int) != 0) = true := by simpa using hEN)
      generalize List.replicate K VV = L at *
      have HP := Lib.hid hP; clear hP
      have HE := Lib.hid hE; clear hE
      have HG := Lib.hid hG; clear hG
      obtain ⟨D, hD⟩ : ∃ D, D = K / 8 := ⟨_, rfl⟩
      have hD8 : (K : Int) / 8 = (D : Int) := by omega
      rw [← hD] at hPl
      clear hD
      have hDK : D ≤ K := by omega
      go_wp2_with (first
        | (go_at_call 22; (with_reducible refine (HP.out _ _ _ (HO.out.sl HL.out)).mono ?_); rintro e w2 ⟨rfl, hb2⟩; replace HO := Lib.hid (HO.out.below hb2); replace HBT := Lib.hid (bthen HBT.out hb2 (Nat.le_refl _)); clear hb2)
        | (go_at_call 24; (with_reducible refine (HE.out _ _ _ (HO.out.sl HL.out)).mono ?_); rintro e w3 ⟨rfl, hb3⟩; replace HO := Lib.hid (HO.out.below hb3); replace HBT := Lib.hid (bthen HBT.out hb3 (Nat.le_refl _)); clear hb3)
        | (go_at_call 29; (with_reducible refine (HG.out _).mono ?_); rintro e w4 ⟨u, rfl, hX, hb4⟩; replace HO := Lib.hid (HO.out.below hb4); replace HBT := Lib.hid (bthen HBT.out hb4 (Nat.le_refl _)); obtain ⟨A14, c14, rfl, _, _⟩ := hX.form' (n := K) HL.out; have HX := Lib.hid hX; clear hX hb4)
        | (go_at_call 13; refine (Nums.num_any _ _).mono ?_; rintro e w' ⟨rfl, rfl⟩)
        | (go_at_call 31; refine (sameValues_any _ _ K K _ _ L L _ (HX.out.sl HL.out) (HO.out.sl HL.out) (by unfold maxLen; omega)).mono ?_; rw [decide_eq_true rfl]; rintro e w5 ⟨rfl, hk5⟩; replace HBT := Lib.hid (bthen HBT.out (below_of hk5) (Nat.le_refl _)); clear hk5))
      go_ret
      exact ⟨rfl, HBT.out⟩
  | false =>
    obtain ⟨VV, hVV⟩ : ∃ VV, VV = num1 v := ⟨_, rfl⟩
    have HM := Lib.hid (short_num v K hK1 hK2)
    have HF := Lib.hid (fine_rep (n := K) (fine_num h1 h2))
    have HCL := Lib.hid (clean_rep (n := K) (clean_num v))
    rw [← hVV] at HM HF HCL
    have HVV := Lib.hid hVV; clear hVV
    go_enter Try.func9, Try.ntmps9
    go_wp2_with (first
      | (go_at_call 28; refine (awake_any _).mono ?_; rintro e w1 ⟨rfl, hb1⟩; replace HBT := Lib.hid (bthen HBT.out hb1 (Nat.le_refl _)); clear hb1)
      | (at_make; refine wpList_make_vals rfl _ _ rfl w1.heap.size .i64 .i64 _ _ K rfl rfl (by first | rfl | omega) (by first | rfl | omega) (by omega) (Nat.le_refl _) ?_; intro w2 hO hg2 hsz2; have HO := Lib.hid hO; clear hO))
    have hg2B := (Below.refl w1.heap.size w1).grown hg2 (Nat.le_refl _) (fun j hj => by cases hj)
    have HBT2 := HBT
    replace HBT := Lib.hid hg2B
    clear hg2 hg2B
    go_loopw [9] (fun iv wr => ∃ q : Nat, q ≤ K ∧ iv = .int .i64 q ∧ OwnV wr w1.heap.size (.slice (some ⟨w1.heap.size, 0, none⟩) K K) (List.replicate q VV ++ List.replicate (K - q) nul) ∧ Below w1.heap.size w1 wr) (fun iv _ => K - (intOf iv).toNat)
    case atStart => exact ⟨0, Nat.zero_le _, rfl, HO.out, HBT.out⟩
    case round =>
      clear HO HBT
      obtain ⟨q, hq, rfl, hO, hb⟩ := hrel
      have hml : (List.replicate q VV ++ List.replicate (K - q) nul).length = K := by simp; omega
      by_cases hlt : q < K
      · have hp4 := own_put4 hO hml (k := q) (by rw [hml]; exact hlt) VV
        rw [put_set VV q K hlt, HVV.out] at hp4
        have hbb := Stats.below_put4 hb (Nat.le_refl _) (q * 4) (q * 4 + 1) (q * 4 + 2) (q * 4 + 3) (.int .i64 (num1 v).k) (.int .i64 (num1 v).i) (.bool (num1 v).b) (.string (num1 v).s)
        have hO2 := hO
        unfold OwnV at hO2
        rw [hml] at hO2
        have hfr := fun j => World.ownsRow.frozenAt hO2 j
        clear hO2
        have f0 := hfr (q * 4)
        have f1 := hfr (q * 4 + 1)
        have f2 := hfr (q * 4 + 2)
        have f3 := hfr (q * 4 + 3)
        obtain ⟨b1, o1, x, hx, hA1, hb1, c0, c1, c2, c3⟩ := (hO.sl hml).at_ (k := q) hlt
        injection hA1 with hA1; injection hA1 with hA1 hA2
        subst hA1; subst hA2
        simp only [Nat.zero_add] at c0 c1 c2 c3
        have HP4 := Lib.hid hp4; clear hp4
        have HBB := Lib.hid hbb; clear hbb
        clear hO hml hfr hx HM HF HCL
        generalize hxk : x.k = xk at c0
        generalize hxi : x.i = xi at c1
        generalize hxb : x.b = xb at c2
        generalize hxs : x.s = xs at c3
        clear hxk hxi hxb hxs
        go_wp2
        go_roundw
        case rel => exact ⟨q + 1, by omega, by go_num, by rw [HVV.out]; exact HP4.out, HBB.out⟩
        case measure => simp [intOf]; omega
      · obtain rfl : K = q := by omega
        rw [Nat.sub_self, List.replicate_zero, List.append_nil] at hO
        have HO := Lib.hid hO; clear hO hml
        have HBT := Lib.hid (bthen HBT2.out hb (Nat.le_refl _))
        clear hb HVV HBT2
        have HL := Lib.hid (List.length_replicate (n := K) (a := VV))
        have hP := fun A c w h => put_any 1 A K c (List.replicate K VV) w h HF.out
        have hE := fun A c w h => encoding_any 1 A K c (List.replicate K VV) w h HF.out
        have hpb := put_back HM.out.1 HF.out
        have hG := fun w => get_any 1 (str (put 1 (List.replicate K VV))) w (put_reach 1 HF.out)
        rw [hpb.1, hpb.2, HCL.out] at hG
        rw [HM.out.1] at hP hE
        have hPl := HM.out.2.2
        rw [← str_size] at hPl
        have hEN := HM.out.2.1
        generalize str (put 1 (List.replicate K VV)) = P at *
        generalize encOf 1 (List.replicate K VV) = EN at *
        clear hpb HM HF HCL
        (try have hEN2 : ((EN : Int) != 0) = true := by simpa using hEN)
        generalize List.replicate K VV = L at *
        have HP := Lib.hid hP; clear hP
        have HE := Lib.hid hE; clear hE
        have HG := Lib.hid hG; clear hG
        obtain ⟨D, hD⟩ : ∃ D, D = K / 8 := ⟨_, rfl⟩
        have hD8 : (K : Int) / 8 = (D : Int) := by omega
        rw [← hD] at hPl
        clear hD
        have hDK : D ≤ K := by omega
        go_wp2_with (first
          | (go_at_call 22; (with_reducible refine (HP.out _ _ _ (HO.out.sl HL.out)).mono ?_); rintro e w2 ⟨rfl, hb2⟩; replace HO := Lib.hid (HO.out.below hb2); replace HBT := Lib.hid (bthen HBT.out hb2 (Nat.le_refl _)); clear hb2)
          | (go_at_call 24; (with_reducible refine (HE.out _ _ _ (HO.out.sl HL.out)).mono ?_); rintro e w3 ⟨rfl, hb3⟩; replace HO := Lib.hid (HO.out.below hb3); replace HBT := Lib.hid (bthen HBT.out hb3 (Nat.le_refl _)); clear hb3)
          | (go_at_call 29; (with_reducible refine (HG.out _).mono ?_); rintro e w4 ⟨u, rfl, hX, hb4⟩; replace HO := Lib.hid (HO.out.below hb4); replace HBT := Lib.hid (bthen HBT.out hb4 (Nat.le_refl _)); obtain ⟨A14, c14, rfl, _, _⟩ := hX.form' (n := K) HL.out; have HX := Lib.hid hX; clear hX hb4)
          | (go_at_call 13; refine (Nums.num_any _ _).mono ?_; rintro e w' ⟨rfl, rfl⟩)
          | (go_at_call 31; refine (sameValues_any _ _ K K _ _ L L _ (HX.out.sl HL.out) (HO.out.sl HL.out) (by unfold maxLen; omega)).mono ?_; rw [decide_eq_true rfl]; rintro e w5 ⟨rfl, hk5⟩; replace HBT := Lib.hid (bthen HBT.out (below_of hk5) (Nat.le_refl _)); clear hk5))
        go_ret
        exact ⟨rfl, HBT.out⟩
end Go.Proofs.Ytcfjagbdjnlfoaa.Vec

/-
  THE WALK of boathouselaw9.VecLimits.
-/

namespace Go.Proofs.Ytcfjagbdjnlfoaa.Vec
open Go.RowKit ValMath Vals Sl VecMath Words Mem

theorem and_3 (a : Int) : ∃ r : Nat, r ≤ 3 ∧ bits .and .i64 a 3 = (r : Int) := by
  obtain ⟨r, h1, h2⟩ := and_low a 2 (by omega)
  exact ⟨r, by omega, h2⟩
theorem and_7 (a : Int) : ∃ r : Nat, r ≤ 7 ∧ bits .and .i64 a 7 = (r : Int) := by
  obtain ⟨r, h1, h2⟩ := and_low a 3 (by omega)
  exact ⟨r, by omega, h2⟩
set_option maxRecDepth 100000 in
theorem valid_x {M : Nat} (h : M < 68) : UtfMath.valid (List.replicate M 120) = true := by
  have : ∀ M : Fin 68, UtfMath.valid (List.replicate M.val 120) = true := by decide +kernel
  exact this ⟨M, h⟩
theorem put_x (q M : Nat) (h : q < M) : (List.replicate q (120 : UInt8) ++ List.replicate (M - q) 0).set q 120 = List.replicate (q + 1) 120 ++ List.replicate (M - (q + 1)) 0 := by
  rw [List.set_append_right _ _ (by simp), List.length_replicate, Nat.sub_self, show M - q = M - (q + 1) + 1 by omega, List.replicate_succ, List.set_cons_zero, List.replicate_succ' (n := q), List.append_assoc]; rfl
def ff : ByteArray := ⟨#[255]⟩
theorem may_ff : mayErr 3 [⟨3, 0, false, ff⟩] = 901 := by rw [may_txt]; decide
theorem fine_txt {s : ByteArray} (h : s.size ≤ 140737488351232) : ∀ u ∈ [(⟨3, 0, false, s⟩ : Val)], Fine u := by
  intro u hu; rw [List.mem_singleton] at hu; subst hu; exact ⟨by simp, by simp, by simp, by simp, h⟩
theorem fine_b : ∀ u ∈ [(⟨2, 0, false, ByteArray.empty⟩ : Val)], Fine u := by
  intro u hu; rw [List.mem_singleton] at hu; subst hu; constructor <;> decide
set_option maxRecDepth 20000 in
set_option maxHeartbeats 8000000 in
theorem vecLimits_any (many size kind : Int) (w : World) :
    Calls Try.prog 10 #[.int .i64 many, .int .i64 size, .int .i64 kind] w fun e w' => e = .returned (.bool true) ∧ Below w.heap.size w w' := by
  obtain ⟨r, hr, hand⟩ := and_3 many
  obtain ⟨K, hK⟩ : ∃ K, K = 4094 + r := ⟨_, rfl⟩
  have hw : IntKind.i64.wrap (4094 + (r : Int)) = (K : Int) := by rw [hK, IntWalk.i64_in _ (by omega)]; push_cast; rfl
  obtain ⟨r2, hr2, hand2⟩ := and_7 size
  obtain ⟨M, hM⟩ : ∃ M, M = 60 + r2 := ⟨_, rfl⟩
  have hw2 : IntKind.i64.wrap (60 + (r2 : Int)) = (M : Int) := by rw [hM, IntWalk.i64_in _ (by omega)]; push_cast; rfl
  obtain ⟨r3, hr3, hand3⟩ := and_7 kind
  obtain ⟨T, hT⟩ : ∃ T, T = 4 + r3 := ⟨_, rfl⟩
  have hw3 : IntKind.i64.wrap (4 + (r3 : Int)) = (T : Int) := by rw [hT, IntWalk.i64_in _ (by omega)]; push_cast; rfl
  obtain ⟨r4, hr4, hand4⟩ := and_7 (wrap64 (-kind))
  have hK1 : K ≤ 4097 := by omega
  have hM1 : M ≤ 67 := by omega
  have hT1 : 3 < (T : Int) := by omega
  clear hK hM hT
  have h1 := fun A c w h => put_any 2 A K c (List.replicate K nul) w h (fine_rep fine_nul)
  rw [limit_many] at h1
  have hS : (str (List.replicate M 120)).size = M := by rw [str_size, List.length_replicate]
  have h2 := fun A c w h => put_any 3 A 1 c [⟨3, 0, false, str (List.replicate M 120)⟩] w h (fine_txt (by rw [hS]; omega))
  rw [may_txt, str_list, valid_x (by omega), hS] at h2
  have h3 := fun A c w h => put_any 3 A 1 c [⟨3, 0, false, ff⟩] w h (fine_txt (by decide))
  rw [may_ff] at h3
  have h4 := fun w => put_any (T : Int) none 0 0 [] w (VSl.none_ w) (by simp)
  rw [kind_limit (.inl hT1)] at h4
  have h5 := fun w => get_any (r4 : Int) ByteArray.empty w (by decide)
  have hc5 : (gcode (r4 : Int) ByteArray.empty != 0) = true := by
    have := unvec_empty decP (r4 : Int)
    unfold gcode
    simp; exact this
  generalize gcode (r4 : Int) ByteArray.empty = C5 at *
  have h6 := fun A c w h => put_any 1 A 1 c [⟨2, 0, false, ByteArray.empty⟩] w h fine_b
  rw [may_bad] at h6
  obtain ⟨E1, hE1, hx1⟩ : ∃ E1 : Nat, (if K ≤ 4096 then 0 else 901) = E1 ∧ ((decide ((K : Int) ≤ 4096) = true ∧ E1 = 0) ∨ (decide ((K : Int) ≤ 4096) = false ∧ E1 = 901)) := by
    by_cases h : K ≤ 4096
    · exact ⟨0, if_pos h, .inl ⟨decide_eq_true (by omega), rfl⟩⟩
    · exact ⟨901, if_neg h, .inr ⟨decide_eq_false (by omega), rfl⟩⟩
  obtain ⟨E2, hE2, hx2⟩ : ∃ E2 : Nat, (if M ≤ 64 ∧ true = true then 0 else 901) = E2 ∧ ((decide ((M : Int) ≤ 64) = true ∧ E2 = 0) ∨ (decide ((M : Int) ≤ 64) = false ∧ E2 = 901)) := by
    by_cases h : M ≤ 64
    · exact ⟨0, if_pos ⟨h, rfl⟩, .inl ⟨decide_eq_true (by omega), rfl⟩⟩
    · exact ⟨901, if_neg (fun e => h e.1), .inr ⟨decide_eq_false (by omega), rfl⟩⟩
  rw [hE1] at h1
  rw [hE2] at h2
  clear hE1 hE2 hS
  have H1 := Lib.hid h1; clear h1
  have H2 := Lib.hid h2; clear h2
  have H3 := Lib.hid h3; clear h3
  have H4 := Lib.hid h4; clear h4
  have H5 := Lib.hid h5; clear h5
  have H6 := Lib.hid h6; clear h6
  have HBT := Lib.hid (Below.refl w.heap.size w)
  go_enter Try.func10, Try.ntmps10
  go_wp2_with (first
    | (go_at_call 28; refine (awake_any _).mono ?_; rintro e w1 ⟨rfl, hb1⟩; replace HBT := Lib.hid (bthen HBT.out hb1 (Nat.le_refl _)); clear hb1)
    | (at_make; refine wpList_make_vals rfl _ _ rfl w1.heap.size .i64 .i64 _ _ K rfl rfl (by first | rfl | omega) (by first | rfl | omega) (by omega) (Nat.le_refl _) ?_; intro w2 hO hg2 hsz2; have HO := Lib.hid hO; have hg2B := (Below.refl w1.heap.size w1).grown hg2 (Nat.le_refl _) (fun j hj => by cases hj); replace HBT := Lib.hid (bthen HBT.out hg2B (Nat.le_refl _)); clear hO hg2 hg2B)
    | (go_at_call 22; (with_reducible refine (H1.out _ _ _ (HO.out.sl List.length_replicate)).mono ?_); rintro e w3 ⟨rfl, hb3⟩; replace HBT := Lib.hid (bthen HBT.out hb3 (Nat.le_refl _)); clear hb3 HO)
    | (at_make; refine wpList_make_bytes rfl _ _ rfl w3.heap.size .i64 .i64 _ _ M rfl rfl (by first | rfl | omega) (by first | rfl | omega) (by omega) (Nat.le_refl _) ?_; intro w4 hO4 hg4 hsz4; have HO4 := Lib.hid hO4; have hg4B := (Below.refl w3.heap.size w3).grown hg4 (Nat.le_refl _) (fun j hj => by cases hj); have HB4 := Lib.hid hg4B; clear hO4 hg4 hg4B))
  go_loopw [12] (fun iv wr => ∃ q : Nat, q ≤ M ∧ iv = .int .i64 q ∧ OwnB wr w3.heap.size (.slice (some ⟨w3.heap.size, 0, none⟩) M M) (List.replicate q 120 ++ List.replicate (M - q) 0) ∧ Below w3.heap.size w3 wr) (fun iv _ => M - (intOf iv).toNat)
  case atStart => exact ⟨0, Nat.zero_le _, rfl, HO4.out, HB4.out⟩
  case round =>
    clear HO4 HB4
    obtain ⟨q, hq, rfl, hO, hb⟩ := hrel
    have hml : (List.replicate q (120 : UInt8) ++ List.replicate (M - q) 0).length = M := by simp; omega
    by_cases hlt : q < M
    · have hp := own_put_byte hO hml q 120
      rw [put_x q M hlt] at hp
      obtain ⟨c0, f0⟩ := own_byte_at hO hml q hlt
      have hbb := hb.setCell (p := ⟨w3.heap.size, q, none⟩) (Nat.le_refl _) (bv 120)
      have HP := Lib.hid hp; clear hp
      have HBB := Lib.hid hbb; clear hbb
      clear hO hml hx1 hx2
      generalize ((byteAt (List.replicate q 120 ++ List.replicate (M - q) 0) q : Nat) : Int) = y at c0
      go_wp2
      go_roundw
      case rel => exact ⟨q + 1, by omega, by go_num, HP.out, HBB.out⟩
      case measure => simp [intOf]; omega
    · obtain rfl : M = q := by omega
      rw [Nat.sub_self, List.replicate_zero, List.append_nil] at hO
      replace HBT := Lib.hid (bthen HBT.out hb (Nat.le_refl _))
      have HO := Lib.hid hO; clear hO hml hb
      generalize List.replicate M (120 : UInt8) = l at *
      generalize hS : str l = S at *
      clear H1
      go_wp2_with (refine wpList_own_string rfl _ _ 5 _ rfl _ rfl w3.heap.size l HO.out Try.underlying47 Try.underlying5 Try.underlying9 ?_; rw [hS])
      have hn1 := Vals.one_new (w := wr) (.cells #[.int .i64 3, .int .i64 0, .bool false, .string S] 38)
      refine (H2.out _ _ _ (VSl.at1 wr _ rfl ⟨3, 0, false, S⟩ _)).mono ?_
      rintro e w5 ⟨rfl, hb5⟩
      replace HBT := Lib.hid (bthen (bthen HBT.out hn1 (Nat.le_refl _)) hb5 (Nat.le_refl _))
      clear hn1 hb5 H2 HO
      go_wp2_with fail
      have hn1 := Vals.one_new (w := w5) (.cells #[.int .i64 3, .int .i64 0, .bool false, .string ff] 38)
      refine (H3.out _ _ _ (VSl.at1 w5 _ rfl ⟨3, 0, false, ff⟩ _)).mono ?_
      rintro e w6 ⟨rfl, hb6⟩
      replace HBT := Lib.hid (bthen (bthen HBT.out hn1 (Nat.le_refl _)) hb6 (Nat.le_refl _))
      clear hn1 hb6 H3
      go_wp2_with fail
      refine (H4.out _).mono ?_
      rintro e w7 ⟨rfl, hb7⟩
      replace HBT := Lib.hid (bthen HBT.out hb7 (Nat.le_refl _))
      clear hb7 H4
      go_wp2_with fail
      refine (H5.out _).mono ?_
      rintro e w8 ⟨u, rfl, _, hb8⟩
      replace HBT := Lib.hid (bthen HBT.out hb8 (Nat.le_refl _))
      clear hb8 H5
      go_wp2_with fail
      have hn1 := Vals.one_new (w := w8) (.cells #[.int .i64 2, .int .i64 0, .bool false, .string ByteArray.empty] 38)
      refine (H6.out _ _ _ (VSl.at1 w8 _ rfl ⟨2, 0, false, ByteArray.empty⟩ _)).mono ?_
      rintro e w9 ⟨rfl, hb9⟩
      replace HBT := Lib.hid (bthen (bthen HBT.out hn1 (Nat.le_refl _)) hb9 (Nat.le_refl _))
      clear hn1 hb9 H6
      rcases hx1 with ⟨hk1, rfl⟩ | ⟨hk1, rfl⟩ <;> rcases hx2 with ⟨hm1, rfl⟩ | ⟨hm1, rfl⟩
      all_goals
        go_wp2_with (go_at_call 13; refine (Nums.num_any _ _).mono ?_; rintro e w' ⟨rfl, rfl⟩)
        go_ret
        exact ⟨rfl, HBT.out⟩
end Go.Proofs.Ytcfjagbdjnlfoaa.Vec
