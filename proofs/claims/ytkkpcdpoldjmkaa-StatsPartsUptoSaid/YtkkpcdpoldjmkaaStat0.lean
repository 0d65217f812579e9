/-
  STATISTICS as a value of ten cells, and as a block known whole. (Printed by wip/tools/genstat.py.)
-/
import Derived.Test.YtkkpcdpoldjmkaaLess
namespace Go.Proofs.Ytkkpcdpoldjmkaa.Stats
open Go.RowKit ValMath Vals Sl
abbrev sagg (c n : Int) (mn mx : Val) : Value := .agg #[.int .i64 c, .int .i64 n, .int .i64 mn.k, .int .i64 mn.i, .bool mn.b, .string mn.s, .int .i64 mx.k, .int .i64 mx.i, .bool mx.b, .string mx.s]
def SBox (w : World) (g : Nat) (c n : Int) (mn mx : Val) : Prop := w.heap[g]? = some (.cells #[.int .i64 c, .int .i64 n, .int .i64 mn.k, .int .i64 mn.i, .bool mn.b, .string mn.s, .int .i64 mx.k, .int .i64 mx.i, .bool mx.b, .string mx.s] 58 (0, 0))
theorem SBox.lt {w : World} {g : Nat} {c n : Int} {mn mx : Val} (h : SBox w g c n mn mx) : g < w.heap.size := by
  unfold SBox at h
  by_cases hl : g < w.heap.size
  · exact hl
  · rw [Array.getElem?_eq_none (by omega)] at h; cases h
theorem SBox.below {w w' : World} {g : Nat} {c n : Int} {mn mx : Val} (h : SBox w g c n mn mx) {B : Nat} (hb : Below B w w') (hB : g < B) : SBox w' g c n mn mx := by
  unfold SBox at h ⊢; rw [hb.block g hB]; exact h
theorem SBox.drew {w : World} {g : Nat} {c n : Int} {mn mx : Val} (h : SBox w g c n mn mx) : SBox w.drew g c n mn mx := h
theorem SBox.drewN {w : World} {g : Nat} {c n : Int} {mn mx : Val} (h : SBox w g c n mn mx) (k : Nat) : SBox (w.drewN k) g c n mn mx := h
theorem SBox.free {w : World} {g : Nat} {c n : Int} {mn mx : Val} (h : SBox w g c n mn mx) (j : Nat) : w.frozen? ⟨g, j, none⟩ = false := frozen_of_row w g j _ _ h
theorem SBox.new (w : World) (g : Nat) (hg : w.heap.size = g) (c n : Int) (mn mx : Val) : SBox (w.alloc (.cells #[.int .i64 c, .int .i64 n, .int .i64 mn.k, .int .i64 mn.i, .bool mn.b, .string mn.s, .int .i64 mx.k, .int .i64 mx.i, .bool mx.b, .string mx.s] 58)) g c n mn mx := by subst hg; exact heap_alloc_new w _
theorem SBox.alloc {w : World} {g : Nat} {c n : Int} {mn mx : Val} (h : SBox w g c n mn mx) (x : Obj) : SBox (w.alloc x) g c n mn mx := h.below (Vals.one_new x) h.lt
theorem SBox.other {w : World} {g g' o : Nat} {c n : Int} {mn mx : Val} {x : Value} (h : SBox w g c n mn mx) (hne : g ≠ g') : SBox (w.setCell ⟨g', o, none⟩ x) g c n mn mx := by
  unfold SBox at h ⊢
  rw [Below.heap_setCell _ _ _ _ hne]; exact h
theorem SBox.cells {w : World} {g : Nat} {c n : Int} {mn mx : Val} (h : SBox w g c n mn mx) : w.cell? ⟨g, 0, none⟩ = some (.int .i64 c) ∧ w.cell? ⟨g, 1, none⟩ = some (.int .i64 n) ∧ w.cell? ⟨g, 2, none⟩ = some (.int .i64 mn.k) ∧ w.cell? ⟨g, 3, none⟩ = some (.int .i64 mn.i) ∧ w.cell? ⟨g, 4, none⟩ = some (.bool mn.b) ∧ w.cell? ⟨g, 5, none⟩ = some (.string mn.s) ∧ w.cell? ⟨g, 6, none⟩ = some (.int .i64 mx.k) ∧ w.cell? ⟨g, 7, none⟩ = some (.int .i64 mx.i) ∧ w.cell? ⟨g, 8, none⟩ = some (.bool mx.b) ∧ w.cell? ⟨g, 9, none⟩ = some (.string mx.s) := by
  refine ⟨?_, ?_, ?_, ?_, ?_, ?_, ?_, ?_, ?_, ?_⟩
  all_goals (rw [cell_of_row w g _ _ _ _ h]; rfl)
theorem SBox.put {w : World} {g : Nat} {c n : Int} {mn mx : Val} (h : SBox w g c n mn mx) (c' n' : Int) (mn' mx' : Val) : SBox ((((((((((w.setCell ⟨g, 0, none⟩ (.int .i64 c')).setCell ⟨g, 1, none⟩ (.int .i64 n')).setCell ⟨g, 2, none⟩ (.int .i64 mn'.k)).setCell ⟨g, 3, none⟩ (.int .i64 mn'.i)).setCell ⟨g, 4, none⟩ (.bool mn'.b)).setCell ⟨g, 5, none⟩ (.string mn'.s)).setCell ⟨g, 6, none⟩ (.int .i64 mx'.k)).setCell ⟨g, 7, none⟩ (.int .i64 mx'.i)).setCell ⟨g, 8, none⟩ (.bool mx'.b)).setCell ⟨g, 9, none⟩ (.string mx'.s)) g c' n' mn' mx' := by
  unfold SBox at h ⊢
  rw [heap_setCell_known (heap_setCell_known (heap_setCell_known (heap_setCell_known (heap_setCell_known (heap_setCell_known (heap_setCell_known (heap_setCell_known (heap_setCell_known (heap_setCell_known h 0 _) 1 _) 2 _) 3 _) 4 _) 5 _) 6 _) 7 _) 8 _) 9 _]
  kernel_rfl
theorem SBox.put1 {w : World} {g : Nat} {c n : Int} {mn mx : Val} (h : SBox w g c n mn mx) (n' : Int) : SBox (w.setCell ⟨g, 1, none⟩ (.int .i64 n')) g c n' mn mx := by
  unfold SBox at h ⊢
  rw [heap_setCell_known h 1 _]
  kernel_rfl
theorem SBox.put2 {w : World} {g : Nat} {c n : Int} {mn mx : Val} (h : SBox w g c n mn mx) (mn' : Val) : SBox ((((w.setCell ⟨g, 2, none⟩ (.int .i64 mn'.k)).setCell ⟨g, 3, none⟩ (.int .i64 mn'.i)).setCell ⟨g, 4, none⟩ (.bool mn'.b)).setCell ⟨g, 5, none⟩ (.string mn'.s)) g c n mn' mx := by
  unfold SBox at h ⊢
  rw [heap_setCell_known (heap_setCell_known (heap_setCell_known (heap_setCell_known h 2 _) 3 _) 4 _) 5 _]
  kernel_rfl
theorem SBox.put3 {w : World} {g : Nat} {c n : Int} {mn mx : Val} (h : SBox w g c n mn mx) (mx' : Val) : SBox ((((w.setCell ⟨g, 6, none⟩ (.int .i64 mx'.k)).setCell ⟨g, 7, none⟩ (.int .i64 mx'.i)).setCell ⟨g, 8, none⟩ (.bool mx'.b)).setCell ⟨g, 9, none⟩ (.string mx'.s)) g c n mn mx' := by
  unfold SBox at h ⊢
  rw [heap_setCell_known (heap_setCell_known (heap_setCell_known (heap_setCell_known h 6 _) 7 _) 8 _) 9 _]
  kernel_rfl
theorem below_put10 {B : Nat} {w0 w : World} (h : Below B w0 w) {g : Nat} (hg : B ≤ g) (u0 u1 u2 u3 u4 u5 u6 u7 u8 u9 : Value) : Below B w0 ((((((((((w.setCell ⟨g, 0, none⟩ u0).setCell ⟨g, 1, none⟩ u1).setCell ⟨g, 2, none⟩ u2).setCell ⟨g, 3, none⟩ u3).setCell ⟨g, 4, none⟩ u4).setCell ⟨g, 5, none⟩ u5).setCell ⟨g, 6, none⟩ u6).setCell ⟨g, 7, none⟩ u7).setCell ⟨g, 8, none⟩ u8).setCell ⟨g, 9, none⟩ u9) :=
  ((((((((((h.setCell (p := ⟨g, 0, none⟩) hg _).setCell (p := ⟨g, 1, none⟩) hg _).setCell (p := ⟨g, 2, none⟩) hg _).setCell (p := ⟨g, 3, none⟩) hg _).setCell (p := ⟨g, 4, none⟩) hg _).setCell (p := ⟨g, 5, none⟩) hg _).setCell (p := ⟨g, 6, none⟩) hg _).setCell (p := ⟨g, 7, none⟩) hg _).setCell (p := ⟨g, 8, none⟩) hg _).setCell (p := ⟨g, 9, none⟩) hg _)
theorem ret_sbox {fn : Func} {p : Tmp} {w : World} {g : Nat} {c n : Int} {mn mx : Val} {a : Act} {R : Ending → World → Prop} (hb : SBox w g c n mn mx) (h : fn.results = #[.cell p 58]) (hp : a.tmps.getD p undef = .pointer (some ⟨g, 0, none⟩)) (hd : a.defers = []) (hr : R (.returned (sagg c n mn mx)) w) : bodyPost Try.prog fn R .ret a w :=
  bodyPost_ret (results_cell_row h _ _ g 58 _ (0, 0) _ hp hb Try.underlying58 rfl (by kernel_rfl)) hd hr
end Go.Proofs.Ytkkpcdpoldjmkaa.Stats
