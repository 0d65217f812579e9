/-
  'make([]T, n)' at bytes, numbers, values: n zero elements that the call owns; stores into them.
-/
import Derived.Test.YtkkpcdpoldjmkaaPush
import Derived.OwnWalk
import Derived.Laws.OwnMore
namespace Go.Proofs.Ytkkpcdpoldjmkaa
open Go.RowKit ValMath Vals Sl
section
variable {w : World} {ops : Array Oper} {rest : List Oper} {o : Oper} {a : Act} {Q : Exit → Act → World → Prop}
theorem wpList_make_bytes (hg : o.guard = none) (l c : Operand) (hop : o.op = Op.makeSlice 32 l c) (base : Nat) (kl kc : IntKind) (L C : Int) (n : Nat) (hl : a.eval l = .int kl L) (hc : a.eval c = .int kc C) (hL : L = (n : Int)) (hC : C = (n : Int))
    (b2 : n ≤ 281474976710656) (b4 : base ≤ w.heap.size)
    (hK : ∀ w', OwnB w' base (.slice (some ⟨w.heap.size, 0, none⟩) n n) (List.replicate n 0) → w.grownBy w' none → w.heap.size < w'.heap.size → wpList Try.prog ops Q rest (a.put o.dst (.slice (some ⟨w.heap.size, 0, none⟩) n n)) w') :
    wpList Try.prog ops Q (o :: rest) a w := by
  obtain ⟨i0, hi, hz, hs, hb⟩ := info_parts info_u8
  refine wpList_make_full w hg l c _ hop base 5 i0 _ 1 Try.underlying32 hi hz hs kl kc L C n hl hc hL hC (by rw [hb]; omega) (by unfold maxLen; omega) b4 fun w' h1 h2 => hK w' ?_ h2 (h1.lt _ rfl).2
  unfold OwnB
  rw [List.length_replicate]
  have e : (madeCells (Value.int .u8 0).cells (n * 1)).toList = (List.replicate n (0 : UInt8)).map bv := by
    rw [show (Value.int .u8 0).cells = #[.int .u8 0] from rfl, toList_madeCells_one, Nat.mul_one, List.map_replicate]; rfl
  rw [← e]; exact h1
theorem wpList_make_ints (hg : o.guard = none) (l c : Operand) (hop : o.op = Op.makeSlice 37 l c) (base : Nat) (kl kc : IntKind) (L C : Int) (n : Nat) (hl : a.eval l = .int kl L) (hc : a.eval c = .int kc C) (hL : L = (n : Int)) (hC : C = (n : Int))
    (b2 : n ≤ 35184372088832) (b4 : base ≤ w.heap.size)
    (hK : ∀ w', OwnI w' base (.slice (some ⟨w.heap.size, 0, none⟩) n n) (List.replicate n 0) → w.grownBy w' none → w.heap.size < w'.heap.size → wpList Try.prog ops Q rest (a.put o.dst (.slice (some ⟨w.heap.size, 0, none⟩) n n)) w') :
    wpList Try.prog ops Q (o :: rest) a w := by
  obtain ⟨i0, hi, hz, hs, hb⟩ := info_parts info_int
  refine wpList_make_full w hg l c _ hop base 3 i0 _ 1 Try.underlying37 hi hz hs kl kc L C n hl hc hL hC (by rw [hb]; omega) (by unfold maxLen; omega) b4 fun w' h1 h2 => hK w' ?_ h2 (h1.lt _ rfl).2
  unfold OwnI
  rw [List.length_replicate]
  have e : (madeCells (Value.int .i64 0).cells (n * 1)).toList = icells (List.replicate n (0 : Int)) := by
    rw [show (Value.int .i64 0).cells = #[.int .i64 0] from rfl, toList_madeCells_one, Nat.mul_one]; unfold icells; rw [List.map_replicate]
  rw [← e]; exact h1
end
/-- A byte stored. -/
theorem own_put_byte {w : World} {B g n c : Nat} {ys : List UInt8} (h : OwnB w B (.slice (some ⟨g, 0, none⟩) n c) ys) (hl : ys.length = n) (k : Nat) (z : UInt8) :
    OwnB (w.setCell ⟨g, k, none⟩ (bv z)) B (.slice (some ⟨g, 0, none⟩) n c) (ys.set k z) := by
  unfold OwnB at h ⊢
  rw [hl] at h
  rw [List.length_set, hl, List.map_set]
  exact (World.ownsRow.stored h k (bv z)).1
theorem own_byte_at {w : World} {B g n c : Nat} {ys : List UInt8} (h : OwnB w B (.slice (some ⟨g, 0, none⟩) n c) ys) (hl : ys.length = n) (k : Nat) (hk : k < n) : w.cell? ⟨g, k, none⟩ = some (.int .u8 (byteAt ys k : Nat)) ∧ w.frozen? ⟨g, k, none⟩ = false := by
  unfold OwnB at h
  rw [hl] at h
  refine ⟨?_, World.ownsRow.frozenAt h k⟩
  rw [World.ownsRow.cellAt h k (by omega), List.getElem?_map, List.getElem?_eq_getElem (by omega), byteAt_get _ _ (by omega)]; rfl
theorem own_int_at {w : World} {B g n c : Nat} {ys : List Int} (h : OwnI w B (.slice (some ⟨g, 0, none⟩) n c) ys) (hl : ys.length = n) (k : Nat) (hk : k < n) : w.cell? ⟨g, k, none⟩ = some (.int .i64 (ys.getD k 0)) ∧ w.frozen? ⟨g, k, none⟩ = false := by
  unfold OwnI at h
  rw [hl] at h
  refine ⟨?_, World.ownsRow.frozenAt h k⟩
  rw [World.ownsRow.cellAt h k (by omega)]
  unfold icells
  rw [List.getElem?_map, List.getElem?_eq_getElem (by omega), List.getD_eq_getElem?_getD, List.getElem?_eq_getElem (by omega)]; rfl
end Go.Proofs.Ytkkpcdpoldjmkaa
