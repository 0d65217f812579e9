/-
  A Stat as an argument.
-/
import Derived.Test.YtkkpcdpoldjmkaaSl
import Derived.Test.YtkkpcdpoldjmkaaStat0
namespace Go.Proofs.Ytkkpcdpoldjmkaa
open Go.ChangeShapes Go.WideShapes Go.ChangeAt Go.RowKit
open ValMath Vals Sl
structure Sta where
  c : Int
  n : Int
  mn : Val
  mx : Val
abbrev sagg1 (a : Sta) : Value := Stats.sagg a.c a.n a.mn a.mx
section
variable {H : Type} {enc : TypeId × Value → H} {w : World} {base : Nat} {spare : Nat → Bool} {held : Bool}

set_option maxRecDepth 100000 in
theorem Sl.stat_cells {n : Nat} {cs : List Value} {x : DataW H × List MemPlace} (h : DataW.trod enc Try.prog w base spare held n 58 cs = some x) :
    ∃ a : Sta, cs = [.int .i64 a.c, .int .i64 a.n, .int .i64 a.mn.k, .int .i64 a.mn.i, .bool a.mn.b, .string a.mn.s, .int .i64 a.mx.k, .int .i64 a.mx.i, .bool a.mx.b, .string a.mx.s] ∧
      x.1 = .agg [.lit (.int .i64 a.c), .lit (.int .i64 a.n), .agg [.lit (.int .i64 a.mn.k), .lit (.int .i64 a.mn.i), .lit (.bool a.mn.b), .lit (.string a.mn.s.data.toList)], .agg [.lit (.int .i64 a.mx.k), .lit (.int .i64 a.mx.i), .lit (.bool a.mx.b), .lit (.string a.mx.s.data.toList)]] ∧
      (Lit.int .i64 a.n).wf = true ∧ (Lit.int .i64 a.mn.k).wf = true ∧ (Lit.int .i64 a.mn.i).wf = true ∧ (Lit.int .i64 a.mx.k).wf = true ∧ (Lit.int .i64 a.mx.i).wf = true := by
  obtain ⟨ys, m, _, hx, hcl, hyl, hg⟩ := DataW.trod_struct Try.underlying58 h
  have hC : Try.prog.cellsOf 58 = 10 := by kernel_rfl
  rw [hC] at hcl
  match cs, hcl with
  | [c0, c1, c2, c3, c4, c5, c6, c7, c8, c9], _ =>
    match ys, hyl with
    | [y0, y1, y2, y3], _ =>
      have g0 : DataW.trod enc Try.prog w base spare held m 3 [c0] = some y0 := hg 0 _ rfl
      have g1 : DataW.trod enc Try.prog w base spare held m 3 [c1] = some y1 := hg 1 _ rfl
      have g2 : DataW.trod enc Try.prog w base spare held m 52 [c2, c3, c4, c5] = some y2 := hg 2 _ rfl
      have g3 : DataW.trod enc Try.prog w base spare held m 52 [c6, c7, c8, c9] = some y3 := hg 3 _ rfl
      obtain ⟨k, e0, rfl, w0⟩ := DataW.trod_int Try.underlying3 g0
      obtain ⟨i, e1, rfl, w1⟩ := DataW.trod_int Try.underlying3 g1
      obtain ⟨mn, e2, h2, w2, w3⟩ := Sl.val_cells g2
      obtain ⟨mx, e3, h3, w4, w5⟩ := Sl.val_cells g3
      injection e0 with e0; injection e1 with e1
      subst e0; subst e1
      refine ⟨⟨k, i, mn, mx⟩, ?_, ?_, w1, w2, w3, w4, w5⟩
      · injection e2 with a0 e2; injection e2 with a1 e2; injection e2 with a2 e2; injection e2 with a3 e2
        injection e3 with b0 e3; injection e3 with b1 e3; injection e3 with b2 e3; injection e3 with b3 e3
        subst a0 a1 a2 a3 b0 b1 b2 b3; rfl
      · rw [hx]
        show DataW.agg [_, _, y2.1, y3.1] = _
        rw [h2, h3]

set_option maxRecDepth 100000 in
theorem Sl.stat_weights (a : Sta) (n : Nat) (hn : n = a.mn.s.size ∨ n = a.mx.s.size) : n ∈ (DataW.agg [.lit (.int .i64 a.c), .lit (.int .i64 a.n), .agg [.lit (.int .i64 a.mn.k), .lit (.int .i64 a.mn.i), .lit (.bool a.mn.b), .lit (.string a.mn.s.data.toList)], .agg [.lit (.int .i64 a.mx.k), .lit (.int .i64 a.mx.i), .lit (.bool a.mx.b), .lit (.string a.mx.s.data.toList)]] : DataW H).weights Try.prog 58 := by
  rw [DataW.weights, Try.underlying58]
  rcases hn with rfl | rfl
  · exact DataW.weights_mem_each (j := 2) rfl rfl _ (Sl.val_weights a.mn)
  · exact DataW.weights_mem_each (j := 3) rfl rfl _ (Sl.val_weights a.mx)

structure FineS (a : Sta) : Prop where
  n0 : -9223372036854775808 ≤ a.n
  n1 : a.n < 9223372036854775808
  mn : Fine a.mn
  mx : Fine a.mx

set_option maxRecDepth 100000 in
theorem Sl.stat_of {ts : List TypeId} {ds : List (DataW H)} {j b0 : Nat} {r : Reach} {v : Value} {d : DataW H} {p : List MemPlace} (ht : ts[j]? = some 58) (hd : ds[j]? = some d)
    (hsz : (DataW.weightsEach Try.prog ts ds).all (· ≤ reachBytes) = true) (hv : Value.okWide Try.prog w r b0 58 v) (h : DataW.Trod enc Try.prog w base spare held 58 v d p) :
    ∃ a : Sta, v = sagg1 a ∧ FineS a := by
  obtain ⟨cs, rfl, hc⟩ := okWide_struct Try.underlying58 hv
  obtain ⟨fuel, hf⟩ := h
  obtain ⟨a, e, hx, wn, w0, w1, w2, w3⟩ := Sl.stat_cells hf
  simp only [] at hx
  subst hx
  have hm : ∀ n, (n = a.mn.s.size ∨ n = a.mx.s.size) → n ≤ reachBytes := fun n hn => by
    have := List.all_eq_true.1 hsz _ (DataW.weights_mem_each ht hd _ (Sl.stat_weights a n hn))
    simpa using this
  have hb := bounds_i64 wn
  refine ⟨a, ?_, hb.1, by omega, fine_of w0 w1 (hm _ (.inl rfl)), fine_of w2 w3 (hm _ (.inr rfl))⟩
  simp only [Value.cells] at e
  rw [show cs = cs.toList.toArray from rfl, e]
end
end Go.Proofs.Ytkkpcdpoldjmkaa
