/-
  Lemmas of this claim, text behind text: CutR, VecRef, VecMap. Each states its own conditions.
-/
import Derived.Maps.RangeWalk
import Derived.Test.YtgmemdedpklnhaaPart01
import Derived.Test.YtgmemdedpklnhaaPart03
import Derived.Test.YtgmemdedpklnhaaPart05
import Derived.Test.YtgmemdedpklnhaaPart06

/-
  THE WALK of the document's own Cut.
-/




namespace Go.Proofs.Ytgmemdedpklnhaa.Runs
open Go.RowKit ValMath Vals Sl

/-- The last run, where it lies. -/
theorem runs_last {W : World} {B : Nat} {v u : Value} {acc : List (Nat × Val)} {m : Nat} {x : Val} (hI : OwnI W B v (counts (acc ++ [(m, x)]))) (hV : OwnV W B u (vals (acc ++ [(m, x)]))) :
    ∃ g1 c1 g2 c2, v = .slice (some ⟨g1, 0, none⟩) (acc.length + 1) c1 ∧ u = .slice (some ⟨g2, 0, none⟩) (acc.length + 1) c2 ∧ B ≤ g1 ∧ g1 < W.heap.size ∧ B ≤ g2 ∧ g2 < W.heap.size ∧
      W.frozen? ⟨g1, acc.length, none⟩ = false ∧ W.cell? ⟨g1, acc.length, none⟩ = some (.int .i64 m) ∧
      (W.cell? ⟨g2, acc.length * 4, none⟩ = some (.int .i64 x.k) ∧ W.cell? ⟨g2, acc.length * 4 + 1, none⟩ = some (.int .i64 x.i) ∧ W.cell? ⟨g2, acc.length * 4 + 2, none⟩ = some (.bool x.b) ∧ W.cell? ⟨g2, acc.length * 4 + 3, none⟩ = some (.string x.s)) := by
  have hcl : (counts (acc ++ [(m, x)])).length = acc.length + 1 := by simp [counts]
  have hvl : (vals (acc ++ [(m, x)])).length = acc.length + 1 := by simp [vals]
  obtain ⟨A1, c1, rfl, _, _, h1⟩ := hI.form hcl
  obtain ⟨g1, rfl, a1, a2, hf, hc⟩ := h1 (by omega)
  obtain ⟨g2, c2, rfl⟩ : ∃ g2 c2, u = .slice (some ⟨g2, 0, none⟩) (acc.length + 1) c2 := by
    rcases hV.2 with ⟨_, h0⟩ | ⟨g, k, cur, e, _⟩
    · omega
    · exact ⟨g, k, by rw [e, hvl]⟩
  have hb := own_base_of hV
  have hs := hV.sl hvl
  obtain ⟨b, o, x', hx', hA, _, d0, d1, d2, d3⟩ := hs.at_ (k := acc.length) (by omega)
  injection hA with hA; injection hA with e1 e2; subst e1; subst e2
  have hxx : x' = x := by
    rw [vals_append, List.getElem?_append_right (by rw [vals_length]; omega), vals_length] at hx'
    simpa [vals] using hx'.symm
  subst hxx
  simp only [Nat.zero_add] at d0 d1 d2 d3
  refine ⟨g1, c1, g2, c2, rfl, rfl, a1, a2, hb.1, hb.2, hf _, ?_, d0, d1, d2, d3⟩
  rw [hc acc.length (by omega)]
  simp [counts]

end Go.Proofs.Ytgmemdedpklnhaa.Runs

/-
  THE WALKS of the document's own plain and of its three ways.
-/





namespace Go.Proofs.Ytgmemdedpklnhaa.Vec
open Go.RowKit ValMath Vals Sl VecMath Words

theorem set_heap {w : World} {g j : Nat} {cs : Array Value} {t : TypeId} {fr : Nat × Nat} {v : Value} (h : w.heap[g]? = some (.cells cs t fr)) : (w.setCell ⟨g, j, none⟩ v).heap[g]? = some (.cells (cs.setIfInBounds j v) t fr) := by
  have hl := (Array.getElem?_eq_some_iff.1 h).1
  have he := (Array.getElem?_eq_some_iff.1 h).2
  simp [World.setCell, hl, Array.getElem_modify, he]
end Go.Proofs.Ytgmemdedpklnhaa.Vec

/-
  A MAP OF TWO TEXTS, made in a call and ranged over: the laws that vec.encode needs.
-/


namespace Go.Proofs.Ytgmemdedpklnhaa.VecMap
open Go.RowKit
open Go.Maps (Keyed)

theorem keyedI : Keyed Try.prog 3 := Maps.int_keyed Try.underlying3
theorem key_int {k : Int} (h : (Lit.int .i64 k).wf = true) : keyOf Try.prog 3 (.int .i64 k) = some (.int .i64 k) := by
  simp [keyOf, Try.underlying3, mapKey, h]
abbrev k1 : Lit := .int .i64 1
abbrev k2 : Lit := .int .i64 2
theorem key1 : WideAt.IsKeyLit k1 := trivial
theorem key2 : WideAt.IsKeyLit k2 := trivial
theorem ne12 : k1 ≠ k2 := by intro e; injection e with _ e; exact absurd e (by decide)
def D1 (r : ByteArray) : DataW Unit := (DataW.map []).put k1 (.lit (.string r.data.toList))
def D2 (r s : ByteArray) : DataW Unit := (D1 r).put k2 (.lit (.string s.data.toList))
def MapS (w : World) (b n : Nat) (D : DataW Unit) : Prop := w.ownsMap Try.prog 3 (plainElem Try.prog 9) b n D
theorem MapS.made (w : World) : MapS (w.alloc (.map #[] 0)) w.heap.size 0 (.map []) := World.ownsMap_made w _ _ _
theorem MapS.below {w w' : World} {b n : Nat} {D : DataW Unit} (h : MapS w b n D) (hb : Below w.heap.size w w') : MapS w' b n D := World.ownsMap.kept h (MapV.grown_of_below hb) (by simp)
theorem MapS.lt {w : World} {b n : Nat} {D : DataW Unit} (h : MapS w b n D) : b < w.heap.size := World.ownsMap.lt h
/-- The range over it under way: which of the two is still to come. -/
def Rng (w : World) (b r : Nat) (R S : ByteArray) (l1 l2 : Bool) (cnt : Nat) : Prop :=
  ∃ left, w.ranges Try.prog 3 (plainElem Try.prog 9) b r 2 (D2 R S) left cnt ∧ left k1 = l1 ∧ left k2 = l2
theorem Rng.left_eq {w : World} {b r cnt : Nat} {R S : ByteArray} {l1 l2 : Bool} (h : Rng w b r R S l1 l2 cnt) : w.rangeLeft b r = cnt := by obtain ⟨_, h, _⟩ := h; exact World.ranges.left_eq h
theorem at_one (R S : ByteArray) (z : DataW Unit) : (D2 R S).atKey k1 z = .lit (.string R.data.toList) := by
  unfold D2 D1
  rw [Maps.atKey_put_other ne12, Maps.atKey_put_same Maps.isMap_empty key1]
theorem at_two (R S : ByteArray) (z : DataW Unit) : (D2 R S).atKey k2 z = .lit (.string S.data.toList) := by
  unfold D2 D1
  rw [Maps.atKey_put_same (Maps.isMap_empty.put _ _) key2]
theorem at_else (R S : ByteArray) (x : Int) (z : DataW Unit) (h1 : x ≠ 1) (h2 : x ≠ 2) : (D2 R S).atKey (.int .i64 x) z = z := by
  unfold D2 D1
  rw [Maps.atKey_put_other (by intro e; injection e with _ e; exact h2 e), Maps.atKey_put_other (by intro e; injection e with _ e; exact h1 e)]
  simp [WideAt.atKey_none]
theorem has_one (R S : ByteArray) : Maps.has (D2 R S) k1 = true := by
  unfold D2 D1
  rw [Maps.has_put_other ne12, Maps.has_put_same Maps.isMap_empty key1]
theorem has_two (R S : ByteArray) : Maps.has (D2 R S) k2 = true := by
  unfold D2 D1
  rw [Maps.has_put_same (Maps.isMap_empty.put _ _) key2]
theorem str_of_list {a b : ByteArray} (h : a.data.toList = b.data.toList) : a = b := by
  cases a; cases b; simp at h; exact congrArg ByteArray.mk h
set_option maxRecDepth 20000 in
theorem elem_string_inv {v : Value} {z : DataW Unit × List MemPlace} (h : plainElem Try.prog 9 v = some z) : ∃ s : ByteArray, v = .string s ∧ z = (.lit (.string s.data.toList), []) := by
  unfold plainElem at h
  rw [Try.underlying9] at h
  cases v <;> simp at h
  exact ⟨_, rfl, h.2.symm⟩

section
variable {w : World} {ops : Array Oper} {rest : List Oper} {o : Oper} {a : Act} {Q : Exit → Act → World → Prop}
/-- An entry of a map's literal. -/
theorem wpList_insert_str (hg : o.guard = none) (m x v : Operand) (hop : o.op = Op.insert 109 m x v) (b n : Nat) (D : DataW Unit)
    (hm : a.eval m = .map (some b)) (h : MapS w b n D) (hn : n < maxLen) (k : Int) (hx : a.eval x = .int .i64 k) (hk : (Lit.int .i64 k).wf = true) (s : ByteArray) (hv : a.eval v = .string s) (hs : s.size ≤ maxLen)
    (hK : ∀ w', MapS w' b (n + 1) (D.put (.int .i64 k) (.lit (.string s.data.toList))) → w.grownBy w' (some b) → wpList Try.prog ops Q rest (a.put o.dst undef) w') : wpList Try.prog ops Q (o :: rest) a w := by
  refine wpList_plain hg fun K' hK' => ?_
  obtain ⟨w', hrun, r1, r2⟩ := World.ownsMap.update h keyedI Try.underlying109 hn (key_int hk) (plainElem_string Try.underlying9 hs)
  unfold Oper.wp
  simp [execOp, hop, hm, hx, hv, hrun, Result.andThen]
  exact hK' _ _ (hK w' r1 r2)
/-- 'range'. -/
theorem wpList_range_two (hg : o.guard = none) (m : Operand) (hop : o.op = Op.range 109 m) (b : Nat) (R S : ByteArray) (hm : a.eval m = .map (some b)) (h : MapS w b 2 (D2 R S))
    (hK : ∀ w' cnt, Rng w' b w.heap.size R S true true cnt → w.grownBy w' none → w'.heap.size = w.heap.size + 1 → wpList Try.prog ops Q rest (a.put o.dst (.pointer (some ⟨w.heap.size, 0, none⟩))) w') : wpList Try.prog ops Q (o :: rest) a w :=
  wpList_range_own w hg m _ hop 3 9 keyedI Try.underlying109 _ b 2 (D2 R S) hm h fun w' r1 r2 r3 => hK w' _ ⟨_, r1, has_one R S, has_two R S⟩ r2 r3
/-- The step. -/
theorem wpList_next_two (hg : o.guard = none) (it : Operand) (hop : o.op = Op.next it false) (b r : Nat) (R S : ByteArray) (l1 l2 : Bool) (cnt : Nat) (hit : a.eval it = .pointer (some ⟨r, 0, none⟩)) (h : Rng w b r R S l1 l2 cnt)
    (hDone : l1 = false → l2 = false → wpList Try.prog ops Q rest (a.put o.dst (.tuple #[.bool false])) w)
    (hOne : l1 = true → ∀ w' cnt', Rng w' b r R S false l2 cnt' → cnt' < cnt → w.grownBy w' (some r) → w'.heap.size = w.heap.size → (Instr.entry (.pointer (some ⟨r, 0, none⟩))).run Try.prog w' = .ok (.tuple #[.int .i64 1, .string R]) w' → wpList Try.prog ops Q rest (a.put o.dst (.tuple #[.bool true, .int .i64 1, .string R])) w')
    (hTwo : l2 = true → ∀ w' cnt', Rng w' b r R S l1 false cnt' → cnt' < cnt → w.grownBy w' (some r) → w'.heap.size = w.heap.size → (Instr.entry (.pointer (some ⟨r, 0, none⟩))).run Try.prog w' = .ok (.tuple #[.int .i64 2, .string S]) w' → wpList Try.prog ops Q rest (a.put o.dst (.tuple #[.bool true, .int .i64 2, .string S])) w') :
    wpList Try.prog ops Q (o :: rest) a w := by
  obtain ⟨left, hr, e1, e2⟩ := h
  refine wpList_next_ranges w hg it hop 3 keyedI (plainElem Try.prog 9) (Value.int .i64) Value.string (fun key kl hkey => by obtain ⟨x, rfl, _⟩ := Maps.keyOf_int_inv Try.underlying3 hkey; exact ⟨x, rfl⟩) (fun v y hv => by obtain ⟨c, rfl, _⟩ := elem_string_inv hv; exact ⟨c, rfl⟩)
    b r 2 (D2 R S) left cnt hit hr (fun _ hl => hDone (by rw [← e1]; exact hl _) (by rw [← e2]; exact hl _)) (fun x c kl y w' cnt' hkey hlk hv hat hrg hlt hgr hsz hen => ?_)
  obtain ⟨x', ex, rfl, _⟩ := Maps.keyOf_int_inv Try.underlying3 hkey
  cases ex
  obtain ⟨c', ec, rfl⟩ := elem_string_inv hv
  cases ec
  by_cases h1 : x = 1
  · subst h1
    have hc := hat .nil
    rw [at_one] at hc
    injection hc with hc; injection hc with hc
    have hc := str_of_list hc
    subst hc
    refine hOne (by rw [← e1]; exact hlk) w' cnt' ⟨_, hrg, ?_, ?_⟩ hlt hgr hsz hen
    · simp [WideAt.sameKey_self (show WideAt.IsKeyLit k1 from trivial)]
    · show (left k2 && !k2.sameKey k1) = l2
      rw [e2]; cases l2 <;> rfl
  · by_cases h2 : x = 2
    · subst h2
      have hc := hat .nil
      rw [at_two] at hc
      injection hc with hc; injection hc with hc
      have hc := str_of_list hc
      subst hc
      refine hTwo (by rw [← e2]; exact hlk) w' cnt' ⟨_, hrg, ?_, ?_⟩ hlt hgr hsz hen
      · show (left k1 && !k1.sameKey k2) = l1
        rw [e1]; cases l1 <;> rfl
      · simp [WideAt.sameKey_self (show WideAt.IsKeyLit k2 from trivial)]
    · exfalso
      have hc := hat .nil
      rw [at_else R S x _ h1 h2] at hc
      cases hc
end
end Go.Proofs.Ytgmemdedpklnhaa.VecMap
