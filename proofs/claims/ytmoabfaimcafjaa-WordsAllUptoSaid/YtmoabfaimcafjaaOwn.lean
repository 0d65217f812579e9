/-
  SLICES THAT THE CALL OWNS: numbers, values; what stays while another row is written.
-/
import Derived.Test.YtmoabfaimcafjaaVSl
import Derived.Test.YtmoabfaimcafjaaRunMath
import Derived.Deep.AppendLies
import Derived.Deep.RegionLaw
import Derived.Deep.RegionHeld3
import Derived.Deep.DeepCutAuto
namespace Go.Proofs.Ytmoabfaimcafjaa
open Go.RowKit ValMath

theorem info_int : (Try.prog.info? 3).map (fun i => (i.zero, i.size, i.bytes)) = some (some (.int .i64 0), 1, 8) := by kernel_rfl
theorem info_u8 : (Try.prog.info? 5).map (fun i => (i.zero, i.size, i.bytes)) = some (some (.int .u8 0), 1, 1) := by kernel_rfl
theorem info_val : (Try.prog.info? 38).map (fun i => (i.zero, i.size, i.bytes)) = some (some (.agg #[.int .i64 0, .int .i64 0, .bool false, .string { data := #[] }]), 4, 40) := by kernel_rfl

/-- Numbers' cells. -/
def icells (xs : List Int) : List Value := xs.map (Value.int .i64)
/-- Values' cells. -/
def vscells (vs : List Val) : List Value := vs.flatMap vcells

theorem icells_length (xs : List Int) : (icells xs).length = xs.length := by simp [icells]
theorem vscells_length (vs : List Val) : (vscells vs).length = vs.length * 4 := by
  induction vs with
  | nil => rfl
  | cons v vs ih => simp only [vscells, List.flatMap_cons, List.length_append] at ih ⊢; rw [ih]; simp [vcells]; omega
theorem icells_append (xs ys : List Int) : icells (xs ++ ys) = icells xs ++ icells ys := by simp [icells]
theorem vscells_append (xs ys : List Val) : vscells (xs ++ ys) = vscells xs ++ vscells ys := by simp [vscells]
theorem vscells_one (v : Val) : vscells [v] = [.int .i64 v.k, .int .i64 v.i, .bool v.b, .string v.s] := by simp [vscells, vcells]
theorem vscells_at (vs : List Val) (i j : Nat) (hi : i < vs.length) (hj : j < 4) : (vscells vs)[i * 4 + j]? = (vcells vs[i])[j]? := by
  induction vs generalizing i with
  | nil => simp at hi
  | cons v vs ih =>
    have hl : (vcells v).length = 4 := rfl
    simp only [vscells, List.flatMap_cons] at ih ⊢
    cases i with
    | zero => rw [List.getElem?_append_left (by omega)]; simp
    | succ i =>
      rw [List.getElem?_append_right (by omega), hl, show (i + 1) * 4 + j - 4 = i * 4 + j by omega]
      simpa using ih i (by simpa using hi)

/-- The call owns a row of numbers; of values. -/
def OwnI (w : World) (B : Nat) (v : Value) (xs : List Int) : Prop := w.ownsRow B 3 1 v xs.length (icells xs)
def OwnV (w : World) (B : Nat) (v : Value) (vs : List Val) : Prop := w.ownsRow B 38 4 v vs.length (vscells vs)

theorem OwnI.nil (w : World) (B : Nat) : OwnI w B (.slice none 0 0) [] := World.ownsRow_nil _ _ _ _
theorem OwnV.nil (w : World) (B : Nat) : OwnV w B (.slice none 0 0) [] := World.ownsRow_nil _ _ _ _

/-- Rows of different element types never share a block. -/
theorem own_ne {w : World} {B B' : Nat} {e e' : TypeId} {z z' n n' : Nat} {v v' : Value} {xs xs' : List Value} (h : w.ownsRow B e z v n xs) (h' : w.ownsRow B' e' z' v' n' xs') (hne : e ≠ e') :
    v.ownBlock = none ∨ v.ownBlock ≠ v'.ownBlock := by
  rcases h.2 with ⟨rfl, _⟩ | ⟨g, c, cur, rfl, _, hg, _⟩
  · exact .inl rfl
  · right
    rcases h'.2 with ⟨rfl, _⟩ | ⟨g', c', cur', rfl, _, hg', _⟩
    · simp [Value.ownBlock]
    · intro he
      have : g = g' := by simpa [Value.ownBlock] using he
      subst this
      rw [hg] at hg'
      injection hg' with hg'
      injection hg' with _ h2
      exact hne h2

theorem OwnI.keepV {w w' : World} {B : Nat} {v u : Value} {xs : List Int} {vs : List Val} (h : OwnI w B v xs) (hu : OwnV w B u vs) (hg : w.grownBy w' u.ownBlock) : OwnI w' B v xs :=
  World.ownsRow.kept h hg (own_ne h hu (by decide))
theorem OwnV.keepI {w w' : World} {B : Nat} {v u : Value} {xs : List Val} {vs : List Int} (h : OwnV w B v xs) (hu : OwnI w B u vs) (hg : w.grownBy w' u.ownBlock) : OwnV w' B v xs :=
  World.ownsRow.kept h hg (own_ne h hu (by decide))
theorem OwnI.alloc {w : World} {B : Nat} {v : Value} {xs : List Int} (h : OwnI w B v xs) (o : Obj) : OwnI (w.alloc o) B v xs := World.ownsRow.alloc h o
theorem OwnV.alloc {w : World} {B : Nat} {v : Value} {xs : List Val} (h : OwnV w B v xs) (o : Obj) : OwnV (w.alloc o) B v xs := World.ownsRow.alloc h o
theorem OwnI.drewN {w : World} {B : Nat} {v : Value} {xs : List Int} (h : OwnI w B v xs) (k : Nat) : OwnI (w.drewN k) B v xs := h
theorem OwnV.drewN {w : World} {B : Nat} {v : Value} {xs : List Val} (h : OwnV w B v xs) (k : Nat) : OwnV (w.drewN k) B v xs := h

theorem OwnI.drew {w : World} {B : Nat} {v : Value} {xs : List Int} (h : OwnI w B v xs) : OwnI w.drew B v xs := h
theorem OwnV.drew {w : World} {B : Nat} {v : Value} {xs : List Val} (h : OwnV w B v xs) : OwnV w.drew B v xs := h

/-- Kept where nothing below the heap's size has turned. -/
theorem own_below {w w' : World} {B : Nat} {e : TypeId} {z n : Nat} {v : Value} {xs : List Value} (h : w.ownsRow B e z v n xs) (hb : Below w.heap.size w w') : w'.ownsRow B e z v n xs := by
  refine ⟨h.1, ?_⟩
  rcases h.2 with h0 | ⟨g, c, cur, hv, hB, hg, h1⟩
  · exact .inl h0
  · right
    refine ⟨g, c, cur, hv, hB, ?_, h1⟩
    have hlt : g < w.heap.size := by
      rcases Nat.lt_or_ge g w.heap.size with h | h
      · exact h
      · rw [Array.getElem?_eq_none h] at hg; cases hg
    rw [hb.block g hlt, hg]
theorem OwnI.below {w w' : World} {B : Nat} {v : Value} {xs : List Int} (h : OwnI w B v xs) (hb : Below w.heap.size w w') : OwnI w' B v xs := own_below h hb
theorem OwnV.below {w w' : World} {B : Nat} {v : Value} {xs : List Val} (h : OwnV w B v xs) (hb : Below w.heap.size w w') : OwnV w' B v xs := own_below h hb

/-- A store into a block that is another's. -/
theorem own_set {w : World} {B : Nat} {e : TypeId} {z n : Nat} {v : Value} {xs : List Value} (h : w.ownsRow B e z v n xs) {p : Addr} (hp : v.ownBlock ≠ some p.block) (u : Value) : (w.setCell p u).ownsRow B e z v n xs := by
  refine ⟨h.1, ?_⟩
  rcases h.2 with h0 | ⟨g, c, cur, hv, hB, hg, h1⟩
  · exact .inl h0
  · right
    refine ⟨g, c, cur, hv, hB, ?_, h1⟩
    rw [Below.heap_setCell w p u g (by intro he; subst hv; exact hp (by rw [← he]; rfl)), hg]


theorem OwnV.form {w : World} {B : Nat} {v : Value} {vs : List Val} (h : OwnV w B v vs) : ∃ A c, v = .slice A vs.length c ∧ Vals.VSl w A vs.length vs ∧ c ≤ maxLen := by
  rcases h.2 with ⟨rfl, h0⟩ | ⟨g, c, cur, rfl, _, hg, hnc, hcm, _⟩
  · have : vs = [] := List.eq_nil_of_length_eq_zero h0
    subst this
    exact ⟨none, 0, rfl, Vals.VSl.none_ w, by unfold maxLen; omega⟩
  · refine ⟨_, c, rfl, ⟨rfl, fun _ => ⟨g, 0, rfl, ?_, fun i hi => ?_⟩⟩, hcm⟩
    · rcases Nat.lt_or_ge g w.heap.size with h | h
      · exact h
      · rw [Array.getElem?_eq_none h] at hg; cases hg
    · have hc := fun j hj => (World.ownsRow.cellAt h (i * 4 + j) (by omega : i * 4 + j < vs.length * 4)).trans (vscells_at vs i j hi hj)
      refine ⟨?_, ?_, ?_, ?_⟩
      · have := hc 0 (by omega); simpa [vcells] using this
      · have := hc 1 (by omega); simpa [vcells] using this
      · have := hc 2 (by omega); simpa [vcells] using this
      · have := hc 3 (by omega); simpa [vcells] using this

theorem OwnI.form {w : World} {B : Nat} {v : Value} {xs : List Int} (h : OwnI w B v xs) {n : Nat} (hn : xs.length = n) :
    ∃ A c, v = .slice A n c ∧ c ≤ maxLen ∧ n ≤ c ∧ (0 < n → ∃ g, A = some ⟨g, 0, none⟩ ∧ B ≤ g ∧ g < w.heap.size ∧ (∀ j, w.frozen? ⟨g, j, none⟩ = false) ∧ ∀ i (hi : i < xs.length), w.cell? ⟨g, i, none⟩ = some (.int .i64 xs[i])) := by
  subst hn
  rcases h.2 with ⟨rfl, h0⟩ | ⟨g, c, cur, rfl, hB, hg, hnc, hcm, _⟩
  · exact ⟨none, 0, by rw [h0], by unfold maxLen; omega, by omega, fun h => by omega⟩
  · refine ⟨_, c, rfl, hcm, hnc, fun _ => ⟨g, rfl, hB, ?_, fun j => World.ownsRow.frozenAt h j, fun i hi => ?_⟩⟩
    · rcases Nat.lt_or_ge g w.heap.size with h | h
      · exact h
      · rw [Array.getElem?_eq_none h] at hg; cases hg
    · rw [World.ownsRow.cellAt h i (by omega)]
      simp [icells, hi]

theorem OwnV.form' {w : World} {B : Nat} {v : Value} {vs : List Val} (h : OwnV w B v vs) {n : Nat} (hn : vs.length = n) : ∃ A c, v = .slice A n c ∧ Vals.VSl w A n vs ∧ c ≤ maxLen := by
  subst hn; exact h.form

/-! ### A value in a block of its own -/
def Box (w : World) (g : Nat) (u : Val) : Prop := w.heap[g]? = some (.cells #[.int .i64 u.k, .int .i64 u.i, .bool u.b, .string u.s] 38 (0, 0))

theorem Box.lt {w : World} {g : Nat} {u : Val} (h : Box w g u) : g < w.heap.size := by
  rcases Nat.lt_or_ge g w.heap.size with h1 | h1
  · exact h1
  · unfold Box at h; rw [Array.getElem?_eq_none h1] at h; cases h
theorem Box.new (w : World) (u : Val) : Box (w.alloc (.cells #[.int .i64 u.k, .int .i64 u.i, .bool u.b, .string u.s] 38)) w.heap.size u := heap_alloc_new w _
theorem Box.below {w w' : World} {g : Nat} {u : Val} (h : Box w g u) (hb : Below w.heap.size w w') : Box w' g u := (hb.block g h.lt).trans h
theorem Box.grown {w w' : World} {g : Nat} {u : Val} {row : Option Nat} (h : Box w g u) (hb : w.grownBy w' row) (hr : some g ≠ row) : Box w' g u := (hb.block g h.lt hr).trans h
theorem Box.alloc {w : World} {g : Nat} {u : Val} (h : Box w g u) (o : Obj) : Box (w.alloc o) g u := (Below.heap_alloc w o g h.lt).trans h
theorem Box.drewN {w : World} {g : Nat} {u : Val} (h : Box w g u) (k : Nat) : Box (w.drewN k) g u := h
theorem Box.drew {w : World} {g : Nat} {u : Val} (h : Box w g u) : Box w.drew g u := h
theorem Box.cells {w : World} {g : Nat} {u : Val} (h : Box w g u) : w.cell? ⟨g, 0, none⟩ = some (.int .i64 u.k) ∧ w.cell? ⟨g, 1, none⟩ = some (.int .i64 u.i) ∧ w.cell? ⟨g, 2, none⟩ = some (.bool u.b) ∧ w.cell? ⟨g, 3, none⟩ = some (.string u.s) := by
  refine ⟨?_, ?_, ?_, ?_⟩ <;> rw [cell_of_row w g _ _ _ _ h] <;> rfl
theorem Box.free {w : World} {g : Nat} {u : Val} (h : Box w g u) (j : Nat) : w.frozen? ⟨g, j, none⟩ = false := frozen_of_row w g j _ _ h
/-- A whole value stored into such a block. -/
theorem wpList_store_val {w : World} {ops : Array Oper} {rest : List Oper} {o : Oper} {a : Act} {Q : Exit → Act → World → Prop} (hgd : o.guard = none) (x y : Operand) (ho : o.op = .store 38 x y)
    (g : Nat) (u old : Val) (hx : a.eval x = .pointer (some ⟨g, 0, none⟩)) (hy : a.eval y = vagg u) (hg : Box w g old)
    (h : ∀ wq, Box wq g u → w.grownBy wq (some g) → wq.heap.size = w.heap.size → wpList Try.prog ops Q rest (a.put o.dst undef) wq) : wpList Try.prog ops Q (o :: rest) a w := by
  have hi : (Try.prog.info? 38).map (·.size) = some 4 := by kernel_rfl
  refine wpList_store_row hgd 38 x y ho g #[.int .i64 u.k, .int .i64 u.i, .bool u.b, .string u.s] hx hy 38 _ hg hi rfl (by simp [Value.oneCell']) ?_
  refine h _ (heap_setRow_same _ _ _ _ _ _ hg) ⟨rfl, rfl, rfl, by simp, fun k _ hne => setRow_other w g k _ (fun e => hne (by rw [e]))⟩ (by simp)

theorem OwnI.keepB {w w' : World} {B g : Nat} {v : Value} {xs : List Int} (h : OwnI w B v xs) (hg : w.grownBy w' (some g)) (hne : v.ownBlock ≠ some g) : OwnI w' B v xs := World.ownsRow.kept h hg (.inr hne)
theorem OwnV.keepB {w w' : World} {B g : Nat} {v : Value} {xs : List Val} (h : OwnV w B v xs) (hg : w.grownBy w' (some g)) (hne : v.ownBlock ≠ some g) : OwnV w' B v xs := World.ownsRow.kept h hg (.inr hne)
theorem own_lt {w : World} {B z n : Nat} {e : TypeId} {v : Value} {xs : List Value} (h : w.ownsRow B e z v n xs) {g : Nat} (hg : w.heap.size ≤ g) : v.ownBlock ≠ some g := by
  intro he; have := (World.ownsRow.lt h g he).2; omega

/-! ### One more at the end of a row that the call owns -/
def few : Nat := 3518437208882
section
variable {w : World} {ops : Array Oper} {rest : List Oper} {o : Oper} {a : Act} {K : Act → World → Prop} {Q : Exit → Act → World → Prop} {E : Prop}
theorem run_push_int (B : Nat) (ty : TypeId) (v : Value) (xs : List Int) (y : Int) (g c : Nat) {t : TypeId} {fr : Nat × Nat} (hg : w.heap[g]? = some (.cells #[.int .i64 y] t fr)) (hown : OwnI w B v xs) (hl : xs.length < few) (hB : B ≤ w.heap.size) :
    ∃ u wA, (Builtin.append_ #[51, 51] ty #[v, .slice (some ⟨g, 0, none⟩) 1 c]).run Try.prog w = .ok u wA ∧ OwnI wA B u (xs ++ [y]) ∧ w.grownBy wA v.ownBlock ∧ (u.ownBlock = v.ownBlock ∨ u.ownBlock = some w.heap.size) := by
  obtain ⟨i0, hi, hz, hs, hb⟩ := info_parts info_int
  unfold few at hl
  obtain ⟨u, wA, h1, h2, h3, _, h5⟩ := run_append_own_at (P := Try.prog) w B 51 ty 3 i0 _ 1 8 Try.underlying51 hi hz hs hb rfl (by omega) v xs.length (icells xs) hown ⟨g, 0, none⟩ 1 c [.int .i64 y] rfl
    (World.news_of_block (cs := #[.int .i64 y]) hg) (by simp [Value.oneCell']) (by unfold maxLen; omega) (by omega) hB
  exact ⟨u, wA, h1, by unfold OwnI; rw [icells_append, List.length_append]; exact h2, h3, h5⟩
theorem run_push_val (B : Nat) (ty : TypeId) (v : Value) (xs : List Val) (y : Val) (g c : Nat) {t : TypeId} {fr : Nat × Nat} (hg : w.heap[g]? = some (.cells #[.int .i64 y.k, .int .i64 y.i, .bool y.b, .string y.s] t fr)) (hown : OwnV w B v xs) (hl : xs.length < few) (hB : B ≤ w.heap.size) :
    ∃ u wA, (Builtin.append_ #[44, 44] ty #[v, .slice (some ⟨g, 0, none⟩) 1 c]).run Try.prog w = .ok u wA ∧ OwnV wA B u (xs ++ [y]) ∧ w.grownBy wA v.ownBlock ∧ (u.ownBlock = v.ownBlock ∨ u.ownBlock = some w.heap.size) := by
  obtain ⟨i0, hi, hz, hs, hb⟩ := info_parts info_val
  unfold few at hl
  obtain ⟨u, wA, h1, h2, h3, _, h5⟩ := run_append_own_at (P := Try.prog) w B 44 ty 38 i0 _ 4 40 Try.underlying44 hi hz hs hb rfl (by omega) v xs.length (vscells xs) hown ⟨g, 0, none⟩ 1 c [.int .i64 y.k, .int .i64 y.i, .bool y.b, .string y.s] rfl
    (World.news_of_block (cs := #[.int .i64 y.k, .int .i64 y.i, .bool y.b, .string y.s]) hg) (by simp [Value.oneCell']) (by unfold maxLen; omega) (by omega) hB
  exact ⟨u, wA, h1, by unfold OwnV; rw [vscells_append, vscells_one, List.length_append]; exact h2, h3, h5⟩

theorem wp_push_int (s x : Operand) (ho : o.op = .call { callee := .builtin .append, args := #[s, x], argTypes := #[51, 51] }) (B : Nat) (v : Value) (xs : List Int) (y : Int) (g c : Nat)
    (hs : a.eval s = v) (hx : a.eval x = .slice (some ⟨g, 0, none⟩) 1 c) {t : TypeId} {fr : Nat × Nat} (hg : w.heap[g]? = some (.cells #[.int .i64 y] t fr)) (hown : OwnI w B v xs) (hl : xs.length < few) (hB : B ≤ w.heap.size)
    (h : ∀ u wA, OwnI wA B u (xs ++ [y]) → w.grownBy wA v.ownBlock → (u.ownBlock = v.ownBlock ∨ u.ownBlock = some w.heap.size) → K (a.put o.dst u) wA) : o.wp Try.prog a w K Q := by
  obtain ⟨u, wA, hr, h2, h3, h4⟩ := run_push_int B o.type v xs y g c hg hown hl hB
  unfold Oper.wp execOp
  simp only [ho, resolve, invoke, builtin, Sem.run_bind, Sem.run_pure, Result.andThen_ok, List.map_toArray, List.map_cons, List.map_nil, hs, hx, hr]
  exact h u wA h2 h3 h4
theorem wp_push_val (s x : Operand) (ho : o.op = .call { callee := .builtin .append, args := #[s, x], argTypes := #[44, 44] }) (B : Nat) (v : Value) (xs : List Val) (y : Val) (g c : Nat)
    (hs : a.eval s = v) (hx : a.eval x = .slice (some ⟨g, 0, none⟩) 1 c) {t : TypeId} {fr : Nat × Nat} (hg : w.heap[g]? = some (.cells #[.int .i64 y.k, .int .i64 y.i, .bool y.b, .string y.s] t fr)) (hown : OwnV w B v xs) (hl : xs.length < few) (hB : B ≤ w.heap.size)
    (h : ∀ u wA, OwnV wA B u (xs ++ [y]) → w.grownBy wA v.ownBlock → (u.ownBlock = v.ownBlock ∨ u.ownBlock = some w.heap.size) → K (a.put o.dst u) wA) : o.wp Try.prog a w K Q := by
  obtain ⟨u, wA, hr, h2, h3, h4⟩ := run_push_val B o.type v xs y g c hg hown hl hB
  unfold Oper.wp execOp
  simp only [ho, resolve, invoke, builtin, Sem.run_bind, Sem.run_pure, Result.andThen_ok, List.map_toArray, List.map_cons, List.map_nil, hs, hx, hr]
  exact h u wA h2 h3 h4

theorem wpList_push_int (hgd : o.guard = none) (s x : Operand) (ho : o.op = .call { callee := .builtin .append, args := #[s, x], argTypes := #[51, 51] }) (B : Nat) (v : Value) (xs : List Int) (y : Int) (g c : Nat)
    (hs : a.eval s = v) (hx : a.eval x = .slice (some ⟨g, 0, none⟩) 1 c) {t : TypeId} {fr : Nat × Nat} (hg : w.heap[g]? = some (.cells #[.int .i64 y] t fr)) (hown : OwnI w B v xs) (hl : xs.length < few) (hB : B ≤ w.heap.size)
    (h : ∀ u wA, OwnI wA B u (xs ++ [y]) → w.grownBy wA v.ownBlock → (u.ownBlock = v.ownBlock ∨ u.ownBlock = some w.heap.size) → wpList Try.prog ops Q rest (a.put o.dst u) wA) : wpList Try.prog ops Q (o :: rest) a w :=
  wpList_plain hgd fun _ hK => wp_push_int s x ho B v xs y g c hs hx hg hown hl hB fun u wA h2 h3 h4 => hK _ _ (h u wA h2 h3 h4)
theorem wpList_push_val (hgd : o.guard = none) (s x : Operand) (ho : o.op = .call { callee := .builtin .append, args := #[s, x], argTypes := #[44, 44] }) (B : Nat) (v : Value) (xs : List Val) (y : Val) (g c : Nat)
    (hs : a.eval s = v) (hx : a.eval x = .slice (some ⟨g, 0, none⟩) 1 c) {t : TypeId} {fr : Nat × Nat} (hg : w.heap[g]? = some (.cells #[.int .i64 y.k, .int .i64 y.i, .bool y.b, .string y.s] t fr)) (hown : OwnV w B v xs) (hl : xs.length < few) (hB : B ≤ w.heap.size)
    (h : ∀ u wA, OwnV wA B u (xs ++ [y]) → w.grownBy wA v.ownBlock → (u.ownBlock = v.ownBlock ∨ u.ownBlock = some w.heap.size) → wpList Try.prog ops Q rest (a.put o.dst u) wA) : wpList Try.prog ops Q (o :: rest) a w :=
  wpList_plain hgd fun _ hK => wp_push_val s x ho B v xs y g c hs hx hg hown hl hB fun u wA h2 h3 h4 => hK _ _ (h u wA h2 h3 h4)

theorem step_push_int (hgd : o.guard = none) (s x : Operand) (ho : o.op = .call { callee := .builtin .append, args := #[s, x], argTypes := #[51, 51] }) (B : Nat) (v : Value) (xs : List Int) (y : Int) (g c : Nat)
    (hs : a.eval s = v) (hx : a.eval x = .slice (some ⟨g, 0, none⟩) 1 c) {t : TypeId} {fr : Nat × Nat} (hg : w.heap[g]? = some (.cells #[.int .i64 y] t fr)) (hown : OwnI w B v xs) (hl : xs.length < few) (hB : B ≤ w.heap.size)
    (h : ∀ u wA, OwnI wA B u (xs ++ [y]) → w.grownBy wA v.ownBlock → (u.ownBlock = v.ownBlock ∨ u.ownBlock = some w.heap.size) → K (a.put o.dst u) wA) : if Region.wanted o (yielded ops a.tmps) = true then Oper.wp Try.prog o a w K Q else E := by
  rw [if_pos (by simp [Region.wanted, hgd])]
  exact wp_push_int s x ho B v xs y g c hs hx hg hown hl hB h
theorem step_push_val (hgd : o.guard = none) (s x : Operand) (ho : o.op = .call { callee := .builtin .append, args := #[s, x], argTypes := #[44, 44] }) (B : Nat) (v : Value) (xs : List Val) (y : Val) (g c : Nat)
    (hs : a.eval s = v) (hx : a.eval x = .slice (some ⟨g, 0, none⟩) 1 c) {t : TypeId} {fr : Nat × Nat} (hg : w.heap[g]? = some (.cells #[.int .i64 y.k, .int .i64 y.i, .bool y.b, .string y.s] t fr)) (hown : OwnV w B v xs) (hl : xs.length < few) (hB : B ≤ w.heap.size)
    (h : ∀ u wA, OwnV wA B u (xs ++ [y]) → w.grownBy wA v.ownBlock → (u.ownBlock = v.ownBlock ∨ u.ownBlock = some w.heap.size) → K (a.put o.dst u) wA) : if Region.wanted o (yielded ops a.tmps) = true then Oper.wp Try.prog o a w K Q else E := by
  rw [if_pos (by simp [Region.wanted, hgd])]
  exact wp_push_val s x ho B v xs y g c hs hx hg hown hl hB h
end
theorem own_base {w : World} {B z n : Nat} {e : TypeId} {v : Value} {xs : List Value} (h : w.ownsRow B e z v n xs) : ∀ k, v.ownBlock = some k → B ≤ k := fun k hk => (World.ownsRow.lt h k hk).1

end Go.Proofs.Ytmoabfaimcafjaa
