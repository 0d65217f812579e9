/-
  LAWS ON append AT A ROW THAT THE CALL OWNS, from whatever slice that reads as values, as numbers; one byte more.
-/
import Derived.Test.YtmoabfaimcafjaaOwn
import Derived.Test.YtmoabfaimcafjaaSl
import Derived.Laws.AppendOwnNone
import Derived.Maps.AppendAt
namespace Go.Proofs.Ytmoabfaimcafjaa
open Go.RowKit ValMath Vals Sl

def fewI : Nat := 17592186044416
def fewB : Nat := 140737488355328
/-- The call owns a row of bytes. -/
def OwnB (w : World) (B : Nat) (v : Value) (l : List UInt8) : Prop := w.ownsRow B 5 1 v l.length (l.map bv)
theorem OwnB.nil (w : World) (B : Nat) : OwnB w B (.slice none 0 0) [] := World.ownsRow_nil _ _ _ _
theorem OwnB.alloc {w : World} {B : Nat} {v : Value} {xs : List UInt8} (h : OwnB w B v xs) (o : Obj) : OwnB (w.alloc o) B v xs := World.ownsRow.alloc h o
theorem OwnB.drew {w : World} {B : Nat} {v : Value} {xs : List UInt8} (h : OwnB w B v xs) : OwnB w.drew B v xs := h
theorem OwnB.drewN {w : World} {B : Nat} {v : Value} {xs : List UInt8} (h : OwnB w B v xs) (k : Nat) : OwnB (w.drewN k) B v xs := h
theorem OwnB.below {w w' : World} {B : Nat} {v : Value} {xs : List UInt8} (h : OwnB w B v xs) (hb : Below w.heap.size w w') : OwnB w' B v xs := own_below h hb

theorem vscells_one_all (vs : List Val) : ∀ u ∈ vscells vs, u.oneCell' = true := by
  intro u hu
  simp only [vscells, List.mem_flatMap] at hu
  obtain ⟨v, _, hu⟩ := hu
  simp only [vcells, List.mem_cons, List.not_mem_nil, or_false] at hu
  rcases hu with rfl | rfl | rfl | rfl <;> rfl
theorem icells_one_all (xs : List Int) : ∀ u ∈ icells xs, u.oneCell' = true := by
  intro u hu
  simp only [icells, List.mem_map] at hu
  obtain ⟨x, _, rfl⟩ := hu; rfl

/-- The cells of a slice of values, one behind the other. -/
theorem Vals.VSl.news {w : World} {a : Addr} {n : Nat} {vs : List Val} (h : VSl w (some a) n vs) : ∀ j u, (vscells vs)[j]? = some u → w.cell? (a.add j) = some u := by
  intro j u hj
  have hjl : j < (vscells vs).length := by
    rcases Nat.lt_or_ge j (vscells vs).length with h | h
    · exact h
    · rw [List.getElem?_eq_none h] at hj; cases hj
  rw [vscells_length] at hjl
  have hi : j / 4 < vs.length := by omega
  obtain ⟨b, off, hA, _, hc⟩ := h.2 (by rw [← h.1]; omega)
  injection hA with hA; subst hA
  have hr : j % 4 < 4 := Nat.mod_lt _ (by omega)
  have hjj : j / 4 * 4 + j % 4 = j := by omega
  rw [← hjj, vscells_at vs _ _ hi hr] at hj
  obtain ⟨c0, c1, c2, c3⟩ := hc (j / 4) hi
  rw [add_off, ← hjj]
  generalize j % 4 = r at hr hj
  match r, hr with
  | 0, _ => simp only [vcells, List.getElem?_cons_zero, Option.some.injEq] at hj; subst hj; rw [← Nat.add_assoc]; exact c0
  | 1, _ => simp only [vcells, List.getElem?_cons_succ, List.getElem?_cons_zero, Option.some.injEq] at hj; subst hj; rw [← Nat.add_assoc]; exact c1
  | 2, _ => simp only [vcells, List.getElem?_cons_succ, List.getElem?_cons_zero, Option.some.injEq] at hj; subst hj; rw [← Nat.add_assoc]; exact c2
  | 3, _ => simp only [vcells, List.getElem?_cons_succ, List.getElem?_cons_zero, Option.some.injEq] at hj; subst hj; rw [← Nat.add_assoc]; exact c3
where
  add_off {b off j : Nat} : (⟨b, off, none⟩ : Addr).add j = ⟨b, off + j, none⟩ := by
    unfold Addr.add; split
    · rename_i h; rw [h]; rfl
    · rfl
theorem Sl.ISl.news {w : World} {a : Addr} {n : Nat} {xs : List Int} (h : ISl w (some a) n xs) : ∀ j u, (icells xs)[j]? = some u → w.cell? (a.add j) = some u := by
  intro j u hj
  have hjl : j < xs.length := by
    rcases Nat.lt_or_ge j (icells xs).length with h | h
    · rwa [icells_length] at h
    · rw [List.getElem?_eq_none h] at hj; cases hj
  obtain ⟨b, off, hA, _, hc⟩ := h.2 (by rw [← h.1]; omega)
  injection hA with hA; subst hA
  have e : (⟨b, off, none⟩ : Addr).add j = ⟨b, off + j, none⟩ := by
    unfold Addr.add; split
    · rename_i h; rw [h]; rfl
    · rfl
  rw [e, hc j hjl]
  simpa [icells, hjl] using hj

section
variable {w : World} {ops : Array Oper} {rest : List Oper} {o : Oper} {a : Act} {K : Act → World → Prop} {Q : Exit → Act → World → Prop} {E : Prop}

theorem run_pushes_val (B : Nat) (ty : TypeId) (v : Value) (xs ys : List Val) (A : Option Addr) (m c : Nat) (hsrc : VSl w A m ys) (hnil : A = none → m = 0 ∧ c = 0) (hown : OwnV w B v xs) (hl : xs.length + ys.length < few) (hB : B ≤ w.heap.size) :
    ∃ u wA, (Builtin.append_ #[44, 44] ty #[v, .slice A m c]).run Try.prog w = .ok u wA ∧ OwnV wA B u (xs ++ ys) ∧ w.grownBy wA v.ownBlock ∧ (u.ownBlock = v.ownBlock ∨ u.ownBlock = some w.heap.size) ∧ (u = .slice none 0 0 ↔ v = .slice none 0 0 ∧ ys = []) := by
  obtain ⟨i0, hi, hz, hs, hb⟩ := info_parts info_val
  unfold few at hl
  cases A with
  | none =>
    obtain ⟨rfl, rfl⟩ := hnil rfl
    have hy : ys = [] := List.eq_nil_of_length_eq_zero hsrc.1
    subst hy
    refine ⟨v, w, run_append_owned_none (P := Try.prog) (w := w) B 44 ty 38 i0 4 Try.underlying44 hi v xs.length (vscells xs) hown, by rw [List.append_nil]; exact hown, World.grownBy.refl _ _, .inl rfl, by simp⟩
  | some ad =>
    obtain ⟨u, wA, h1, h2, h3, h4, h5⟩ := run_append_own_at (P := Try.prog) w B 44 ty 38 i0 _ 4 40 Try.underlying44 hi hz hs hb rfl (by omega) v xs.length (vscells xs) hown ad m c (vscells ys) (by rw [vscells_length, hsrc.1])
      hsrc.news (vscells_one_all ys) (by have := hsrc.1; unfold maxLen; omega) (by have := hsrc.1; omega) hB
    refine ⟨u, wA, h1, ?_, h3, h5, ?_⟩
    · unfold OwnV; rw [vscells_append, List.length_append, hsrc.1]; exact h2
    · rw [h4]
      constructor
      · rintro ⟨rfl, rfl⟩; exact ⟨rfl, List.eq_nil_of_length_eq_zero hsrc.1⟩
      · rintro ⟨rfl, rfl⟩; exact ⟨rfl, hsrc.1.symm⟩
theorem run_pushes_int (B : Nat) (ty : TypeId) (v : Value) (xs ys : List Int) (A : Option Addr) (m c : Nat) (hsrc : ISl w A m ys) (hnil : A = none → m = 0 ∧ c = 0) (hown : OwnI w B v xs) (hl : xs.length + ys.length < fewI) (hB : B ≤ w.heap.size) :
    ∃ u wA, (Builtin.append_ #[51, 51] ty #[v, .slice A m c]).run Try.prog w = .ok u wA ∧ OwnI wA B u (xs ++ ys) ∧ w.grownBy wA v.ownBlock ∧ (u.ownBlock = v.ownBlock ∨ u.ownBlock = some w.heap.size) ∧ (u = .slice none 0 0 ↔ v = .slice none 0 0 ∧ ys = []) := by
  obtain ⟨i0, hi, hz, hs, hb⟩ := info_parts info_int
  unfold fewI at hl
  cases A with
  | none =>
    obtain ⟨rfl, rfl⟩ := hnil rfl
    have hy : ys = [] := List.eq_nil_of_length_eq_zero hsrc.1
    subst hy
    refine ⟨v, w, run_append_owned_none (P := Try.prog) (w := w) B 51 ty 3 i0 1 Try.underlying51 hi v xs.length (icells xs) hown, by rw [List.append_nil]; exact hown, World.grownBy.refl _ _, .inl rfl, by simp⟩
  | some ad =>
    obtain ⟨u, wA, h1, h2, h3, h4, h5⟩ := run_append_own_at (P := Try.prog) w B 51 ty 3 i0 _ 1 8 Try.underlying51 hi hz hs hb rfl (by omega) v xs.length (icells xs) hown ad m c (icells ys) (by rw [icells_length, hsrc.1, Nat.mul_one])
      hsrc.news (icells_one_all ys) (by have := hsrc.1; unfold maxLen; omega) (by have := hsrc.1; omega) hB
    refine ⟨u, wA, h1, ?_, h3, h5, ?_⟩
    · unfold OwnI; rw [icells_append, List.length_append, hsrc.1]; exact h2
    · rw [h4]
      constructor
      · rintro ⟨rfl, rfl⟩; exact ⟨rfl, List.eq_nil_of_length_eq_zero hsrc.1⟩
      · rintro ⟨rfl, rfl⟩; exact ⟨rfl, hsrc.1.symm⟩
theorem run_push_byte (B : Nat) (ty : TypeId) (v : Value) (xs : List UInt8) (y : UInt8) (g c : Nat) {t : TypeId} {fr : Nat × Nat} (hg : w.heap[g]? = some (.cells #[bv y] t fr)) (hown : OwnB w B v xs) (hl : xs.length < fewB) (hB : B ≤ w.heap.size) :
    ∃ u wA, (Builtin.append_ #[47, 47] ty #[v, .slice (some ⟨g, 0, none⟩) 1 c]).run Try.prog w = .ok u wA ∧ OwnB wA B u (xs ++ [y]) ∧ w.grownBy wA v.ownBlock ∧ (u.ownBlock = v.ownBlock ∨ u.ownBlock = some w.heap.size) := by
  obtain ⟨i0, hi, hz, hs, hb⟩ := info_parts info_u8
  unfold fewB at hl
  obtain ⟨u, wA, h1, h2, h3, _, h5⟩ := run_append_own_at (P := Try.prog) w B 47 ty 5 i0 _ 1 1 Try.underlying47 hi hz hs hb rfl (by omega) v xs.length (xs.map bv) hown ⟨g, 0, none⟩ 1 c [bv y] rfl
    (World.news_of_block (cs := #[bv y]) hg) (by simp [bv, Value.oneCell']) (by unfold maxLen; omega) (by omega) hB
  exact ⟨u, wA, h1, by unfold OwnB; rw [List.map_append, List.length_append]; exact h2, h3, h5⟩

theorem wpList_pushes_val (hgd : o.guard = none) (s x : Operand) (ho : o.op = .call { callee := .builtin .append, args := #[s, x], argTypes := #[44, 44] }) (B : Nat) (v : Value) (xs ys : List Val) (A : Option Addr) (m c : Nat)
    (hs : a.eval s = v) (hx : a.eval x = .slice A m c) (hsrc : VSl w A m ys) (hnil : A = none → m = 0 ∧ c = 0) (hown : OwnV w B v xs) (hl : xs.length + ys.length < few) (hB : B ≤ w.heap.size)
    (h : ∀ u wA, OwnV wA B u (xs ++ ys) → w.grownBy wA v.ownBlock → (u.ownBlock = v.ownBlock ∨ u.ownBlock = some w.heap.size) → (u = .slice none 0 0 ↔ v = .slice none 0 0 ∧ ys = []) → wpList Try.prog ops Q rest (a.put o.dst u) wA) : wpList Try.prog ops Q (o :: rest) a w := by
  refine wpList_plain hgd fun _ hK => ?_
  obtain ⟨u, wA, hr, h2, h3, h4, h5⟩ := run_pushes_val B o.type v xs ys A m c hsrc hnil hown hl hB
  unfold Oper.wp execOp
  simp only [ho, resolve, invoke, builtin, Sem.run_bind, Sem.run_pure, Result.andThen_ok, List.map_toArray, List.map_cons, List.map_nil, hs, hx, hr]
  exact hK _ _ (h u wA h2 h3 h4 h5)
theorem wpList_pushes_int (hgd : o.guard = none) (s x : Operand) (ho : o.op = .call { callee := .builtin .append, args := #[s, x], argTypes := #[51, 51] }) (B : Nat) (v : Value) (xs ys : List Int) (A : Option Addr) (m c : Nat)
    (hs : a.eval s = v) (hx : a.eval x = .slice A m c) (hsrc : ISl w A m ys) (hnil : A = none → m = 0 ∧ c = 0) (hown : OwnI w B v xs) (hl : xs.length + ys.length < fewI) (hB : B ≤ w.heap.size)
    (h : ∀ u wA, OwnI wA B u (xs ++ ys) → w.grownBy wA v.ownBlock → (u.ownBlock = v.ownBlock ∨ u.ownBlock = some w.heap.size) → (u = .slice none 0 0 ↔ v = .slice none 0 0 ∧ ys = []) → wpList Try.prog ops Q rest (a.put o.dst u) wA) : wpList Try.prog ops Q (o :: rest) a w := by
  refine wpList_plain hgd fun _ hK => ?_
  obtain ⟨u, wA, hr, h2, h3, h4, h5⟩ := run_pushes_int B o.type v xs ys A m c hsrc hnil hown hl hB
  unfold Oper.wp execOp
  simp only [ho, resolve, invoke, builtin, Sem.run_bind, Sem.run_pure, Result.andThen_ok, List.map_toArray, List.map_cons, List.map_nil, hs, hx, hr]
  exact hK _ _ (h u wA h2 h3 h4 h5)
theorem wpList_push_byte (hgd : o.guard = none) (s x : Operand) (ho : o.op = .call { callee := .builtin .append, args := #[s, x], argTypes := #[47, 47] }) (B : Nat) (v : Value) (xs : List UInt8) (y : UInt8) (g c : Nat)
    (hs : a.eval s = v) (hx : a.eval x = .slice (some ⟨g, 0, none⟩) 1 c) {t : TypeId} {fr : Nat × Nat} (hg : w.heap[g]? = some (.cells #[bv y] t fr)) (hown : OwnB w B v xs) (hl : xs.length < fewB) (hB : B ≤ w.heap.size)
    (h : ∀ u wA, OwnB wA B u (xs ++ [y]) → w.grownBy wA v.ownBlock → (u.ownBlock = v.ownBlock ∨ u.ownBlock = some w.heap.size) → wpList Try.prog ops Q rest (a.put o.dst u) wA) : wpList Try.prog ops Q (o :: rest) a w := by
  refine wpList_plain hgd fun _ hK => ?_
  obtain ⟨u, wA, hr, h2, h3, h4⟩ := run_push_byte B o.type v xs y g c hg hown hl hB
  unfold Oper.wp execOp
  simp only [ho, resolve, invoke, builtin, Sem.run_bind, Sem.run_pure, Result.andThen_ok, List.map_toArray, List.map_cons, List.map_nil, hs, hx, hr]
  exact hK _ _ (h u wA h2 h3 h4)
end

/-- A value's four cells. -/
def At4 (w : World) (b o : Nat) (v : Val) : Prop :=
  w.cell? ⟨b, o, none⟩ = some (.int .i64 v.k) ∧ w.cell? ⟨b, o + 1, none⟩ = some (.int .i64 v.i) ∧ w.cell? ⟨b, o + 2, none⟩ = some (.bool v.b) ∧ w.cell? ⟨b, o + 3, none⟩ = some (.string v.s)
theorem At4.below {w w' : World} {b o B : Nat} {v : Val} (h : At4 w b o v) (hb : Below B w w') (hB : b < B) : At4 w' b o v :=
  ⟨(hb.cell (p := ⟨b, o, none⟩) hB).trans h.1, (hb.cell (p := ⟨b, o + 1, none⟩) hB).trans h.2.1, (hb.cell (p := ⟨b, o + 2, none⟩) hB).trans h.2.2.1, (hb.cell (p := ⟨b, o + 3, none⟩) hB).trans h.2.2.2⟩
theorem At4.zero {w : World} {b : Nat} {v : Val} (h : At4 w b 0 v) : w.cell? ⟨b, 0, none⟩ = some (.int .i64 v.k) ∧ w.cell? ⟨b, 1, none⟩ = some (.int .i64 v.i) ∧ w.cell? ⟨b, 2, none⟩ = some (.bool v.b) ∧ w.cell? ⟨b, 3, none⟩ = some (.string v.s) := h
theorem At4.drew {w : World} {b o : Nat} {v : Val} (h : At4 w b o v) : At4 w.drew b o v := h
theorem At4.drewN {w : World} {b o : Nat} {v : Val} (h : At4 w b o v) (k : Nat) : At4 (w.drewN k) b o v := h
theorem At4.alloc {w : World} {b o : Nat} {v : Val} (h : At4 w b o v) (hb : b < w.heap.size) (x : Obj) : At4 (w.alloc x) b o v := h.below (Vals.one_new x) hb
theorem At4.grown {w w' : World} {b o : Nat} {v : Val} {row : Option Nat} (h : At4 w b o v) (hg : w.grownBy w' row) (hne : some b ≠ row) : At4 w' b o v :=
  ⟨hg.cell h.1 hne, hg.cell h.2.1 hne, hg.cell h.2.2.1 hne, hg.cell h.2.2.2 hne⟩
/-! ### What was read stays while other rows are written -/
theorem Vals.VSl.grown {w w' : World} {A : Option Addr} {n : Nat} {vs : List Val} {row : Option Nat} (h : VSl w A n vs) (hg : w.grownBy w' row) (hr : ∀ b off, A = some ⟨b, off, none⟩ → some b ≠ row) : VSl w' A n vs := by
  refine ⟨h.1, fun hn => ?_⟩
  obtain ⟨b, off, rfl, hlt, hc⟩ := h.2 hn
  have hne := hr b off rfl
  refine ⟨b, off, rfl, Nat.lt_of_lt_of_le hlt hg.size, fun i hi => ?_⟩
  obtain ⟨c0, c1, c2, c3⟩ := hc i hi
  exact ⟨hg.cell c0 hne, hg.cell c1 hne, hg.cell c2 hne, hg.cell c3 hne⟩
theorem Sl.ISl.grown {w w' : World} {A : Option Addr} {n : Nat} {xs : List Int} {row : Option Nat} (h : ISl w A n xs) (hg : w.grownBy w' row) (hr : ∀ b off, A = some ⟨b, off, none⟩ → some b ≠ row) : ISl w' A n xs := by
  refine ⟨h.1, fun hn => ?_⟩
  obtain ⟨b, off, rfl, hlt, hc⟩ := h.2 hn
  exact ⟨b, off, rfl, Nat.lt_of_lt_of_le hlt hg.size, fun i hi => hg.cell (hc i hi) (hr b off rfl)⟩
theorem Vals.VSl.lt {w : World} {A : Option Addr} {n : Nat} {vs : List Val} (h : VSl w A n vs) (hn : 0 < n) : ∀ b off, A = some ⟨b, off, none⟩ → b < w.heap.size := by
  obtain ⟨b, off, rfl, hlt, _⟩ := h.2 hn
  intro b' off' e; injection e with e; injection e with e1; omega
/-- The first values of a slice of values. -/
theorem Vals.VSl.take {w : World} {A : Option Addr} {n m : Nat} {vs : List Val} (h : VSl w A n vs) (hm : m ≤ n) : VSl w A m (vs.take m) := by
  refine ⟨by rw [List.length_take, h.1]; omega, fun hn => ?_⟩
  obtain ⟨b, off, rfl, hlt, hc⟩ := h.2 (by omega)
  refine ⟨b, off, rfl, hlt, fun i hi => ?_⟩
  rw [List.length_take] at hi
  rw [List.getElem_take]
  exact hc i (by omega)
theorem Sl.ISl.take {w : World} {A : Option Addr} {n m : Nat} {xs : List Int} (h : ISl w A n xs) (hm : m ≤ n) : ISl w A m (xs.take m) := by
  refine ⟨by rw [List.length_take, h.1]; omega, fun hn => ?_⟩
  obtain ⟨b, off, rfl, hlt, hc⟩ := h.2 (by omega)
  refine ⟨b, off, rfl, hlt, fun i hi => ?_⟩
  rw [List.length_take] at hi
  rw [List.getElem_take]
  exact hc i (by omega)
theorem OwnI.sl {w : World} {B : Nat} {A : Option Addr} {n c : Nat} {xs : List Int} (h : OwnI w B (.slice A n c) xs) (hn : xs.length = n) : ISl w A n xs := by
  obtain ⟨A', c', e, _, _, hc⟩ := h.form hn
  injection e with e1 e2 e3
  subst e1
  refine ⟨hn, fun h0 => ?_⟩
  obtain ⟨g, hA, _, hlt, _, hcell⟩ := hc h0
  exact ⟨g, 0, hA, hlt, fun i hi => by rw [Nat.zero_add]; exact hcell i hi⟩
theorem OwnV.sl {w : World} {B : Nat} {A : Option Addr} {n c : Nat} {vs : List Val} (h : OwnV w B (.slice A n c) vs) (hn : vs.length = n) : VSl w A n vs := by
  obtain ⟨A', c', e, hs, _⟩ := h.form' hn
  injection e with e1 e2 e3
  subst e1
  exact hs
theorem own_nil_cap {w : World} {B z n : Nat} {e : TypeId} {xs : List Value} {m c : Nat} (h : w.ownsRow B e z (.slice none m c) n xs) : m = 0 ∧ c = 0 := by
  rcases h.2 with ⟨e, _⟩ | ⟨g, c', cur, e, _⟩
  · injection e with _ e2 e3; exact ⟨e2, e3⟩
  · injection e with e1; cases e1
theorem own_base_of {w : World} {B z n : Nat} {e : TypeId} {xs : List Value} {g off m c : Nat} {sp : Option Nat} (h : w.ownsRow B e z (.slice (some ⟨g, off, sp⟩) m c) n xs) : B ≤ g ∧ g < w.heap.size := World.ownsRow.lt h g rfl
theorem own_len {w : World} {B z n : Nat} {e : TypeId} {xs : List Value} {A : Option Addr} {m c : Nat} (h : w.ownsRow B e z (.slice A m c) n xs) : m = n ∧ m ≤ c ∧ c ≤ maxLen := by
  rcases h.2 with ⟨e, h0⟩ | ⟨g, c', cur, e, _, _, h1, h2, _⟩
  · injection e with _ e2 e3; subst e2; subst e3; exact ⟨h0.symm, Nat.le_refl _, by unfold maxLen; omega⟩
  · injection e with _ e2 e3; subst e2; subst e3; exact ⟨rfl, h1, h2⟩
theorem own_lit {w : World} {B z n : Nat} {e : TypeId} {v : Value} {xs : List Value} (h : w.ownsRow B e z v n xs) {m : Nat} (hm : n = m) (hne : v = .slice none 0 0 → False) : ∃ g k, v = .slice (some ⟨g, 0, none⟩) m k := by
  subst hm
  rcases h.2 with ⟨e, _⟩ | ⟨g, k, cur, e, _⟩
  · exact (hne e).elim
  · exact ⟨g, k, e⟩
/-- Two values in a block of their own, one behind the other; one value. -/
theorem Vals.VSl.new1 (w : World) (u : Val) (t : TypeId) : VSl (w.alloc (.cells #[.int .i64 u.k, .int .i64 u.i, .bool u.b, .string u.s] t)) (some ⟨w.heap.size, 0, none⟩) 1 [u] := by
  refine ⟨rfl, fun _ => ⟨w.heap.size, 0, rfl, by simp, fun i hi => ?_⟩⟩
  obtain rfl : i = 0 := by simpa using hi
  have h := heap_alloc_new w (.cells #[.int .i64 u.k, .int .i64 u.i, .bool u.b, .string u.s] t)
  refine ⟨?_, ?_, ?_, ?_⟩ <;> rw [cell_of_row _ _ _ _ _ _ h] <;> rfl
theorem Vals.VSl.new2 (w : World) (u v : Val) (t : TypeId) : VSl (w.alloc (.cells #[.int .i64 u.k, .int .i64 u.i, .bool u.b, .string u.s, .int .i64 v.k, .int .i64 v.i, .bool v.b, .string v.s] t)) (some ⟨w.heap.size, 0, none⟩) 2 [u, v] := by
  have h := heap_alloc_new w (.cells #[.int .i64 u.k, .int .i64 u.i, .bool u.b, .string u.s, .int .i64 v.k, .int .i64 v.i, .bool v.b, .string v.s] t)
  refine ⟨rfl, fun _ => ⟨w.heap.size, 0, rfl, by simp, fun i hi => ?_⟩⟩
  have hi2 : i < 2 := by simpa using hi
  match i, hi2 with
  | 0, _ => refine ⟨?_, ?_, ?_, ?_⟩ <;> rw [cell_of_row _ _ _ _ _ _ h] <;> rfl
  | 1, _ => refine ⟨?_, ?_, ?_, ?_⟩ <;> rw [cell_of_row _ _ _ _ _ _ h] <;> rfl
theorem Vals.VSl.new3 (w : World) (u v x : Val) (t : TypeId) : VSl (w.alloc (.cells #[.int .i64 u.k, .int .i64 u.i, .bool u.b, .string u.s, .int .i64 v.k, .int .i64 v.i, .bool v.b, .string v.s, .int .i64 x.k, .int .i64 x.i, .bool x.b, .string x.s] t)) (some ⟨w.heap.size, 0, none⟩) 3 [u, v, x] := by
  have h := heap_alloc_new w (.cells #[.int .i64 u.k, .int .i64 u.i, .bool u.b, .string u.s, .int .i64 v.k, .int .i64 v.i, .bool v.b, .string v.s, .int .i64 x.k, .int .i64 x.i, .bool x.b, .string x.s] t)
  refine ⟨rfl, fun _ => ⟨w.heap.size, 0, rfl, by simp, fun i hi => ?_⟩⟩
  have hi2 : i < 3 := by simpa using hi
  match i, hi2 with
  | 0, _ => refine ⟨?_, ?_, ?_, ?_⟩ <;> rw [cell_of_row _ _ _ _ _ _ h] <;> rfl
  | 1, _ => refine ⟨?_, ?_, ?_, ?_⟩ <;> rw [cell_of_row _ _ _ _ _ _ h] <;> rfl
  | 2, _ => refine ⟨?_, ?_, ?_, ?_⟩ <;> rw [cell_of_row _ _ _ _ _ _ h] <;> rfl
/-- Numbers in a block of their own. -/
theorem Sl.ISl.new (w : World) (xs : List Int) (t : TypeId) (cs : Array Value) (hcs : cs.toList = icells xs) : ISl (w.alloc (.cells cs t)) (some ⟨w.heap.size, 0, none⟩) xs.length xs := by
  have h := heap_alloc_new w (.cells cs t)
  refine ⟨rfl, fun _ => ⟨w.heap.size, 0, rfl, by simp, fun i hi => ?_⟩⟩
  rw [cell_of_row _ _ _ _ _ _ h, Nat.zero_add, ← Array.getElem?_toList, hcs]
  simp [icells, hi]
theorem Vals.VSl.at1 (w : World) (g : Nat) (hg : w.heap.size = g) (u : Val) (t : TypeId) : VSl (w.alloc (.cells #[.int .i64 u.k, .int .i64 u.i, .bool u.b, .string u.s] t)) (some ⟨g, 0, none⟩) 1 [u] := by subst hg; exact VSl.new1 w u t
theorem Vals.VSl.at2 (w : World) (g : Nat) (hg : w.heap.size = g) (u v : Val) (t : TypeId) : VSl (w.alloc (.cells #[.int .i64 u.k, .int .i64 u.i, .bool u.b, .string u.s, .int .i64 v.k, .int .i64 v.i, .bool v.b, .string v.s] t)) (some ⟨g, 0, none⟩) 2 [u, v] := by subst hg; exact VSl.new2 w u v t
theorem Vals.VSl.at3 (w : World) (g : Nat) (hg : w.heap.size = g) (u v x : Val) (t : TypeId) : VSl (w.alloc (.cells #[.int .i64 u.k, .int .i64 u.i, .bool u.b, .string u.s, .int .i64 v.k, .int .i64 v.i, .bool v.b, .string v.s, .int .i64 x.k, .int .i64 x.i, .bool x.b, .string x.s] t)) (some ⟨g, 0, none⟩) 3 [u, v, x] := by subst hg; exact VSl.new3 w u v x t
theorem Sl.ISl.at_new (w : World) (g : Nat) (hg : w.heap.size = g) (xs : List Int) (t : TypeId) (cs : Array Value) (hcs : cs.toList = icells xs) : ISl (w.alloc (.cells cs t)) (some ⟨g, 0, none⟩) xs.length xs := by subst hg; exact ISl.new w xs t cs hcs
theorem At4.new (w : World) (g : Nat) (hg : w.heap.size = g) (u : Val) (t : TypeId) : At4 (w.alloc (.cells #[.int .i64 u.k, .int .i64 u.i, .bool u.b, .string u.s] t)) g 0 u := by
  subst hg
  have h := heap_alloc_new w (.cells #[.int .i64 u.k, .int .i64 u.i, .bool u.b, .string u.s] t)
  refine ⟨?_, ?_, ?_, ?_⟩ <;> rw [cell_of_row _ _ _ _ _ _ h] <;> rfl
theorem Vals.VSl.alloc {w : World} {A : Option Addr} {n : Nat} {vs : List Val} (h : VSl w A n vs) (o : Obj) : VSl (w.alloc o) A n vs := h.below (Vals.one_new o)
theorem Sl.ISl.alloc {w : World} {A : Option Addr} {n : Nat} {vs : List Int} (h : ISl w A n vs) (o : Obj) : ISl (w.alloc o) A n vs := h.below (Vals.one_new o)
theorem Sl.VArg.below {w w' : World} {A : Option Addr} {n c : Nat} {vs : List Val} (h : VArg w A n c vs) (hb : Below w.heap.size w w') : VArg w' A n c vs := ⟨h.sl.below hb, h.le, h.cap, h.fine, h.nil⟩
theorem Sl.IArg.below {w w' : World} {A : Option Addr} {n c : Nat} {vs : List Int} (h : IArg w A n c vs) (hb : Below w.heap.size w w') : IArg w' A n c vs := ⟨h.sl.below hb, h.le, h.cap, h.fine, h.nil⟩
end Go.Proofs.Ytmoabfaimcafjaa
