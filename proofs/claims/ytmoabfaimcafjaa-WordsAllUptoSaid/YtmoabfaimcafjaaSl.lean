/-
  ARGUMENTS READ: slices of numbers, slices of values, values, as they stand in memory.
-/
import Derived.Test.YtmoabfaimcafjaaVSl
import Derived.Deep.Slices
import Derived.Deep.Fields
import Derived.SizedLaws
import Derived.ProofKit
import Derived.OpenShut
import Derived.Lib.SmallJoins
namespace Go.Proofs.Ytmoabfaimcafjaa.Sl
open Go.RowKit ValMath Vals Go.ChangeShapes Go.WideShapes Go.Deep

instance : Inhabited Val := ⟨nul⟩
/-- A value's numbers within int64, its text no longer than the form's reach. -/
structure Fine (v : Val) : Prop where
  k1 : -9223372036854775808 ≤ v.k
  k2 : v.k < 9223372036854775808
  i1 : -9223372036854775808 ≤ v.i
  i2 : v.i < 9223372036854775808
  s : v.s.size ≤ 140737488351232

/-- What an argument of values is. -/
structure VArg (w : World) (A : Option Addr) (n c : Nat) (vs : List Val) : Prop where
  sl : VSl w A n vs
  le : n ≤ c
  cap : c * 40 ≤ 140737488351232
  fine : ∀ v ∈ vs, Fine v
  nil : A = none → n = 0 ∧ c = 0

/-- A slice that reads as these numbers. -/
def ISl (w : World) (A : Option Addr) (n : Nat) (xs : List Int) : Prop :=
  xs.length = n ∧ (0 < n → ∃ b off, A = some ⟨b, off, none⟩ ∧ b < w.heap.size ∧ ∀ i (h : i < xs.length), w.cell? ⟨b, off + i, none⟩ = some (.int .i64 xs[i]))
structure IArg (w : World) (A : Option Addr) (n c : Nat) (xs : List Int) : Prop where
  sl : ISl w A n xs
  le : n ≤ c
  cap : c * 8 ≤ 140737488351232
  fine : ∀ x ∈ xs, -9223372036854775808 ≤ x ∧ x < 9223372036854775808
  nil : A = none → n = 0 ∧ c = 0

theorem ISl.keep {w w' : World} {A : Option Addr} {n : Nat} {xs : List Int} (h : ISl w A n xs) {B : Nat} (hb : Below B w w') (hB : ∀ b off, A = some ⟨b, off, none⟩ → b < B) : ISl w' A n xs := by
  refine ⟨h.1, fun hn => ?_⟩
  obtain ⟨b, off, rfl, hlt, hc⟩ := h.2 hn
  refine ⟨b, off, rfl, Nat.lt_of_lt_of_le hlt hb.size, fun i hi => ?_⟩
  rw [hb.cell (p := ⟨b, off + i, none⟩) (hB b off rfl)]
  exact hc i hi
theorem ISl.below {w w' : World} {A : Option Addr} {n : Nat} {xs : List Int} (h : ISl w A n xs) (hb : Below w.heap.size w w') : ISl w' A n xs := by
  refine ⟨h.1, fun hn => ?_⟩
  obtain ⟨b, off, rfl, hlt, hc⟩ := h.2 hn
  exact (ISl.keep (A := some ⟨b, off, none⟩) h hb (fun b' off' e => by injection e with e; injection e with e1; omega)).2 hn
theorem ISl.at_ {w : World} {A : Option Addr} {n k : Nat} {xs : List Int} (h : ISl w A n xs) (hk : k < n) :
    ∃ b off, ∃ x : Int, xs[k]? = some x ∧ A = some ⟨b, off, none⟩ ∧ b < w.heap.size ∧ w.cell? ⟨b, off + k, none⟩ = some (.int .i64 x) := by
  obtain ⟨b, off, hA, hlt, hc⟩ := h.2 (by omega)
  have hkl : k < xs.length := by rw [h.1]; exact hk
  exact ⟨b, off, xs[k], List.getElem?_eq_getElem hkl, hA, hlt, hc k hkl⟩

theorem fine_nul : Fine nul := ⟨by decide, by decide, by decide, by decide, by decide⟩
theorem Fine.clean {v : Val} (h : Fine v) : Fine (clean v) := by
  have h1 := h.i1; have h2 := h.i2; have h3 := h.s
  unfold ValMath.clean
  split
  · exact ⟨by simp, by simp, h1, h2, by simp⟩
  · split
    · exact ⟨by simp, by simp, by simp, by simp, by simp⟩
    · split
      · exact ⟨by simp, by simp, by simp, by simp, h3⟩
      · exact fine_nul

section
variable {H : Type} {enc : TypeId × Value → H} {w : World} {base : Nat} {spare : Nat → Bool} {held : Bool}

theorem weights_all {P : Program} {e : TypeId} {ds : List (DataW H)} {d : DataW H} (hd : d ∈ ds) : ∀ n ∈ d.weights P e, n ∈ DataW.weightsAll P e ds := by
  induction ds with
  | nil => cases hd
  | cons x ds ih =>
    intro n hn
    simp only [DataW.weightsAll, List.mem_append]
    rcases List.mem_cons.1 hd with h | h
    · subst h; exact .inl hn
    · exact .inr (ih h n hn)

set_option maxRecDepth 100000 in
theorem val_cells {n : Nat} {cs : List Value} {x : DataW H × List MemPlace} (h : DataW.trod enc Try.prog w base spare held n 38 cs = some x) :
    ∃ v : Val, cs = [.int .i64 v.k, .int .i64 v.i, .bool v.b, .string v.s] ∧ x.1 = .agg [.lit (.int .i64 v.k), .lit (.int .i64 v.i), .lit (.bool v.b), .lit (.string v.s.data.toList)] ∧
      (Lit.int .i64 v.k).wf = true ∧ (Lit.int .i64 v.i).wf = true := by
  obtain ⟨ys, m, _, hx, hcl, hyl, hg⟩ := DataW.trod_struct Try.underlying38 h
  have hC : Try.prog.cellsOf 38 = 4 := by kernel_rfl
  rw [hC] at hcl
  match cs, hcl with
  | [c0, c1, c2, c3], _ =>
    match ys, hyl with
    | [y0, y1, y2, y3], _ =>
      have g0 : DataW.trod enc Try.prog w base spare held m 3 [c0] = some y0 := hg 0 _ rfl
      have g1 : DataW.trod enc Try.prog w base spare held m 3 [c1] = some y1 := hg 1 _ rfl
      have g2 : DataW.trod enc Try.prog w base spare held m 4 [c2] = some y2 := hg 2 _ rfl
      have g3 : DataW.trod enc Try.prog w base spare held m 9 [c3] = some y3 := hg 3 _ rfl
      obtain ⟨k, e0, rfl, w0⟩ := DataW.trod_int Try.underlying3 g0
      obtain ⟨i, e1, rfl, w1⟩ := DataW.trod_int Try.underlying3 g1
      obtain ⟨b, e2, rfl⟩ := DataW.trod_bool Try.underlying4 g2
      obtain ⟨s, e3, rfl, _⟩ := DataW.trod_string Try.underlying9 g3
      injection e0 with e0; injection e1 with e1; injection e2 with e2; injection e3 with e3
      subst e0; subst e1; subst e2; subst e3
      exact ⟨⟨k, i, b, s⟩, rfl, by rw [hx]; rfl, w0, w1⟩

theorem fine_of {v : Val} (h0 : (Lit.int .i64 v.k).wf = true) (h1 : (Lit.int .i64 v.i).wf = true) (hs : v.s.size ≤ reachBytes) : Fine v := by
  have a := bounds_i64 h0
  have b := bounds_i64 h1
  exact ⟨a.1, by omega, b.1, by omega, by simpa [reachBytes] using hs⟩
set_option maxRecDepth 100000 in
theorem val_weights (v : Val) : v.s.size ∈ (DataW.agg [.lit (.int .i64 v.k), .lit (.int .i64 v.i), .lit (.bool v.b), .lit (.string v.s.data.toList)] : DataW H).weights Try.prog 38 := by
  rw [DataW.weights, Try.underlying38]
  simp only [List.map_cons, List.map_nil, DataW.weightsEach, DataW.weights, List.nil_append, List.append_nil, List.mem_singleton]
  rfl

set_option maxRecDepth 100000 in
theorem val_of {ts : List TypeId} {ds : List (DataW H)} {j b0 : Nat} {r : Reach} {v : Value} {d : DataW H} {p : List MemPlace} (ht : ts[j]? = some 38) (hd : ds[j]? = some d)
    (hsz : (DataW.weightsEach Try.prog ts ds).all (· ≤ reachBytes) = true) (hv : Value.okWide Try.prog w r b0 38 v) (h : DataW.Trod enc Try.prog w base spare held 38 v d p) :
    ∃ u : Val, v = vagg u ∧ Fine u := by
  obtain ⟨cs, rfl, hc⟩ := okWide_struct Try.underlying38 hv
  obtain ⟨fuel, hf⟩ := h
  obtain ⟨u, e, hx, w0, w1⟩ := val_cells hf
  refine ⟨u, ?_, fine_of w0 w1 ?_⟩
  · simp only [Value.cells] at e
    rw [show cs = cs.toList.toArray from rfl, e]
  · simp only [] at hx
    subst hx
    have := List.all_eq_true.1 hsz _ (DataW.weights_mem_each ht hd _ (val_weights u))
    simpa using this

theorem at_add (b off : Nat) (sp : Option Nat) (i j : Nat) (hj : 0 < i * 4 + j) : ((⟨b, off, sp⟩ : Addr).add (i * 4)).add j = ⟨b, off + i * 4 + j, none⟩ := by
  rw [Go.Deep.add_add]; unfold Addr.add; rw [if_neg (by omega), Nat.add_assoc]

set_option maxRecDepth 100000 in
theorem vals_of {ts : List TypeId} {ds : List (DataW H)} {j : Nat} {A : Option Addr} {n c : Nat} {d : DataW H} {p : List MemPlace} (ht : ts[j]? = some 44) (hd : ds[j]? = some d)
    (hsz : (DataW.weightsEach Try.prog ts ds).all (· ≤ reachBytes) = true) (h : DataW.Trod enc Try.prog w base (fun _ => true) held 44 (.slice A n c) d p) :
    ∃ vs : List Val, VArg w A n c vs := by
  obtain ⟨fuel, hf⟩ := h
  have hC : Try.prog.cellsOf 38 = 4 := by kernel_rfl
  have hBy : Try.prog.bytesOf 38 = 40 := by kernel_rfl
  rcases open_slice Try.underlying44 hf with ⟨e, _⟩ | ⟨a, len, cap, m, q, D, Pl, e, hb, hl, hm, hmm, hx, hi⟩
  · simp only [Value.cells, List.cons.injEq, Value.slice.injEq, and_true] at e
    obtain ⟨rfl, rfl, rfl⟩ := e
    exact ⟨[], VSl.none_ w, Nat.le_refl _, by omega, by simp, fun _ => ⟨rfl, rfl⟩⟩
  · simp only [Value.cells, List.cons.injEq, Value.slice.injEq, and_true] at e
    obtain ⟨rfl, rfl, rfl⟩ := e
    simp only [if_true] at hmm
    subst hmm
    simp only [Prod.mk.injEq] at hx
    obtain ⟨rfl, rfl⟩ := hx
    rw [hC] at hi
    have hel : ∀ i, i < n → ∃ v : Val, Fine v ∧ ∀ (b off : Nat) (sp : Option Nat), a = ⟨b, off, sp⟩ → (w.cell? ((⟨b, off, sp⟩ : Addr).add (i * 4)) = some (.int .i64 v.k) ∧ w.cell? ⟨b, off + i * 4 + 1, none⟩ = some (.int .i64 v.i) ∧
        w.cell? ⟨b, off + i * 4 + 2, none⟩ = some (.bool v.b) ∧ w.cell? ⟨b, off + i * 4 + 3, none⟩ = some (.string v.s)) := by
      intro i hin
      obtain ⟨cs', h1, h2⟩ := hi i (by omega)
      obtain ⟨v, e, hxx, w0, w1⟩ := val_cells h2
      subst e
      obtain ⟨_, _, hat⟩ := World.cells?_some h1
      refine ⟨v, fine_of w0 w1 ?_, ?_⟩
      · simp only [] at hxx
        have hmem : D i ∈ (List.range n).map D := List.mem_map.2 ⟨i, by simpa using hin, rfl⟩
        have hw := weights_all (P := Try.prog) (e := 38) hmem v.s.size (by rw [hxx]; exact val_weights v)
        have hall := List.all_eq_true.1 hsz v.s.size (DataW.weights_mem_each ht hd _ (by
          simp only [DataW.weights, Try.underlying44, List.mem_cons, List.mem_append]
          exact .inr (.inl hw)))
        simpa using hall
      · rintro b off sp rfl
        have a0 := hat 0 (by omega)
        have a1 := hat 1 (by omega)
        have a2 := hat 2 (by omega)
        have a3 := hat 3 (by omega)
        rw [at_add _ _ _ _ _ (by omega)] at a1 a2 a3
        refine ⟨?_, a1, a2, a3⟩
        have e0 : (((⟨b, off, sp⟩ : Addr).add (i * 4)).add 0) = (⟨b, off, sp⟩ : Addr).add (i * 4) := by unfold Addr.add; simp
        rw [e0] at a0; exact a0
    obtain ⟨f, hfv⟩ := choose_lt (α := Val) (p := fun i v => Fine v ∧ ∀ (b off : Nat) (sp : Option Nat), a = ⟨b, off, sp⟩ → (w.cell? ((⟨b, off, sp⟩ : Addr).add (i * 4)) = some (.int .i64 v.k) ∧ w.cell? ⟨b, off + i * 4 + 1, none⟩ = some (.int .i64 v.i) ∧
        w.cell? ⟨b, off + i * 4 + 2, none⟩ = some (.bool v.b) ∧ w.cell? ⟨b, off + i * 4 + 3, none⟩ = some (.string v.s))) hel
    refine ⟨(List.range n).map f, ⟨by simp, fun hn => ?_⟩, hl, ?_, ?_, fun h => by cases h⟩
    · obtain ⟨b, off, sp⟩ := a
      have h0 := ((hfv 0 hn).2 b off sp rfl).1
      have hsp : sp = none := by
        cases sp with
        | none => rfl
        | some s =>
          exfalso
          unfold Addr.add World.cell? at h0
          simp at h0
          split at h0 <;> simp_all
      subst hsp
      have hlt : b < w.heap.size := by
        rcases Nat.lt_or_ge b w.heap.size with h | h
        · exact h
        · exfalso
          unfold Addr.add World.cell? at h0
          simp only [Nat.zero_mul, if_true] at h0
          rw [Array.getElem?_eq_none h] at h0; cases h0
      refine ⟨b, off, rfl, hlt, fun i hil => ?_⟩
      have hin : i < n := by simpa using hil
      have hc := (hfv i hin).2 b off none rfl
      have e0 : (⟨b, off, none⟩ : Addr).add (i * 4) = ⟨b, off + i * 4, none⟩ := by
        unfold Addr.add; split
        · rename_i h; rw [h]; rfl
        · rfl
      rw [e0] at hc
      simpa using hc
    · have := sized_slice hsz ht hd Try.underlying44
      rw [hBy] at this
      simp only [List.length_map, List.length_range] at this
      rw [Nat.add_sub_of_le hl] at this
      simpa [reachBytes] using this
    · intro v hv
      simp only [List.mem_map, List.mem_range] at hv
      obtain ⟨i, hin, rfl⟩ := hv
      exact (hfv i hin).1

set_option maxRecDepth 100000 in
theorem ints_of {ts : List TypeId} {ds : List (DataW H)} {j : Nat} {A : Option Addr} {n c : Nat} {d : DataW H} {p : List MemPlace} (ht : ts[j]? = some 51) (hd : ds[j]? = some d)
    (hsz : (DataW.weightsEach Try.prog ts ds).all (· ≤ reachBytes) = true) (h : DataW.Trod enc Try.prog w base (fun _ => true) held 51 (.slice A n c) d p) :
    ∃ xs : List Int, IArg w A n c xs := by
  obtain ⟨fuel, hf⟩ := h
  have hC : Try.prog.cellsOf 3 = 1 := by kernel_rfl
  have hBy : Try.prog.bytesOf 3 = 8 := by kernel_rfl
  rcases open_ints Try.underlying51 Try.underlying3 hC hf with ⟨e, _⟩ | ⟨a, len, cap, zs, e, hb, hl, hm, hzl, hx, hcell, hwf⟩
  · simp only [Value.cells, List.cons.injEq, Value.slice.injEq, and_true] at e
    obtain ⟨rfl, rfl, rfl⟩ := e
    exact ⟨[], ⟨rfl, fun h => absurd h (by omega)⟩, Nat.le_refl _, by omega, by simp, fun _ => ⟨rfl, rfl⟩⟩
  · simp only [Value.cells, List.cons.injEq, Value.slice.injEq, and_true] at e
    obtain ⟨hA, hn', hc'⟩ := e
    subst hA
    obtain rfl : len = n := hn'.symm
    obtain rfl : cap = c := hc'.symm
    simp only [if_true] at hzl
    simp only [Prod.mk.injEq] at hx
    obtain ⟨rfl, rfl⟩ := hx
    have hcap : cap * 8 ≤ 140737488351232 := by
      have := sized_slice hsz ht hd Try.underlying51
      rw [hBy] at this
      simp only [lits, List.length_map, List.length_take, List.length_drop] at this
      rw [hzl, Nat.min_eq_left hl, show len + (cap - len) = cap by omega] at this
      simpa [reachBytes] using this
    refine ⟨zs.take len, ⟨by rw [List.length_take, hzl]; omega, fun hn => ?_⟩, hl, hcap, fun x hx => ?_, fun h => by cases h⟩
    · obtain ⟨b, off, sp⟩ := a
      have h0 := hcell 0 (by omega)
      have hsp : sp = none := by
        cases sp with
        | none => rfl
        | some s =>
          exfalso
          unfold Addr.add World.cell? at h0
          simp at h0
          split at h0 <;> simp_all
      subst hsp
      have hlt : b < w.heap.size := by
        rcases Nat.lt_or_ge b w.heap.size with h | h
        · exact h
        · exfalso
          unfold Addr.add World.cell? at h0
          simp only [if_true] at h0
          rw [Array.getElem?_eq_none h] at h0; cases h0
      refine ⟨b, off, rfl, hlt, fun i hil => ?_⟩
      rw [List.length_take] at hil
      have hc := hcell i (by omega)
      have e0 : (⟨b, off, none⟩ : Addr).add i = ⟨b, off + i, none⟩ := by
        unfold Addr.add; split
        · rename_i h; rw [h]; rfl
        · rfl
      rw [e0, List.getD_eq_getElem?_getD, List.getElem?_eq_getElem (by omega)] at hc
      rw [hc, List.getElem_take]; rfl
    · have := bounds_i64 (hwf x (List.mem_of_mem_take hx))
      omega
end
end Go.Proofs.Ytmoabfaimcafjaa.Sl
