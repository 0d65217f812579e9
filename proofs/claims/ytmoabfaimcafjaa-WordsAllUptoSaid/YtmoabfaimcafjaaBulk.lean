/-
  What the bound of the second form gives.
-/
import Derived.Test.YtmoabfaimcafjaaSl
import Derived.Test.YtmoabfaimcafjaaRows
namespace Go.Proofs.Ytmoabfaimcafjaa.Bulk
open Go.ChangeShapes Go.WideShapes Go.ChangeAt Go.RowKit Go.Deep
section
variable {H : Type} {enc : TypeId × Value → H} {w : World} {base : Nat} {sp : Nat → Bool} {held : Bool}
theorem one_le (d : DataW H) : 1 ≤ Rows.uptoBulk d := by
  cases d with
  | lit l => cases l <;> simp [Rows.uptoBulk]
  | nil => simp [Rows.uptoBulk]
  | ptr d => simp [Rows.uptoBulk]
  | slice elems spare => simp [Rows.uptoBulk]
  | agg parts => simp [Rows.uptoBulk]
  | iface t d => simp [Rows.uptoBulk]
  | map entries => simp [Rows.uptoBulk]
  | held h => simp [Rows.uptoBulk]
theorem length_le (l : List (DataW H)) : l.length ≤ Rows.uptoBulkAll l := by
  induction l with
  | nil => simp [Rows.uptoBulkAll]
  | cons x r ih => have := one_le x; simp only [Rows.uptoBulkAll, List.length_cons]; omega
theorem part_le {d : DataW H} {l : List (DataW H)} (h : d ∈ l) : Rows.uptoBulk d ≤ Rows.uptoBulkAll l := by
  induction l with
  | nil => cases h
  | cons x r ih =>
    simp only [Rows.uptoBulkAll]
    cases List.mem_cons.1 h with
    | inl e => subst e; omega
    | inr e => have := ih e; omega
theorem part {l : List (DataW H)} {j : Nat} {d : DataW H} (hk : Rows.uptoSmall H l = true) (hd : l[j]? = some d) : Rows.uptoBulk d ≤ 1048576 := by
  have h : Rows.uptoBulkAll l ≤ 1048576 := of_decide_eq_true hk
  exact Nat.le_trans (part_le (List.mem_of_getElem? hd)) h
theorem slice_elems (elems spare : List (DataW H)) : elems.length + 1 ≤ Rows.uptoBulk (.slice elems spare) := by
  have := length_le elems
  simp only [Rows.uptoBulk]
  omega
theorem string_part {l : List (DataW H)} {j : Nat} {s : ByteArray} (hk : Rows.uptoSmall H l = true) (hd : l[j]? = some (.lit (.string s.data.toList))) : s.size ≤ 1048576 := by
  have h := part hk hd
  simp only [Rows.uptoBulk] at h
  have e : s.data.toList.length = s.size := by simp
  omega
/-- A slice's length. -/
theorem slice_le {t e : TypeId} (u : Try.prog.underlying t = some (.slice e)) {A : Option Addr} {n c : Nat} {d : DataW H} {p : List MemPlace} (h : DataW.Trod enc Try.prog w base (fun _ => true) held t (.slice A n c) d p) : n ≤ Rows.uptoBulk d := by
  obtain ⟨fuel, hf⟩ := h
  rcases open_slice u hf with ⟨e1, _⟩ | ⟨a, len, cap, m, q, D, Pl, e1, hb, hl, hm, hmm, hx, hi⟩
  · simp only [Value.cells, List.cons.injEq, Value.slice.injEq, and_true] at e1
    omega
  · simp only [Value.cells, List.cons.injEq, Value.slice.injEq, and_true] at e1
    obtain ⟨rfl, rfl, rfl⟩ := e1
    simp only [if_true] at hmm
    subst hmm
    simp only [Prod.mk.injEq] at hx
    have hd := hx.1
    clear hx hi
    rw [hd]
    refine Nat.le_trans ?_ (slice_elems ((List.range n).map D) _)
    rw [List.length_map, List.length_range]; exact Nat.le_succ n
end
end Go.Proofs.Ytmoabfaimcafjaa.Bulk
