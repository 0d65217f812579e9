/-
  LAWS AT THE OPERATION for conversions between strings and slices of bytes: whatever program.
-/
import Derived.Test.YtmoabfaimcafjaaBase
namespace Go.Proofs.Ytmoabfaimcafjaa
open Go.RowKit

/-- A byte's value. -/
def bv (b : UInt8) : Value := .int .u8 (b.toNat : Int)

/-- Byte j of a list as a number; 0 beyond. -/
def byteAt (l : List UInt8) (j : Nat) : Nat := (l.getD j 0).toNat
theorem byteAt_lt (l : List UInt8) (j : Nat) : byteAt l j < 256 := (l.getD j 0).toNat_lt
theorem byteAt_get (l : List UInt8) (j : Nat) (h : j < l.length) : byteAt l j = l[j].toNat := by
  unfold byteAt; rw [List.getD_eq_getElem?_getD, List.getElem?_eq_getElem h]; rfl
theorem byteAt_set (l : List UInt8) (k j : Nat) (b : UInt8) (h : k < l.length) : byteAt (l.set k b) j = if j = k then b.toNat else byteAt l j := by
  unfold byteAt
  rw [List.getD_eq_getElem?_getD, List.getD_eq_getElem?_getD, List.getElem?_set]
  by_cases hj : j = k
  · subst hj; simp [h]
  · rw [if_neg (fun e => hj e.symm), if_neg hj]

section
variable {P : Program} {w : World} {ops : Array Oper} {rest : List Oper} {o : Oper} {a : Act} {Q : Exit → Act → World → Prop}

theorem add_none (g j : Nat) : (⟨g, 0, none⟩ : Addr).add j = ⟨g, j, none⟩ := by unfold Addr.add; split <;> simp_all

/-- '[]byte(s)'. -/
theorem wpList_to_bytes (hgd : o.guard = none) (src dst e : TypeId) (x : Operand) (ho : o.op = .convert src dst x) (s : ByteArray) (hx : a.eval x = .string s)
    (hs : P.underlying src = some .string) (hd : P.underlying dst = some (.slice e)) (he : P.underlying e = some (.int .u8))
    (h : ∀ (c : Nat) (W : World), s.size ≤ c → (∀ j, j < s.size → W.cell? ⟨w.heap.size, j, none⟩ = some (.int .u8 (byteAt s.data.toList j : Int))) → (∀ j, j < s.size → W.frozen? ⟨w.heap.size, j, none⟩ = false) →
      Below w.heap.size w W → W.heap.size = w.heap.size + 1 → wpList P ops Q rest (a.put o.dst (.slice (some ⟨w.heap.size, 0, none⟩) s.size c)) W) : wpList P ops Q (o :: rest) a w := by
  refine wpList_plain hgd fun K hK => ?_
  unfold Oper.wp execOp
  simp only [ho, hx, Sem.run_bind, Result.andThen_ok, run_bytes_of_string w src dst e s hs hd he, Sem.run_pure]
  have hc := grownCap_ge w s.size 0 e
  refine hK _ _ (h (grownCap w s.size 0 e) _ hc (fun j hj => ?_) (fun j hj => ?_) ?_ ?_)
  · rw [show w.heap.size = w.drew.heap.size from rfl, World.cell?_alloc_mark, bytesRow_at s _ j hj]
    congr 3
    rw [byteAt_get _ _ (by simpa using hj)]
    rfl
  · rw [show w.heap.size = w.drew.heap.size from rfl, World.frozen?_alloc_mark]
    have : (bytesRow s (grownCap w s.size 0 e)).size = s.size + (grownCap w s.size 0 e - s.size) := by
      unfold bytesRow; rw [Array.size_append, Array.size_map, Array.size_replicate]; rfl
    rw [this]
    have h1 : decide (s.size + (grownCap w s.size 0 e - s.size) ≤ j) = false := decide_eq_false (by omega)
    rw [h1]; rfl
  · exact (Below.refl _ _).drew.alloc (Nat.le_refl _) _
  · simp

/-- 'string(b)' where b's cells are the bytes l. -/
theorem wpList_to_string (hgd : o.guard = none) (src dst e : TypeId) (x : Operand) (ho : o.op = .convert src dst x) (g : Nat) (l : List UInt8) (n c : Nat) (hx : a.eval x = .slice (some ⟨g, 0, none⟩) n c) (hn : l.length = n)
    (hs : P.underlying src = some (.slice e)) (he : P.underlying e = some (.int .u8)) (hd : P.underlying dst = some .string)
    (hc : ∀ j, j < n → w.cell? ⟨g, j, none⟩ = some (.int .u8 (byteAt l j : Int)))
    (h : wpList P ops Q rest (a.put o.dst (.string (str l))) w) : wpList P ops Q (o :: rest) a w := by
  subst hn
  refine wpList_plain hgd fun K hK => ?_
  unfold Oper.wp execOp
  simp only [ho, hx, Sem.run_bind, Result.andThen_ok, Sem.run_pure, run_convert_bytes_back w src dst e ⟨g, 0, none⟩ c l hs he hd (fun j hj => by
    rw [add_none, hc j hj, byteAt_get l j hj])]
  exact hK _ _ h

/-- 'string(b)' where the call owns b's bytes. -/
theorem wpList_own_string (hgd : o.guard = none) (src dst e : TypeId) (x : Operand) (ho : o.op = .convert src dst x) (v : Value) (hx : a.eval x = v) (base : Nat) (l : List UInt8)
    (hown : w.ownsRow base e 1 v l.length (l.map bv))
    (hs : P.underlying src = some (.slice e)) (he : P.underlying e = some (.int .u8)) (hd : P.underlying dst = some .string)
    (h : wpList P ops Q rest (a.put o.dst (.string (str l))) w) : wpList P ops Q (o :: rest) a w := by
  by_cases h0 : 0 < l.length
  · obtain ⟨g, c, hv⟩ : ∃ g c, v = .slice (some ⟨g, 0, none⟩) l.length c := by
      rcases hown.2 with ⟨_, hz⟩ | ⟨g, c, _, hv, _⟩
      · omega
      · exact ⟨g, c, hv⟩
    subst hv
    refine wpList_to_string hgd src dst e x ho g l _ c hx rfl hs he hd (fun j hj => ?_) h
    have := hown.cells (g := g) rfl j (bv (l.getD j 0)) (by
      rw [List.getElem?_map, List.getElem?_eq_getElem hj, List.getD_eq_getElem?_getD, List.getElem?_eq_getElem hj]; rfl)
    rw [add_none] at this
    exact this
  · have hl : l = [] := List.eq_nil_of_length_eq_zero (by omega)
    subst hl
    refine wpList_plain hgd fun K hK => ?_
    unfold Oper.wp execOp
    have hrun : (convert src dst v).run P w = .ok (.string (str [])) w := by
      rcases hown.2 with ⟨rfl, _⟩ | ⟨g, cap, cur, rfl, _⟩
      · exact run_convert_bytes_nil w src e hs he 0 0 dst hd
      · exact run_convert_bytes_back w src dst e ⟨g, 0, none⟩ cap [] hs he hd (fun j hj => by simp at hj)
    simp only [ho, hx, Sem.run_bind, Result.andThen_ok, Sem.run_pure, hrun]
    exact hK _ _ h
end
end Go.Proofs.Ytmoabfaimcafjaa
