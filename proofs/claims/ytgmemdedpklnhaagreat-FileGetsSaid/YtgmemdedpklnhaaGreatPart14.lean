/-
  Lemmas of this claim, text behind text: Dat, FileProg, SlS, RowG, Lesser, Greater. Each states its own conditions.
-/
import Derived.Test.YtgmemdedpklnhaaGreatPart03
import Derived.Test.YtgmemdedpklnhaaGreatPart05
import Derived.Test.YtgmemdedpklnhaaGreatPart13

/-
  A FILE'S COLUMNS AND VALUES in memory: as they are read; in a block of their own.
-/



namespace Go.Proofs.YtgmemdedpklnhaaGreat.Dat
open Go.RowKit ValMath Vals Sl VecMath

section
variable {w w' : World} {A : Option Addr} {n k : Nat}
theorem CSl.below {cs : List Colm} (h : CSl w A n cs) (hb : Below w.heap.size w w') : CSl w' A n cs := by
  refine ⟨h.1, fun hn => ?_⟩
  obtain ⟨b, off, rfl, hlt, hc⟩ := h.2 hn
  refine ⟨b, off, rfl, Nat.lt_of_lt_of_le hlt hb.size, fun i hi => ?_⟩
  obtain ⟨c0, c1, c2⟩ := hc i hi
  exact ⟨(hb.cell (p := ⟨b, off + i * 3, none⟩) hlt).trans c0, (hb.cell (p := ⟨b, off + i * 3 + 1, none⟩) hlt).trans c1, (hb.cell (p := ⟨b, off + i * 3 + 2, none⟩) hlt).trans c2⟩
theorem CSl.at_ {cs : List Colm} (h : CSl w A n cs) (hk : k < n) : ∃ b off, ∃ c : Colm, cs[k]? = some c ∧ A = some ⟨b, off, none⟩ ∧ b < w.heap.size ∧
    w.cell? ⟨b, off + k * 3, none⟩ = some (.int .i64 c.id) ∧ w.cell? ⟨b, off + k * 3 + 1, none⟩ = some (.string c.name) ∧ w.cell? ⟨b, off + k * 3 + 2, none⟩ = some (.int .i64 c.kind) := by
  obtain ⟨b, off, hA, hlt, hc⟩ := h.2 (by omega)
  have hkl : k < cs.length := by rw [h.1]; exact hk
  exact ⟨b, off, cs[k], List.getElem?_eq_getElem hkl, hA, hlt, hc k hkl⟩
theorem RSl.below {rs : List RowA} (h : RSl w A n rs) (hb : Below w.heap.size w w') : RSl w' A n rs := by
  refine ⟨h.1, fun hn => ?_⟩
  obtain ⟨b, off, rfl, hlt, hc⟩ := h.2 hn
  exact ⟨b, off, rfl, Nat.lt_of_lt_of_le hlt hb.size, fun i hi => (hb.cell (p := ⟨b, off + i, none⟩) hlt).trans (hc i hi)⟩
theorem RSl.at_ {rs : List RowA} (h : RSl w A n rs) (hk : k < n) : ∃ b off, ∃ r : RowA, rs[k]? = some r ∧ A = some ⟨b, off, none⟩ ∧ b < w.heap.size ∧ w.cell? ⟨b, off + k, none⟩ = some (.slice r.A r.n r.c) := by
  obtain ⟨b, off, hA, hlt, hc⟩ := h.2 (by omega)
  have hkl : k < rs.length := by rw [h.1]; exact hk
  exact ⟨b, off, rs[k], List.getElem?_eq_getElem hkl, hA, hlt, hc k hkl⟩
end
/-- Data as a function reads it: its slices, their bounds. -/
structure DIn (w : World) (d : Dat) (AC : Option Addr) (nC : Nat) (AV : Option Addr) (nV : Nat) (rs : List RowA) : Prop where
  cols : CSl w AC nC d.cols
  vals : RSl w AV nV rs
  rows : ∀ r ∈ rs, VSl w r.A r.n r.vs
  eq : d.vals = rs.map (·.vs)
  nc : nC ≤ 140737488351232
  nv : nV ≤ 140737488351232
  nr : ∀ r ∈ rs, r.n ≤ 140737488351232
  fc : ∀ c ∈ d.cols, FineC c
  fv : ∀ r ∈ rs, ∀ v ∈ r.vs, Fine v
  r1 : -9223372036854775808 ≤ d.rows
  r2 : d.rows < 9223372036854775808
theorem DIn.below {w w' : World} {d : Dat} {AC AV : Option Addr} {nC nV : Nat} {rs : List RowA} (h : DIn w d AC nC AV nV rs) (hb : Below w.heap.size w w') : DIn w' d AC nC AV nV rs :=
  ⟨CSl.below h.cols hb, RSl.below h.vals hb, fun r hr => (h.rows r hr).below hb, h.eq, h.nc, h.nv, h.nr, h.fc, h.fv, h.r1, h.r2⟩
theorem _root_.Go.Proofs.YtgmemdedpklnhaaGreat.Sl.DArg.in_ {w : World} {d : Dat} {AC AV : Option Addr} {nC cC nV cV : Nat} {rs : List RowA} (h : DArg w d AC nC cC AV nV cV rs) : DIn w d AC nC AV nV rs :=
  ⟨h.cols.sl, h.vals.sl, fun r hr => (h.vals.rows r hr).sl, h.eq, by have := h.cols.le; have := h.cols.cap; omega, by have := h.vals.le; have := h.vals.cap; omega,
    fun r hr => by have := (h.vals.rows r hr).le; have := (h.vals.rows r hr).cap; omega, h.cols.fine, fun r hr => (h.vals.rows r hr).fine, h.r1, h.r2⟩
theorem DIn.row {w : World} {d : Dat} {AC AV : Option Addr} {nC nV k : Nat} {rs : List RowA} (h : DIn w d AC nC AV nV rs) {r : RowA} (hr : rs[k]? = some r) : d.vals[k]? = some r.vs := by
  rw [h.eq, List.getElem?_map, hr]; rfl
theorem DIn.lens {w : World} {d : Dat} {AC AV : Option Addr} {nC nV : Nat} {rs : List RowA} (h : DIn w d AC nC AV nV rs) : d.cols.length = nC ∧ d.vals.length = nV := by
  refine ⟨h.cols.1, ?_⟩
  rw [h.eq, List.length_map]; exact h.vals.1

/-! ### In blocks of their own -/
def DBox (w : World) (g : Nat) (rows : Int) (C V : Value) : Prop := w.heap[g]? = some (.cells #[.int .i64 rows, C, V] 25 (0, 0))
section
variable {w w' : World} {g : Nat} {rows : Int} {C V : Value}
theorem DBox.lt (h : DBox w g rows C V) : g < w.heap.size := (Array.getElem?_eq_some_iff.1 h).1
theorem DBox.below (h : DBox w g rows C V) (hb : Below w.heap.size w w') : DBox w' g rows C V := (hb.block g h.lt).trans h
theorem DBox.grown {row : Option Nat} (h : DBox w g rows C V) (hb : w.grownBy w' row) (hr : some g ≠ row) : DBox w' g rows C V := (hb.block g h.lt hr).trans h
theorem DBox.alloc (h : DBox w g rows C V) (o : Obj) : DBox (w.alloc o) g rows C V := h.below (Vals.one_new o)
theorem DBox.drewN (h : DBox w g rows C V) (k : Nat) : DBox (w.drewN k) g rows C V := h
theorem DBox.drew (h : DBox w g rows C V) : DBox w.drew g rows C V := h
theorem DBox.cells (h : DBox w g rows C V) : w.cell? ⟨g, 0, none⟩ = some (.int .i64 rows) ∧ w.cell? ⟨g, 1, none⟩ = some C ∧ w.cell? ⟨g, 2, none⟩ = some V := by
  refine ⟨?_, ?_, ?_⟩ <;> rw [Lib.cell_of_heap h] <;> rfl
theorem DBox.free (h : DBox w g rows C V) (j : Nat) : w.frozen? ⟨g, j, none⟩ = false := Lib.frozen_of_heap h j
theorem DBox.new (w : World) (rows : Int) (C V : Value) : DBox (w.alloc (.cells #[.int .i64 rows, C, V] 25)) w.heap.size rows C V := heap_alloc_new w _
theorem DBox.put1 (h : DBox w g rows C V) (x : Value) : DBox (w.setCell ⟨g, 1, none⟩ x) g rows x V := Vec.set_heap h
theorem DBox.put2 (h : DBox w g rows C V) (x : Value) : DBox (w.setCell ⟨g, 2, none⟩ x) g rows C x := Vec.set_heap h
theorem DBox.other {g' o : Nat} {x : Value} (h : DBox w g rows C V) (hne : g ≠ g') : DBox (w.setCell ⟨g', o, none⟩ x) g rows C V := by
  unfold DBox at h ⊢; rw [Below.heap_setCell _ _ _ _ hne]; exact h
end
def CBox (w : World) (g : Nat) (c : Colm) : Prop := w.heap[g]? = some (.cells #[.int .i64 c.id, .string c.name, .int .i64 c.kind] 63 (0, 0))
section
variable {w w' : World} {g : Nat} {c : Colm}
theorem CBox.lt (h : CBox w g c) : g < w.heap.size := (Array.getElem?_eq_some_iff.1 h).1
theorem CBox.below (h : CBox w g c) (hb : Below w.heap.size w w') : CBox w' g c := (hb.block g h.lt).trans h
theorem CBox.grown {row : Option Nat} (h : CBox w g c) (hb : w.grownBy w' row) (hr : some g ≠ row) : CBox w' g c := (hb.block g h.lt hr).trans h
theorem CBox.alloc (h : CBox w g c) (o : Obj) : CBox (w.alloc o) g c := h.below (Vals.one_new o)
theorem CBox.drewN (h : CBox w g c) (k : Nat) : CBox (w.drewN k) g c := h
theorem CBox.drew (h : CBox w g c) : CBox w.drew g c := h
theorem CBox.cells (h : CBox w g c) : w.cell? ⟨g, 0, none⟩ = some (.int .i64 c.id) ∧ w.cell? ⟨g, 1, none⟩ = some (.string c.name) ∧ w.cell? ⟨g, 2, none⟩ = some (.int .i64 c.kind) := by
  refine ⟨?_, ?_, ?_⟩ <;> rw [Lib.cell_of_heap h] <;> rfl
theorem CBox.free (h : CBox w g c) (j : Nat) : w.frozen? ⟨g, j, none⟩ = false := Lib.frozen_of_heap h j
theorem CBox.new (w : World) (c : Colm) : CBox (w.alloc (.cells #[.int .i64 c.id, .string c.name, .int .i64 c.kind] 63)) w.heap.size c := heap_alloc_new w _
end
end Go.Proofs.YtgmemdedpklnhaaGreat.Dat

/-
  THE WALKS of package colfile, the small ones: count, limit; strings.HasPrefix.
-/

namespace Go.Proofs.YtgmemdedpklnhaaGreat.File
open Go.RowKit ValMath Vals Sl VecMath Vec Dat

set_option maxRecDepth 100000 in
theorem count_any (n : Nat) (w : World) (hn : n < 9223372036854775808) : Calls Tryz.prog 26 #[.int .i64 (n : Nat)] w fun e w' => e = .returned (.string (str (cnt n))) ∧ Below w.heap.size w w' := by
  have H := fun w => Varint.Put_any (n : Int) w (by omega)
  rw [if_neg (by omega), if_neg (by omega), Int.toNat_natCast] at H
  unfold cnt
  generalize str (VarMath.enc n) = S at H ⊢
  have HH := Lib.hid H; clear H
  go_enter Tryz.func26, Tryz.ntmps26
  go_wp2_with (go_at_call 56; with_reducible refine (HH.out _).mono ?_; rintro e w1 ⟨rfl, hb1⟩)
  go_ret
  exact ⟨rfl, hb1⟩
theorem limit_len (v : Val) (h : v.s.size ≤ 64) : (limit v).length ≤ 76 := by
  have := scalar_length v h
  unfold limit
  split
  · simp
  · simp; omega
set_option maxRecDepth 20000 in
set_option maxHeartbeats 4000000 in
theorem limit_any (v : Val) (w : World) (hv : Fine v) (h1 : 0 ≤ v.k) (h2 : v.k ≤ 3) (h3 : v.s.size ≤ 64) : Calls Tryz.prog 29 #[vagg v] w fun e w' => e = .returned (.string (str (limit v))) ∧ Below w.heap.size w w' := by
  have hS := fun w => scalar_any v w hv
  have hsl := scalar_length v h3
  have hbx := Box.new w v
  have hb := Vals.one_new (w := w) (.cells #[.int .i64 v.k, .int .i64 v.i, .bool v.b, .string v.s] 71)
  have hl : limit v = if v.k = 0 then [0] else [UInt8.ofNat v.k.toNat] ++ scalar v := rfl
  generalize limit v = L at *
  have hcv : ∀ (W : World) (g c : Nat), W.cell? ⟨g, 0, none⟩ = some (.int .u8 v.k) → (convert 54 9 (.slice (some ⟨g, 0, none⟩) 1 c)).run Tryz.prog W = .ok (.string (str [UInt8.ofNat v.k.toNat])) W := fun W g c h => by
    rw [run_str_one W g c v.k h, str_nums]; simp
  have hw8 : IntKind.u8.wrap v.k = v.k := by rw [IntKind.wrap_u8]; omega
  have hadd := add_str (str [UInt8.ofNat v.k.toNat]) (str (scalar v)) (by rw [str_size, str_size]; simp; omega)
  have hEE := str_append [UInt8.ofNat v.k.toNat] (scalar v)
  clear h3 hsl
  generalize str [UInt8.ofNat v.k.toNat] = X0 at *
  generalize str (scalar v) = X1 at *
  obtain ⟨k, i, b, s⟩ := v
  simp only [vagg] at hS hb hl hcv hw8 h1 h2 hbx ⊢
  have HS := Lib.hid hS; clear hS hv
  have HB := Lib.hid hb; clear hb
  have HX := Lib.hid hbx
  obtain ⟨c0, c1, c2, c3⟩ := hbx.cells
  clear hbx
  simp only [] at c0 c1 c2 c3
  by_cases h0 : k = 0
  · subst h0
    rw [if_pos rfl] at hl
    subst hl
    clear hadd hEE hcv hw8
    go_enter Tryz.func29, Tryz.ntmps29
    go_wp2
    go_ret
    exact ⟨rfl, HB.out⟩
  · rw [if_neg h0] at hl
    subst hl
    have hk0 : (k == 0) = false := by simpa using h0
    have HE := Lib.hid hEE; clear hEE h0
    go_enter Tryz.func29, Tryz.ntmps29
    go_wp2
    generalize hW0 : w.alloc (.cells #[.int .i64 k, .int .i64 i, .bool b, .string s] 71) = W0 at *
    have hg9 : w.heap.size < W0.heap.size := by rw [← hW0]; simp
    generalize hgg : w.heap.size = g9 at *
    have HG9 := Lib.hid hgg; clear hgg hW0
    obtain ⟨a0, a1, a2, a3⟩ := (HX.out.drew.alloc (.cells #[.int .u8 k] 5)).cells
    simp only [] at a0 a1 a2 a3
    go_region_with (first
        | (go_at_call 60; (with_reducible refine (HS.out _).mono ?_); rintro e wC ⟨rfl, hbC⟩; (try have hz1 : wC.cell? ⟨W0.heap.size, 0, none⟩ = some (.int .u8 k) := keep_new (V := W0.drew) hbC); (first | have hq1 : Below W0.heap.size W0 wC := bthen (Below.refl _ W0).drew hbC (Nat.le_refl _) | have hq1 : Below W0.heap.size W0 wC := bthen ((Below.refl _ W0).drew.alloc (Nat.le_refl _) (.cells #[.int .u8 k] 5)) hbC (Nat.le_refl _)); have hcc := (HX.out.below hq1).cells; obtain ⟨q0, q1, q2, q3⟩ := hcc; simp only [] at q0 q1 q2 q3))
    all_goals
      go_wp2_with fail
      go_ret
      refine ⟨by show Ending.returned (.string (X0 ++ X1)) = _; rw [HE.out]; rfl, ?_⟩
      rw [HG9.out]
      first | exact HB.out.trans (hq1.mono (Nat.le_of_lt hg9)) | exact (HB.out.trans (hq1.mono (Nat.le_of_lt hg9))).alloc (Nat.le_of_lt (Nat.lt_of_lt_of_le hg9 hq1.size)) _
def lk1 : ByteArray := ⟨#[76, 75, 49]⟩
theorem prefix_magic (s : ByteArray) : Lib.hasPrefix s.data.toList lk1.data.toList = decide (s.data.toList.take 3 = magic) := by
  rw [← Lib.hasPrefix_of_take]
  by_cases h : s.data.toList.take 3 = magic
  · rw [decide_eq_true h]
    have hl : 3 ≤ s.data.toList.length := by have := congrArg List.length h; simp [magic] at this; simp; omega
    simp [lk1, magic] at h ⊢
    exact ⟨by simpa using hl, h⟩
  · rw [decide_eq_false h]
    simp [lk1, magic] at h ⊢
    intro _; exact h
set_option maxRecDepth 20000 in
set_option maxHeartbeats 4000000 in
theorem hasPrefix_any (s : ByteArray) (w : World) : Calls Tryz.prog 42 #[.string s, .string lk1] w fun e w' => e = .returned (.bool (decide (s.data.toList.take 3 = magic))) ∧ w = w' := by
  rw [← prefix_magic]
  refine (Shelf.strings_HasPrefix s lk1 w).mono ?_
  rintro e w' ⟨rfl, rfl⟩
  exact ⟨rfl, rfl⟩
end Go.Proofs.YtgmemdedpklnhaaGreat.File

/-
  A Stat as an argument.
-/


namespace Go.Proofs.YtgmemdedpklnhaaGreat
open Go.ChangeShapes Go.WideShapes Go.ChangeAt Go.RowKit
open ValMath Vals Sl
structure Sta where
  c : Int
  n : Int
  mn : Val
  mx : Val
abbrev sagg1 (a : Sta) : Value := Stats.sagg a.c a.n a.mn a.mx
section
variable {H : Type} {enc : TypeId × Value → H} {w : World} {base : Nat} {spare : Nat → Bool} {held : Bool}

set_option maxRecDepth 100000 in
theorem Sl.stat_cells {n : Nat} {cs : List Value} {x : DataW H × List MemPlace} (h : DataW.trod enc Tryz.prog w base spare held n 73 cs = some x) :
    ∃ a : Sta, cs = [.int .i64 a.c, .int .i64 a.n, .int .i64 a.mn.k, .int .i64 a.mn.i, .bool a.mn.b, .string a.mn.s, .int .i64 a.mx.k, .int .i64 a.mx.i, .bool a.mx.b, .string a.mx.s] ∧
      x.1 = .agg [.lit (.int .i64 a.c), .lit (.int .i64 a.n), .agg [.lit (.int .i64 a.mn.k), .lit (.int .i64 a.mn.i), .lit (.bool a.mn.b), .lit (.string a.mn.s.data.toList)], .agg [.lit (.int .i64 a.mx.k), .lit (.int .i64 a.mx.i), .lit (.bool a.mx.b), .lit (.string a.mx.s.data.toList)]] ∧
      (Lit.int .i64 a.n).wf = true ∧ (Lit.int .i64 a.mn.k).wf = true ∧ (Lit.int .i64 a.mn.i).wf = true ∧ (Lit.int .i64 a.mx.k).wf = true ∧ (Lit.int .i64 a.mx.i).wf = true := by
  obtain ⟨ys, m, _, hx, hcl, hyl, hg⟩ := DataW.trod_struct Tryz.underlying73 h
  have hC : Tryz.prog.cellsOf 73 = 10 := by kernel_rfl
  rw [hC] at hcl
  match cs, hcl with
  | [c0, c1, c2, c3, c4, c5, c6, c7, c8, c9], _ =>
    match ys, hyl with
    | [y0, y1, y2, y3], _ =>
      have g0 : DataW.trod enc Tryz.prog w base spare held m 3 [c0] = some y0 := hg 0 _ rfl
      have g1 : DataW.trod enc Tryz.prog w base spare held m 3 [c1] = some y1 := hg 1 _ rfl
      have g2 : DataW.trod enc Tryz.prog w base spare held m 71 [c2, c3, c4, c5] = some y2 := hg 2 _ rfl
      have g3 : DataW.trod enc Tryz.prog w base spare held m 71 [c6, c7, c8, c9] = some y3 := hg 3 _ rfl
      obtain ⟨k, e0, rfl, w0⟩ := DataW.trod_int Tryz.underlying3 g0
      obtain ⟨i, e1, rfl, w1⟩ := DataW.trod_int Tryz.underlying3 g1
      obtain ⟨mn, e2, h2, w2, w3⟩ := Sl.val_cells g2
      obtain ⟨mx, e3, h3, w4, w5⟩ := Sl.val_cells g3
      injection e0 with e0; injection e1 with e1
      subst e0; subst e1
      refine ⟨⟨k, i, mn, mx⟩, ?_, ?_, w1, w2, w3, w4, w5⟩
      · injection e2 with a0 e2; injection e2 with a1 e2; injection e2 with a2 e2; injection e2 with a3 e2
        injection e3 with b0 e3; injection e3 with b1 e3; injection e3 with b2 e3; injection e3 with b3 e3
        subst a0 a1 a2 a3 b0 b1 b2 b3; rfl
      · rw [hx]
        show DataW.agg [_, _, y2.1, y3.1] = _
        rw [h2, h3]

set_option maxRecDepth 100000 in
theorem Sl.stat_weights (a : Sta) (n : Nat) (hn : n = a.mn.s.size ∨ n = a.mx.s.size) : n ∈ (DataW.agg [.lit (.int .i64 a.c), .lit (.int .i64 a.n), .agg [.lit (.int .i64 a.mn.k), .lit (.int .i64 a.mn.i), .lit (.bool a.mn.b), .lit (.string a.mn.s.data.toList)], .agg [.lit (.int .i64 a.mx.k), .lit (.int .i64 a.mx.i), .lit (.bool a.mx.b), .lit (.string a.mx.s.data.toList)]] : DataW H).weights Tryz.prog 73 := by
  rw [DataW.weights, Tryz.underlying73]
  rcases hn with rfl | rfl
  · exact DataW.weights_mem_each (j := 2) rfl rfl _ (Sl.val_weights a.mn)
  · exact DataW.weights_mem_each (j := 3) rfl rfl _ (Sl.val_weights a.mx)

structure FineS (a : Sta) : Prop where
  n0 : -9223372036854775808 ≤ a.n
  n1 : a.n < 9223372036854775808
  mn : Fine a.mn
  mx : Fine a.mx

set_option maxRecDepth 100000 in
theorem Sl.stat_of {ts : List TypeId} {ds : List (DataW H)} {j b0 : Nat} {r : Reach} {v : Value} {d : DataW H} {p : List MemPlace} (ht : ts[j]? = some 73) (hd : ds[j]? = some d)
    (hsz : (DataW.weightsEach Tryz.prog ts ds).all (· ≤ reachBytes) = true) (hv : Value.okWide Tryz.prog w r b0 73 v) (h : DataW.Trod enc Tryz.prog w base spare held 73 v d p) :
    ∃ a : Sta, v = sagg1 a ∧ FineS a := by
  obtain ⟨cs, rfl, hc⟩ := okWide_struct Tryz.underlying73 hv
  obtain ⟨fuel, hf⟩ := h
  obtain ⟨a, e, hx, wn, w0, w1, w2, w3⟩ := Sl.stat_cells hf
  simp only [] at hx
  subst hx
  have hm : ∀ n, (n = a.mn.s.size ∨ n = a.mx.s.size) → n ≤ reachBytes := fun n hn => by
    have := List.all_eq_true.1 hsz _ (DataW.weights_mem_each ht hd _ (Sl.stat_weights a n hn))
    simpa using this
  have hb := bounds_i64 wn
  refine ⟨a, ?_, hb.1, by omega, fine_of w0 w1 (hm _ (.inl rfl)), fine_of w2 w3 (hm _ (.inr rfl))⟩
  simp only [Value.cells] at e
  rw [show cs = cs.toList.toArray from rfl, e]
end
end Go.Proofs.YtgmemdedpklnhaaGreat

/-
  ROWS OF ANY ELEMENTS that the call owns: read; one more at the end. Columns, rows, statistics.
-/


namespace Go.Proofs.YtgmemdedpklnhaaGreat
open Go.RowKit ValMath Vals Sl VecMath

section
variable {α : Type} {f : α → List Value} {m : Nat}
theorem flatG_length (hf : ∀ a, (f a).length = m) (xs : List α) : (xs.flatMap f).length = xs.length * m := by
  induction xs with
  | nil => simp
  | cons x xs ih => rw [List.flatMap_cons, List.length_append, ih, hf, List.length_cons, Nat.succ_mul]; omega
theorem flatG_at (hf : ∀ a, (f a).length = m) (xs : List α) (i j : Nat) (hi : i < xs.length) (hj : j < m) : (xs.flatMap f)[i * m + j]? = (f xs[i])[j]? := by
  induction xs generalizing i with
  | nil => simp at hi
  | cons x xs ih =>
    rw [List.flatMap_cons]
    cases i with
    | zero => rw [List.getElem?_append_left (by rw [hf]; omega)]; simp
    | succ i =>
      rw [List.getElem?_append_right (by rw [hf, Nat.succ_mul]; omega), hf, show (i + 1) * m + j - m = i * m + j by rw [Nat.succ_mul]; omega]
      simpa using ih i (by simpa using hi)
end
/-- The call owns a row of elements of m cells each. -/
def OwnG {α : Type} (e : TypeId) (m : Nat) (f : α → List Value) (w : World) (B : Nat) (v : Value) (xs : List α) : Prop := w.ownsRow B e m v xs.length (xs.flatMap f)
section
variable {α : Type} {e : TypeId} {m : Nat} {f : α → List Value} {w w' : World} {B : Nat} {v : Value} {xs : List α}
theorem OwnG.nil (e : TypeId) (m : Nat) (f : α → List Value) (w : World) (B : Nat) : OwnG e m f w B (.slice none 0 0) [] := World.ownsRow_nil _ _ _ _
theorem OwnG.below (h : OwnG e m f w B v xs) (hb : Below w.heap.size w w') : OwnG e m f w' B v xs := own_below h hb
theorem OwnG.alloc (h : OwnG e m f w B v xs) (o : Obj) : OwnG e m f (w.alloc o) B v xs := World.ownsRow.alloc h o
theorem OwnG.drew (h : OwnG e m f w B v xs) : OwnG e m f w.drew B v xs := h
theorem OwnG.drewN (h : OwnG e m f w B v xs) (k : Nat) : OwnG e m f (w.drewN k) B v xs := h
theorem OwnG.form (h : OwnG e m f w B v xs) {n : Nat} (hn : xs.length = n) : ∃ A c, v = .slice A n c ∧ n ≤ c ∧ c ≤ maxLen := by
  subst hn
  rcases h.2 with ⟨rfl, h0⟩ | ⟨g, c, cur, rfl, hB, hg, hnc, hcm, _⟩
  · exact ⟨none, 0, by rw [h0], by omega, by unfold maxLen; omega⟩
  · exact ⟨_, c, rfl, hnc, hcm⟩
theorem OwnG.cells (h : OwnG e m f w B v xs) (hf : ∀ a, (f a).length = m) {A : Option Addr} {n c : Nat} (hv : v = .slice A n c) (hn : xs.length = n) (h0 : 0 < n) :
    ∃ g, A = some ⟨g, 0, none⟩ ∧ B ≤ g ∧ g < w.heap.size ∧ (∀ j, w.frozen? ⟨g, j, none⟩ = false) ∧ ∀ i (hi : i < xs.length) j, j < m → w.cell? ⟨g, i * m + j, none⟩ = (f xs[i])[j]? := by
  subst hv; subst hn
  rcases h.2 with ⟨_, h1⟩ | ⟨g, k, cur, hv, hB, hg, _⟩
  · omega
  · injection hv with hv _ _
    subst hv
    refine ⟨g, rfl, hB, ?_, fun j => World.ownsRow.frozenAt h j, fun i hi j hj => ?_⟩
    · rcases Nat.lt_or_ge g w.heap.size with h | h
      · exact h
      · rw [Array.getElem?_eq_none h] at hg; cases hg
    · rw [World.ownsRow.cellAt h (i * m + j) (by have : (i + 1) * m ≤ xs.length * m := Nat.mul_le_mul_right _ hi; rw [Nat.succ_mul] at this; omega)]
      exact flatG_at hf xs i j hi hj
end
section
variable {α : Type} {f : α → List Value} {w : World} {ops : Array Oper} {rest : List Oper} {o : Oper} {a : Act} {K : Act → World → Prop} {Q : Exit → Act → World → Prop} {E : Prop}
theorem run_push_g (e tS ty : TypeId) (z : Value) (m bytes : Nat) (hinfo : (Tryz.prog.info? e).map (fun i => (i.zero, i.size, i.bytes)) = some (some z, m, bytes)) (hu : Tryz.prog.underlying tS = some (.slice e)) (hz : z.cells.size = m) (hm : 0 < m)
    (B : Nat) (v : Value) (xs : List α) (y : α) (g c : Nat) (cs : Array Value) (hcs : cs.toList = f y) (hl1 : cs.toList.length = m) (hone : ∀ u ∈ cs.toList, u.oneCell' = true) {t : TypeId} {fr : Nat × Nat} (hg : w.heap[g]? = some (.cells cs t fr)) (hown : OwnG e m f w B v xs)
    (hl : xs.length + 1 ≤ maxLen) (hby : (xs.length + 1) * bytes ≤ 140737488355328) (hB : B ≤ w.heap.size) :
    ∃ u wA, (Builtin.append_ #[tS, tS] ty #[v, .slice (some ⟨g, 0, none⟩) 1 c]).run Tryz.prog w = .ok u wA ∧ OwnG e m f wA B u (xs ++ [y]) ∧ w.grownBy wA v.ownBlock ∧ (u.ownBlock = v.ownBlock ∨ u.ownBlock = some w.heap.size) := by
  obtain ⟨i0, hi, hz0, hs, hb⟩ := info_parts hinfo
  obtain ⟨u, wA, h1, h2, h3, _, h5⟩ := run_append_own_at (P := Tryz.prog) w B tS ty e i0 _ m bytes hu hi hz0 hs hb hz hm v xs.length (xs.flatMap f) hown ⟨g, 0, none⟩ 1 c cs.toList (by omega) (World.news_of_block hg) hone hl hby hB
  refine ⟨u, wA, h1, ?_, h3, h5⟩
  unfold OwnG
  rw [List.flatMap_append, List.length_append, List.flatMap_cons, List.flatMap_nil, List.append_nil, ← hcs]; exact h2
theorem wp_push_g (e tS : TypeId) (z : Value) (m bytes : Nat) (hinfo : (Tryz.prog.info? e).map (fun i => (i.zero, i.size, i.bytes)) = some (some z, m, bytes)) (hu : Tryz.prog.underlying tS = some (.slice e)) (hz : z.cells.size = m) (hm : 0 < m)
    (s x : Operand) (ho : o.op = .call { callee := .builtin .append, args := #[s, x], argTypes := #[tS, tS] })
    (B : Nat) (v : Value) (xs : List α) (y : α) (g c : Nat) (hs : a.eval s = v) (hx : a.eval x = .slice (some ⟨g, 0, none⟩) 1 c) (cs : Array Value) (hcs : cs.toList = f y) (hl1 : cs.toList.length = m) (hone : ∀ u ∈ cs.toList, u.oneCell' = true) {t : TypeId} {fr : Nat × Nat} (hg : w.heap[g]? = some (.cells cs t fr)) (hown : OwnG e m f w B v xs)
    (hl : xs.length + 1 ≤ maxLen) (hby : (xs.length + 1) * bytes ≤ 140737488355328) (hB : B ≤ w.heap.size)
    (h : ∀ u wA, OwnG e m f wA B u (xs ++ [y]) → w.grownBy wA v.ownBlock → (u.ownBlock = v.ownBlock ∨ u.ownBlock = some w.heap.size) → K (a.put o.dst u) wA) : o.wp Tryz.prog a w K Q := by
  obtain ⟨u, wA, hr, h2, h3, h4⟩ := run_push_g e tS o.type z m bytes hinfo hu hz hm B v xs y g c cs hcs hl1 hone hg hown hl hby hB
  unfold Oper.wp execOp
  simp only [ho, resolve, invoke, builtin, Sem.run_bind, Sem.run_pure, Result.andThen_ok, List.map_toArray, List.map_cons, List.map_nil, hs, hx, hr]
  exact h u wA h2 h3 h4
theorem wpList_push_g (e tS : TypeId) (z : Value) (m bytes : Nat) (hinfo : (Tryz.prog.info? e).map (fun i => (i.zero, i.size, i.bytes)) = some (some z, m, bytes)) (hu : Tryz.prog.underlying tS = some (.slice e)) (hz : z.cells.size = m) (hm : 0 < m) (hgd : o.guard = none)
    (s x : Operand) (ho : o.op = .call { callee := .builtin .append, args := #[s, x], argTypes := #[tS, tS] })
    (B : Nat) (v : Value) (xs : List α) (y : α) (g c : Nat) (hs : a.eval s = v) (hx : a.eval x = .slice (some ⟨g, 0, none⟩) 1 c) (cs : Array Value) (hcs : cs.toList = f y) (hl1 : cs.toList.length = m) (hone : ∀ u ∈ cs.toList, u.oneCell' = true) {t : TypeId} {fr : Nat × Nat} (hg : w.heap[g]? = some (.cells cs t fr)) (hown : OwnG e m f w B v xs)
    (hl : xs.length + 1 ≤ maxLen) (hby : (xs.length + 1) * bytes ≤ 140737488355328) (hB : B ≤ w.heap.size)
    (h : ∀ u wA, OwnG e m f wA B u (xs ++ [y]) → w.grownBy wA v.ownBlock → (u.ownBlock = v.ownBlock ∨ u.ownBlock = some w.heap.size) → wpList Tryz.prog ops Q rest (a.put o.dst u) wA) : wpList Tryz.prog ops Q (o :: rest) a w :=
  wpList_plain hgd fun _ hK => wp_push_g e tS z m bytes hinfo hu hz hm s x ho B v xs y g c hs hx cs hcs hl1 hone hg hown hl hby hB fun u wA h2 h3 h4 => hK _ _ (h u wA h2 h3 h4)
theorem step_push_g (e tS : TypeId) (z : Value) (m bytes : Nat) (hinfo : (Tryz.prog.info? e).map (fun i => (i.zero, i.size, i.bytes)) = some (some z, m, bytes)) (hu : Tryz.prog.underlying tS = some (.slice e)) (hz : z.cells.size = m) (hm : 0 < m) (hgd : o.guard = none)
    (s x : Operand) (ho : o.op = .call { callee := .builtin .append, args := #[s, x], argTypes := #[tS, tS] })
    (B : Nat) (v : Value) (xs : List α) (y : α) (g c : Nat) (hs : a.eval s = v) (hx : a.eval x = .slice (some ⟨g, 0, none⟩) 1 c) (cs : Array Value) (hcs : cs.toList = f y) (hl1 : cs.toList.length = m) (hone : ∀ u ∈ cs.toList, u.oneCell' = true) {t : TypeId} {fr : Nat × Nat} (hg : w.heap[g]? = some (.cells cs t fr)) (hown : OwnG e m f w B v xs)
    (hl : xs.length + 1 ≤ maxLen) (hby : (xs.length + 1) * bytes ≤ 140737488355328) (hB : B ≤ w.heap.size)
    (h : ∀ u wA, OwnG e m f wA B u (xs ++ [y]) → w.grownBy wA v.ownBlock → (u.ownBlock = v.ownBlock ∨ u.ownBlock = some w.heap.size) → K (a.put o.dst u) wA) : if Region.wanted o (yielded ops a.tmps) = true then Oper.wp Tryz.prog o a w K Q else E := by
  rw [if_pos (by simp [Region.wanted, hgd])]
  exact wp_push_g e tS z m bytes hinfo hu hz hm s x ho B v xs y g c hs hx cs hcs hl1 hone hg hown hl hby hB h
end
theorem info_col : (Tryz.prog.info? 63).map (fun i => (i.zero, i.size, i.bytes)) = some (some (.agg #[.int .i64 0, .string { data := #[] }, .int .i64 0]), 3, 32) := by kernel_rfl
theorem info_row : (Tryz.prog.info? 67).map (fun i => (i.zero, i.size, i.bytes)) = some (some (.agg #[.slice none 0 0]), 1, 24) := by kernel_rfl
theorem info_stat : (Tryz.prog.info? 73).map (fun i => (i.zero, i.size, i.bytes)) = some (some (.agg #[.int .i64 0, .int .i64 0, .int .i64 0, .int .i64 0, .bool false, .string { data := #[] }, .int .i64 0, .int .i64 0, .bool false, .string { data := #[] }]), 10, 96) := by kernel_rfl
def ccells (c : Colm) : List Value := [.int .i64 c.id, .string c.name, .int .i64 c.kind]
def rcells (r : RowA) : List Value := [.slice r.A r.n r.c]
def stcells (s : Sta) : List Value := [.int .i64 s.c, .int .i64 s.n, .int .i64 s.mn.k, .int .i64 s.mn.i, .bool s.mn.b, .string s.mn.s, .int .i64 s.mx.k, .int .i64 s.mx.i, .bool s.mx.b, .string s.mx.s]
abbrev OwnC := OwnG (α := Colm) 63 3 ccells
abbrev OwnR := OwnG (α := RowA) 67 1 rcells
abbrev OwnS := OwnG (α := Sta) 73 10 stcells
theorem OwnC.sl {w : World} {B n c : Nat} {A : Option Addr} {cs : List Colm} (h : OwnC w B (.slice A n c) cs) (hn : cs.length = n) : CSl w A n cs := by
  refine ⟨hn, fun h0 => ?_⟩
  obtain ⟨g, rfl, _, hlt, _, hc⟩ := OwnG.cells h (fun _ => rfl) rfl hn h0
  refine ⟨g, 0, rfl, hlt, fun i hi => ?_⟩
  rw [Nat.zero_add]
  exact ⟨hc i hi 0 (by omega), hc i hi 1 (by omega), hc i hi 2 (by omega)⟩
theorem OwnR.sl {w : World} {B n c : Nat} {A : Option Addr} {rs : List RowA} (h : OwnR w B (.slice A n c) rs) (hn : rs.length = n) : RSl w A n rs := by
  refine ⟨hn, fun h0 => ?_⟩
  obtain ⟨g, rfl, _, hlt, _, hc⟩ := OwnG.cells h (fun _ => rfl) rfl hn h0
  refine ⟨g, 0, rfl, hlt, fun i hi => ?_⟩
  rw [Nat.zero_add]
  have := hc i hi 0 (by omega)
  rw [Nat.mul_one, Nat.add_zero] at this
  exact this
end Go.Proofs.YtgmemdedpklnhaaGreat

/-
  THE WALK of stats.lesser with vec.Less in hand.
-/

namespace Go.Proofs.YtgmemdedpklnhaaGreat.Stats
open Go.RowKit ValMath Vals Sl
set_option maxRecDepth 20000 in
set_option maxHeartbeats 2000000 in
theorem lesser_any (a b : Val) (w : World) :
    Calls Tryz.prog 90 #[vagg a, vagg b, .func (.func 91) #[] #[]] w fun e w' => e = .returned (vagg (lesser a b)) ∧ Below w.heap.size w w' := by
  have hR := lesser_eq a b
  generalize lesser a b = r at hR ⊢
  have hA : Box (((w.alloc (.cells #[.int .i64 a.k, .int .i64 a.i, .bool a.b, .string a.s] 71)).alloc (.cells #[.int .i64 b.k, .int .i64 b.i, .bool b.b, .string b.s] 71)).alloc (.cells #[.int .i64 0, .int .i64 0, .bool false, .string { data := #[] }] 71)) w.heap.size a := ((Box.new w a).alloc _).alloc _
  have hB : Box (((w.alloc (.cells #[.int .i64 a.k, .int .i64 a.i, .bool a.b, .string a.s] 71)).alloc (.cells #[.int .i64 b.k, .int .i64 b.i, .bool b.b, .string b.s] 71)).alloc (.cells #[.int .i64 0, .int .i64 0, .bool false, .string { data := #[] }] 71)) (w.heap.size + 1) b := (box_new _ _ (by simp) b).alloc _
  have hC : Box (((w.alloc (.cells #[.int .i64 a.k, .int .i64 a.i, .bool a.b, .string a.s] 71)).alloc (.cells #[.int .i64 b.k, .int .i64 b.i, .bool b.b, .string b.s] 71)).alloc (.cells #[.int .i64 0, .int .i64 0, .bool false, .string { data := #[] }] 71)) (w.heap.size + 1 + 1) nul := box_new _ _ (by simp) nul
  have hbt := Vals.three_new (w := w) (.cells #[.int .i64 a.k, .int .i64 a.i, .bool a.b, .string a.s] 71) (.cells #[.int .i64 b.k, .int .i64 b.i, .bool b.b, .string b.s] 71) (.cells #[.int .i64 0, .int .i64 0, .bool false, .string { data := #[] }] 71)
  have hpa := plain_any a
  have hpb := plain_any b
  have hlt := less_any (clean b) (clean a)
  have hna : null a = decide ((clean a).k = 0) := rfl
  have hnb : null b = decide ((clean b).k = 0) := rfl
  generalize null a = na at hna hR
  generalize null b = nb at hnb hR
  generalize clean a = p at *
  generalize clean b = q at *
  obtain ⟨k1, i1, b1, s1⟩ := a
  obtain ⟨k2, i2, b2, s2⟩ := b
  obtain ⟨kp, ip, bp, sp⟩ := p
  obtain ⟨kq, iq, bq, sq⟩ := q
  simp only [] at hpa hpb hlt hna hnb hA hB hC hbt hR
  have HR := Lib.hid hR; clear hR
  have HNN := Lib.hid (And.intro hna hnb); clear hna hnb
  have HLT := Lib.hid hlt; clear hlt
  have HPA := Lib.hid hpa; clear hpa
  have HPB := Lib.hid hpb; clear hpb
  have HA := Lib.hid hA; clear hA
  have HB := Lib.hid hB; clear hB
  have HC := Lib.hid hC; clear hC
  have hne : w.heap.size ≠ w.heap.size + 1 := by omega
  have hne2 : w.heap.size + 1 + 1 ≠ w.heap.size := by omega
  have hne3 : w.heap.size + 1 + 1 ≠ w.heap.size + 1 := by omega
  go_enter Tryz.func90, Tryz.ntmps90
  go_upto_region 1 with fail
  go_cut [] (fun wx => Box wx w.heap.size ⟨kp, ip, bp, sp⟩ ∧ Box wx (w.heap.size + 1) ⟨kq, iq, bq, sq⟩ ∧ Box wx (w.heap.size + 1 + 1) nul ∧ Below w.heap.size w wx)
  case first =>
    obtain ⟨z0, z1, z2, z3⟩ := HA.out.cells
    obtain ⟨y0, y1, y2, y3⟩ := HB.out.cells
    simp only [] at z0 z1 z2 z3 y0 y1 y2 y3
    go_region_with (first
      | (go_at_call_of 71 (Value.string s1); with_reducible refine (HPA.out _).mono ?_; rintro e w1 ⟨rfl, hb1⟩; clear z0 z1 z2 z3 y0 y1 y2 y3; have HA1 := Lib.hid (HA.out.drew.below hb1); have HB1 := Lib.hid (HB.out.drew.below hb1); have HC1 := Lib.hid (HC.out.drew.below hb1); obtain ⟨y0, y1, y2, y3⟩ := HB1.out.cells; simp only [] at y0 y1 y2 y3)
      | (go_at_call_of 71 (Value.string s2); with_reducible refine (HPB.out _).mono ?_; rintro e w2 ⟨rfl, hb2⟩; clear y0 y1 y2 y3; have HA2 := Lib.hid (HA1.out.below hb2); have HB2 := Lib.hid (HB1.out.below hb2); have HC2 := Lib.hid (HC1.out.below hb2); obtain ⟨z0, z1, z2, z3⟩ := HA2.out.cells; obtain ⟨y0, y1, y2, y3⟩ := HB2.out.cells; have zf0 := HA2.out.free 0; have zf1 := HA2.out.free 1; have zf2 := HA2.out.free 2; have zf3 := HA2.out.free 3; have yf0 := HB2.out.free 0; have yf1 := HB2.out.free 1; have yf2 := HB2.out.free 2; have yf3 := HB2.out.free 3; simp only [] at z0 z1 z2 z3 y0 y1 y2 y3))
    all_goals
      go_wp2_with fail
      go_meet
      refine ⟨?_, ?_, ?_, ?_⟩
      · exact ((((HA2.out.put (u := ⟨kp, ip, bp, sp⟩)).other hne).other hne).other hne).other hne
      · exact ((((HB2.out.other hne.symm).other hne.symm).other hne.symm).other hne.symm).put (u := ⟨kq, iq, bq, sq⟩)
      · exact (((((((HC2.out.other hne2).other hne2).other hne2).other hne2).other hne3).other hne3).other hne3).other hne3
      · have hbb := bthen (bthen hbt.drew hb1 (Nat.le_refl _)) hb2 (Nat.le_refl _)
        clear HA2 HB2 HA1 HB1 HC1 HC2
        have hg0 : w.heap.size ≤ w.heap.size + 1 := by omega
        exact below_put4 (below_put4 hbb (Nat.le_refl _) 0 1 2 3 _ _ _ _) hg0 0 1 2 3 _ _ _ _
  case rest =>
    obtain ⟨hA, hB, hC, hb⟩ := hcut
    clear HPA HPB HA HB HC hbt
    obtain ⟨z0, z1, z2, z3⟩ := hA.cells
    obtain ⟨y0, y1, y2, y3⟩ := hB.cells
    obtain ⟨x0, x1, x2, x3⟩ := hC.cells
    have xf0 := hC.free 0
    have xf1 := hC.free 1
    have xf2 := hC.free 2
    have xf3 := hC.free 3
    simp only [nul] at z0 z1 z2 z3 y0 y1 y2 y3 x0 x1 x2 x3
    have HA := Lib.hid hA
    have HB := Lib.hid hB
    have HC := Lib.hid hC
    have hl0 := hA.lt
    have hl1 := hB.lt
    have hl2 := hC.lt
    clear hA hB hC
    by_cases e0 : kp = 0
    · have h0 : (kp == 0) = true := by simp [e0]
      have hna : na = true := by rw [HNN.out.1]; exact decide_eq_true e0
      have HNA := Lib.hid hna; clear hna e0
      go_wp2
      exact ret_box (HC.out.put (u := ⟨kq, iq, bq, sq⟩)) rfl rfl rfl ⟨by rw [HR.out, HNA.out]; rfl, below_put4 hb (by omega) 0 1 2 3 _ _ _ _⟩
    · have h0 : (kp == 0) = false := by simpa using e0
      have hna : na = false := by rw [HNN.out.1]; exact decide_eq_false e0
      have HNA := Lib.hid hna; clear hna e0
      by_cases e1 : kq = 0
      · have h1 : (kq != 0) = false := by simp [e1]
        have hnb : nb = true := by rw [HNN.out.2]; exact decide_eq_true e1
        have HNB := Lib.hid hnb; clear hnb e1
        go_wp2
        exact ret_box (HC.out.put (u := ⟨kp, ip, bp, sp⟩)) rfl rfl rfl ⟨by rw [HR.out, HNA.out, HNB.out]; rfl, below_put4 hb (by omega) 0 1 2 3 _ _ _ _⟩
      · have h1 : (kq != 0) = true := by simpa using e1
        have hnb : nb = false := by rw [HNN.out.2]; exact decide_eq_false e1
        have HNB := Lib.hid hnb; clear hnb e1
        generalize (less ⟨kq, iq, bq, sq⟩ ⟨kp, ip, bp, sp⟩) = R at HLT HR
        cases R
        case false =>
          go_wp2_with (go_at_call 91; with_reducible refine (HLT.out _).mono ?_; rintro e w3 ⟨rfl, hb3⟩; have hbb := bthen hb hb3 (Nat.le_refl _); clear z0 z1 z2 z3 y0 y1 y2 y3 x0 x1 x2 x3 xf0 xf1 xf2 xf3; obtain ⟨z0, z1, z2, z3⟩ := (HA.out.below hb3).cells; obtain ⟨y0, y1, y2, y3⟩ := (HB.out.below hb3).cells; obtain ⟨x0, x1, x2, x3⟩ := (HC.out.below hb3).cells; have xf0 := (HC.out.below hb3).free 0; have xf1 := (HC.out.below hb3).free 1; have xf2 := (HC.out.below hb3).free 2; have xf3 := (HC.out.below hb3).free 3; simp only [nul] at z0 z1 z2 z3 y0 y1 y2 y3 x0 x1 x2 x3)
          exact ret_box ((HC.out.below hb3).put (u := ⟨kp, ip, bp, sp⟩)) rfl rfl rfl ⟨by rw [HR.out, HNA.out, HNB.out]; rfl, below_put4 hbb (by omega) 0 1 2 3 _ _ _ _⟩
        case true =>
          go_wp2_with (go_at_call 91; with_reducible refine (HLT.out _).mono ?_; rintro e w3 ⟨rfl, hb3⟩; have hbb := bthen hb hb3 (Nat.le_refl _); clear z0 z1 z2 z3 y0 y1 y2 y3 x0 x1 x2 x3 xf0 xf1 xf2 xf3; obtain ⟨z0, z1, z2, z3⟩ := (HA.out.below hb3).cells; obtain ⟨y0, y1, y2, y3⟩ := (HB.out.below hb3).cells; obtain ⟨x0, x1, x2, x3⟩ := (HC.out.below hb3).cells; have xf0 := (HC.out.below hb3).free 0; have xf1 := (HC.out.below hb3).free 1; have xf2 := (HC.out.below hb3).free 2; have xf3 := (HC.out.below hb3).free 3; simp only [nul] at z0 z1 z2 z3 y0 y1 y2 y3 x0 x1 x2 x3)
          exact ret_box ((HC.out.below hb3).put (u := ⟨kq, iq, bq, sq⟩)) rfl rfl rfl ⟨by rw [HR.out, HNA.out, HNB.out]; rfl, below_put4 hbb (by omega) 0 1 2 3 _ _ _ _⟩
end Go.Proofs.YtgmemdedpklnhaaGreat.Stats

/-
  THE WALK of stats.lesser with stats.more in hand.
-/

namespace Go.Proofs.YtgmemdedpklnhaaGreat.Stats
open Go.RowKit ValMath Vals Sl
set_option maxRecDepth 20000 in
set_option maxHeartbeats 2000000 in
theorem greater_any (a b : Val) (w : World) :
    Calls Tryz.prog 90 #[vagg a, vagg b, .func (.func 92) #[] #[]] w fun e w' => e = .returned (vagg (greater a b)) ∧ Below w.heap.size w w' := by
  have hR := greater_eq a b
  generalize greater a b = r at hR ⊢
  have hA : Box (((w.alloc (.cells #[.int .i64 a.k, .int .i64 a.i, .bool a.b, .string a.s] 71)).alloc (.cells #[.int .i64 b.k, .int .i64 b.i, .bool b.b, .string b.s] 71)).alloc (.cells #[.int .i64 0, .int .i64 0, .bool false, .string { data := #[] }] 71)) w.heap.size a := ((Box.new w a).alloc _).alloc _
  have hB : Box (((w.alloc (.cells #[.int .i64 a.k, .int .i64 a.i, .bool a.b, .string a.s] 71)).alloc (.cells #[.int .i64 b.k, .int .i64 b.i, .bool b.b, .string b.s] 71)).alloc (.cells #[.int .i64 0, .int .i64 0, .bool false, .string { data := #[] }] 71)) (w.heap.size + 1) b := (box_new _ _ (by simp) b).alloc _
  have hC : Box (((w.alloc (.cells #[.int .i64 a.k, .int .i64 a.i, .bool a.b, .string a.s] 71)).alloc (.cells #[.int .i64 b.k, .int .i64 b.i, .bool b.b, .string b.s] 71)).alloc (.cells #[.int .i64 0, .int .i64 0, .bool false, .string { data := #[] }] 71)) (w.heap.size + 1 + 1) nul := box_new _ _ (by simp) nul
  have hbt := Vals.three_new (w := w) (.cells #[.int .i64 a.k, .int .i64 a.i, .bool a.b, .string a.s] 71) (.cells #[.int .i64 b.k, .int .i64 b.i, .bool b.b, .string b.s] 71) (.cells #[.int .i64 0, .int .i64 0, .bool false, .string { data := #[] }] 71)
  have hpa := plain_any a
  have hpb := plain_any b
  have hlt := more_any (clean b) (clean a)
  have hna : null a = decide ((clean a).k = 0) := rfl
  have hnb : null b = decide ((clean b).k = 0) := rfl
  generalize null a = na at hna hR
  generalize null b = nb at hnb hR
  generalize clean a = p at *
  generalize clean b = q at *
  obtain ⟨k1, i1, b1, s1⟩ := a
  obtain ⟨k2, i2, b2, s2⟩ := b
  obtain ⟨kp, ip, bp, sp⟩ := p
  obtain ⟨kq, iq, bq, sq⟩ := q
  simp only [] at hpa hpb hlt hna hnb hA hB hC hbt hR
  have HR := Lib.hid hR; clear hR
  have HNN := Lib.hid (And.intro hna hnb); clear hna hnb
  have HLT := Lib.hid hlt; clear hlt
  have HPA := Lib.hid hpa; clear hpa
  have HPB := Lib.hid hpb; clear hpb
  have HA := Lib.hid hA; clear hA
  have HB := Lib.hid hB; clear hB
  have HC := Lib.hid hC; clear hC
  have hne : w.heap.size ≠ w.heap.size + 1 := by omega
  have hne2 : w.heap.size + 1 + 1 ≠ w.heap.size := by omega
  have hne3 : w.heap.size + 1 + 1 ≠ w.heap.size + 1 := by omega
  go_enter Tryz.func90, Tryz.ntmps90
  go_upto_region 1 with fail
  go_cut [] (fun wx => Box wx w.heap.size ⟨kp, ip, bp, sp⟩ ∧ Box wx (w.heap.size + 1) ⟨kq, iq, bq, sq⟩ ∧ Box wx (w.heap.size + 1 + 1) nul ∧ Below w.heap.size w wx)
  case first =>
    obtain ⟨z0, z1, z2, z3⟩ := HA.out.cells
    obtain ⟨y0, y1, y2, y3⟩ := HB.out.cells
    simp only [] at z0 z1 z2 z3 y0 y1 y2 y3
    go_region_with (first
      | (go_at_call_of 71 (Value.string s1); with_reducible refine (HPA.out _).mono ?_; rintro e w1 ⟨rfl, hb1⟩; clear z0 z1 z2 z3 y0 y1 y2 y3; have HA1 := Lib.hid (HA.out.drew.below hb1); have HB1 := Lib.hid (HB.out.drew.below hb1); have HC1 := Lib.hid (HC.out.drew.below hb1); obtain ⟨y0, y1, y2, y3⟩ := HB1.out.cells; simp only [] at y0 y1 y2 y3)
      | (go_at_call_of 71 (Value.string s2); with_reducible refine (HPB.out _).mono ?_; rintro e w2 ⟨rfl, hb2⟩; clear y0 y1 y2 y3; have HA2 := Lib.hid (HA1.out.below hb2); have HB2 := Lib.hid (HB1.out.below hb2); have HC2 := Lib.hid (HC1.out.below hb2); obtain ⟨z0, z1, z2, z3⟩ := HA2.out.cells; obtain ⟨y0, y1, y2, y3⟩ := HB2.out.cells; have zf0 := HA2.out.free 0; have zf1 := HA2.out.free 1; have zf2 := HA2.out.free 2; have zf3 := HA2.out.free 3; have yf0 := HB2.out.free 0; have yf1 := HB2.out.free 1; have yf2 := HB2.out.free 2; have yf3 := HB2.out.free 3; simp only [] at z0 z1 z2 z3 y0 y1 y2 y3))
    all_goals
      go_wp2_with fail
      go_meet
      refine ⟨?_, ?_, ?_, ?_⟩
      · exact ((((HA2.out.put (u := ⟨kp, ip, bp, sp⟩)).other hne).other hne).other hne).other hne
      · exact ((((HB2.out.other hne.symm).other hne.symm).other hne.symm).other hne.symm).put (u := ⟨kq, iq, bq, sq⟩)
      · exact (((((((HC2.out.other hne2).other hne2).other hne2).other hne2).other hne3).other hne3).other hne3).other hne3
      · have hbb := bthen (bthen hbt.drew hb1 (Nat.le_refl _)) hb2 (Nat.le_refl _)
        clear HA2 HB2 HA1 HB1 HC1 HC2
        have hg0 : w.heap.size ≤ w.heap.size + 1 := by omega
        exact below_put4 (below_put4 hbb (Nat.le_refl _) 0 1 2 3 _ _ _ _) hg0 0 1 2 3 _ _ _ _
  case rest =>
    obtain ⟨hA, hB, hC, hb⟩ := hcut
    clear HPA HPB HA HB HC hbt
    obtain ⟨z0, z1, z2, z3⟩ := hA.cells
    obtain ⟨y0, y1, y2, y3⟩ := hB.cells
    obtain ⟨x0, x1, x2, x3⟩ := hC.cells
    have xf0 := hC.free 0
    have xf1 := hC.free 1
    have xf2 := hC.free 2
    have xf3 := hC.free 3
    simp only [nul] at z0 z1 z2 z3 y0 y1 y2 y3 x0 x1 x2 x3
    have HA := Lib.hid hA
    have HB := Lib.hid hB
    have HC := Lib.hid hC
    have hl0 := hA.lt
    have hl1 := hB.lt
    have hl2 := hC.lt
    clear hA hB hC
    by_cases e0 : kp = 0
    · have h0 : (kp == 0) = true := by simp [e0]
      have hna : na = true := by rw [HNN.out.1]; exact decide_eq_true e0
      have HNA := Lib.hid hna; clear hna e0
      go_wp2
      exact ret_box (HC.out.put (u := ⟨kq, iq, bq, sq⟩)) rfl rfl rfl ⟨by rw [HR.out, HNA.out]; rfl, below_put4 hb (by omega) 0 1 2 3 _ _ _ _⟩
    · have h0 : (kp == 0) = false := by simpa using e0
      have hna : na = false := by rw [HNN.out.1]; exact decide_eq_false e0
      have HNA := Lib.hid hna; clear hna e0
      by_cases e1 : kq = 0
      · have h1 : (kq != 0) = false := by simp [e1]
        have hnb : nb = true := by rw [HNN.out.2]; exact decide_eq_true e1
        have HNB := Lib.hid hnb; clear hnb e1
        go_wp2
        exact ret_box (HC.out.put (u := ⟨kp, ip, bp, sp⟩)) rfl rfl rfl ⟨by rw [HR.out, HNA.out, HNB.out]; rfl, below_put4 hb (by omega) 0 1 2 3 _ _ _ _⟩
      · have h1 : (kq != 0) = true := by simpa using e1
        have hnb : nb = false := by rw [HNN.out.2]; exact decide_eq_false e1
        have HNB := Lib.hid hnb; clear hnb e1
        generalize (less ⟨kp, ip, bp, sp⟩ ⟨kq, iq, bq, sq⟩) = R at HLT HR
        cases R
        case false =>
          go_wp2_with (go_at_call 92; with_reducible refine (HLT.out _).mono ?_; rintro e w3 ⟨rfl, hb3⟩; have hbb := bthen hb hb3 (Nat.le_refl _); clear z0 z1 z2 z3 y0 y1 y2 y3 x0 x1 x2 x3 xf0 xf1 xf2 xf3; obtain ⟨z0, z1, z2, z3⟩ := (HA.out.below hb3).cells; obtain ⟨y0, y1, y2, y3⟩ := (HB.out.below hb3).cells; obtain ⟨x0, x1, x2, x3⟩ := (HC.out.below hb3).cells; have xf0 := (HC.out.below hb3).free 0; have xf1 := (HC.out.below hb3).free 1; have xf2 := (HC.out.below hb3).free 2; have xf3 := (HC.out.below hb3).free 3; simp only [nul] at z0 z1 z2 z3 y0 y1 y2 y3 x0 x1 x2 x3)
          exact ret_box ((HC.out.below hb3).put (u := ⟨kp, ip, bp, sp⟩)) rfl rfl rfl ⟨by rw [HR.out, HNA.out, HNB.out]; rfl, below_put4 hbb (by omega) 0 1 2 3 _ _ _ _⟩
        case true =>
          go_wp2_with (go_at_call 92; with_reducible refine (HLT.out _).mono ?_; rintro e w3 ⟨rfl, hb3⟩; have hbb := bthen hb hb3 (Nat.le_refl _); clear z0 z1 z2 z3 y0 y1 y2 y3 x0 x1 x2 x3 xf0 xf1 xf2 xf3; obtain ⟨z0, z1, z2, z3⟩ := (HA.out.below hb3).cells; obtain ⟨y0, y1, y2, y3⟩ := (HB.out.below hb3).cells; obtain ⟨x0, x1, x2, x3⟩ := (HC.out.below hb3).cells; have xf0 := (HC.out.below hb3).free 0; have xf1 := (HC.out.below hb3).free 1; have xf2 := (HC.out.below hb3).free 2; have xf3 := (HC.out.below hb3).free 3; simp only [nul] at z0 z1 z2 z3 y0 y1 y2 y3 x0 x1 x2 x3)
          exact ret_box ((HC.out.below hb3).put (u := ⟨kq, iq, bq, sq⟩)) rfl rfl rfl ⟨by rw [HR.out, HNA.out, HNB.out]; rfl, below_put4 hbb (by omega) 0 1 2 3 _ _ _ _⟩
end Go.Proofs.YtgmemdedpklnhaaGreat.Stats
