/-
  Lemmas of this claim, text behind text: RefStats, SpoilC, FileGets. Each states its own conditions.
-/
import Derived.Test.YtgmemdedpklnhaaGreatPart06
import Derived.Test.YtgmemdedpklnhaaGreatPart16
import Derived.Test.YtgmemdedpklnhaaGreatPart18
import Derived.Test.YtgmemdedpklnhaaGreatPart19
import Derived.Test.YtgmemdedpklnhaaGreatPart24

/-
  THE WALK of boathouseref7.Stats.
-/


namespace Go.Proofs.YtgmemdedpklnhaaGreat.File
open Go.RowKit ValMath Vals Sl VecMath Vec Dat Stats

theorem rst_keep {w1 wT wA : World} {g b1 b2 o1 o2 q : Nat} {x y z : Value} {i : Int} {o : Obj} {row : Option Nat}
    (h : ∀ wT, Below w1.heap.size w1 wT → (wT.cell? ⟨g, 1, none⟩ = some x ∧ wT.cell? ⟨g, 2, none⟩ = some y ∧ wT.cell? ⟨b1, o1 + q * 3, none⟩ = some (.int .i64 i) ∧ wT.cell? ⟨b2, o2 + q, none⟩ = some z)) (hq : Below w1.heap.size w1 wT) (hg : (wT.alloc o).grownBy wA row)
    (h1 : some g ≠ row) (h2 : some b1 ≠ row) (h3 : some b2 ≠ row) : wA.cell? ⟨g, 1, none⟩ = some x ∧ wA.cell? ⟨g, 2, none⟩ = some y ∧ wA.cell? ⟨b1, o1 + q * 3, none⟩ = some (.int .i64 i) ∧ wA.cell? ⟨b2, o2 + q, none⟩ = some z := by
  obtain ⟨a1, a2, a3, a4⟩ := h _ (hq.alloc hq.size o)
  exact ⟨hg.cell a1 h1, hg.cell a2 h1, hg.cell a3 h2, hg.cell a4 h3⟩
set_option maxRecDepth 20000 in
set_option maxHeartbeats 4000000 in
theorem refStats_any (d : Dat) (AC AV : Option Addr) (nC cC cV : Nat) (rs : List RowA) (w : World) (h : DIn w d AC nC AV nC rs) (hn : nC ≤ 12) :
    Calls Tryz.prog 20 #[dagg d.rows AC nC cC AV nC cV] w fun e w' => ∃ u, e = .returned u ∧ OwnS w' w.heap.size u (statsOf d) ∧ Below w.heap.size w w' := by
  obtain ⟨l1, l2⟩ := h.lens
  have hzl : (d.cols.zip d.vals).length = nC := by rw [List.length_zip]; omega
  have hlw : ∀ r ∈ rs, r.A = none ∨ True := fun _ _ => .inr trivial
  obtain ⟨R, hR⟩ : ∃ R, R = d.rows := ⟨_, rfl⟩
  rw [← hR]
  clear hR hlw
  have hx := DBox.new w R (.slice AC nC cC) (.slice AV nC cV)
  have hb0 := Vals.one_new (w := w) (.cells #[.int .i64 R, .slice AC nC cC, .slice AV nC cV] 25)
  have H0 := Lib.hid h
  have H := Lib.hid (h.below hb0); clear h
  have HD := Lib.hid hx
  have HB0 := Lib.hid hb0
  obtain ⟨x0, x1, x2⟩ := hx.cells
  clear hx hb0
  go_enter Tryz.func20, Tryz.ntmps20
  go_wp2
  generalize w.alloc (.cells #[.int .i64 R, .slice AC nC cC, .slice AV nC cV] 25) = W0 at *
  go_loopw [3, 4] (fun ov iv wr => ∃ q : Nat, q ≤ nC ∧ iv = .int .i64 q ∧ OwnS wr W0.heap.size ov (((d.cols.zip d.vals).take q).map sta) ∧ Below W0.heap.size W0 wr) (fun _ iv _ => nC - (intOf iv).toNat)
  case atStart => exact ⟨0, Nat.zero_le _, rfl, OwnG.nil _ _ _ _ _, Below.refl _ _⟩
  case round =>
    clear x0 x1 x2
    obtain ⟨q, hq, rfl, hO, hb⟩ := hrel
    have hml : (((d.cols.zip d.vals).take q).map sta).length = q := by rw [List.length_map, List.length_take]; omega
    obtain ⟨A3, c3, rfl, _, _⟩ := OwnG.form hO hml
    have hDr := HD.out.below hb
    obtain ⟨x0, x1, x2⟩ := hDr.cells
    by_cases hlt : q < nC
    · have hI := H.out.below hb
      obtain ⟨b1, o1, c, hc, hA1, hb1, y0, y1, y2⟩ := CSl.at_ hI.cols hlt
      obtain ⟨b2, o2, r, hr, hA2, hb2, z0⟩ := RSl.at_ hI.vals hlt
      have hrv := hI.row hr
      have hsn := stats_snoc hc hrv
      have hmem := List.mem_of_getElem? hr
      have hV := hI.rows r hmem
      have hrn := hI.nr r hmem
      have hfv := hI.fv r hmem
      have hT := fun w => fun h => statR_any c.id r.A r.n r.c r.vs w h (Nat.le_trans hrn (by unfold maxLen; omega)) (fun v hv => Nat.le_trans (hfv v hv).s (by unfold maxLen; omega))
      have hst : sta (c, r.vs) = ⟨c.id, (stat r.vs).nulls, (stat r.vs).mn, (stat r.vs).mx⟩ := rfl
      rw [hst] at hsn
      clear hst hI hfv
      generalize ((d.cols.zip d.vals).take q).map sta = O at *
      generalize ((stat r.vs).nulls : Int) = N at *
      generalize (stat r.vs).mn = mn at *
      generalize (stat r.vs).mx = mx at *
      obtain ⟨kn, jn, bn, sn⟩ := mn
      obtain ⟨km, jm, bm, sm⟩ := mx
      obtain ⟨id, nm, kd⟩ := c
      obtain ⟨rA, rn, rc, rvs⟩ := r
      simp only [sagg] at hT hV hrn z0 y0 y1 y2
      have HS := Lib.hid (And.intro hsn hml); clear hsn hml hc hr hrv hmem
      have HT := Lib.hid hT; clear hT
      have hgw := HD.out.lt
      have hb1w : b1 < W0.heap.size := by
        obtain ⟨b, o, hA, hl, _⟩ := H.out.cols.2 (by omega)
        rw [hA1] at hA; injection hA with hA; injection hA with hA _; omega
      have hb2w : b2 < W0.heap.size := by
        obtain ⟨b, o, hA, hl, _⟩ := H.out.vals.2 (by omega)
        rw [hA2] at hA; injection hA with hA; injection hA with hA _; omega
      subst hA1; subst hA2
      have hwr := hb.size
      have hxl := hDr.lt
      have HSS := Lib.hid (fun wT (h : Below wr.heap.size wr wT) => (show wT.cell? ⟨w.heap.size, 1, none⟩ = some (.slice (some ⟨b1, o1, none⟩) nC cC) ∧ wT.cell? ⟨w.heap.size, 2, none⟩ = some (.slice (some ⟨b2, o2, none⟩) nC cV) ∧ wT.cell? ⟨b1, o1 + q * 3, none⟩ = some (.int .i64 id) ∧ wT.cell? ⟨b2, o2 + q, none⟩ = some (.slice rA rn rc) from
        ⟨(h.cell (p := ⟨w.heap.size, 1, none⟩) hxl).trans x1, (h.cell (p := ⟨w.heap.size, 2, none⟩) hxl).trans x2, (h.cell (p := ⟨b1, _, none⟩) hb1).trans y0, (h.cell (p := ⟨b2, _, none⟩) hb2).trans z0⟩))
      have hll : O.length + 1 ≤ maxLen ∧ (O.length + 1) * 96 ≤ 140737488355328 := by rw [HS.out.2]; unfold maxLen; omega
      have HLL := Lib.hid hll; clear hll
      have hne : some w.heap.size ≠ (Value.slice A3 q c3).ownBlock ∧ some b1 ≠ (Value.slice A3 q c3).ownBlock ∧ some b2 ≠ (Value.slice A3 q c3).ownBlock := ⟨fun e => by have := own_base hO _ e.symm; omega, fun e => by have := own_base hO b1 e.symm; omega, fun e => by have := own_base hO b2 e.symm; omega⟩
      have HNE := Lib.hid hne; clear hne
      have HVD := Lib.hid (vsl_drew hV); clear hV
      have HO := Lib.hid hO; clear hO
      have HB := Lib.hid hb; clear hb
      have hi1 : (0 : Int) ≤ (q : Int) := by omega
      have hi2 : (q : Int) < (nC : Int) := by omega
      have hq1 := Below.refl wr.heap.size wr
      have hSA := trivial
      obtain ⟨wT, hwT⟩ : ∃ wT : World, wT = wr := ⟨_, rfl⟩
      clear hwT hDr y0 y1 y2 z0 x0 x1 x2
      have hx0 := (HSS.out _ hq1)
      go_upto_region 5 with fail
      go_region_held3 (fun w' => w'.cell? ⟨w.heap.size, 1, none⟩ = some (.slice (some ⟨b1, o1, none⟩) nC cC) ∧ w'.cell? ⟨w.heap.size, 2, none⟩ = some (.slice (some ⟨b2, o2, none⟩) nC cV) ∧ w'.cell? ⟨b1, o1 + q * 3, none⟩ = some (.int .i64 id) ∧ w'.cell? ⟨b2, o2 + q, none⟩ = some (.slice rA rn rc))
        (first | go_keep | exact hx0 | exact HSS.out _ hq1 | exact HSS.out _ (hq1.alloc hq1.size _) | exact hSA)
        ((first
          | (go_at_call 34; (with_reducible refine (HT.out _ HVD.out).mono ?_); rintro e wT ⟨rfl, hbT⟩; have hq1 : Below wr.heap.size wr wT := bthen (Below.refl _ wr).drew hbT (Nat.le_refl _))
          | (refine step_push_g 73 40 _ 10 96 info_stat Tryz.underlying40 rfl (by omega) rfl (.tmp 12) (.tmp 26) rfl W0.heap.size _ O ⟨id, N, ⟨kn, jn, bn, sn⟩, ⟨km, jm, bm, sm⟩⟩ wT.heap.size 1 rfl rfl _ rfl rfl (stat_one _ _ _ _) (heap_alloc_new wT _) (OwnG.alloc (OwnG.below HO.out hq1) _) HLL.out.1 HLL.out.2 (alloc_le HB.out hq1 _) ?_; intro u wA hA hgA hatA; have hSA := rst_keep HSS.out hq1 hgA HNE.out.1 HNE.out.2.1 HNE.out.2.2)))
      have hb5 := ((HB.out.trans (hq1.mono HB.out.size)).alloc (Nat.le_trans HB.out.size hq1.size) (.cells #[.int .i64 id, .int .i64 N, .int .i64 kn, .int .i64 jn, .bool bn, .string sn, .int .i64 km, .int .i64 jm, .bool bm, .string sm] 73)).grown hgA (by have := HB.out.size; have := hq1.size; simp; omega) (own_base HO.out)
      have HA := Lib.hid hA; clear hA
      go_wp2
      go_roundw
      case rel => exact ⟨q + 1, by omega, by go_num, by rw [HS.out.1]; exact HA.out, hb5⟩
      case measure => simp [intOf]; omega
    · obtain rfl : nC = q := by omega
      rw [List.take_of_length_le (by omega)] at hO
      have HO := Lib.hid hO; clear hO
      go_wp2
      go_ret
      exact ⟨_, rfl, own_le HO.out HB0.out.size, bthen HB0.out hb (Nat.le_refl _)⟩
end Go.Proofs.YtgmemdedpklnhaaGreat.File

/-
  THE WALKS of SpoilColumns, SpoilRows: written over, within the data's own blocks.
-/


namespace Go.Proofs.YtgmemdedpklnhaaGreat.Dat
open Go.RowKit ValMath Vals Sl VecMath Mem Vec

/-- Nothing has turned but blocks from B to below S. -/
structure Within (B S : Nat) (w w' : World) : Prop where
  os : w'.os = w.os
  tape : w'.tape = w.tape
  output : w'.output = w.output
  size : w.heap.size ≤ w'.heap.size
  block : ∀ k, k < w.heap.size → (k < B ∨ S ≤ k) → w'.heap[k]? = w.heap[k]?
theorem Within.refl (B S : Nat) (w : World) : Within B S w w := ⟨rfl, rfl, rfl, Nat.le_refl _, fun _ _ _ => rfl⟩
theorem Within.trans {B S : Nat} {a b c : World} (h1 : Within B S a b) (h2 : Within B S b c) : Within B S a c :=
  ⟨h2.os.trans h1.os, h2.tape.trans h1.tape, h2.output.trans h1.output, Nat.le_trans h1.size h2.size, fun k hk hb => (h2.block k (Nat.lt_of_lt_of_le hk h1.size) hb).trans (h1.block k hk hb)⟩
theorem Within.of {B S : Nat} {w w' : World} {row : Option Nat} (h : w.grownBy w' row) (hr : ∀ k, row = some k → B ≤ k ∧ k < S) : Within B S w w' :=
  ⟨h.os, h.tape, h.output, h.size, fun k hk hb => h.block k hk (fun e => by have := hr k e.symm; omega)⟩
theorem Within.below {B S : Nat} {w w' : World} (h : Within B S w w') (hB : B ≤ w.heap.size) : Below B w w' := ⟨h.os, h.tape, h.output, h.size, fun k hk => h.block k (by omega) (.inl hk)⟩
theorem Within.own {B S B2 z n : Nat} {e : TypeId} {w w' : World} {v : Value} {xs : List Value} (h : Within B S w w') (ho : w.ownsRow B2 e z v n xs) (hB : S ≤ B2) : w'.ownsRow B2 e z v n xs := by
  refine ⟨ho.1, ?_⟩
  rcases ho.2 with h0 | ⟨g, c, cur, hv, hg1, hg, h1⟩
  · exact .inl h0
  · exact .inr ⟨g, c, cur, hv, hg1, (h.block g (Array.getElem?_eq_some_iff.1 hg).1 (.inr (Nat.le_trans hB hg1))).trans hg, h1⟩
theorem Within.dbox {B S g : Nat} {w w' : World} {R : Int} {C V : Value} (h : Within B S w w') (hd : DBox w g R C V) (hg : g < B ∨ S ≤ g) : DBox w' g R C V := (h.block g hd.lt hg).trans hd

theorem ccells_set (cs : List Colm) (k : Nat) (hk : k < cs.length) (x : Int) : (cs.set k { cs[k] with kind := x }).flatMap ccells = (cs.flatMap ccells).set (k * 3 + 2) (.int .i64 x) := by
  induction cs generalizing k with
  | nil => simp at hk
  | cons v cs ih =>
    cases k with
    | zero => simp [ccells]
    | succ k =>
      have := ih k (by simpa using hk)
      simp only [List.set_cons_succ, List.flatMap_cons, List.getElem_cons_succ] at this ⊢
      rw [this, List.set_append_right _ _ (by simp [ccells]; omega)]
      congr 2
      simp [ccells]; omega
theorem own_put_col {w : World} {B g n c : Nat} {cs : List Colm} (h : OwnC w B (.slice (some ⟨g, 0, none⟩) n c) cs) (hl : cs.length = n) (k : Nat) (hk : k < cs.length) (x : Int) :
    OwnC (w.setCell ⟨g, k * 3 + 2, none⟩ (.int .i64 x)) B (.slice (some ⟨g, 0, none⟩) n c) (cs.set k { cs[k] with kind := x }) := by
  unfold OwnC OwnG at h ⊢
  rw [hl] at h
  rw [List.length_set, hl, ccells_set cs k hk x]
  exact (World.ownsRow.stored h (k * 3 + 2) (.int .i64 x)).1
set_option maxHeartbeats 1000000 in
theorem spoilColumns_any (A : Option Addr) (B n c : Nat) (cs : List Colm) (w : World) (h : OwnC w B (.slice A n c) cs) (hl : cs.length = n) (hn : n ≤ maxLen) :
    Calls Tryz.prog 21 #[.slice A n c] w fun e w' => e = .returned (.tuple #[]) ∧ w.grownBy w' (Value.slice A n c).ownBlock := by
  unfold maxLen at hn
  go_enter Tryz.func21, Tryz.ntmps21
  go_wp2
  go_loopw [2] (fun i wr => ∃ k : Nat, k ≤ n ∧ i = .int .i64 k ∧ (∃ ys : List Colm, ys.length = n ∧ OwnC wr B (.slice A n c) ys) ∧ w.grownBy wr (Value.slice A n c).ownBlock) (fun i _ => n - (intOf i).toNat)
  case atStart => exact ⟨0, Nat.zero_le _, rfl, ⟨cs, hl, h⟩, World.grownBy.refl _ _⟩
  case round =>
    obtain ⟨k, hk, rfl, ⟨ys, hyl, hO⟩, hg⟩ := hrel
    by_cases hlt : k < n
    · obtain ⟨g, rfl, _, _, hfr, hc⟩ := OwnG.cells hO (fun _ => rfl) rfl hyl (by omega)
      have hkl : k < ys.length := by omega
      have c1 : wr.cell? ⟨g, k * 3 + 2, none⟩ = some (.int .i64 ys[k].kind) := hc k hkl 2 (by omega)
      have hf := hfr (k * 3 + 2)
      have HP := fun x => own_put_col hO hyl k hkl x
      have HO := Lib.hid HP; clear HP hO h hc hfr
      generalize ys[k].kind = y at c1
      have HG := Lib.hid hg; clear hg
      go_wp2
      go_roundw
      case rel => exact ⟨k + 1, by omega, by go_num, ⟨_, by rw [List.length_set]; exact hyl, HO.out _⟩, HG.out.trans (grown_set wr g _ _)⟩
      case measure => simp [intOf]; omega
    · go_wp2
      go_end0
      exact ⟨rfl, hg⟩
/-- Each slice of values that the call owns still reads as values. -/
def Spoilt (w w' : World) : Prop := ∀ (B : Nat) (A : Option Addr) (n c : Nat) (vs : List Val), vs.length = n → OwnV w B (.slice A n c) vs → ∃ us : List Val, us.length = n ∧ OwnV w' B (.slice A n c) us
theorem Spoilt.refl (w : World) : Spoilt w w := fun _ _ _ _ vs hl h => ⟨vs, hl, h⟩
theorem Spoilt.trans {a b c : World} (h1 : Spoilt a b) (h2 : Spoilt b c) : Spoilt a c := fun B A n k vs hl h => by
  obtain ⟨us, hu, ho⟩ := h1 B A n k vs hl h
  exact h2 B A n k us hu ho
theorem Spoilt.set (w : World) (g k : Nat) (x : Int) : Spoilt w (w.setCell ⟨g, k * 4 + 1, none⟩ (.int .i64 x)) := fun B A n c vs hl h => by
  by_cases hA : (Value.slice A n c).ownBlock = some g
  · have hh := h
    unfold OwnV at hh
    rcases hh.2 with ⟨e, _⟩ | ⟨g', c', cur, e, _⟩
    · rw [e] at hA; cases hA
    · injection e with e1 e2 e3
      subst e1
      obtain rfl : g' = g := by simpa [Value.ownBlock] using hA
      subst e3
      by_cases hk : k < vs.length
      · exact ⟨_, by rw [List.length_set]; exact hl, own_put_val h hl k hk x⟩
      · refine ⟨vs, hl, ?_⟩
        unfold OwnV at h ⊢
        rw [hl] at h ⊢
        have := (World.ownsRow.stored h (k * 4 + 1) (.int .i64 x)).1
        rwa [List.set_eq_of_length_le (by rw [vscells_length]; omega)] at this
  · exact ⟨vs, hl, own_set h hA _⟩
set_option maxHeartbeats 1000000 in
theorem spoilVals_any (A : Option Addr) (B n c : Nat) (vs : List Val) (w : World) (h : OwnV w B (.slice A n c) vs) (hl : vs.length = n) (hn : n ≤ maxLen) :
    Calls Tryz.prog 52 #[.slice A n c] w fun e w' => e = .returned (.tuple #[]) ∧ w.grownBy w' (Value.slice A n c).ownBlock ∧ Spoilt w w' := by
  unfold maxLen at hn
  go_enter Tryz.func52, Tryz.ntmps52
  go_wp2
  go_loopw [2] (fun i wr => ∃ k : Nat, k ≤ n ∧ i = .int .i64 k ∧ (∃ ys : List Val, ys.length = n ∧ OwnV wr B (.slice A n c) ys) ∧ w.grownBy wr (Value.slice A n c).ownBlock ∧ Spoilt w wr) (fun i _ => n - (intOf i).toNat)
  case atStart => exact ⟨0, Nat.zero_le _, rfl, ⟨vs, hl, h⟩, World.grownBy.refl _ _, Spoilt.refl w⟩
  case round =>
    obtain ⟨k, hk, rfl, ⟨ys, hyl, hO⟩, hg, hsp⟩ := hrel
    by_cases hlt : k < n
    · have hsl := hO.sl hyl
      obtain ⟨g, rfl, hfr⟩ : ∃ g, A = some ⟨g, 0, none⟩ ∧ ∀ j, wr.frozen? ⟨g, j, none⟩ = false := by
        rcases hO.2 with ⟨e, h0⟩ | ⟨g, cap, cur, e, _⟩
        · omega
        · injection e with e1 e2 e3
          subst e1; subst e3
          refine ⟨g, rfl, fun j => World.ownsRow.frozenAt (show World.ownsRow wr B 71 4 (.slice (some ⟨g, 0, none⟩) ys.length c) ys.length (vscells ys) by rw [hyl]; have := hO; unfold OwnV at this; rwa [hyl] at this) j⟩
      have hkl : k < ys.length := by omega
      obtain ⟨b, off, hA, _, hc⟩ := hsl.2 (by omega)
      injection hA with hA; injection hA with h1 h2; subst h1; subst h2
      obtain ⟨_, c1, _, _⟩ := hc k hkl
      have hf := hfr (k * 4 + 1)
      rw [Nat.zero_add] at c1
      have HP := fun x => own_put_val hO hyl k hkl x
      have HO := Lib.hid HP; clear HP hO h hc hfr hsl
      generalize ys[k].i = y at c1
      have HG := Lib.hid hg; clear hg
      have HSP := Lib.hid hsp; clear hsp
      go_wp2
      go_roundw
      case rel => exact ⟨k + 1, by omega, by go_num, ⟨_, by rw [List.length_set]; exact hyl, HO.out _⟩, HG.out.trans (grown_set wr g _ _), HSP.out.trans (Spoilt.set wr g k _)⟩
      case measure => simp [intOf]; omega
    · go_wp2
      go_end0
      exact ⟨rfl, hg, hsp⟩
def nilRow : RowA := ⟨none, 0, 0, []⟩
theorem own_put_row {w : World} {B g n c : Nat} {rs : List RowA} (h : OwnR w B (.slice (some ⟨g, 0, none⟩) n c) rs) (hl : rs.length = n) (k : Nat) :
    OwnR (w.setCell ⟨g, k, none⟩ (.slice none 0 0)) B (.slice (some ⟨g, 0, none⟩) n c) (rs.set k nilRow) := by
  unfold OwnR OwnG at h ⊢
  rw [hl] at h
  have e : ∀ l : List RowA, l.flatMap rcells = l.map fun r => Value.slice r.A r.n r.c := fun l => by
    induction l with
    | nil => rfl
    | cons a l ih => rw [List.flatMap_cons, ih]; rfl
  rw [e] at h ⊢
  rw [List.length_set, hl, List.map_set]
  exact (World.ownsRow.stored h k (.slice none 0 0)).1
set_option maxHeartbeats 2000000 in
theorem spoilRows_any (A : Option Addr) (B S n c : Nat) (rs : List RowA) (w : World) (h : OwnR w B (.slice A n c) rs) (hl : rs.length = n) (hE : ∀ r ∈ rs, OwnV w B (.slice r.A r.n r.c) r.vs) (hn : n ≤ maxLen) (hS : ∀ k, (Value.slice A n c).ownBlock = some k → k < S) (hSE : ∀ r ∈ rs, ∀ k, (Value.slice r.A r.n r.c).ownBlock = some k → k < S) :
    Calls Tryz.prog 22 #[.slice A n c] w fun e w' => e = .returned (.tuple #[]) ∧ Within B S w w' := by
  unfold maxLen at hn
  have HS := Lib.hid hS; clear hS
  have HSE := Lib.hid hSE; clear hSE
  go_enter Tryz.func22, Tryz.ntmps22
  go_wp2
  go_loopw [2] (fun i wr => ∃ k : Nat, k ≤ n ∧ i = .int .i64 k ∧ (∃ ys : List RowA, ys.length = n ∧ OwnR wr B (.slice A n c) ys ∧ ∀ i, k ≤ i → ys[i]? = rs[i]?) ∧ (∀ r ∈ rs, ∃ us : List Val, us.length = r.n ∧ OwnV wr B (.slice r.A r.n r.c) us) ∧ Within B S w wr) (fun i _ => n - (intOf i).toNat)
  case atStart => exact ⟨0, Nat.zero_le _, rfl, ⟨rs, hl, h, fun _ _ => rfl⟩, fun r hr => ⟨r.vs, (own_len (hE r hr)).1.symm, hE r hr⟩, Within.refl _ _ _⟩
  case round =>
    clear h hE
    obtain ⟨k, hk, rfl, ⟨ys, hyl, hO, hys⟩, hE, hW⟩ := hrel
    by_cases hlt : k < n
    · obtain ⟨g, rfl, _, _, hfr, hc⟩ := OwnG.cells hO (fun _ => rfl) rfl hyl (by omega)
      have hkl : k < ys.length := by omega
      have hyk := hys k (Nat.le_refl _)
      rw [List.getElem?_eq_getElem hkl] at hyk
      have hmem := List.mem_of_getElem? hyk.symm
      obtain ⟨us, hul, hOu⟩ := hE _ hmem
      have c1 : wr.cell? ⟨g, k, none⟩ = some (.slice ys[k].A ys[k].n ys[k].c) := by have := hc k hkl 0 (by omega); rw [Nat.mul_one, Nat.add_zero] at this; exact this
      have hsb := HSE.out _ hmem
      have hnu := own_len hOu
      have HSv := Lib.hid (spoilVals_any ys[k].A B ys[k].n ys[k].c us wr hOu hul (by unfold maxLen at *; omega))
      have HO := Lib.hid hO; clear hO
      have HOu := Lib.hid hOu; clear hOu
      have HE := Lib.hid hE; clear hE
      have HW := Lib.hid hW; clear hW
      have HYS := Lib.hid hys; clear hys
      have HB := Lib.hid hsb; clear hsb hmem hyk hc
      generalize ys[k].A = rA at *
      generalize ys[k].n = rn at *
      generalize ys[k].c = rc at *
      clear hul hnu hfr
      have hi1 : (0 : Int) ≤ (k : Int) := by omega
      have hi2 : (k : Int) < (n : Int) := by omega
      go_wp2_with (go_at_call 52; (with_reducible refine HSv.out.mono ?_); rintro e w1 ⟨rfl, hg1, hsp⟩; have hO1 : OwnR w1 B (.slice (some ⟨g, 0, none⟩) n c) ys := World.ownsRow.kept HO.out hg1 (own_ne HO.out HOu.out (by decide)); have hoc := OwnG.cells hO1 (fun _ => rfl) rfl hyl (by omega); have hfz := hoc; obtain ⟨g', hgg, _, _, hfr, hcc⟩ := hfz; (obtain rfl : g = g' := by injection hgg with hgg; injection hgg); have c2 := hcc k hkl 0 (by omega); rw [Nat.mul_one, Nat.add_zero] at c2; have c3 : w1.cell? ⟨g, k, none⟩ = some (.slice ys[k].A ys[k].n ys[k].c) := c2; have f3 := hfr k; have HO1 := Lib.hid hO1; have HG1 := Lib.hid (And.intro hg1 hsp); clear hO1 hoc hcc c2 hfr hg1 hsp hgg c1)
      have HO2 := Lib.hid (own_put_row HO1.out hyl k)
      have hgs := grown_set w1 g k (.slice none 0 0) (n := n) (c := c)
      have HW2 := Lib.hid ((HW.out.trans (Within.of HG1.out.1 (fun j hj => ⟨(World.ownsRow.lt HOu.out j hj).1, HB.out j hj⟩))).trans (Within.of hgs (fun j hj => ⟨(World.ownsRow.lt HO1.out j hj).1, HS.out j hj⟩)))
      have hE2 : ∀ r ∈ rs, ∃ us : List Val, us.length = r.n ∧ OwnV (w1.setCell ⟨g, k, none⟩ (.slice none 0 0)) B (.slice r.A r.n r.c) us := fun r hr => by
        obtain ⟨us, hu, ho⟩ := HE.out r hr
        obtain ⟨us2, hu2, ho2⟩ := HG1.out.2 B r.A r.n r.c us hu ho
        refine ⟨us2, hu2, own_set ho2 ?_ _⟩
        intro e
        rcases own_ne ho2 HO1.out (by decide) with h1 | h1
        · rw [h1] at e; cases e
        · exact h1 e
      have HE2 := Lib.hid hE2; clear hE2 hgs
      go_wp2
      go_roundw
      case rel =>
        refine ⟨k + 1, by omega, by go_num, ⟨_, by rw [List.length_set]; exact hyl, HO2.out, fun i hi => ?_⟩, HE2.out, HW2.out⟩
        rw [List.getElem?_set_ne (by omega)]
        exact HYS.out i (by omega)
      case measure => simp [intOf]; omega
    · go_wp2
      go_end0
      exact ⟨rfl, hW⟩
end Go.Proofs.YtgmemdedpklnhaaGreat.Dat

/-
  THE WALK of boathouselaw11.FileGets.
-/




namespace Go.Proofs.YtgmemdedpklnhaaGreat.File
open Go.RowKit ValMath Vals Sl VecMath Vec Dat

theorem fd_in {w : World} {B nC cC nV cV : Nat} {AC AV : Option Addr} {rs : List RowA} {s : ByteArray} (h : OwnD w B (fdat s) (.slice AC nC cC) (.slice AV nV cV) rs) : DIn w (fdat s) AC nC AV nV rs ∧ nC = nV ∧ nC ≤ 12 ∧ (fdat s).cols.length = nC ∧ rs.length = nC := by
  by_cases h0 : fcode s = 0
  · obtain ⟨n1, cs, hd, hn1, hcl, hfp⟩ := unfile_fine h0
    rw [hd] at h ⊢
    have hl1 : nC = cs.length := by have := (own_len h.cols).1; simpa using this
    have hr : rs.length = cs.length := by have := congrArg List.length h.eq; simpa using this.symm
    have hl2 : nV = cs.length := by have := (own_len h.rows).1; omega
    subst hl1; subst hl2
    exact ⟨OwnD.in_ h hfp hn1 hcl rfl rfl, rfl, hcl, by simp, hr⟩
  · rw [unfile_none h0] at h ⊢
    have hl1 : nC = 0 := (own_len h.cols).1
    have hr : rs = [] := by have := congrArg List.length h.eq; simp [noDat] at this; exact List.eq_nil_of_length_eq_zero this.symm
    have hl2 : nV = 0 := by have := (own_len h.rows).1; rw [hr] at this; exact this
    subst hl1; subst hl2; subst hr
    exact ⟨⟨⟨rfl, fun h => absurd h (by omega)⟩, ⟨rfl, fun h => absurd h (by omega)⟩, by simp, rfl, by omega, by omega, by simp, by simp [noDat], by simp, by decide, by decide⟩, rfl, by omega, rfl, rfl⟩
theorem stats_len12 {d : Dat} {n : Nat} (h : d.cols.length = n) (h2 : n ≤ 12) : (statsOf d).length ≤ 12 := by
  unfold statsOf; rw [List.length_map, List.length_zip]; omega
theorem OwnD.within {w w' : World} {B S B2 : Nat} {d : Dat} {C V : Value} {rs : List RowA} (h : OwnD w B2 d C V rs) (hW : Within B S w w') (hB : S ≤ B2) : OwnD w' B2 d C V rs :=
  ⟨hW.own h.cols hB, hW.own h.rows hB, fun r hr => hW.own (h.each r hr) hB, h.eq⟩
set_option maxRecDepth 20000 in
set_option maxHeartbeats 4000000 in
theorem fileGets_any (s : ByteArray) (sl : Bool) (w : World) (hs : s.size ≤ 140737488351232) :
    Calls Tryz.prog 4 #[.string s, .bool sl] w fun e w' => e = .returned (.bool true) ∧ Below w.heap.size w w' := by
  cases sl with
  | false =>
    have hz : s.size ≤ maxReach := by unfold maxReach; omega
    have hG := fun w => get_any s w hz
    have hS := fun w => stats_any s w hz
    have hU := fun w => refUnfile_any s w hz
    have hFD := fun w B nC cC nV cV AC AV rs h => fd_in (w := w) (B := B) (nC := nC) (cC := cC) (nV := nV) (cV := cV) (AC := AC) (AV := AV) (rs := rs) (s := s) h
    unfold GetPost at hG hU
    generalize fdat s = FD at *
    generalize fcode s = FC at *
    clear hz hs
    have HG := Lib.hid hG; clear hG
    have HS := Lib.hid hS; clear hS
    have HU := Lib.hid hU; clear hU
    have HFD := Lib.hid hFD; clear hFD
    have HBT := Lib.hid (Below.refl w.heap.size w)
    have hwW : w.heap.size ≤ w.heap.size := Nat.le_refl _
    go_enter Tryz.func4, Tryz.ntmps4
    go_wp2_with fail
    refine (HG.out _).mono ?_
    rintro e w1 ⟨A1, n1, k1, B1, m1, j1, r1, rfl, hO1, hb1⟩
    obtain ⟨_, rfl, hn12, hnl, hr1l⟩ := HFD.out _ _ _ _ _ _ _ _ _ hO1
    have HK1 := Lib.hid (show (∀ k, (Value.slice A1 n1 k1).ownBlock = some k → k < w1.heap.size) ∧ (∀ k, (Value.slice B1 n1 j1).ownBlock = some k → k < w1.heap.size) ∧ ∀ r ∈ r1, ∀ k, (Value.slice r.A r.n r.c).ownBlock = some k → k < w1.heap.size from
      ⟨fun k hk => (World.ownsRow.lt hO1.cols k hk).2, fun k hk => (World.ownsRow.lt hO1.rows k hk).2, fun r hr k hk => (World.ownsRow.lt (hO1.each r hr) k hk).2⟩)
    replace HBT := Lib.hid (bthen HBT.out hb1 (Nat.le_refl _))
    have hWS : w.heap.size ≤ w1.heap.size := hb1.size
    clear hb1
    have hba := Vals.one_new (w := w1) (.cells #[.int .i64 FD.rows, .slice A1 n1 k1, .slice B1 n1 j1] 25)
    have HO1 := Lib.hid (OwnD.below hO1 hba); clear hO1
    have HX1 := Lib.hid (DBox.new w1 FD.rows (.slice A1 n1 k1) (.slice B1 n1 j1))
    replace HBT := Lib.hid (bthen HBT.out hba (Nat.le_refl _))
    have hs1 : w1.heap.size ≤ (w1.alloc (.cells #[.int .i64 FD.rows, .slice A1 n1 k1, .slice B1 n1 j1] 25)).heap.size := hba.size
    clear hba
    go_wp2_with fail
    refine (HG.out _).mono ?_
    rintro e w2 ⟨A2, n2, k2, B2, m2, j2, r2, rfl, hO2, hb2⟩
    obtain ⟨_, rfl, _, hnl2, _⟩ := HFD.out _ _ _ _ _ _ _ _ _ hO2
    obtain rfl : n1 = n2 := by omega
    replace HBT := Lib.hid (bthen HBT.out hb2 (Nat.le_refl _))
    (try replace HO1 := Lib.hid (OwnD.below HO1.out hb2))
    (try replace HO2 := Lib.hid (OwnD.below HO2.out hb2))
    (try replace HO4 := Lib.hid (OwnD.below HO4.out hb2))
    (try replace HX1 := Lib.hid (HX1.out.below hb2))
    (try replace HX2 := Lib.hid (HX2.out.below hb2))
    (try replace HX4 := Lib.hid (HX4.out.below hb2))
    (try replace HS3 := Lib.hid (SSl.below HS3.out hb2))
    have hsB2 := hs1
    have hs2 : w1.heap.size ≤ w2.heap.size := Nat.le_trans hs1 hb2.size
    clear hb2 hnl2
    have hba := Vals.one_new (w := w2) (.cells #[.int .i64 FD.rows, .slice A2 n1 k2, .slice B2 n1 j2] 25)
    have HO2 := Lib.hid hO2; clear hO2
    replace HBT := Lib.hid (bthen HBT.out hba (Nat.le_refl _))
    (try replace HO1 := Lib.hid (OwnD.below HO1.out hba))
    (try replace HO2 := Lib.hid (OwnD.below HO2.out hba))
    (try replace HO4 := Lib.hid (OwnD.below HO4.out hba))
    (try replace HX1 := Lib.hid (HX1.out.below hba))
    (try replace HX2 := Lib.hid (HX2.out.below hba))
    (try replace HX4 := Lib.hid (HX4.out.below hba))
    (try replace HS3 := Lib.hid (SSl.below HS3.out hba))
    have HX2 := Lib.hid (DBox.new w2 FD.rows (.slice A2 n1 k2) (.slice B2 n1 j2))
    have hs2a : w1.heap.size ≤ (w2.alloc (.cells #[.int .i64 FD.rows, .slice A2 n1 k2, .slice B2 n1 j2] 25)).heap.size := Nat.le_trans hs2 hba.size
    clear hba
    go_wp2_with fail
    refine (HS.out _).mono ?_
    rintro e w3 ⟨u3, rfl, hS3, hb3⟩
    replace HBT := Lib.hid (bthen HBT.out hb3 (Nat.le_refl _))
    (try replace HO1 := Lib.hid (OwnD.below HO1.out hb3))
    (try replace HO2 := Lib.hid (OwnD.below HO2.out hb3))
    (try replace HO4 := Lib.hid (OwnD.below HO4.out hb3))
    (try replace HX1 := Lib.hid (HX1.out.below hb3))
    (try replace HX2 := Lib.hid (HX2.out.below hb3))
    (try replace HX4 := Lib.hid (HX4.out.below hb3))
    (try replace HS3 := Lib.hid (SSl.below HS3.out hb3))
    have hs3 : w1.heap.size ≤ w3.heap.size := Nat.le_trans hs2a hb3.size
    obtain ⟨LS, hLS⟩ : ∃ LS, LS = (statsOf FD).length := ⟨_, rfl⟩
    obtain ⟨A10, c10, rfl, _, _⟩ := OwnG.form hS3 hLS.symm
    have HS3 := Lib.hid (OwnS.sl hS3 hLS.symm); clear hS3 hb3
    have hl12 : LS ≤ 12 := by rw [hLS]; exact stats_len12 hnl hn12
    have HLS := Lib.hid hLS; clear hLS
    go_wp2_with fail
    refine (HU.out _).mono ?_
    rintro e w4 ⟨A4, n4, k4, B4, m4, j4, r4, rfl, hO4, hb4⟩
    obtain ⟨_, rfl, _, hnl4, hr4l⟩ := HFD.out _ _ _ _ _ _ _ _ _ hO4
    obtain rfl : n1 = n4 := by omega
    replace HBT := Lib.hid (bthen HBT.out hb4 (Nat.le_refl _))
    (try replace HO1 := Lib.hid (OwnD.below HO1.out hb4))
    (try replace HO2 := Lib.hid (OwnD.below HO2.out hb4))
    (try replace HO4 := Lib.hid (OwnD.below HO4.out hb4))
    (try replace HX1 := Lib.hid (HX1.out.below hb4))
    (try replace HX2 := Lib.hid (HX2.out.below hb4))
    (try replace HX4 := Lib.hid (HX4.out.below hb4))
    (try replace HS3 := Lib.hid (SSl.below HS3.out hb4))
    have hs4 : w1.heap.size ≤ w4.heap.size := Nat.le_trans hs3 hb4.size
    clear hb4 hnl4
    have hba := Vals.one_new (w := w4) (.cells #[.int .i64 FD.rows, .slice A4 n1 k4, .slice B4 n1 j4] 25)
    have HO4 := Lib.hid hO4; clear hO4
    replace HBT := Lib.hid (bthen HBT.out hba (Nat.le_refl _))
    (try replace HO1 := Lib.hid (OwnD.below HO1.out hba))
    (try replace HO2 := Lib.hid (OwnD.below HO2.out hba))
    (try replace HO4 := Lib.hid (OwnD.below HO4.out hba))
    (try replace HX1 := Lib.hid (HX1.out.below hba))
    (try replace HX2 := Lib.hid (HX2.out.below hba))
    (try replace HX4 := Lib.hid (HX4.out.below hba))
    (try replace HS3 := Lib.hid (SSl.below HS3.out hba))
    have HX4 := Lib.hid (DBox.new w4 FD.rows (.slice A4 n1 k4) (.slice B4 n1 j4))
    clear hba
    obtain ⟨x0, x1, x2⟩ := HX1.out.cells
    obtain ⟨z0, z1, z2⟩ := HX4.out.cells
    obtain ⟨hD1, _, _, _, _⟩ := HFD.out _ _ _ _ _ _ _ _ _ HO1.out
    obtain ⟨hD4, _, _, _, _⟩ := HFD.out _ _ _ _ _ _ _ _ _ HO4.out
    have hSD := sameData_any FD.rows FD.cols A1 B1 A4 B4 n1 k1 n1 j1 k4 j4 r1 r4 _ hD1.cols hD4.cols hD1.vals hD4.vals hD1.rows hD4.rows (by rw [← hD1.eq, ← hD4.eq]) (by unfold maxLen; omega) (by unfold maxLen; omega) (fun r hr => Nat.le_trans (hD1.nr r hr) (by unfold maxLen; omega))
    have HSD := Lib.hid hSD; clear hSD hD1 hD4
    go_wp2_with fail
    refine HSD.out.mono ?_
    rintro e w5 ⟨rfl, hb5⟩
    clear x0 x1 x2 z0 z1 z2 HSD
    replace HBT := Lib.hid (bthen HBT.out hb5 (Nat.le_refl _))
    (try replace HO1 := Lib.hid (OwnD.below HO1.out hb5))
    (try replace HO2 := Lib.hid (OwnD.below HO2.out hb5))
    (try replace HO4 := Lib.hid (OwnD.below HO4.out hb5))
    (try replace HX1 := Lib.hid (HX1.out.below hb5))
    (try replace HX2 := Lib.hid (HX2.out.below hb5))
    (try replace HX4 := Lib.hid (HX4.out.below hb5))
    (try replace HS3 := Lib.hid (SSl.below HS3.out hb5))
    clear hb5
    obtain ⟨z0, z1, z2⟩ := HX4.out.cells
    go_wp2_with (go_at_call 8; refine (Nums.num_any _ _).mono ?_; rintro e w' ⟨rfl, rfl⟩)
    obtain ⟨hD4, _, _, _, _⟩ := HFD.out _ _ _ _ _ _ _ _ _ HO4.out
    refine (refStats_any FD A4 B4 n1 k4 j4 r4 _ hD4 hn12).mono ?_
    clear hD4
    rintro e w6 ⟨u6, rfl, hS6, hb6⟩
    clear z0 z1 z2
    replace HBT := Lib.hid (bthen HBT.out hb6 (Nat.le_refl _))
    (try replace HO1 := Lib.hid (OwnD.below HO1.out hb6))
    (try replace HO2 := Lib.hid (OwnD.below HO2.out hb6))
    (try replace HO4 := Lib.hid (OwnD.below HO4.out hb6))
    (try replace HX1 := Lib.hid (HX1.out.below hb6))
    (try replace HX2 := Lib.hid (HX2.out.below hb6))
    (try replace HX4 := Lib.hid (HX4.out.below hb6))
    (try replace HS3 := Lib.hid (SSl.below HS3.out hb6))
    clear hb6
    obtain ⟨A63, c63, rfl, _, _⟩ := OwnG.form hS6 HLS.out.symm
    have HS6 := Lib.hid (OwnS.sl hS6 HLS.out.symm); clear hS6
    go_wp2_with fail
    refine (sameStats_any A10 A63 LS c10 c63 (statsOf FD) _ HS3.out HS6.out (by unfold maxLen; omega)).mono ?_
    rintro e w7 ⟨rfl, kk, rfl⟩
    have hb7 : Below w6.heap.size w6 (w6.drewN kk) := below_drewN (Below.refl _ _) kk
    replace HBT := Lib.hid (bthen HBT.out hb7 (Nat.le_refl _))
    (try replace HO1 := Lib.hid (OwnD.below HO1.out hb7))
    (try replace HO2 := Lib.hid (OwnD.below HO2.out hb7))
    (try replace HO4 := Lib.hid (OwnD.below HO4.out hb7))
    (try replace HX1 := Lib.hid (HX1.out.below hb7))
    (try replace HX2 := Lib.hid (HX2.out.below hb7))
    (try replace HX4 := Lib.hid (HX4.out.below hb7))
    (try replace HS3 := Lib.hid (SSl.below HS3.out hb7))
    clear hb7 HS6 HS3
    generalize w6.drewN kk = w7 at *
    obtain ⟨x0, x1, x2⟩ := HX1.out.cells
    go_wp2_with fail
    refine (spoilColumns_any A1 _ n1 k1 FD.cols _ HO1.out.cols hnl (by unfold maxLen; omega)).mono ?_
    rintro e w8 ⟨rfl, hg8⟩
    have hW8 : Within w.heap.size w1.heap.size w7 w8 := Within.of hg8 (fun k hk => ⟨(World.ownsRow.lt HO1.out.cols k hk).1, HK1.out.1 k hk⟩)
    have hR8 : OwnR w8 w.heap.size (.slice B1 n1 j1) r1 := World.ownsRow.kept HO1.out.rows hg8 (own_ne HO1.out.rows HO1.out.cols (by decide))
    have hE8 : ∀ r ∈ r1, OwnV w8 w.heap.size (.slice r.A r.n r.c) r.vs := fun r hr => World.ownsRow.kept (HO1.out.each r hr) hg8 (own_ne (HO1.out.each r hr) HO1.out.cols (by decide))
    have hX8 := hW8.dbox HX1.out (.inr (Nat.le_refl _))
    clear x0 x1 x2 hg8
    obtain ⟨x0, x1, x2⟩ := hX8.cells
    go_wp2_with fail
    refine (spoilRows_any B1 _ w1.heap.size n1 j1 r1 _ hR8 hr1l hE8 (by unfold maxLen; omega) HK1.out.2.1 HK1.out.2.2).mono ?_
    rintro e w9 ⟨rfl, hW9⟩
    clear x0 x1 x2 hX8 hR8 hE8
    have hWW := hW8.trans hW9
    have hWb := hWW.below (Nat.le_trans hWS (Nat.le_trans (Nat.le_of_lt HX1.out.lt) (Nat.le_refl _)))
    replace HBT := Lib.hid (HBT.out.trans (hWb.mono hwW))
    replace HO2 := Lib.hid (OwnD.within HO2.out hWW hsB2)
    replace HO4 := Lib.hid (OwnD.within HO4.out hWW hs3)
    replace HX2 := Lib.hid (hWW.dbox HX2.out (.inr hs2))
    replace HX4 := Lib.hid (hWW.dbox HX4.out (.inr hs4))
    clear hW8 hW9 hWW hWb HO1 HX1 HK1
    obtain ⟨y0, y1, y2⟩ := HX2.out.cells
    obtain ⟨z0, z1, z2⟩ := HX4.out.cells
    obtain ⟨hD2, _, _, _, _⟩ := HFD.out _ _ _ _ _ _ _ _ _ HO2.out
    obtain ⟨hD4, _, _, _, _⟩ := HFD.out _ _ _ _ _ _ _ _ _ HO4.out
    have hSD := sameData_any FD.rows FD.cols A2 B2 A4 B4 n1 k2 n1 j2 k4 j4 r2 r4 _ hD2.cols hD4.cols hD2.vals hD4.vals hD2.rows hD4.rows (by rw [← hD2.eq, ← hD4.eq]) (by unfold maxLen; omega) (by unfold maxLen; omega) (fun r hr => Nat.le_trans (hD2.nr r hr) (by unfold maxLen; omega))
    have HSD := Lib.hid hSD; clear hSD hD2 hD4
    go_wp2_with fail
    refine HSD.out.mono ?_
    rintro e wx ⟨rfl, hbx⟩
    replace HBT := Lib.hid (bthen HBT.out hbx (Nat.le_refl _))
    clear y0 y1 y2 z0 z1 z2 hbx HSD
    go_wp2_with fail
    refine (awake_any _).mono ?_
    rintro e wy ⟨rfl, hby⟩
    replace HBT := Lib.hid (bthen HBT.out hby (Nat.le_refl _))
    go_wp2_with fail
    go_ret
    exact ⟨rfl, HBT.out⟩
  | true =>
    have hR := fun w => Crc.refSeal_any s w (by unfold maxReach; omega)
    have hz : (str (CrcMath.seal_ s.data.toList)).size ≤ maxReach := by rw [str_size, VecMath.seal_length]; simp; unfold maxReach; omega
    generalize str (CrcMath.seal_ s.data.toList) = T at *
    have hG := fun w => get_any T w hz
    have hS := fun w => stats_any T w hz
    have hU := fun w => refUnfile_any T w hz
    have hFD := fun w B nC cC nV cV AC AV rs h => fd_in (w := w) (B := B) (nC := nC) (cC := cC) (nV := nV) (cV := cV) (AC := AC) (AV := AV) (rs := rs) (s := T) h
    unfold GetPost at hG hU
    generalize fdat T = FD at *
    generalize fcode T = FC at *
    clear hz hs
    have HR := Lib.hid hR; clear hR
    have HG := Lib.hid hG; clear hG
    have HS := Lib.hid hS; clear hS
    have HU := Lib.hid hU; clear hU
    have HFD := Lib.hid hFD; clear hFD
    go_enter Tryz.func4, Tryz.ntmps4
    go_wp2_with fail
    refine (HR.out _).mono ?_
    rintro e w0 ⟨rfl, hb0⟩
    have HBT := Lib.hid hb0
    have hwW : w.heap.size ≤ w0.heap.size := hb0.size
    clear hb0
    go_wp2_with fail
    refine (HG.out _).mono ?_
    rintro e w1 ⟨A1, n1, k1, B1, m1, j1, r1, rfl, hO1, hb1⟩
    obtain ⟨_, rfl, hn12, hnl, hr1l⟩ := HFD.out _ _ _ _ _ _ _ _ _ hO1
    have HK1 := Lib.hid (show (∀ k, (Value.slice A1 n1 k1).ownBlock = some k → k < w1.heap.size) ∧ (∀ k, (Value.slice B1 n1 j1).ownBlock = some k → k < w1.heap.size) ∧ ∀ r ∈ r1, ∀ k, (Value.slice r.A r.n r.c).ownBlock = some k → k < w1.heap.size from
      ⟨fun k hk => (World.ownsRow.lt hO1.cols k hk).2, fun k hk => (World.ownsRow.lt hO1.rows k hk).2, fun r hr k hk => (World.ownsRow.lt (hO1.each r hr) k hk).2⟩)
    replace HBT := Lib.hid (bthen HBT.out hb1 (Nat.le_refl _))
    have hWS : w0.heap.size ≤ w1.heap.size := hb1.size
    clear hb1
    have hba := Vals.one_new (w := w1) (.cells #[.int .i64 FD.rows, .slice A1 n1 k1, .slice B1 n1 j1] 25)
    have HO1 := Lib.hid (OwnD.below hO1 hba); clear hO1
    have HX1 := Lib.hid (DBox.new w1 FD.rows (.slice A1 n1 k1) (.slice B1 n1 j1))
    replace HBT := Lib.hid (bthen HBT.out hba (Nat.le_refl _))
    have hs1 : w1.heap.size ≤ (w1.alloc (.cells #[.int .i64 FD.rows, .slice A1 n1 k1, .slice B1 n1 j1] 25)).heap.size := hba.size
    clear hba
    go_wp2_with fail
    refine (HG.out _).mono ?_
    rintro e w2 ⟨A2, n2, k2, B2, m2, j2, r2, rfl, hO2, hb2⟩
    obtain ⟨_, rfl, _, hnl2, _⟩ := HFD.out _ _ _ _ _ _ _ _ _ hO2
    obtain rfl : n1 = n2 := by omega
    replace HBT := Lib.hid (bthen HBT.out hb2 (Nat.le_refl _))
    (try replace HO1 := Lib.hid (OwnD.below HO1.out hb2))
    (try replace HO2 := Lib.hid (OwnD.below HO2.out hb2))
    (try replace HO4 := Lib.hid (OwnD.below HO4.out hb2))
    (try replace HX1 := Lib.hid (HX1.out.below hb2))
    (try replace HX2 := Lib.hid (HX2.out.below hb2))
    (try replace HX4 := Lib.hid (HX4.out.below hb2))
    (try replace HS3 := Lib.hid (SSl.below HS3.out hb2))
    have hsB2 := hs1
    have hs2 : w1.heap.size ≤ w2.heap.size := Nat.le_trans hs1 hb2.size
    clear hb2 hnl2
    have hba := Vals.one_new (w := w2) (.cells #[.int .i64 FD.rows, .slice A2 n1 k2, .slice B2 n1 j2] 25)
    have HO2 := Lib.hid hO2; clear hO2
    replace HBT := Lib.hid (bthen HBT.out hba (Nat.le_refl _))
    (try replace HO1 := Lib.hid (OwnD.below HO1.out hba))
    (try replace HO2 := Lib.hid (OwnD.below HO2.out hba))
    (try replace HO4 := Lib.hid (OwnD.below HO4.out hba))
    (try replace HX1 := Lib.hid (HX1.out.below hba))
    (try replace HX2 := Lib.hid (HX2.out.below hba))
    (try replace HX4 := Lib.hid (HX4.out.below hba))
    (try replace HS3 := Lib.hid (SSl.below HS3.out hba))
    have HX2 := Lib.hid (DBox.new w2 FD.rows (.slice A2 n1 k2) (.slice B2 n1 j2))
    have hs2a : w1.heap.size ≤ (w2.alloc (.cells #[.int .i64 FD.rows, .slice A2 n1 k2, .slice B2 n1 j2] 25)).heap.size := Nat.le_trans hs2 hba.size
    clear hba
    go_wp2_with fail
    refine (HS.out _).mono ?_
    rintro e w3 ⟨u3, rfl, hS3, hb3⟩
    replace HBT := Lib.hid (bthen HBT.out hb3 (Nat.le_refl _))
    (try replace HO1 := Lib.hid (OwnD.below HO1.out hb3))
    (try replace HO2 := Lib.hid (OwnD.below HO2.out hb3))
    (try replace HO4 := Lib.hid (OwnD.below HO4.out hb3))
    (try replace HX1 := Lib.hid (HX1.out.below hb3))
    (try replace HX2 := Lib.hid (HX2.out.below hb3))
    (try replace HX4 := Lib.hid (HX4.out.below hb3))
    (try replace HS3 := Lib.hid (SSl.below HS3.out hb3))
    have hs3 : w1.heap.size ≤ w3.heap.size := Nat.le_trans hs2a hb3.size
    obtain ⟨LS, hLS⟩ : ∃ LS, LS = (statsOf FD).length := ⟨_, rfl⟩
    obtain ⟨A10, c10, rfl, _, _⟩ := OwnG.form hS3 hLS.symm
    have HS3 := Lib.hid (OwnS.sl hS3 hLS.symm); clear hS3 hb3
    have hl12 : LS ≤ 12 := by rw [hLS]; exact stats_len12 hnl hn12
    have HLS := Lib.hid hLS; clear hLS
    go_wp2_with fail
    refine (HU.out _).mono ?_
    rintro e w4 ⟨A4, n4, k4, B4, m4, j4, r4, rfl, hO4, hb4⟩
    obtain ⟨_, rfl, _, hnl4, hr4l⟩ := HFD.out _ _ _ _ _ _ _ _ _ hO4
    obtain rfl : n1 = n4 := by omega
    replace HBT := Lib.hid (bthen HBT.out hb4 (Nat.le_refl _))
    (try replace HO1 := Lib.hid (OwnD.below HO1.out hb4))
    (try replace HO2 := Lib.hid (OwnD.below HO2.out hb4))
    (try replace HO4 := Lib.hid (OwnD.below HO4.out hb4))
    (try replace HX1 := Lib.hid (HX1.out.below hb4))
    (try replace HX2 := Lib.hid (HX2.out.below hb4))
    (try replace HX4 := Lib.hid (HX4.out.below hb4))
    (try replace HS3 := Lib.hid (SSl.below HS3.out hb4))
    have hs4 : w1.heap.size ≤ w4.heap.size := Nat.le_trans hs3 hb4.size
    clear hb4 hnl4
    have hba := Vals.one_new (w := w4) (.cells #[.int .i64 FD.rows, .slice A4 n1 k4, .slice B4 n1 j4] 25)
    have HO4 := Lib.hid hO4; clear hO4
    replace HBT := Lib.hid (bthen HBT.out hba (Nat.le_refl _))
    (try replace HO1 := Lib.hid (OwnD.below HO1.out hba))
    (try replace HO2 := Lib.hid (OwnD.below HO2.out hba))
    (try replace HO4 := Lib.hid (OwnD.below HO4.out hba))
    (try replace HX1 := Lib.hid (HX1.out.below hba))
    (try replace HX2 := Lib.hid (HX2.out.below hba))
    (try replace HX4 := Lib.hid (HX4.out.below hba))
    (try replace HS3 := Lib.hid (SSl.below HS3.out hba))
    have HX4 := Lib.hid (DBox.new w4 FD.rows (.slice A4 n1 k4) (.slice B4 n1 j4))
    clear hba
    obtain ⟨x0, x1, x2⟩ := HX1.out.cells
    obtain ⟨z0, z1, z2⟩ := HX4.out.cells
    obtain ⟨hD1, _, _, _, _⟩ := HFD.out _ _ _ _ _ _ _ _ _ HO1.out
    obtain ⟨hD4, _, _, _, _⟩ := HFD.out _ _ _ _ _ _ _ _ _ HO4.out
    have hSD := sameData_any FD.rows FD.cols A1 B1 A4 B4 n1 k1 n1 j1 k4 j4 r1 r4 _ hD1.cols hD4.cols hD1.vals hD4.vals hD1.rows hD4.rows (by rw [← hD1.eq, ← hD4.eq]) (by unfold maxLen; omega) (by unfold maxLen; omega) (fun r hr => Nat.le_trans (hD1.nr r hr) (by unfold maxLen; omega))
    have HSD := Lib.hid hSD; clear hSD hD1 hD4
    go_wp2_with fail
    refine HSD.out.mono ?_
    rintro e w5 ⟨rfl, hb5⟩
    clear x0 x1 x2 z0 z1 z2 HSD
    replace HBT := Lib.hid (bthen HBT.out hb5 (Nat.le_refl _))
    (try replace HO1 := Lib.hid (OwnD.below HO1.out hb5))
    (try replace HO2 := Lib.hid (OwnD.below HO2.out hb5))
    (try replace HO4 := Lib.hid (OwnD.below HO4.out hb5))
    (try replace HX1 := Lib.hid (HX1.out.below hb5))
    (try replace HX2 := Lib.hid (HX2.out.below hb5))
    (try replace HX4 := Lib.hid (HX4.out.below hb5))
    (try replace HS3 := Lib.hid (SSl.below HS3.out hb5))
    clear hb5
    obtain ⟨z0, z1, z2⟩ := HX4.out.cells
    go_wp2_with (go_at_call 8; refine (Nums.num_any _ _).mono ?_; rintro e w' ⟨rfl, rfl⟩)
    obtain ⟨hD4, _, _, _, _⟩ := HFD.out _ _ _ _ _ _ _ _ _ HO4.out
    refine (refStats_any FD A4 B4 n1 k4 j4 r4 _ hD4 hn12).mono ?_
    clear hD4
    rintro e w6 ⟨u6, rfl, hS6, hb6⟩
    clear z0 z1 z2
    replace HBT := Lib.hid (bthen HBT.out hb6 (Nat.le_refl _))
    (try replace HO1 := Lib.hid (OwnD.below HO1.out hb6))
    (try replace HO2 := Lib.hid (OwnD.below HO2.out hb6))
    (try replace HO4 := Lib.hid (OwnD.below HO4.out hb6))
    (try replace HX1 := Lib.hid (HX1.out.below hb6))
    (try replace HX2 := Lib.hid (HX2.out.below hb6))
    (try replace HX4 := Lib.hid (HX4.out.below hb6))
    (try replace HS3 := Lib.hid (SSl.below HS3.out hb6))
    clear hb6
    obtain ⟨A63, c63, rfl, _, _⟩ := OwnG.form hS6 HLS.out.symm
    have HS6 := Lib.hid (OwnS.sl hS6 HLS.out.symm); clear hS6
    go_wp2_with fail
    refine (sameStats_any A10 A63 LS c10 c63 (statsOf FD) _ HS3.out HS6.out (by unfold maxLen; omega)).mono ?_
    rintro e w7 ⟨rfl, kk, rfl⟩
    have hb7 : Below w6.heap.size w6 (w6.drewN kk) := below_drewN (Below.refl _ _) kk
    replace HBT := Lib.hid (bthen HBT.out hb7 (Nat.le_refl _))
    (try replace HO1 := Lib.hid (OwnD.below HO1.out hb7))
    (try replace HO2 := Lib.hid (OwnD.below HO2.out hb7))
    (try replace HO4 := Lib.hid (OwnD.below HO4.out hb7))
    (try replace HX1 := Lib.hid (HX1.out.below hb7))
    (try replace HX2 := Lib.hid (HX2.out.below hb7))
    (try replace HX4 := Lib.hid (HX4.out.below hb7))
    (try replace HS3 := Lib.hid (SSl.below HS3.out hb7))
    clear hb7 HS6 HS3
    generalize w6.drewN kk = w7 at *
    obtain ⟨x0, x1, x2⟩ := HX1.out.cells
    go_wp2_with fail
    refine (spoilColumns_any A1 _ n1 k1 FD.cols _ HO1.out.cols hnl (by unfold maxLen; omega)).mono ?_
    rintro e w8 ⟨rfl, hg8⟩
    have hW8 : Within w0.heap.size w1.heap.size w7 w8 := Within.of hg8 (fun k hk => ⟨(World.ownsRow.lt HO1.out.cols k hk).1, HK1.out.1 k hk⟩)
    have hR8 : OwnR w8 w0.heap.size (.slice B1 n1 j1) r1 := World.ownsRow.kept HO1.out.rows hg8 (own_ne HO1.out.rows HO1.out.cols (by decide))
    have hE8 : ∀ r ∈ r1, OwnV w8 w0.heap.size (.slice r.A r.n r.c) r.vs := fun r hr => World.ownsRow.kept (HO1.out.each r hr) hg8 (own_ne (HO1.out.each r hr) HO1.out.cols (by decide))
    have hX8 := hW8.dbox HX1.out (.inr (Nat.le_refl _))
    clear x0 x1 x2 hg8
    obtain ⟨x0, x1, x2⟩ := hX8.cells
    go_wp2_with fail
    refine (spoilRows_any B1 _ w1.heap.size n1 j1 r1 _ hR8 hr1l hE8 (by unfold maxLen; omega) HK1.out.2.1 HK1.out.2.2).mono ?_
    rintro e w9 ⟨rfl, hW9⟩
    clear x0 x1 x2 hX8 hR8 hE8
    have hWW := hW8.trans hW9
    have hWb := hWW.below (Nat.le_trans hWS (Nat.le_trans (Nat.le_of_lt HX1.out.lt) (Nat.le_refl _)))
    replace HBT := Lib.hid (HBT.out.trans (hWb.mono hwW))
    replace HO2 := Lib.hid (OwnD.within HO2.out hWW hsB2)
    replace HO4 := Lib.hid (OwnD.within HO4.out hWW hs3)
    replace HX2 := Lib.hid (hWW.dbox HX2.out (.inr hs2))
    replace HX4 := Lib.hid (hWW.dbox HX4.out (.inr hs4))
    clear hW8 hW9 hWW hWb HO1 HX1 HK1
    obtain ⟨y0, y1, y2⟩ := HX2.out.cells
    obtain ⟨z0, z1, z2⟩ := HX4.out.cells
    obtain ⟨hD2, _, _, _, _⟩ := HFD.out _ _ _ _ _ _ _ _ _ HO2.out
    obtain ⟨hD4, _, _, _, _⟩ := HFD.out _ _ _ _ _ _ _ _ _ HO4.out
    have hSD := sameData_any FD.rows FD.cols A2 B2 A4 B4 n1 k2 n1 j2 k4 j4 r2 r4 _ hD2.cols hD4.cols hD2.vals hD4.vals hD2.rows hD4.rows (by rw [← hD2.eq, ← hD4.eq]) (by unfold maxLen; omega) (by unfold maxLen; omega) (fun r hr => Nat.le_trans (hD2.nr r hr) (by unfold maxLen; omega))
    have HSD := Lib.hid hSD; clear hSD hD2 hD4
    go_wp2_with fail
    refine HSD.out.mono ?_
    rintro e wx ⟨rfl, hbx⟩
    replace HBT := Lib.hid (bthen HBT.out hbx (Nat.le_refl _))
    clear y0 y1 y2 z0 z1 z2 hbx HSD
    go_wp2_with fail
    refine (awake_any _).mono ?_
    rintro e wy ⟨rfl, hby⟩
    replace HBT := Lib.hid (bthen HBT.out hby (Nat.le_refl _))
    go_wp2_with fail
    go_ret
    exact ⟨rfl, HBT.out⟩
end Go.Proofs.YtgmemdedpklnhaaGreat.File
