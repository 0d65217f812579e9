/-
  Lemmas of this claim, text behind text: FileTold, FileMay, FileSize, BuilderK, FileOwn. Each states its own conditions.
-/
import Derived.Deep.QuietTactic
import Derived.BigQuiet
import Derived.Laws.ResultCell
import Derived.Test.YtgmemdedpklnhaaGreatPart05
import Derived.Test.YtgmemdedpklnhaaGreatPart13
import Derived.Test.YtgmemdedpklnhaaGreatPart14
import Derived.Test.YtgmemdedpklnhaaGreatPart15

/-
  THE WALK of colfile.told: the statistics of all columns.
-/


namespace Go.Proofs.YtgmemdedpklnhaaGreat.File
open Go.RowKit ValMath Vals Sl VecMath Vec Dat Stats

def sta (p : Colm × List Val) : Sta := ⟨p.1.id, (stat p.2).nulls, (stat p.2).mn, (stat p.2).mx⟩
def statsOf (d : Dat) : List Sta := (d.cols.zip d.vals).map sta
theorem stats_snoc {d : Dat} {q : Nat} {c : Colm} {vs : List Val} (hc : d.cols[q]? = some c) (hv : d.vals[q]? = some vs) : ((d.cols.zip d.vals).take (q + 1)).map sta = ((d.cols.zip d.vals).take q).map sta ++ [sta (c, vs)] := by
  have hz : (d.cols.zip d.vals)[q]? = some (c, vs) := by rw [List.getElem?_zip_eq_some]; exact ⟨hc, hv⟩
  rw [take_more hz, List.map_append]; rfl
theorem stat_one (c n : Int) (mn mx : Val) : ∀ u ∈ (#[.int .i64 c, .int .i64 n, .int .i64 mn.k, .int .i64 mn.i, .bool mn.b, .string mn.s, .int .i64 mx.k, .int .i64 mx.i, .bool mx.b, .string mx.s] : Array Value).toList, u.oneCell' = true := by simp [Value.oneCell']
theorem alloc_le {w W1 wT : World} (h : Below w.heap.size w W1) (hq : Below W1.heap.size W1 wT) (o : Obj) : w.heap.size ≤ (wT.alloc o).heap.size := by have := h.size; have := hq.size; simp; omega
theorem vsl_drew {w : World} {A : Option Addr} {n : Nat} {vs : List Val} (h : VSl w A n vs) : VSl w.drew A n vs := h
theorem told_keep {W1 wT wA : World} {g9 g b2 o2 q : Nat} {i : Int} {x y : Value} {o : Obj} {row : Option Nat}
    (h : ∀ wT, Below W1.heap.size W1 wT → (wT.cell? ⟨g9, 0, none⟩ = some (.int .i64 i) ∧ wT.cell? ⟨g, 2, none⟩ = some x ∧ wT.cell? ⟨b2, o2 + q, none⟩ = some y)) (hq : Below W1.heap.size W1 wT) (hg : (wT.alloc o).grownBy wA row)
    (h1 : some g9 ≠ row) (h2 : some g ≠ row) (h3 : some b2 ≠ row) : wA.cell? ⟨g9, 0, none⟩ = some (.int .i64 i) ∧ wA.cell? ⟨g, 2, none⟩ = some x ∧ wA.cell? ⟨b2, o2 + q, none⟩ = some y := by
  obtain ⟨a1, a2, a3⟩ := h _ (hq.alloc hq.size o)
  exact ⟨hg.cell a1 h1, hg.cell a2 h2, hg.cell a3 h3⟩
set_option maxRecDepth 20000 in
set_option maxHeartbeats 4000000 in
theorem told_any (g : Nat) (d : Dat) (AC AV : Option Addr) (nC cC cV : Nat) (rs : List RowA) (w : World) (hD : DBox w g d.rows (.slice AC nC cC) (.slice AV nC cV)) (h : DIn w d AC nC AV nC rs) (hn : nC ≤ 12) :
    Calls Tryz.prog 28 #[.pointer (some ⟨g, 0, none⟩)] w fun e w' => ∃ u, e = .returned u ∧ OwnS w' w.heap.size u (statsOf d) ∧ Below w.heap.size w w' := by
  obtain ⟨l1, l2⟩ := h.lens
  have hzl : (d.cols.zip d.vals).length = nC := by rw [List.length_zip]; omega
  have HD := Lib.hid hD
  have H := Lib.hid h; clear h
  obtain ⟨x0, x1, x2⟩ := hD.cells
  clear hD
  go_enter Tryz.func28, Tryz.ntmps28
  go_wp2
  go_loopw [3, 11] (fun ov iv wr => ∃ q : Nat, q ≤ nC ∧ iv = .int .i64 q ∧ OwnS wr w.heap.size ov (((d.cols.zip d.vals).take q).map sta) ∧ Below w.heap.size w wr) (fun _ iv _ => nC - (intOf iv).toNat)
  case atStart => exact ⟨0, Nat.zero_le _, rfl, OwnG.nil _ _ _ _ _, Below.refl _ _⟩
  case round =>
    obtain ⟨q, hq, rfl, hO, hb⟩ := hrel
    have hml : (((d.cols.zip d.vals).take q).map sta).length = q := by rw [List.length_map, List.length_take]; omega
    obtain ⟨A3, c3, rfl, _, _⟩ := OwnG.form hO hml
    by_cases hlt : q < nC
    · have hI := H.out.below hb
      obtain ⟨b1, o1, c, hc, hA1, hb1, y0, y1, y2⟩ := CSl.at_ hI.cols hlt
      obtain ⟨b2, o2, r, hr, hA2, hb2, z0⟩ := RSl.at_ hI.vals hlt
      have hrv := hI.row hr
      have hsn := stats_snoc hc hrv
      have hmem := List.mem_of_getElem? hr
      have hV := hI.rows r hmem
      have hrn := hI.nr r hmem
      have hT := fun w => fun h => of_any c.id r.A r.n r.c r.vs w h (Nat.le_trans hrn (by unfold maxLen; omega))
      have hDr := HD.out.below hb
      have hst : sta (c, r.vs) = ⟨c.id, (stat r.vs).nulls, (stat r.vs).mn, (stat r.vs).mx⟩ := rfl
      rw [hst] at hsn
      clear hst hI
      generalize ((d.cols.zip d.vals).take q).map sta = O at *
      generalize ((stat r.vs).nulls : Int) = N at *
      generalize (stat r.vs).mn = mn at *
      generalize (stat r.vs).mx = mx at *
      obtain ⟨kn, jn, bn, sn⟩ := mn
      obtain ⟨km, jm, bm, sm⟩ := mx
      obtain ⟨id, nm, kd⟩ := c
      obtain ⟨rA, rn, rc, rvs⟩ := r
      simp only [sagg] at hT hV hrn z0 y0 y1 y2
      have HS := Lib.hid (And.intro hsn hml); clear hsn hml hc hr hrv hmem
      have HT := Lib.hid hT; clear hT
      have hcb : CBox (wr.alloc (.cells #[.int .i64 id, .string nm, .int .i64 kd] 63)) wr.heap.size ⟨id, nm, kd⟩ := CBox.new wr ⟨id, nm, kd⟩
      have hD1 := hDr.alloc (.cells #[.int .i64 id, .string nm, .int .i64 kd] 63)
      have hV1 := hV.alloc (.cells #[.int .i64 id, .string nm, .int .i64 kd] 63)
      have hO1 := OwnG.alloc hO (.cells #[.int .i64 id, .string nm, .int .i64 kd] 63)
      have hb1' := bthen hb (Vals.one_new (w := wr) (.cells #[.int .i64 id, .string nm, .int .i64 kd] 63)) (Nat.le_refl _)
      have hz1 := (Vals.one_new (w := wr) (.cells #[.int .i64 id, .string nm, .int .i64 kd] 63)).cell (p := ⟨b2, o2 + q, none⟩) hb2
      rw [z0] at hz1
      subst hA1; subst hA2
      have hgw := HD.out.lt
      have hb2w : b2 < w.heap.size := by
        obtain ⟨b, o, hA, hl, _⟩ := H.out.vals.2 (by omega)
        injection hA with hA; injection hA with hA _; omega
      have hwr := hb.size
      go_upto_region 5 with fail
      generalize hW1 : wr.alloc (.cells #[.int .i64 id, .string nm, .int .i64 kd] 63) = W1 at *
      have hg9 : wr.heap.size < W1.heap.size := by rw [← hW1]; simp
      have hown := own_lt hO (Nat.le_refl _)
      generalize wr.heap.size = g9 at *
      have HCB := Lib.hid hcb
      have HDB := Lib.hid hD1
      have HZ := Lib.hid hz1
      have HV := Lib.hid hV1; clear hV1
      have HO := Lib.hid hO1; clear hO1
      have HB := Lib.hid hb1'; clear hb1'
      obtain ⟨y0, _, _⟩ := hcb.cells
      obtain ⟨_, _, x2⟩ := hD1.cells
      clear hW1 hcb hD1 hV hO hDr x0 x1 z0 hb
      simp only [] at y0
      have hi1 : (0 : Int) ≤ (q : Int) := by omega
      have hi2 : (q : Int) < (nC : Int) := by omega
      have hS : ∀ wT, Below W1.heap.size W1 wT → (wT.cell? ⟨g9, 0, none⟩ = some (.int .i64 id) ∧ wT.cell? ⟨g, 2, none⟩ = some (.slice (some ⟨b2, o2, none⟩) nC cV) ∧ wT.cell? ⟨b2, o2 + q, none⟩ = some (.slice rA rn rc)) :=
        fun wT h => ⟨(HCB.out.below h).cells.1, (HDB.out.below h).cells.2.2, (h.cell (p := ⟨b2, o2 + q, none⟩) (by show b2 < W1.heap.size; omega)).trans HZ.out⟩
      have HSS := Lib.hid hS; clear hS
      have hll : O.length + 1 ≤ maxLen ∧ (O.length + 1) * 96 ≤ 140737488355328 := by rw [HS.out.2]; unfold maxLen; omega
      have HLL := Lib.hid hll; clear hll
      have hne : some g ≠ (Value.slice A3 q c3).ownBlock ∧ some b2 ≠ (Value.slice A3 q c3).ownBlock := ⟨fun e => by have := own_base HO.out g e.symm; omega, fun e => by have := own_base HO.out b2 e.symm; omega⟩
      have HNE := Lib.hid hne; clear hne
      have HVD := Lib.hid (vsl_drew HV.out)
      have hq1 := Below.refl W1.heap.size W1
      have hSA := trivial
      obtain ⟨wT, hwT⟩ : ∃ wT : World, wT = W1 := ⟨_, rfl⟩
      clear hwT
      go_region_held3 (fun w' => w'.cell? ⟨g9, 0, none⟩ = some (.int .i64 id) ∧ w'.cell? ⟨g, 2, none⟩ = some (.slice (some ⟨b2, o2, none⟩) nC cV) ∧ w'.cell? ⟨b2, o2 + q, none⟩ = some (.slice rA rn rc))
        (first | go_keep | exact HSS.out _ hq1 | exact HSS.out _ (hq1.alloc hq1.size _) | exact hSA)
        ((first
          | (go_at_call 59; (with_reducible refine (HT.out _ HVD.out).mono ?_); rintro e wT ⟨rfl, hbT⟩; have hq1 : Below W1.heap.size W1 wT := bthen (Below.refl _ W1).drew hbT (Nat.le_refl _))
          | (refine step_push_g 73 40 _ 10 96 info_stat Tryz.underlying40 rfl (by omega) rfl (.tmp 16) (.tmp 28) rfl w.heap.size _ O ⟨id, N, ⟨kn, jn, bn, sn⟩, ⟨km, jm, bm, sm⟩⟩ wT.heap.size 1 rfl rfl _ rfl rfl (stat_one _ _ _ _) (heap_alloc_new wT _) (OwnG.alloc (OwnG.below HO.out hq1) _) HLL.out.1 HLL.out.2 (alloc_le HB.out hq1 _) ?_; intro u wA hA hgA hatA; have hSA := told_keep HSS.out hq1 hgA hown.symm HNE.out.1 HNE.out.2)))
      have hb5 := ((HB.out.trans (hq1.mono HB.out.size)).alloc (Nat.le_trans HB.out.size hq1.size) (.cells #[.int .i64 id, .int .i64 N, .int .i64 kn, .int .i64 jn, .bool bn, .string sn, .int .i64 km, .int .i64 jm, .bool bm, .string sm] 73)).grown hgA (by have := HB.out.size; have := hq1.size; simp; omega) (own_base HO.out)
      have HA := Lib.hid hA; clear hA
      go_wp2
      go_roundw
      case rel => exact ⟨q + 1, by omega, by go_num, by rw [HS.out.1]; exact HA.out, hb5⟩
      case measure => simp [intOf]; omega
    · obtain rfl : nC = q := by omega
      rw [List.take_of_length_le (by omega)] at hO
      have HO := Lib.hid hO; clear hO
      go_wp2
      go_ret
      exact ⟨_, rfl, HO.out, hb⟩
end Go.Proofs.YtgmemdedpklnhaaGreat.File

/-
  THE WALK of colfile.May.
-/



namespace Go.Proofs.YtgmemdedpklnhaaGreat.File
open Go.RowKit ValMath Vals Sl VecMath Vec Dat

def lastId (d : Dat) : Nat → Int
  | 0 => 0
  | q + 1 => (d.cols.getD q noCol).id
theorem getD_at {α : Type} {l : List α} {i : Nat} {x z : α} (h : l[i]? = some x) : l.getD i z = x := by rw [List.getD_eq_getElem?_getD, h]; rfl
theorem last_pos {d : Dat} {q : Nat} (h : ∀ i, i < q → colOk d i) : 0 ≤ lastId d q := by
  cases q with
  | zero => exact Int.le_refl 0
  | succ q => exact Int.le_of_lt (h q (by omega)).1
theorem colOk_iff {d : Dat} {q : Nat} {c : Colm} {vs : List Val} (h : ∀ i, i < q → colOk d i) (hc : d.cols[q]? = some c) (hv : d.vals[q]? = some vs) :
    colOk d q ↔ lastId d q < c.id ∧ c.name = ByteArray.empty ∧ (1 ≤ c.kind ∧ c.kind ≤ 3) ∧ (vs.length : Int) = d.rows ∧ vs.all (fits c.kind) = true := by
  have h0 := last_pos h
  unfold colOk
  rw [getD_at hc, getD_at hv]
  cases q with
  | zero => simp only [lastId, Nat.lt_irrefl, false_imp_iff, true_and]
  | succ q =>
    simp only [lastId, Nat.zero_lt_succ, true_imp_iff, Nat.add_sub_cancel] at h0 ⊢
    constructor
    · rintro ⟨_, a, b⟩; exact ⟨a, b⟩
    · rintro ⟨a, b⟩; exact ⟨by omega, a, b⟩
theorem may_not {d : Dat} {q : Nat} (hq : q < d.cols.length) (h : ¬ colOk d q) : decide (mayFile d) = false := decide_eq_false (fun e => h (e.2 q hq))
theorem all_not {k : Int} {vs : List Val} {j : Nat} {v : Val} (hv : vs[j]? = some v) (h : fits k v = false) : ¬ vs.all (fits k) = true := by
  intro e; have := List.all_eq_true.1 e v (List.mem_of_getElem? hv); rw [h] at this; cases this
theorem str_none {s : ByteArray} (h : s.toList.isEmpty = true) : s = ByteArray.empty := by
  rw [Lib.toList_data] at h
  apply toList_inj
  have : s.data.toList = [] := by simpa using h
  rw [this]; rfl
theorem quiet_q {k : Int} {b : Bool} (h : ∀ w, Calls Tryz.prog 36 #[.int .i64 k] w fun e w' => e = .returned (.bool b) ∧ w = w') (w : World) : Calls Tryz.prog 36 #[.int .i64 k] w fun e w' => e = .returned (.bool b) ∧ w' = w := (h w).mono fun _ _ h => ⟨h.1, h.2.symm⟩
set_option maxRecDepth 20000 in
set_option maxHeartbeats 8000000 in
theorem may_any (d : Dat) (AC AV : Option Addr) (nC cC nV cV : Nat) (rs : List RowA) (w : World) (h : DIn w d AC nC AV nV rs) :
    Calls Tryz.prog 9 #[dagg d.rows AC nC cC AV nV cV] w fun e w' => e = .returned (.bool (decide (mayFile d))) ∧ Below w.heap.size w w' := by
  obtain ⟨l1, l2⟩ := h.lens
  have hn1 := h.nc
  have hn2 := h.nv
  obtain ⟨R, hR⟩ : ∃ R, R = d.rows := ⟨_, rfl⟩
  rw [← hR]
  have HR := Lib.hid hR; clear hR
  have hD : DBox (w.alloc (.cells #[.int .i64 R, .slice AC nC cC, .slice AV nV cV] 25)) w.heap.size R (.slice AC nC cC) (.slice AV nV cV) := DBox.new w _ _ _
  have hbt := Vals.one_new (w := w) (.cells #[.int .i64 R, .slice AC nC cC, .slice AV nV cV] 25)
  have h0 := h.below hbt
  obtain ⟨x0, x1, x2⟩ := hD.cells
  have HD := Lib.hid hD; clear hD
  have HB := Lib.hid hbt; clear hbt
  have H := Lib.hid h0; clear h0 h
  by_cases hh : headOk d
  · obtain ⟨a1, a2, a3, a4, a5⟩ := hh
    rw [l1] at a3 a4
    have a5' : nV = nC := by omega
    subst a5'
    have HH := Lib.hid (show headOk d from ⟨a1, a2, by omega, by omega, a5⟩)
    clear a5 l2
    have HL := Lib.hid l1; clear l1
    rw [← HR.out] at a1 a2
    go_enter Tryz.func9, Tryz.ntmps9
    go_wp2
    generalize hW0 : w.alloc (.cells #[.int .i64 R, .slice AC nV cC, .slice AV nV cV] 25) = W0 at *
    have HDB := HD
    go_loopw [3, 40] (fun lv iv wr => ∃ q : Nat, q ≤ nV ∧ iv = .int .i64 q ∧ lv = .int .i64 (lastId d q) ∧ (∀ i, i < q → colOk d i) ∧ Below W0.heap.size W0 wr) (fun _ iv _ => nV - (intOf iv).toNat)
    case atStart => exact ⟨0, Nat.zero_le _, rfl, rfl, fun i hi => absurd hi (Nat.not_lt_zero _), Below.refl _ _⟩
    case round =>
      obtain ⟨q, hq, rfl, rfl, hal, hb⟩ := hrel
      by_cases hlt : q < nV
      · have hI := H.out.below hb
        obtain ⟨b1, o1, c, hc, hA1, hb1, y0, y1, y2⟩ := CSl.at_ hI.cols hlt
        obtain ⟨b2, o2, r, hr, hA2, hb2, z0⟩ := RSl.at_ hI.vals hlt
        have hmem := List.mem_of_getElem? hr
        have hV := hI.rows r hmem
        have hrn := hI.nr r hmem
        have hfv := hI.fv r hmem
        have hrl := hV.1
        have hiff := colOk_iff hal hc (hI.row hr)
        have hnot := fun h => may_not (d := d) (q := q) (by rw [HL.out]; exact hlt) h
        have hDr := HDB.out.below hb
        have hnext : lastId d (q + 1) = c.id := by show (d.cols.getD q noCol).id = c.id; rw [getD_at hc]
        obtain ⟨la, hla⟩ : ∃ la, la = lastId d q := ⟨_, rfl⟩
        rw [← hla] at hiff
        obtain ⟨id, nm, kd⟩ := c
        obtain ⟨rA, rn, rc, rvs⟩ := r
        simp only [] at hV hrn z0 y0 y1 y2 hfv hrl hiff hnext
        rw [hrl, ← HR.out] at hiff
        have HLA := Lib.hid hla; clear hla
        have hcb : CBox (wr.alloc (.cells #[.int .i64 id, .string nm, .int .i64 kd] 63)) wr.heap.size ⟨id, nm, kd⟩ := CBox.new wr ⟨id, nm, kd⟩
        have hD1 := hDr.alloc (.cells #[.int .i64 id, .string nm, .int .i64 kd] 63)
        have hV1 := hV.alloc (.cells #[.int .i64 id, .string nm, .int .i64 kd] 63)
        have hb1' := bthen hb (Vals.one_new (w := wr) (.cells #[.int .i64 id, .string nm, .int .i64 kd] 63)) (Nat.le_refl _)
        have hz1 := (Vals.one_new (w := wr) (.cells #[.int .i64 id, .string nm, .int .i64 kd] 63)).cell (p := ⟨b2, o2 + q, none⟩) hb2
        rw [z0] at hz1
        have HI := Lib.hid (And.intro hal (And.intro hiff (And.intro hnot (And.intro hnext hfv)))); clear hal hiff hnot hnext hfv hc hr hmem hrl hI
        subst hA1; subst hA2
        rw [← HLA.out]
        go_upto_region 7 with fail
        generalize hW1 : wr.alloc (.cells #[.int .i64 id, .string nm, .int .i64 kd] 63) = W1 at *
        have hg9 : wr.heap.size < W1.heap.size := by rw [← hW1]; simp
        generalize wr.heap.size = g9 at *
        have HCB := Lib.hid hcb
        have HDB1 := Lib.hid hD1
        have HV := Lib.hid hV1; clear hV1
        have HB1 := Lib.hid hb1'; clear hb1'
        obtain ⟨u0, u1, u2⟩ := hcb.cells
        obtain ⟨v0, v1, v2⟩ := hD1.cells
        clear hW1 hcb hD1 hV hDr x0 x1 x2 y0 y1 y2 z0 hb
        simp only [] at u0 u1 u2
        have hi1 : (0 : Int) ≤ (q : Int) := by omega
        have hi2 : (q : Int) < (nV : Int) := by omega
        have HK := Lib.hid (fun w => kind_any kd w)
        by_cases e1 : id ≤ la
        · have hd1 : decide (id ≤ la) = true := decide_eq_true e1
          have hf := HI.out.2.2.1 (fun e => by have := (HI.out.2.1.1 e).1; omega)
          have HKQ := Lib.hid (quiet_q HK.out)
          have HF := Lib.hid hf; clear hf
          go_quiet ((go_at_call 36; exact Calls.quiet_of_same (HKQ.out _)))
          go_wp2
          go_ret
          exact ⟨by rw [HF.out]; rfl, below_drewN (bthen HB.out HB1.out (Nat.le_refl _)) _⟩
        have e1' : la < id := by omega
        have hd1 : decide (id ≤ la) = false := decide_eq_false (by omega)
        clear e1
        by_cases e2 : nm = ByteArray.empty
        · have e2' : nm.toList.isEmpty = true := by rw [e2, Lib.toList_data]; rfl
          have HE2 := Lib.hid e2; clear e2
          by_cases e3 : 1 ≤ kd ∧ kd ≤ 3
          · have hk := HK.out
            rw [decide_eq_true e3] at hk
            replace HK := Lib.hid hk; clear hk
            have HKQ := Lib.hid (quiet_q HK.out)
            by_cases e4 : (rn : Int) = R
            · have e4' : ((rn : Int) != R) = false := by simp [e4]
              have hall : (∀ v ∈ rvs, fits kd v = true) → colOk d q := fun h => HI.out.2.1.2 ⟨e1', HE2.out, e3, e4, List.all_eq_true.2 h⟩
              have hfv := HI.out.2.2.2.2
              have HAL := Lib.hid (And.intro hall hfv); clear hall hfv
              clear e4 e3
              go_region_held3 (fun w' => (w'.cell? ⟨g9, 0, none⟩ = some (.int .i64 id) ∧ w'.cell? ⟨g9, 1, none⟩ = some (.string nm) ∧ w'.cell? ⟨g9, 2, none⟩ = some (.int .i64 kd)) ∧ (w'.cell? ⟨w.heap.size, 0, none⟩ = some (.int .i64 R) ∧ w'.cell? ⟨w.heap.size, 2, none⟩ = some (.slice (some ⟨b2, o2, none⟩) nV cV)) ∧ w'.cell? ⟨b2, o2 + q, none⟩ = some (.slice rA rn rc))
                (go_keep)
                ((first | (go_at_call 36; with_reducible refine (HK.out _).mono ?_; rintro e w' ⟨rfl, rfl⟩)))
              have HVd := Lib.hid (show VSl W1.drew rA rn rvs from HV.out)
              have HCd := Lib.hid HCB.out.drew
              have HBd := Lib.hid HB1.out.drew
              have hg9d : g9 < W1.drew.heap.size := hg9
              clear HV HCB HDB1 HB1 HK u0 u1 u2 v0 v1 v2 hz1 hg9
              generalize W1.drew = W2 at *
              go_wp2
              go_loopw [81] (fun iv wi => ∃ j : Nat, j ≤ rn ∧ iv = .int .i64 j ∧ (∀ v ∈ rvs.take j, fits kd v = true) ∧ Below W2.heap.size W2 wi) (fun iv _ => rn - (intOf iv).toNat)
              case atStart => exact ⟨0, Nat.zero_le _, rfl, by simp, Below.refl _ _⟩
              case round =>
                obtain ⟨j, hj, rfl, hfj, hbj⟩ := hrel
                by_cases hjl : j < rn
                · obtain ⟨b3, o3, v, hv, hA3, hb3, c0, c1, c2, c3⟩ := (HVd.out.below hbj).at_ hjl
                  have hvf := HAL.out.2 v (List.mem_of_getElem? hv)
                  have hF := fun w => fits_any kd v w hvf
                  have hcc := HCd.out.below hbj
                  have hts := take_more hv
                  have hbv : Below W2.heap.size W2 (wr.alloc (.cells #[.int .i64 v.k, .int .i64 v.i, .bool v.b, .string v.s] 71)) := hbj.alloc hbj.size _
                  have hc2 := (hcc.alloc (.cells #[.int .i64 v.k, .int .i64 v.i, .bool v.b, .string v.s] 71)).cells.2.2
                  subst hA3
                  by_cases hfit : fits kd v = true
                  · rw [hfit] at hF
                    have hfj2 : ∀ u ∈ rvs.take (j + 1), fits kd u = true := by
                      rw [hts]; intro u hu; rw [List.mem_append, List.mem_singleton] at hu
                      rcases hu with hu | rfl
                      · exact hfj u hu
                      · exact hfit
                    obtain ⟨kv, iv, bv, sv⟩ := v
                    simp only [vagg] at c0 c1 c2 c3 hF hbv hc2
                    have HF := Lib.hid hF; clear hF
                    have HFJ := Lib.hid hfj2; clear hfj2 hfj hfit hts hvf hv
                    go_wp2_with (go_at_call 37; (with_reducible refine (HF.out _).mono ?_); rintro e wF ⟨rfl, hbF⟩)
                    go_roundw
                    case rel => exact ⟨j + 1, by omega, by go_num, HFJ.out, bthen hbv hbF (Nat.le_refl _)⟩
                    case measure => simp [intOf]; omega
                  · have hfit' : fits kd v = false := by simpa using hfit
                    rw [hfit'] at hF
                    have hf := HI.out.2.2.1 (fun e => all_not hv hfit' (HI.out.2.1.1 e).2.2.2.2)
                    obtain ⟨kv, iv, bv, sv⟩ := v
                    simp only [vagg] at c0 c1 c2 c3 hF hbv hc2
                    have HF := Lib.hid hF; clear hF
                    have HNF := Lib.hid hf; clear hf hfj hfit hfit' hts hvf hv
                    go_wp2_with (go_at_call 37; (with_reducible refine (HF.out _).mono ?_); rintro e wF ⟨rfl, hbF⟩)
                    go_ret
                    exact ⟨by rw [HNF.out]; rfl, bthen (bthen (bthen HB.out HBd.out (Nat.le_refl _)) hbv (Nat.le_refl _)) hbF (Nat.le_refl _)⟩
                · obtain rfl : rn = j := by omega
                  have hok : colOk d q := HAL.out.1 (fun v hv => hfj v (by rw [List.take_of_length_le (by rw [HVd.out.1]; exact Nat.le_refl _)]; exact hv))
                  have hal2 : ∀ i, i < q + 1 → colOk d i := fun i hi => by
                    rcases Nat.lt_or_ge i q with h | h
                    · exact HI.out.1 i h
                    · obtain rfl : i = q := by omega
                      exact hok
                  have HA2 := Lib.hid hal2; clear hal2 hok hfj
                  go_wp2
                  go_roundw
                  case rel => exact ⟨q + 1, by omega, by go_num, by rw [HI.out.2.2.2.1], HA2.out, bthen HBd.out hbj (Nat.le_refl _)⟩
                  case measure => simp [intOf]; omega
            · have hf := HI.out.2.2.1 (fun e => e4 (HI.out.2.1.1 e).2.2.2.1)
              have e4' : ((rn : Int) != R) = true := by simpa using e4
              clear e4 e3
              have HF := Lib.hid hf; clear hf
              go_quiet ((go_at_call 36; exact Calls.quiet_of_same (HKQ.out _)))
              go_wp2
              go_ret
              exact ⟨by rw [HF.out]; rfl, below_drewN (bthen HB.out HB1.out (Nat.le_refl _)) _⟩
          · have hk := HK.out
            rw [decide_eq_false e3] at hk
            replace HK := Lib.hid hk; clear hk
            have HKQ := Lib.hid (quiet_q HK.out)
            have hf := HI.out.2.2.1 (fun e => e3 (HI.out.2.1.1 e).2.2.1)
            clear e3
            have HF := Lib.hid hf; clear hf
            go_quiet ((go_at_call 36; exact Calls.quiet_of_same (HKQ.out _)))
            go_wp2
            go_ret
            exact ⟨by rw [HF.out]; rfl, below_drewN (bthen HB.out HB1.out (Nat.le_refl _)) _⟩
        · have hf := HI.out.2.2.1 (fun e => e2 (HI.out.2.1.1 e).2.1)
          have e2' : nm.toList.isEmpty = false := by
            cases hh : nm.toList.isEmpty with
            | false => rfl
            | true => exact absurd (str_none hh) e2
          have e2'' : (!nm.toList.isEmpty) = true := by rw [e2']; rfl
          clear e2
          have HKQ := Lib.hid (quiet_q HK.out)
          have HF := Lib.hid hf; clear hf
          go_quiet ((go_at_call 36; exact Calls.quiet_of_same (HKQ.out _)))
          go_wp2
          go_ret
          exact ⟨by rw [HF.out]; rfl, below_drewN (bthen HB.out HB1.out (Nat.le_refl _)) _⟩
      · obtain rfl : nV = q := by omega
        have hmy : decide (mayFile d) = true := decide_eq_true ⟨HH.out, fun i hi => hal i (by rw [HL.out] at hi; exact hi)⟩
        have HM := Lib.hid hmy; clear hmy
        go_wp2
        go_ret
        exact ⟨by rw [HM.out]; rfl, bthen HB.out hb (Nat.le_refl _)⟩
  · have hf : decide (mayFile d) = false := decide_eq_false (fun e => hh e.1)
    have HF := Lib.hid hf; clear hf
    unfold headOk at hh
    rw [l1, l2, ← HR.out] at hh
    clear l1 l2
    by_cases a1 : R < 0
    · clear hh
      go_enter Tryz.func9, Tryz.ntmps9
      go_wp2
      go_ret
      exact ⟨by rw [HF.out]; rfl, HB.out⟩
    · by_cases a2 : 4096 < R
      · clear hh
        go_enter Tryz.func9, Tryz.ntmps9
        go_wp2
        go_ret
        exact ⟨by rw [HF.out]; rfl, HB.out⟩
      · by_cases a3 : nC = 0
        · clear hh
          subst a3
          have a1' : 0 ≤ R := by omega
          have a2' : R ≤ 4096 := by omega
          clear a1 a2
          go_enter Tryz.func9, Tryz.ntmps9
          go_wp2
          go_ret
          exact ⟨by rw [HF.out]; rfl, HB.out⟩
        · have a3' : 1 ≤ nC := by omega
          have a1' : 0 ≤ R := by omega
          have a2' : R ≤ 4096 := by omega
          by_cases a4 : 12 < nC
          · clear hh a1 a2 a3
            go_enter Tryz.func9, Tryz.ntmps9
            go_wp2
            go_ret
            exact ⟨by rw [HF.out]; rfl, HB.out⟩
          · have a4' : nC ≤ 12 := by omega
            have a5 : (((nV : Int)) != (nC : Int)) = true := by simp; omega
            clear hh a1 a2 a3 a4
            go_enter Tryz.func9, Tryz.ntmps9
            go_wp2
            go_ret
            exact ⟨by rw [HF.out]; rfl, HB.out⟩
end Go.Proofs.YtgmemdedpklnhaaGreat.File

/-
  SIZES of a file's pieces; what stands in a column's statistics.
-/

namespace Go.Proofs.YtgmemdedpklnhaaGreat.File
open Go.RowKit ValMath Vals Sl VecMath Vec Dat

/-- A value as it stands in statistics: clean, no longer than a text may be. -/
structure Small (v : Val) : Prop where
  f : Fine v
  k0 : 0 ≤ v.k
  k1 : v.k ≤ 3
  s : v.s.size ≤ 64
  c : clean v = v
theorem small_nul : Small nul := ⟨Sl.fine_nul, by decide, by decide, by decide, clean_nul⟩
theorem small_of {k : Int} {v : Val} (hf : Fine v) (h : fits k v = true) : Small (clean v) := by
  refine ⟨hf.clean, ?_, ?_, fits_size h, clean_clean v⟩
  · rw [clean_kind]; split <;> omega
  · rw [clean_kind]; split <;> omega
theorem best_small {lt : Val → Val → Bool} {a b : Val} (ha : Small a) (hb : Small (clean b)) : Small (ValMath.best lt a b) := by
  unfold ValMath.best; split
  · exact hb
  · rw [ha.c]; exact ha
theorem stat_small {k : Int} {vs : List Val} (hf : ∀ v ∈ vs, Fine v) (h : ∀ v ∈ vs, fits k v = true) : Small (stat vs).mn ∧ Small (stat vs).mx ∧ (stat vs).nulls ≤ vs.length := by
  induction vs using snoc_ind with
  | h0 => exact ⟨small_nul, small_nul, Nat.le_refl _⟩
  | h1 vs v ih =>
    obtain ⟨i1, i2, i3⟩ := ih (fun u hu => hf u (by simp [hu])) (fun u hu => h u (by simp [hu]))
    have hv := small_of (hf v (by simp)) (h v (by simp))
    rw [stat_snoc]
    refine ⟨best_small (lt := less) i1 hv, best_small (lt := fun x y => less y x) i2 hv, ?_⟩
    unfold addS
    simp only [List.length_append, List.length_singleton]
    split <;> omega
theorem colBytes_len {p : Colm × List Val} (hf : ∀ v ∈ p.2, Fine v) : (colBytes p).length ≤ 401100 := by
  have h1 := cnt_size p.1.id.toNat
  have h2 := put_small p.1.kind hf
  have h3 := cnt_size (put p.1.kind p.2).length
  unfold colBytes
  simp only [List.length_append, List.length_singleton]; omega
theorem cols_len (l : List (Colm × List Val)) (hf : ∀ p ∈ l, ∀ v ∈ p.2, Fine v) : (l.flatMap colBytes).length ≤ l.length * 401100 := by
  induction l with
  | nil => simp
  | cons p l ih =>
    have h1 := colBytes_len (hf p (by simp))
    have h2 := ih (fun q hq => hf q (by simp [hq]))
    rw [List.flatMap_cons, List.length_append, List.length_cons]; omega
theorem statBytes_len {k : Int} {vs : List Val} (hf : ∀ v ∈ vs, Fine v) (h : ∀ v ∈ vs, fits k v = true) : (statBytes vs).length ≤ 162 := by
  obtain ⟨h1, h2, _⟩ := stat_small hf h
  have h3 := cnt_size (stat vs).nulls
  have h4 := limit_len _ h1.s
  have h5 := limit_len _ h2.s
  unfold statBytes
  simp only [List.length_append]; omega
theorem stats_len (l : List (List Val)) (hf : ∀ vs ∈ l, (∀ v ∈ vs, Fine v) ∧ ∃ k, ∀ v ∈ vs, fits k v = true) : (l.flatMap statBytes).length ≤ l.length * 162 := by
  induction l with
  | nil => simp
  | cons p l ih =>
    obtain ⟨a, k, b⟩ := hf p (by simp)
    have h1 := statBytes_len a b
    have h2 := ih (fun q hq => hf q (by simp [hq]))
    rw [List.flatMap_cons, List.length_append, List.length_cons]; omega
def fileErr (d : Dat) : Nat := if fileOk d then 0 else 1100
theorem cols_snoc {d : Dat} {q : Nat} {c : Colm} {vs : List Val} (hc : d.cols[q]? = some c) (hv : d.vals[q]? = some vs) : ((d.cols.zip d.vals).take (q + 1)).flatMap colBytes = ((d.cols.zip d.vals).take q).flatMap colBytes ++ colBytes (c, vs) := by
  have hz : (d.cols.zip d.vals)[q]? = some (c, vs) := by rw [List.getElem?_zip_eq_some]; exact ⟨hc, hv⟩
  rw [take_more hz, List.flatMap_append]; simp
theorem sts_snoc {d : Dat} {q : Nat} {vs : List Val} (hv : d.vals[q]? = some vs) : (d.vals.take (q + 1)).flatMap statBytes = (d.vals.take q).flatMap statBytes ++ statBytes vs := by
  rw [take_more hv, List.flatMap_append]; simp
/-- Each column of data that may be. -/
theorem col_facts {w : World} {d : Dat} {AC AV : Option Addr} {nC nV q : Nat} {rs : List RowA} (h : DIn w d AC nC AV nV rs) (hm : mayFile d) {c : Colm} {r : RowA} (hc : d.cols[q]? = some c) (hr : rs[q]? = some r) (hq : q < nC) :
    (∃ idn kn : Nat, c = ⟨(idn : Int), ByteArray.empty, (kn : Int)⟩ ∧ 0 < idn ∧ idn < 9223372036854775808 ∧ 1 ≤ kn ∧ kn ≤ 3) ∧ mayErr c.kind r.vs = 0 ∧ (∀ v ∈ r.vs, Fine v) ∧ (∀ v ∈ r.vs, fits c.kind v = true) := by
  have hok := hm.2 q (by rw [h.lens.1]; exact hq)
  unfold colOk at hok
  rw [getD_at hc, getD_at (h.row hr)] at hok
  obtain ⟨a1, _, a3, a4, a5, a6⟩ := hok
  have hfc := h.fc c (List.mem_of_getElem? hc)
  have hhd := hm.1
  unfold headOk at hhd
  refine ⟨?_, ?_, h.fv r (List.mem_of_getElem? hr), fun v hv => List.all_eq_true.1 a6 v hv⟩
  · obtain ⟨id, nm, kd⟩ := c
    simp only [] at a1 a3 a4
    have := hfc.i2
    simp only [] at this
    refine ⟨id.toNat, kd.toNat, ?_, by omega, by omega, by omega, by omega⟩
    rw [a3]; congr 1 <;> omega
  · unfold mayErr
    rw [if_neg (by omega), if_neg (by omega), if_pos a6]
theorem head_nat {d : Dat} (h : mayFile d) : ∃ Rn : Nat, d.rows = (Rn : Int) ∧ Rn ≤ 4096 := ⟨d.rows.toNat, by have := h.1.1; omega, by have := h.1.2.1; omega⟩
end Go.Proofs.YtgmemdedpklnhaaGreat.File

/-
  THE WALK of strings.Builder's WriteString, and what it leaves as it was: rows of other elements, above the builder too.
-/

namespace Go.Proofs.YtgmemdedpklnhaaGreat.Bld
open Go.RowKit

theorem own_kind {w : World} {B z n : Nat} {e : TypeId} {v : Value} {xs : List Value} (h : w.ownsRow B e z v n xs) : ∀ k, v.ownBlock = some k → ∃ c fz, w.heap[k]? = some (.cells c e fz) := by
  intro k hk
  rcases h.2 with ⟨rfl, _⟩ | ⟨g, cap, cur, rfl, _, hg, _⟩
  · cases hk
  · simp only [Value.ownBlock, Option.some.injEq] at hk
    subst hk
    exact ⟨cur, _, hg⟩
theorem check_k (B b : Nat) (l : List UInt8) (w : World) (h : Bld w B b l) :
    Calls Tryz.prog 55 #[.pointer (some ⟨b, 0, none⟩)] w fun e w' => e = .returned (.tuple #[]) ∧ Used w' B b l ∧ Below B w w' ∧ Lib.OthersKept 5 (some b) w w' := by
  rcases h with h | h
  · refine (check_fresh b w h.cell0 h.shape h.frozen0).mono ?_
    rintro e w' ⟨rfl, rfl⟩
    exact ⟨rfl, h.used _, (Below.refl B w).setCell (p := ⟨b, 0, none⟩) h.1 _, (Lib.OthersKept.refl 5 (some b) w).setCell ⟨b, 0, none⟩ rfl _⟩
  · refine (check_used b w h.cell0).mono ?_
    rintro e w' ⟨rfl, rfl⟩
    exact ⟨rfl, h, Below.refl B _, Lib.OthersKept.refl _ _ _⟩
set_option maxRecDepth 100000 in
set_option maxHeartbeats 2000000 in
theorem write_k (B b : Nat) (l : List UInt8) (s : ByteArray) (w : World) (h : Bld w B b l) (hlen : l.length + s.size ≤ 140737488355328) (hB : B ≤ w.heap.size) :
    Calls Tryz.prog 25 #[.pointer (some ⟨b, 0, none⟩), .string s] w fun e w' => e = .returned (.tuple #[.int .i64 s.size, .nilIface]) ∧ Used w' B b (l ++ s.data.toList) ∧ Below B w w' ∧ Lib.OthersKept 5 (some b) w w' := by
  obtain ⟨i0, hi, hz0, hz1, hz2⟩ := info_parts (show (Tryz.prog.info? 5).map (fun i => (i.zero, i.size, i.bytes)) = some (some (.int .u8 0), 1, 1) by kernel_rfl)
  go_enter Tryz.func25, Tryz.ntmps25
  go_wp2_with (first
    | (go_at_call 55; (refine (check_k B b l _ h).mono ?_); (rintro e w1 ⟨rfl, h1, hb1, hk1⟩); (obtain ⟨hBb, v, hbk, hown, hne⟩ := h1); (have c0 : w1.cell? ⟨b, 0, none⟩ = some (.pointer (some ⟨b, 0, none⟩)) := by (rw [Lib.cell_of_heap hbk]; rfl)); (have c1 : w1.cell? ⟨b, 1, none⟩ = some v := by (rw [Lib.cell_of_heap hbk]; rfl)); have HH := Lib.hid (And.intro hbk (And.intro hown hne)); clear hbk hown hne; have hsz1 := hb1.size)
    | (at_builtin; (refine Lib.wpList_append_own_string w1 rfl (.tmp 12) (.tmp 13) 54 9 rfl B 5 i0 Tryz.underlying54 Tryz.underlying9 hi hz0 hz1 hz2 v _ _ rfl HH.out.2.1 s rfl (by rw [Lib.byteCells_length]; unfold maxLen; omega) (by rw [Lib.byteCells_length]; omega) (Nat.le_trans hB hb1.size) ?_); (intro v' w2 hown' hgrow _); (obtain ⟨ao, n', cap, rfl⟩ : ∃ ao n' cap, v' = .slice ao n' cap := (by rcases hown'.2 with ⟨hv, _⟩ | ⟨g, cap, cur, hv, _⟩; exact ⟨_, _, _, hv⟩; exact ⟨_, _, _, hv⟩)); (have hlt : b < w1.heap.size := Lib.BuilderAt.lt (T := 56) (e := 5) (p := .pointer (some ⟨b, 0, none⟩)) (bs := Lib.byteCells l) ⟨hBb, v, HH.out⟩); (have hb2 : w2.heap[b]? = some (.cells #[.pointer (some ⟨b, 0, none⟩), v] 56 (0, 0)) := (hgrow.block b hlt (fun e => HH.out.2.2 e.symm)).trans HH.out.1); (have d0 : w2.cell? ⟨b, 0, none⟩ = some (.pointer (some ⟨b, 0, none⟩)) := by (rw [Lib.cell_of_heap hb2]; rfl)); (have d1 : w2.cell? ⟨b, 1, none⟩ = some v := by (rw [Lib.cell_of_heap hb2]; rfl)); (have f1 : w2.frozen? ⟨b, 1, none⟩ = false := Lib.frozen_of_heap hb2 1); (have H2 := Lib.hid (And.intro hown' (And.intro hgrow hb2))); (clear hown' hgrow hb2; clear c0 c1)))
  go_ret2
  refine ⟨rfl, ?_, ?_, ?_⟩
  · have := Lib.BuilderAt.put (T := 56) (e := 5) hBb H2.out.2.2 (bs' := Lib.byteCells l ++ Lib.strCells s) (v' := .slice ao n' cap) (by have := H2.out.1; simpa [Lib.strCells_length] using this) neB
    rw [cells_append] at this
    exact this
  · exact (hb1.grown H2.out.2.1 (by have := hb1.size; omega) (fun k hk => (HH.out.2.1.lt k hk).1)).setCell (p := ⟨b, 1, none⟩) hBb _
  · exact (hk1.grown H2.out.2.1 (fun k hk => own_kind HH.out.2.1 k hk)).setCell ⟨b, 1, none⟩ rfl _
end Go.Proofs.YtgmemdedpklnhaaGreat.Bld

/-
  DATA THAT THE CALL OWNS: columns, rows, each row's values; while it is read out of bytes.
-/




namespace Go.Proofs.YtgmemdedpklnhaaGreat.File
open Go.RowKit ValMath Vals Sl VecMath Vec Dat

theorem ret_data {fn : Func} {p u : Tmp} {w : World} {g : Nat} {rows : Int} {C V : Value} {a : Act} {R : Ending → World → Prop} (hb : DBox w g rows C V) (h : fn.results = #[.cell p 25, .tmp u]) (hp : a.tmps.getD p undef = .pointer (some ⟨g, 0, none⟩)) (hd : a.defers = [])
    (hr : R (.returned (.tuple #[.agg #[.int .i64 rows, C, V], a.tmps.getD u undef])) w) : bodyPost Tryz.prog fn R .ret a w := by
  refine bodyPost_ret (v := .tuple #[.agg #[.int .i64 rows, C, V], a.tmps.getD u undef]) ?_ hd hr
  rw [results_cell_tmp h, hp]
  have hl := run_loadVar_row (P := Tryz.prog) w g 25 25 _ (0, 0) _ hb Tryz.underlying25 rfl (by kernel_rfl)
  simp [asAddr, hl, Result.andThen]
theorem own_ne_heap {w : World} {B z n g : Nat} {e T : TypeId} {v : Value} {xs : List Value} {cs : Array Value} {fr : Nat × Nat} (h : w.ownsRow B e z v n xs) (hg : w.heap[g]? = some (.cells cs T fr)) (hne : e ≠ T) : v.ownBlock ≠ some g := by
  intro he
  obtain ⟨c, fz, hc⟩ := Bld.own_kind h g he
  rw [hg] at hc
  injection hc with hc
  injection hc with _ h2 _
  exact hne h2.symm
theorem own_keep {w w' : World} {B z n g : Nat} {e T : TypeId} {v : Value} {xs : List Value} {cs : Array Value} {fr : Nat × Nat} (h : w.ownsRow B e z v n xs) (hg : w.heap[g]? = some (.cells cs T fr)) (hne : e ≠ T) (hgr : w.grownBy w' (some g)) : w'.ownsRow B e z v n xs :=
  World.ownsRow.kept h hgr (.inr (own_ne_heap h hg hne))
theorem box_keep {w w' : World} {B z n g : Nat} {e T : TypeId} {v : Value} {xs : List Value} {cs : Array Value} {fr : Nat × Nat} (hg : w.heap[g]? = some (.cells cs T fr)) (h : w.ownsRow B e z v n xs) (hne : e ≠ T) (hgr : w.grownBy w' v.ownBlock) : w'.heap[g]? = some (.cells cs T fr) :=
  (hgr.block g (Array.getElem?_eq_some_iff.1 hg).1 (fun e2 => own_ne_heap h hg hne e2.symm)).trans hg
/-- Data that the call owns. -/
structure OwnD (w : World) (B : Nat) (d : Dat) (C V : Value) (rs : List RowA) : Prop where
  cols : OwnC w B C d.cols
  rows : OwnR w B V rs
  each : ∀ r ∈ rs, OwnV w B (.slice r.A r.n r.c) r.vs
  eq : d.vals = rs.map (·.vs)
theorem OwnD.below {w w' : World} {B : Nat} {d : Dat} {C V : Value} {rs : List RowA} (h : OwnD w B d C V rs) (hb : Below w.heap.size w w') : OwnD w' B d C V rs :=
  ⟨OwnG.below h.cols hb, OwnG.below h.rows hb, fun r hr => (h.each r hr).below hb, h.eq⟩
/-- .. in the midst of reading: a reader, the data's own block. -/
structure Mid (w : World) (B gr g7 : Nat) (rq : Rd) (n1 : Int) (C V : Value) (cs : List (Colm × List Val)) (rs : List RowA) : Prop where
  rd : Rdr 88 w gr rq
  box : DBox w g7 n1 C V
  own : OwnD w B ⟨n1, cs.map (·.1), cs.map (·.2)⟩ C V rs
theorem Mid.below {w w' : World} {B gr g7 : Nat} {rq : Rd} {n1 : Int} {C V : Value} {cs : List (Colm × List Val)} {rs : List RowA} (h : Mid w B gr g7 rq n1 C V cs rs) (hb : Below w.heap.size w w') : Mid w' B gr g7 rq n1 C V cs rs :=
  ⟨h.rd.below hb, h.box.below hb, h.own.below hb⟩
theorem Mid.ne {w : World} {B gr g7 : Nat} {rq : Rd} {n1 : Int} {C V : Value} {cs : List (Colm × List Val)} {rs : List RowA} (h : Mid w B gr g7 rq n1 C V cs rs) : gr ≠ g7 := by
  intro e
  have h1 := h.rd
  have h2 := h.box
  unfold Rdr at h1; unfold DBox at h2
  rw [e, h2] at h1
  injection h1 with h1
  injection h1 with _ h1 _
  exact absurd h1 (by decide)
/-- The reader has read. -/
theorem Mid.read {w w' : World} {B gr g7 : Nat} {rq rq' : Rd} {n1 : Int} {C V : Value} {cs : List (Colm × List Val)} {rs : List RowA} (h : Mid w B gr g7 rq n1 C V cs rs) (hr : Rdr 88 w' gr rq') (hg : w.grownBy w' (some gr)) : Mid w' B gr g7 rq' n1 C V cs rs := by
  have hrd := h.rd
  unfold Rdr at hrd
  refine ⟨hr, h.box.grown hg (fun e => h.ne (by injection e with e; exact e.symm)), ⟨own_keep h.own.cols hrd (by decide) hg, own_keep h.own.rows hrd (by decide) hg, fun r hr => own_keep (h.own.each r hr) hrd (by decide) hg, h.own.eq⟩⟩
theorem own_drop {w : World} {B z n g j : Nat} {e T : TypeId} {v x : Value} {xs : List Value} {cs : Array Value} {fr : Nat × Nat} (h : w.ownsRow B e z v n xs) (hg : w.heap[g]? = some (.cells cs T fr)) (hne : e ≠ T) : (w.setCell ⟨g, j, none⟩ x).ownsRow B e z v n xs := own_set h (own_ne_heap h hg hne) x
/-- A column more: appended, laid into the data's block. -/
theorem Mid.col {w wA : World} {B gr g7 : Nat} {rq : Rd} {n1 : Int} {C V u : Value} {d : Dat} {rs : List RowA} {o : Obj} {c : Colm} (hrd : Rdr 88 w gr rq) (hbox : DBox w g7 n1 C V) (hown : OwnD w B d C V rs)
    (hA : OwnC wA B u (d.cols ++ [c])) (hg : (w.alloc o).grownBy wA C.ownBlock) :
    Rdr 88 (wA.setCell ⟨g7, 1, none⟩ u) gr rq ∧ DBox (wA.setCell ⟨g7, 1, none⟩ u) g7 n1 u V ∧ OwnC (wA.setCell ⟨g7, 1, none⟩ u) B u (d.cols ++ [c]) ∧ OwnR (wA.setCell ⟨g7, 1, none⟩ u) B V rs ∧ ∀ r ∈ rs, OwnV (wA.setCell ⟨g7, 1, none⟩ u) B (.slice r.A r.n r.c) r.vs := by
  have hC := OwnG.alloc hown.cols o
  have hrd1 := hrd.alloc o
  have hbx1 := hbox.alloc o
  unfold Rdr at hrd1
  unfold DBox at hbx1
  have hrd2 := box_keep hrd1 hC (by decide) hg
  have hbx2 := box_keep hbx1 hC (by decide) hg
  have hne : gr ≠ g7 := by
    intro e; rw [e, hbx2] at hrd2; injection hrd2 with h1; injection h1 with _ h1 _; exact absurd h1 (by decide)
  refine ⟨?_, DBox.put1 hbx2 u, own_drop hA hbx2 (by decide), ?_, fun r hr => ?_⟩
  · unfold Rdr; rw [Below.heap_setCell _ _ _ _ hne]; exact hrd2
  · exact own_drop (World.ownsRow.kept (OwnG.alloc hown.rows o) hg (own_ne (OwnG.alloc hown.rows o) hC (by decide))) hbx2 (by decide)
  · exact own_drop (World.ownsRow.kept ((hown.each r hr).alloc o) hg (own_ne ((hown.each r hr).alloc o) hC (by decide))) hbx2 (by decide)
/-- A row more. -/
theorem Mid.row {w wA : World} {B gr g7 : Nat} {rq : Rd} {n1 : Int} {C V u : Value} {cols : List Colm} {rs : List RowA} {o : Obj} {r1 : RowA} (hrd : Rdr 88 w gr rq) (hbox : DBox w g7 n1 C V) (hC : OwnC w B C cols) (hV : OwnR w B V rs)
    (hE : ∀ r ∈ rs, OwnV w B (.slice r.A r.n r.c) r.vs) (hr1 : OwnV w B (.slice r1.A r1.n r1.c) r1.vs)
    (hA : OwnR wA B u (rs ++ [r1])) (hg : (w.alloc o).grownBy wA V.ownBlock) :
    Rdr 88 (wA.setCell ⟨g7, 2, none⟩ u) gr rq ∧ DBox (wA.setCell ⟨g7, 2, none⟩ u) g7 n1 C u ∧ OwnC (wA.setCell ⟨g7, 2, none⟩ u) B C cols ∧ OwnR (wA.setCell ⟨g7, 2, none⟩ u) B u (rs ++ [r1]) ∧ ∀ r ∈ rs ++ [r1], OwnV (wA.setCell ⟨g7, 2, none⟩ u) B (.slice r.A r.n r.c) r.vs := by
  have hV1 := OwnG.alloc hV o
  have hrd1 := hrd.alloc o
  have hbx1 := hbox.alloc o
  unfold Rdr at hrd1
  unfold DBox at hbx1
  have hrd2 := box_keep hrd1 hV1 (by decide) hg
  have hbx2 := box_keep hbx1 hV1 (by decide) hg
  have hne : gr ≠ g7 := by
    intro e; rw [e, hbx2] at hrd2; injection hrd2 with h1; injection h1 with _ h1 _; exact absurd h1 (by decide)
  have key : ∀ r : RowA, OwnV w B (.slice r.A r.n r.c) r.vs → OwnV (wA.setCell ⟨g7, 2, none⟩ u) B (.slice r.A r.n r.c) r.vs := fun r hr =>
    own_drop (World.ownsRow.kept (hr.alloc o) hg (own_ne (hr.alloc o) hV1 (by decide))) hbx2 (by decide)
  refine ⟨?_, DBox.put2 hbx2 u, ?_, own_drop hA hbx2 (by decide), fun r hr => ?_⟩
  · unfold Rdr; rw [Below.heap_setCell _ _ _ _ hne]; exact hrd2
  · exact own_drop (World.ownsRow.kept (OwnG.alloc hC o) hg (own_ne (OwnG.alloc hC o) hV1 (by decide))) hbx2 (by decide)
  · rw [List.mem_append, List.mem_singleton] at hr
    rcases hr with hr | rfl
    · exact key r (hE r hr)
    · exact key _ hr1
/-! ### What was read is fine -/
theorem rdByte_lt (r : Rd) : (rdByte r).1 < 256 := by
  unfold rdByte
  exact UInt8.toNat_lt _
theorem unvec_fine (k : Int) (l : List UInt8) : (∀ v ∈ (unvec decP k l).1, Fine v) ∧ (unvec decP k l).1.length ≤ 4096 := by
  have h1 := gvals_fine k (str l)
  have h2 := gvals_len k (str l)
  unfold gvals at h1 h2
  rw [str_list] at h1 h2
  exact ⟨h1, h2⟩
def FineP (p : Colm × List Val) : Prop := FineC p.1 ∧ (∀ v ∈ p.2, Fine v) ∧ p.2.length ≤ 4096
theorem rdCol_fine {r : Rd} {p : Colm × List Val} (h : (rdCol decP r).1 = some p) : FineP p := by
  unfold rdCol at h
  simp only [] at h
  split at h
  · cases h
  · injection h with h
    subst h
    have h1 := rdNum_le 9223372036854775807 r
    have h2 := rdByte_lt (rdNum 9223372036854775807 r).2
    obtain ⟨h3, h4⟩ := unvec_fine ((rdByte (rdNum 9223372036854775807 r).2).1 : Int) (rdBytes (rdNum 65536 (rdByte (rdNum 9223372036854775807 r).2).2).1 (rdNum 65536 (rdByte (rdNum 9223372036854775807 r).2).2).2).1
    exact ⟨⟨by simp only []; omega, by simp only []; omega, by simp only []; omega, by simp only []; omega, by simp⟩, h3, h4⟩
theorem rdCols_fine {r : Rd} {n : Nat} {cs : List (Colm × List Val)} (h : (rdCols decP n r).1 = some cs) : cs.length = n ∧ ∀ p ∈ cs, FineP p := by
  induction n generalizing cs with
  | zero => simp only [rdCols] at h; injection h with h; subst h; exact ⟨rfl, by simp⟩
  | succ n ih =>
    simp only [rdCols] at h
    split at h
    · cases h
    · rename_i cs' hcs
      split at h
      · cases h
      · rename_i c hc
        injection h with h; subst h
        obtain ⟨i1, i2⟩ := ih hcs
        refine ⟨by simp [i1], fun p hp => ?_⟩
        rw [List.mem_append, List.mem_singleton] at hp
        rcases hp with hp | rfl
        · exact i2 p hp
        · exact rdCol_fine hc
/-- Data of the call's own, as a function reads it. -/
theorem OwnD.in_ {w : World} {B : Nat} {n1 nC cC nV cV : Nat} {AC AV : Option Addr} {cs : List (Colm × List Val)} {rs : List RowA} (h : OwnD w B ⟨(n1 : Int), cs.map (·.1), cs.map (·.2)⟩ (.slice AC nC cC) (.slice AV nV cV) rs) (hf : ∀ p ∈ cs, FineP p) (h1 : n1 ≤ 4096) (hl : cs.length ≤ 12) (hc : cs.length = nC) (hv : cs.length = nV) :
    DIn w ⟨(n1 : Int), cs.map (·.1), cs.map (·.2)⟩ AC nC AV nV rs := by
  have he := h.eq
  simp only [] at he
  have hrl : rs.length = nV := by have := congrArg List.length he; simpa [hv] using this.symm
  have hr : ∀ r ∈ rs, ∃ p ∈ cs, p.2 = r.vs := fun r hr => by
    have : r.vs ∈ cs.map (·.2) := by rw [he]; exact List.mem_map.2 ⟨r, hr, rfl⟩
    obtain ⟨p, hp, e⟩ := List.mem_map.1 this
    exact ⟨p, hp, e⟩
  have hn : ∀ r ∈ rs, r.vs.length = r.n := fun r hr => ((own_len (h.each r hr)).1).symm
  refine ⟨OwnC.sl h.cols (by simp [hc]), OwnR.sl h.rows hrl, fun r hr => (h.each r hr).sl (hn r hr), he, by omega, by omega, fun r hr' => ?_, fun c hc' => ?_, fun r hr' => ?_, by simp only []; omega, by simp only []; omega⟩
  · obtain ⟨p, hp, e⟩ := hr r hr'
    have := (hf p hp).2.2
    rw [e, hn r hr'] at this; omega
  · simp only [List.mem_map] at hc'
    obtain ⟨p, hp, rfl⟩ := hc'
    exact (hf p hp).1
  · obtain ⟨p, hp, e⟩ := hr r hr'
    rw [← e]; exact (hf p hp).2.1
end Go.Proofs.YtgmemdedpklnhaaGreat.File
