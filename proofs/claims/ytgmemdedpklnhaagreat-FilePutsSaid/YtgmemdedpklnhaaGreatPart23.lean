/-
  Lemmas of this claim, text behind text: KeptC, FilePuts. Each states its own conditions.
-/
import Derived.Test.YtgmemdedpklnhaaGreatPart06
import Derived.Test.YtgmemdedpklnhaaGreatPart18
import Derived.Test.YtgmemdedpklnhaaGreatPart20
import Derived.Test.YtgmemdedpklnhaaGreatPart21

/-
  THE WALKS of KeptColumns, KeptRows.
-/


namespace Go.Proofs.YtgmemdedpklnhaaGreat.Dat
open Go.RowKit ValMath Vals Sl VecMath Mem Vec

set_option maxHeartbeats 1000000 in
theorem keptColumns_any (A : Option Addr) (B g n c d : Nat) (cs : List Colm) (w : World) (hL : LentC w B g n c cs) (hv : CSl w A n cs) :
    Calls Tryz.prog 11 #[.slice (some ⟨g, 0, none⟩) n c, .slice A n d] w fun e w' => e = .returned (.bool true) ∧ Below w.heap.size w w' := by
  have hcap := hL.cap
  unfold maxLen at hcap
  have hS := sameColumns_any (some ⟨g, 0, none⟩) A n c d cs w hL.sl hv (by unfold maxLen; omega)
  obtain ⟨b0, o0, v0, e0, hA0, _, c0, c1, c2⟩ := CSl.at_ hL.full (k := n) (by omega)
  obtain ⟨b1, o1, v1, e1, hA1, _, d0, d1, d2⟩ := CSl.at_ hL.full (k := n + 1) (by omega)
  rw [(add_last hL.len).1] at e0
  rw [(add_last hL.len).2] at e1
  injection e0 with e0; injection e1 with e1
  subst e0; subst e1
  injection hA0 with hA0; injection hA0 with h1 h2; subst h1; subst h2
  injection hA1 with hA1; injection hA1 with h1 h2; subst h1; subst h2
  simp only [markC, Nat.zero_add] at c0 c1 c2 d0 d1 d2
  have HS := Lib.hid hS; clear hS hL hv
  have hq : ∀ W, (binOp .eql 63 (.agg #[.int .i64 77777, .string ByteArray.empty, .int .i64 0]) (.agg #[.int .i64 77777, .string ByteArray.empty, .int .i64 0])).run Tryz.prog W = .ok (.bool true) W := fun W => eql_col 77777 0 ByteArray.empty W
  have hg := fun x y W => guard_col .eql x y #[.int .i64 77777, .string ByteArray.empty, .int .i64 0] #[.int .i64 77777, .string ByteArray.empty, .int .i64 0] W
  go_enter Tryz.func11, Tryz.ntmps11
  go_wp2_with (go_at_call 38; with_reducible refine HS.out.mono ?_; rintro e w1 ⟨rfl, q, rfl⟩)
  go_ret
  exact ⟨rfl, below_drewN (Below.refl _ _) _⟩
set_option maxHeartbeats 2000000 in
theorem keptRows_any (A : Option Addr) (B g n c d : Nat) (rs' rs : List RowA) (w : World) (hL : LentRw w B g n c rs' rs) (hv : RSl w A n rs) (hr : ∀ r ∈ rs, VSl w r.A r.n r.vs) (hn : n ≤ 140737488351232) :
    Calls Tryz.prog 12 #[.slice (some ⟨g, 0, none⟩) n c, .slice A n d] w fun e w' => e = .returned (.bool true) ∧ Below w.heap.size w w' := by
  have HL := Lib.hid hL; clear hL
  have HV := Lib.hid hv; clear hv
  have HR := Lib.hid hr; clear hr
  go_enter Tryz.func12, Tryz.ntmps12
  go_wp2
  go_loopw [5] (fun iv wr => ∃ q : Nat, q ≤ n ∧ iv = .int .i64 q ∧ Below w.heap.size w wr) (fun iv _ => n - (intOf iv).toNat)
  case atStart => exact ⟨0, Nat.zero_le _, rfl, Below.refl _ _⟩
  case round =>
    obtain ⟨q, hq, rfl, hb⟩ := hrel
    by_cases hlt : q < n
    · have hLr := HL.out.below hb
      obtain ⟨b1, o1, r1, hr1, hA1, hb1, c0⟩ := RSl.at_ hLr.sl hlt
      obtain ⟨b2, o2, r2, hr2, rfl, hb2, d0⟩ := RSl.at_ (RSl.below HV.out hb) hlt
      injection hA1 with hA1; injection hA1 with h1 h2; subst h1; subst h2
      rw [Nat.zero_add] at c0
      obtain ⟨⟨g', hg', hlv⟩, _⟩ := hLr.each _ (List.mem_of_getElem? hr1)
      have hvs := (HR.out _ (List.mem_of_getElem? hr2)).below hb
      have hvv : r1.vs = r2.vs := by
        have h1 : (rs'.map (·.vs))[q]? = some r1.vs := by rw [List.getElem?_map, hr1]; rfl
        have h2 : (rs.map (·.vs))[q]? = some r2.vs := by rw [List.getElem?_map, hr2]; rfl
        rw [hLr.eq, h2] at h1; injection h1 with h1; exact h1.symm
      obtain ⟨A1, n1, c1, vs1⟩ := r1
      obtain ⟨A2, n2, c2, vs2⟩ := r2
      simp only [] at hvv hg' hlv hvs c0 d0
      subst hvv; subst hg'
      obtain rfl : n1 = n2 := by have h1 := hlv.len; have h2 := hvs.1; omega
      have hK := keptValues_any A2 B g' n1 c1 c2 vs1 wr.drew ⟨hlv.own.drew, hlv.len⟩ hvs
      have HK := Lib.hid hK; clear hK hlv hvs hr1 hr2 hLr
      have HB := Lib.hid hb; clear hb
      have HSS := Lib.hid (fun wT (h : Below wr.heap.size wr wT) => (show wT.cell? ⟨g, q, none⟩ = some (.slice (some ⟨g', 0, none⟩) n1 c1) ∧ wT.cell? ⟨b2, o2 + q, none⟩ = some (.slice A2 n1 c2) from ⟨(h.cell (p := ⟨g, q, none⟩) hb1).trans c0, (h.cell (p := ⟨b2, o2 + q, none⟩) hb2).trans d0⟩))
      have hi1 : (0 : Int) ≤ (q : Int) := by omega
      have hi2 : (q : Int) < (n : Int) := by omega
      have hq1 := Below.refl wr.heap.size wr
      go_upto_region 6 with fail
      go_region_held3 (fun w' => w'.cell? ⟨g, q, none⟩ = some (.slice (some ⟨g', 0, none⟩) n1 c1) ∧ w'.cell? ⟨b2, o2 + q, none⟩ = some (.slice A2 n1 c2))
        (first | go_keep | exact HSS.out _ hq1)
        ((first
          | (go_at_call 39; (with_reducible refine HK.out.mono ?_); rintro e wp ⟨rfl, hbp⟩; have hq1 : Below wr.heap.size wr wp := bthen (Below.refl _ wr).drew hbp (Nat.le_refl _))))
      go_wp2
      go_roundw
      case rel => exact ⟨q + 1, by omega, by go_num, bthen HB.out hq1 (Nat.le_refl _)⟩
      case measure => simp [intOf]; omega
    · obtain rfl : n = q := by omega
      go_wp2
      go_ret
      exact ⟨rfl, hb⟩
end Go.Proofs.YtgmemdedpklnhaaGreat.Dat

/-
  THE WALK of boathouselaw11.FilePuts.
-/



namespace Go.Proofs.YtgmemdedpklnhaaGreat.File
open Go.RowKit ValMath Vals Sl VecMath Vec Dat

theorem lent_in {w0 w : World} {B gC nC kC gV nV kV : Nat} {AC AV : Option Addr} {d : Dat} {rs rs' : List RowA} (h : DIn w0 d AC nC AV nV rs) (hC : LentC w B gC nC kC d.cols) (hV : LentRw w B gV nV kV rs' rs) : DIn w d (some ⟨gC, 0, none⟩) nC (some ⟨gV, 0, none⟩) nV rs' := by
  have hm : ∀ r ∈ rs', ∃ r0 ∈ rs, r0.vs = r.vs := fun r hr => by
    have : r.vs ∈ rs.map (·.vs) := by rw [← hV.eq]; exact List.mem_map.2 ⟨r, hr, rfl⟩
    obtain ⟨r0, h0, e⟩ := List.mem_map.1 this
    exact ⟨r0, h0, e⟩
  refine ⟨hC.sl, hV.sl, hV.rows, by rw [h.eq, hV.eq], h.nc, h.nv, fun r hr => (hV.each r hr).2, h.fc, fun r hr => ?_, h.r1, h.r2⟩
  obtain ⟨r0, h0, e⟩ := hm r hr
  rw [← e]; exact h.fv r0 h0
theorem keepD {w : World} {g h : Nat} {R R2 : Int} {C V C2 V2 : Value} (h1 : DBox w g R C V) (h2 : DBox w h R2 C2 V2) : (w.cell? ⟨g, 0, none⟩ = some (.int .i64 R) ∧ w.cell? ⟨g, 1, none⟩ = some C ∧ w.cell? ⟨g, 2, none⟩ = some V) ∧ (w.cell? ⟨h, 0, none⟩ = some (.int .i64 R2) ∧ w.cell? ⟨h, 1, none⟩ = some C2 ∧ w.cell? ⟨h, 2, none⟩ = some V2) := ⟨h1.cells, h2.cells⟩
set_option maxRecDepth 20000 in
set_option maxHeartbeats 4000000 in
theorem filePuts_any (d : Dat) (AC : Option Addr) (nC cC : Nat) (AV : Option Addr) (nV cV : Nat) (rs : List RowA) (w : World) (h0 : DArg w d AC nC cC AV nV cV rs) :
    Calls Tryz.prog 3 #[dagg d.rows AC nC cC AV nV cV] w fun e w' => e = .returned (.bool true) ∧ Below w.heap.size w w' := by
  have hin := h0.in_
  have hP := fun w A1 A2 c1 c2 rs h => put_any d A1 A2 nC c1 nV c2 rs w h
  have hF := fun w h => refFile_any d AC AV nC cC nV cV rs w h
  have hM := fun w A1 A2 c1 c2 rs h => may_any d A1 A2 nC c1 nV c2 rs w h
  have hR := fun w h => fileMay_any d AC AV nC cC nV cV rs w h
  have hLN := fun W (h : Below w.heap.size w W) => lent_any d AC nC cC AV nV cV rs W ⟨CSl.below h0.cols.sl h, h0.cols.le, h0.cols.cap, h0.cols.fine, h0.cols.nil⟩ ⟨RSl.below h0.vals.sl h, h0.vals.le, h0.vals.cap, fun r hr => (h0.vals.rows r hr).below h, h0.vals.nil⟩
  have hnv := hin.nv
  clear h0
  generalize decide (mayFile d) = MY at *
  generalize str (filePut d) = P at *
  generalize fileErr d = E at *
  obtain ⟨R, hRd⟩ : ∃ R, R = d.rows := ⟨_, rfl⟩
  rw [← hRd] at hP hF hM hR hLN ⊢
  have HRD := Lib.hid hRd; clear hRd
  have HP := Lib.hid hP; clear hP
  have HF := Lib.hid hF; clear hF
  have HM := Lib.hid hM; clear hM
  have HR := Lib.hid hR; clear hR
  have HLN := Lib.hid hLN; clear hLN
  have hx := DBox.new w R (.slice AC nC cC) (.slice AV nV cV)
  have hb := Vals.one_new (w := w) (.cells #[.int .i64 R, .slice AC nC cC, .slice AV nV cV] 25)
  have HD := Lib.hid (hin.below hb)
  have HX := Lib.hid hx
  have HBT := Lib.hid hb
  clear hx hb hin
  obtain ⟨x0, x1, x2⟩ := HX.out.cells
  go_enter Tryz.func3, Tryz.ntmps3
  go_wp2_with fail
  refine (HLN.out _ HBT.out).mono ?_
  rintro e w3 ⟨gC, kC, gV, kV, rs', rfl, hLC, hLR, hb3⟩
  clear x0 x1 x2
  replace HD := Lib.hid (HD.out.below hb3)
  replace HX := Lib.hid (HX.out.below hb3)
  (try replace HY := Lib.hid (HY.out.below hb3))
  (try replace HXD := Lib.hid (HXD.out.below hb3))
  (try replace HLC := Lib.hid (LentC.below HLC.out hb3))
  (try replace HLR := Lib.hid (LentRw.below HLR.out hb3))
  replace HBT := Lib.hid (bthen HBT.out hb3 (Nat.le_refl _))
  clear hb3
  have hxd := lent_in HD.out hLC hLR
  have HLC := Lib.hid hLC; clear hLC
  have HLR := Lib.hid hLR; clear hLR
  have HXD := Lib.hid hxd; clear hxd
  have hb4 := Vals.one_new (w := w3) (.cells #[.int .i64 R, .slice (some ⟨gC, 0, none⟩) nC kC, .slice (some ⟨gV, 0, none⟩) nV kV] 25)
  have hy := DBox.new w3 R (.slice (some ⟨gC, 0, none⟩) nC kC) (.slice (some ⟨gV, 0, none⟩) nV kV)
  replace HD := Lib.hid (HD.out.below hb4)
  replace HX := Lib.hid (HX.out.below hb4)
  (try replace HY := Lib.hid (HY.out.below hb4))
  (try replace HXD := Lib.hid (HXD.out.below hb4))
  (try replace HLC := Lib.hid (LentC.below HLC.out hb4))
  (try replace HLR := Lib.hid (LentRw.below HLR.out hb4))
  replace HBT := Lib.hid (bthen HBT.out hb4 (Nat.le_refl _))
  have HY := Lib.hid hy; clear hy hb4 HLN
  obtain ⟨x0, x1, x2⟩ := HX.out.cells
  obtain ⟨y0, y1, y2⟩ := HY.out.cells
  go_wp2_with fail
  refine (HP.out _ _ _ _ _ _ HXD.out).mono ?_
  rintro e w5 ⟨rfl, hb5⟩
  clear x0 x1 x2 y0 y1 y2
  replace HD := Lib.hid (HD.out.below hb5)
  replace HX := Lib.hid (HX.out.below hb5)
  (try replace HY := Lib.hid (HY.out.below hb5))
  (try replace HXD := Lib.hid (HXD.out.below hb5))
  (try replace HLC := Lib.hid (LentC.below HLC.out hb5))
  (try replace HLR := Lib.hid (LentRw.below HLR.out hb5))
  replace HBT := Lib.hid (bthen HBT.out hb5 (Nat.le_refl _))
  clear hb5
  obtain ⟨x0, x1, x2⟩ := HX.out.cells
  go_wp2_with fail
  refine (HF.out _ HD.out).mono ?_
  rintro e w6 ⟨rfl, hb6⟩
  clear x0 x1 x2
  replace HD := Lib.hid (HD.out.below hb6)
  replace HX := Lib.hid (HX.out.below hb6)
  (try replace HY := Lib.hid (HY.out.below hb6))
  (try replace HXD := Lib.hid (HXD.out.below hb6))
  (try replace HLC := Lib.hid (LentC.below HLC.out hb6))
  (try replace HLR := Lib.hid (LentRw.below HLR.out hb6))
  replace HBT := Lib.hid (bthen HBT.out hb6 (Nat.le_refl _))
  clear hb6
  go_upto_region 4 with fail
  have hb7 : Below w6.heap.size w6 w6.drew := (Below.refl _ _).drew
  replace HD := Lib.hid (HD.out.below hb7)
  replace HX := Lib.hid (HX.out.below hb7)
  (try replace HY := Lib.hid (HY.out.below hb7))
  (try replace HXD := Lib.hid (HXD.out.below hb7))
  (try replace HLC := Lib.hid (LentC.below HLC.out hb7))
  (try replace HLR := Lib.hid (LentRw.below HLR.out hb7))
  replace HBT := Lib.hid (bthen HBT.out hb7 (Nat.le_refl _))
  clear hb7
  have hSK := keepD HY.out HX.out
  go_region_held3 (fun w' => (w'.cell? ⟨w3.heap.size, 0, none⟩ = some (.int .i64 R) ∧ w'.cell? ⟨w3.heap.size, 1, none⟩ = some (.slice (some ⟨gC, 0, none⟩) nC kC) ∧ w'.cell? ⟨w3.heap.size, 2, none⟩ = some (.slice (some ⟨gV, 0, none⟩) nV kV)) ∧ (w'.cell? ⟨w.heap.size, 0, none⟩ = some (.int .i64 R) ∧ w'.cell? ⟨w.heap.size, 1, none⟩ = some (.slice AC nC cC) ∧ w'.cell? ⟨w.heap.size, 2, none⟩ = some (.slice AV nV cV)))
    (first | (with_reducible exact hSK) | exact hSK)
    ((first
      | (go_at_call 8; refine (Nums.num_any _ _).mono ?_; rintro e w' ⟨rfl, rfl⟩)
      | (go_at_call 9; (with_reducible refine (HM.out _ _ _ _ _ _ HXD.out).mono ?_); rintro e wA ⟨rfl, hbA⟩; replace HD := Lib.hid (HD.out.below hbA); replace HX := Lib.hid (HX.out.below hbA); replace HY := Lib.hid (HY.out.below hbA); replace HXD := Lib.hid (HXD.out.below hbA); replace HLC := Lib.hid (LentC.below HLC.out hbA); replace HLR := Lib.hid (LentRw.below HLR.out hbA); replace HBT := Lib.hid (bthen HBT.out hbA (Nat.le_refl _)); clear hSK hbA; have hSK := keepD HY.out HX.out)
      | (go_at_call 10; (with_reducible refine (HR.out _ HD.out).mono ?_); rintro e wB ⟨rfl, hbB⟩; replace HD := Lib.hid (HD.out.below hbB); replace HX := Lib.hid (HX.out.below hbB); replace HY := Lib.hid (HY.out.below hbB); replace HXD := Lib.hid (HXD.out.below hbB); replace HLC := Lib.hid (LentC.below HLC.out hbB); replace HLR := Lib.hid (LentRw.below HLR.out hbB); replace HBT := Lib.hid (bthen HBT.out hbB (Nat.le_refl _)); clear hSK hbB; have hSK := keepD HY.out HX.out)
      | (go_at_call 11; refine (keptColumns_any _ _ _ _ _ _ _ _ HLC.out HD.out.cols).mono ?_; rintro e wC ⟨rfl, hbC⟩; replace HD := Lib.hid (HD.out.below hbC); replace HX := Lib.hid (HX.out.below hbC); replace HY := Lib.hid (HY.out.below hbC); replace HXD := Lib.hid (HXD.out.below hbC); replace HLC := Lib.hid (LentC.below HLC.out hbC); replace HLR := Lib.hid (LentRw.below HLR.out hbC); replace HBT := Lib.hid (bthen HBT.out hbC (Nat.le_refl _)); clear hSK hbC; have hSK := keepD HY.out HX.out)
      | (go_at_call 12; refine (keptRows_any _ _ _ _ _ _ _ _ _ HLR.out HD.out.vals HD.out.rows hnv).mono ?_; rintro e wD ⟨rfl, hbD⟩; replace HD := Lib.hid (HD.out.below hbD); replace HX := Lib.hid (HX.out.below hbD); replace HY := Lib.hid (HY.out.below hbD); replace HXD := Lib.hid (HXD.out.below hbD); replace HLC := Lib.hid (LentC.below HLC.out hbD); replace HLR := Lib.hid (LentRw.below HLR.out hbD); replace HBT := Lib.hid (bthen HBT.out hbD (Nat.le_refl _)); clear hSK hbD; have hSK := keepD HY.out HX.out)
      | (go_at_call 13; refine (awake_any _).mono ?_; rintro e wE ⟨rfl, hbE⟩; replace HD := Lib.hid (HD.out.below hbE); replace HX := Lib.hid (HX.out.below hbE); replace HY := Lib.hid (HY.out.below hbE); replace HXD := Lib.hid (HXD.out.below hbE); replace HLC := Lib.hid (LentC.below HLC.out hbE); replace HLR := Lib.hid (LentRw.below HLR.out hbE); replace HBT := Lib.hid (bthen HBT.out hbE (Nat.le_refl _)); clear hSK hbE; have hSK := keepD HY.out HX.out)))
  go_wp2
  go_ret
  exact ⟨rfl, HBT.out⟩
end Go.Proofs.YtgmemdedpklnhaaGreat.File
