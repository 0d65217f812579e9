/-
  Lemmas of this claim, text behind text: RefFile. Each states its own conditions.
-/
import Derived.Test.YtgmemdedpklnhaaGreatPart09
import Derived.Test.YtgmemdedpklnhaaGreatPart17
import Derived.Test.YtgmemdedpklnhaaGreatPart19

/-
  THE WALK of boathouseref7.File.
-/




namespace Go.Proofs.YtgmemdedpklnhaaGreat.File
open Go.RowKit ValMath Vals Sl VecMath Vec Dat

theorem enc_cnt (n : Nat) : VarMath.enc n = cnt n := rfl
section
variable {w : World} {ops : Array Oper} {o : Oper} {a : Act} {K : Act → World → Prop} {Q : Exit → Act → World → Prop} {E : Prop}
theorem step_store_stat (hgd : o.guard = none) (x y : Operand) (ho : o.op = .store 73 x y) (g : Nat) (c n c0 n0 : Int) (mn mx mn0 mx0 : Val) (hx : a.eval x = .pointer (some ⟨g, 0, none⟩)) (hy : a.eval y = Stats.sagg c n mn mx) (hg : Stats.SBox w g c0 n0 mn0 mx0)
    (h : ∀ wq, Stats.SBox wq g c n mn mx → w.grownBy wq (some g) → K (a.put o.dst undef) wq) : if Region.wanted o (yielded ops a.tmps) = true then Oper.wp Tryz.prog o a w K Q else E := by
  rw [if_pos (by simp [Region.wanted, hgd])]
  have hi : (Tryz.prog.info? 73).map (·.size) = some 10 := by kernel_rfl
  refine wp_store_row 73 x y ho g _ hx hy 73 _ hg hi rfl (by simp [Value.oneCell']) ?_
  exact h _ (heap_setRow_same _ _ _ _ _ _ hg) ⟨rfl, rfl, rfl, by simp, fun k _ hne => setRow_other w g k _ (fun e => hne (by rw [e]))⟩
end
set_option maxRecDepth 20000 in
set_option maxHeartbeats 8000000 in
theorem refFile_any (d : Dat) (AC AV : Option Addr) (nC cC nV cV : Nat) (rs : List RowA) (w : World) (h : DIn w d AC nC AV nV rs) :
    Calls Tryz.prog 7 #[dagg d.rows AC nC cC AV nV cV] w fun e w' => e = .returned (.tuple #[.string (str (filePut d)), .int .i64 (fileErr d : Nat)]) ∧ Below w.heap.size w w' := by
  obtain ⟨l1, l2⟩ := h.lens
  have hM := fun w h => fileMay_any d AC AV nC cC nV cV rs w h
  have hD : DBox (w.alloc (.cells #[.int .i64 d.rows, .slice AC nC cC, .slice AV nV cV] 25)) w.heap.size d.rows (.slice AC nC cC) (.slice AV nV cV) := DBox.new w _ _ _
  have hbt := Vals.one_new (w := w) (.cells #[.int .i64 d.rows, .slice AC nC cC, .slice AV nV cV] 25)
  have h0 := h.below hbt
  clear h
  by_cases hm : mayFile d
  · obtain ⟨Rn, hR, hRn⟩ := head_nat hm
    have hhd := hm.1
    unfold headOk at hhd
    have h5 := hhd.2.2.2.2
    rw [l1] at hhd
    have hnv : nV = nC := by omega
    subst hnv
    have hn12 : nV ≤ 12 := hhd.2.2.2.1
    have hn1 : 1 ≤ nV := hhd.2.2.1
    clear hhd h5 l2
    rw [decide_eq_true hm] at hM
    rw [hR] at hM hD hbt h0 ⊢
    have hK1 := fun w => Varint.Varint_any Rn w (by omega)
    have hK2 := fun w => Varint.Varint_any nV w (by omega)
    simp only [enc_cnt] at hK1 hK2
    have hH1 : headB d = magic ++ cnt Rn ++ cnt nV := by unfold headB; rw [hR, l1, Int.toNat_natCast]
    have hH2 := head_str (cnt Rn) (cnt nV)
    have hc1 := cnt_size Rn
    have hc2 := cnt_size nV
    have hadd1 := add_str lk1 (str (cnt Rn)) (by rw [str_size, lk_size]; omega)
    have hadd2 := add_str (lk1 ++ str (cnt Rn)) (str (cnt nV)) (by rw [show lk1 = str magic from rfl, str_append, str_size, str_size]; simp [magic]; omega)
    rw [← hH1] at hH2
    simp only [lk1] at hadd1 hadd2 hH2
    have HH := Lib.hid hH2; clear hH1 hH2 hc1 hc2
    generalize str (cnt Rn) = S1 at *
    generalize str (cnt nV) = S2 at *
    have HM := Lib.hid hM; clear hM
    have HK1 := Lib.hid hK1; clear hK1
    have HK2 := Lib.hid hK2; clear hK2
    have HMY := Lib.hid (And.intro hm (And.intro l1 hR)); clear hm l1 hR
    obtain ⟨x0, x1, x2⟩ := hD.cells
    have HD := Lib.hid hD; clear hD
    have HI := Lib.hid h0; clear h0
    have HB := Lib.hid hbt; clear hbt
    go_enter Tryz.func7, Tryz.ntmps7
    go_wp2_with (go_at_call 10; (with_reducible refine (HM.out _ HI.out).mono ?_); rintro e w1 ⟨rfl, hb1⟩; replace HB := Lib.hid (bthen HB.out hb1 (Nat.le_refl _)); replace HI := Lib.hid (HI.out.below hb1); replace HD := Lib.hid (HD.out.below hb1); clear hb1 x0 x1 x2 HM)
    go_upto_region 3 with fail
    have hgw := HD.out.lt
    have HSS := Lib.hid (fun wT (h : Below w1.heap.size w1 wT) => data_keep HD.out h)
    obtain ⟨x0, x1, _⟩ := HD.out.cells
    have hq1 := Below.refl w1.heap.size w1
    have hq2 := Below.refl w1.heap.size w1
    go_region_held3 (fun w' => w'.cell? ⟨w.heap.size, 0, none⟩ = some (.int .i64 (Rn : Nat)) ∧ w'.cell? ⟨w.heap.size, 1, none⟩ = some (.slice AC nV cC))
      (first | go_keep | exact HSS.out _ hq2 | exact HSS.out _ hq1)
      ((first
        | (go_at_call 32; (with_reducible refine (HK1.out _).mono ?_); rintro e wa ⟨rfl, hba⟩; have hq1 : Below w1.heap.size w1 wa := bthen (Below.refl _ w1).drew hba (Nat.le_refl _))
        | (go_at_call 32; (with_reducible refine (HK2.out _).mono ?_); rintro e wb ⟨rfl, hbb⟩; have hq2 : Below w1.heap.size w1 wb := bthen hq1 hbb (Nat.le_refl _))))
    replace HB := Lib.hid (bthen HB.out hq2 (Nat.le_refl _))
    replace HI := Lib.hid (HI.out.below hq2)
    replace HD := Lib.hid (HD.out.below hq2)
    have hhl := head_len d
    clear hq1 hq2 HSS x0 x1 HK1 HK2 hadd1 hadd2 hba hbb hgw
    clear hq1 hq2
    obtain ⟨x0, x1, x2⟩ := HD.out.cells
    rw [HH.out]
    go_wp2
    go_loopw [4, 5] (fun sv iv wr => ∃ q : Nat, q ≤ nV ∧ iv = .int .i64 q ∧ sv = .string (str (headB d ++ ((d.cols.zip d.vals).take q).flatMap colBytes)) ∧ Below wb.heap.size wb wr) (fun _ iv _ => nV - (intOf iv).toNat)
    case atStart => exact ⟨0, Nat.zero_le _, rfl, by simp, Below.refl _ _⟩
    case round =>
      clear x0 x1 x2 HH
      obtain ⟨q, hq, rfl, rfl, hb⟩ := hrel
      have hDr := HD.out.below hb
      obtain ⟨x0, x1, x2⟩ := hDr.cells
      by_cases hlt : q < nV
      · have hI := HI.out.below hb
        obtain ⟨b1, o1, c, hc, hA1, hb1, y0, y1, y2⟩ := CSl.at_ hI.cols hlt
        obtain ⟨b2, o2, r, hr, hA2, hb2, z0⟩ := RSl.at_ hI.vals hlt
        have hV := hI.rows r (List.mem_of_getElem? hr)
        obtain ⟨⟨idn, kn, rfl, hid0, hid1, hk0, hk1⟩, hme, hfv, hft⟩ := col_facts hI HMY.out.1 hc hr hlt
        have hsn := cols_snoc hc (hI.row hr)
        have hcl := cols_len ((d.cols.zip d.vals).take q) (fun p hp => by
          obtain ⟨i, hi, e1, e2⟩ := mem_zip_get (d := d) (by rw [hI.lens.1, hI.lens.2]) (List.mem_of_mem_take hp)
          intro v hv
          have hrr : ∃ r' ∈ rs, r'.vs = p.2 := by
            rw [← e2, hI.eq, List.getD_eq_getElem?_getD, List.getElem?_map]
            rw [hI.lens.1] at hi
            have : i < rs.length := by rw [hI.vals.1]; exact hi
            rw [List.getElem?_eq_getElem this]
            exact ⟨rs[i], List.getElem_mem this, rfl⟩
          obtain ⟨r', hr', e'⟩ := hrr
          rw [← e'] at hv
          exact hI.fv r' hr' v hv)
        have htl : ((d.cols.zip d.vals).take q).length ≤ q := List.length_take_le _ _
        obtain ⟨rA, rn, rc, rvs⟩ := r
        simp only [] at y0 y1 y2 z0 hV hme hfv hsn hft
        have hput : put (kn : Int) rvs = put (kn : Int) rvs := rfl
        have hpl := put_small (kn : Int) hfv
        have hP := fun w h => refVec_any (kn : Int) rA rn rc rvs w h hfv
        rw [hme] at hP
        have hcb : colBytes (⟨(idn : Int), ByteArray.empty, (kn : Int)⟩, rvs) = cnt idn ++ ([UInt8.ofNat kn] ++ (cnt (put (kn : Int) rvs).length ++ put (kn : Int) rvs)) := by
          unfold colBytes; simp only [Int.toNat_natCast]
        rw [hcb] at hsn
        generalize encOf (kn : Int) rvs = EN at *
        generalize put (kn : Int) rvs = PB at *
        clear hput hcb hme hft hfv hid0 hc hr hI
        have hll : (headB d ++ ((d.cols.zip d.vals).take q).flatMap colBytes).length ≤ 5000000 := by rw [List.length_append]; omega
        have hk1' := fun w => Varint.Varint_any idn w hid1
        have hk2' : ∀ w, Calls Tryz.prog 32 #[.int .i64 ((str PB).size : Nat)] w fun e w' => e = .returned (.string (str (cnt PB.length))) ∧ Below w.heap.size w w' := fun w => by
          have := Varint.Varint_any (str PB).size w (by rw [str_size]; omega)
          rw [enc_cnt, str_size] at this; rw [str_size]; exact this
        simp only [enc_cnt] at hk1'
        have hcs1 := cnt_size idn
        have hcs2 := cnt_size PB.length
        have hcv : ∀ (W : World) (g c : Nat), W.cell? ⟨g, 0, none⟩ = some (.int .u8 (kn : Int)) → (convert 54 9 (.slice (some ⟨g, 0, none⟩) 1 c)).run Tryz.prog W = .ok (.string (str [UInt8.ofNat kn])) W := fun W g c h => by
          rw [run_str_one W g c (kn : Int) h, str_nums]; simp
        have hw8 : IntKind.u8.wrap (kn : Int) = (kn : Int) := by rw [IntKind.wrap_u8]; omega
        generalize hLL : headB d ++ ((d.cols.zip d.vals).take q).flatMap colBytes = L at *
        have e1 := str_append L (cnt idn)
        have e2 := str_append (L ++ cnt idn) [UInt8.ofNat kn]
        have e3 := str_append (L ++ cnt idn ++ [UInt8.ofNat kn]) (cnt PB.length)
        have e4 := str_append (L ++ cnt idn ++ [UInt8.ofNat kn] ++ cnt PB.length) PB
        have hadd1 := add_str (str L) (str (cnt idn)) (by rw [str_size, str_size]; omega)
        have hadd2 := add_str (str L ++ str (cnt idn)) (str [UInt8.ofNat kn]) (by rw [e1, str_size, str_size]; simp; omega)
        have hadd3 := add_str (str L ++ str (cnt idn) ++ str [UInt8.ofNat kn]) (str (cnt PB.length)) (by rw [e1, e2, str_size, str_size]; simp; omega)
        have hadd4 := add_str (str L ++ str (cnt idn) ++ str [UInt8.ofNat kn] ++ str (cnt PB.length)) (str PB) (by rw [e1, e2, e3, str_size, str_size]; simp; omega)
        have hSN : str L ++ str (cnt idn) ++ str [UInt8.ofNat kn] ++ str (cnt PB.length) ++ str PB = str (headB d ++ ((d.cols.zip d.vals).take (q + 1)).flatMap colBytes) := by
          rw [e1, e2, e3, e4, hsn, ← hLL]; simp only [List.append_assoc]
        have HSN := Lib.hid hSN; clear hSN
        clear e1 e2 e3 e4 hsn hcs1 hcs2 hll hcl htl hpl hhl hid1 hLL
        generalize str L = O at *
        generalize str (cnt idn) = X1 at *
        generalize str [UInt8.ofNat kn] = X2 at *
        generalize str (cnt PB.length) = X3 at *
        generalize str PB = X4 at *
        have HK1 := Lib.hid hk1'; clear hk1'
        have HK2 := Lib.hid hk2'; clear hk2'
        have HP := Lib.hid hP; clear hP
        have HB1 := Lib.hid hb; clear hb
        subst hA1; subst hA2
        have hxl := hDr.lt
        have HSS := Lib.hid (fun wT (h : Below wr.heap.size wr wT) => (show wT.cell? ⟨w.heap.size, 1, none⟩ = some (.slice (some ⟨b1, o1, none⟩) nV cC) ∧ wT.cell? ⟨b1, o1 + q * 3, none⟩ = some (.int .i64 (idn : Int)) ∧ wT.cell? ⟨b1, o1 + q * 3 + 2, none⟩ = some (.int .i64 (kn : Int)) from
          ⟨(h.cell (p := ⟨w.heap.size, 1, none⟩) hxl).trans x1, (h.cell (p := ⟨b1, _, none⟩) hb1).trans y0, (h.cell (p := ⟨b1, _, none⟩) hb1).trans y2⟩))
        have HS7 := Lib.hid (fun wT (h : Below wr.heap.size wr wT) => (show wT.cell? ⟨w.heap.size, 1, none⟩ = some (.slice (some ⟨b1, o1, none⟩) nV cC) ∧ wT.cell? ⟨w.heap.size, 2, none⟩ = some (.slice (some ⟨b2, o2, none⟩) nV cV) ∧ wT.cell? ⟨b1, o1 + q * 3 + 2, none⟩ = some (.int .i64 (kn : Int)) ∧ wT.cell? ⟨b2, o2 + q, none⟩ = some (.slice rA rn rc) from
          ⟨(h.cell (p := ⟨w.heap.size, 1, none⟩) hxl).trans x1, (h.cell (p := ⟨w.heap.size, 2, none⟩) hxl).trans x2, (h.cell (p := ⟨b1, _, none⟩) hb1).trans y2, (h.cell (p := ⟨b2, _, none⟩) hb2).trans z0⟩))
        have HVD := Lib.hid (vsl_drew hV); clear hV
        have hi1 : (0 : Int) ≤ (q : Int) := by omega
        have hi2 : (q : Int) < (nV : Int) := by omega
        have hq := Below.refl wr.heap.size wr
        go_upto_region 7 with fail
        go_region_held3 (fun w' => w'.cell? ⟨w.heap.size, 1, none⟩ = some (.slice (some ⟨b1, o1, none⟩) nV cC) ∧ w'.cell? ⟨w.heap.size, 2, none⟩ = some (.slice (some ⟨b2, o2, none⟩) nV cV) ∧ w'.cell? ⟨b1, o1 + q * 3 + 2, none⟩ = some (.int .i64 (kn : Int)) ∧ w'.cell? ⟨b2, o2 + q, none⟩ = some (.slice rA rn rc))
          (first | go_keep | exact HS7.out _ hq)
          ((first
            | (go_at_call 33; (with_reducible refine (HP.out _ HVD.out).mono ?_); rintro e wp ⟨rfl, hbp⟩; have hq : Below wr.heap.size wr wp := bthen (Below.refl _ wr).drew hbp (Nat.le_refl _))))
        clear x0 x1 x2 y0 y1 y2 z0 hbp HS7 HP HVD hDr
        go_upto_region 8 with fail
        have hqd : Below wr.heap.size wr wp.drew := hq.drew
        clear hq
        have hq := hqd
        clear hqd
        refine wp_region_any (by kernel_rfl) ?_
        change wpAny _ _ _ _ _ _ _ (World.drew _)
        generalize wp.drew = wc at *
        refine any_of_L (S := fun w' => w'.cell? ⟨w.heap.size, 1, none⟩ = some (.slice (some ⟨b1, o1, none⟩) nV cC) ∧ w'.cell? ⟨b1, o1 + q * 3, none⟩ = some (.int .i64 (idn : Int)) ∧ w'.cell? ⟨b1, o1 + q * 3 + 2, none⟩ = some (.int .i64 (kn : Int))) (st := []) _ _ _ _ ?_
        have hSK := HSS.out _ hq
        refine L_take (i := 0) (v := .string O) rfl (by kernel_rfl) (by kernel_rfl) (by kernel_rfl) (by kernel_rfl) (by kernel_rfl) (by kernel_rfl) (fun _ _ _ h => h) (Or.inl ⟨by rfl, fun w' hS => ?_⟩) hSK ?_
        · obtain ⟨s0, s1, s2⟩ := hS
          go_simp
        simp only [Act.put, List.setIfInBounds_toArray]
        refine L_take (i := 1) (v := .pointer (some ⟨w.heap.size, 1, none⟩)) rfl (by kernel_rfl) (by kernel_rfl) (by kernel_rfl) (by kernel_rfl) (by kernel_rfl) (by kernel_rfl) (fun _ _ _ h => h) (Or.inl ⟨by rfl, fun w' hS => ?_⟩) hSK ?_
        · obtain ⟨s0, s1, s2⟩ := hS
          go_simp
        simp only [Act.put]
        refine L_take (i := 2) (v := .slice (some ⟨b1, o1, none⟩) nV cC) rfl (by kernel_rfl) (by kernel_rfl) (by kernel_rfl) (by kernel_rfl) (by kernel_rfl) (by kernel_rfl) (fun _ _ _ h => h) (Or.inl ⟨by rfl, fun w' hS => ?_⟩) hSK ?_
        · obtain ⟨s0, s1, s2⟩ := hS
          go_simp
        simp only [Act.put]
        refine L_take (i := 3) (v := .int .i64 (q : Int)) rfl (by kernel_rfl) (by kernel_rfl) (by kernel_rfl) (by kernel_rfl) (by kernel_rfl) (by kernel_rfl) (fun _ _ _ h => h) (Or.inl ⟨by rfl, fun w' hS => ?_⟩) hSK ?_
        · obtain ⟨s0, s1, s2⟩ := hS
          go_simp
        simp only [Act.put]
        refine L_take (i := 4) (v := .pointer (some ⟨b1, o1 + q * 3, none⟩)) rfl (by kernel_rfl) (by kernel_rfl) (by kernel_rfl) (by kernel_rfl) (by kernel_rfl) (by kernel_rfl) (fun _ _ _ h => h) (Or.inl ⟨by rfl, fun w' hS => ?_⟩) hSK ?_
        · obtain ⟨s0, s1, s2⟩ := hS
          go_simp
        simp only [Act.put]
        refine L_take (i := 5) (v := .pointer (some ⟨b1, o1 + q * 3, none⟩)) rfl (by kernel_rfl) (by kernel_rfl) (by kernel_rfl) (by kernel_rfl) (by kernel_rfl) (by kernel_rfl) (fun _ _ _ h => h) (Or.inl ⟨by rfl, fun w' hS => ?_⟩) hSK ?_
        · obtain ⟨s0, s1, s2⟩ := hS
          go_simp
        simp only [Act.put]
        refine L_take (i := 6) (v := .int .i64 (idn : Int)) rfl (by kernel_rfl) (by kernel_rfl) (by kernel_rfl) (by kernel_rfl) (by kernel_rfl) (by kernel_rfl) (fun _ _ _ h => h) (Or.inl ⟨by rfl, fun w' hS => ?_⟩) hSK ?_
        · obtain ⟨s0, s1, s2⟩ := hS
          go_simp
        simp only [Act.put]
        refine L_take (i := 9) (v := .pointer (some ⟨w.heap.size, 1, none⟩)) rfl (by kernel_rfl) (by kernel_rfl) (by kernel_rfl) (by kernel_rfl) (by kernel_rfl) (by kernel_rfl) (fun _ _ _ h => h) (Or.inl ⟨by rfl, fun w' hS => ?_⟩) hSK ?_
        · obtain ⟨s0, s1, s2⟩ := hS
          go_simp
        simp only [Act.put]
        refine L_take (i := 10) (v := .slice (some ⟨b1, o1, none⟩) nV cC) rfl (by kernel_rfl) (by kernel_rfl) (by kernel_rfl) (by kernel_rfl) (by kernel_rfl) (by kernel_rfl) (fun _ _ _ h => h) (Or.inl ⟨by rfl, fun w' hS => ?_⟩) hSK ?_
        · obtain ⟨s0, s1, s2⟩ := hS
          go_simp
        simp only [Act.put]
        refine L_take (i := 11) (v := .int .i64 (q : Int)) rfl (by kernel_rfl) (by kernel_rfl) (by kernel_rfl) (by kernel_rfl) (by kernel_rfl) (by kernel_rfl) (fun _ _ _ h => h) (Or.inl ⟨by rfl, fun w' hS => ?_⟩) hSK ?_
        · obtain ⟨s0, s1, s2⟩ := hS
          go_simp
        simp only [Act.put]
        refine L_take (i := 12) (v := .pointer (some ⟨b1, o1 + q * 3, none⟩)) rfl (by kernel_rfl) (by kernel_rfl) (by kernel_rfl) (by kernel_rfl) (by kernel_rfl) (by kernel_rfl) (fun _ _ _ h => h) (Or.inl ⟨by rfl, fun w' hS => ?_⟩) hSK ?_
        · obtain ⟨s0, s1, s2⟩ := hS
          go_simp
        simp only [Act.put]
        refine L_take (i := 13) (v := .pointer (some ⟨b1, o1 + q * 3 + 2, none⟩)) rfl (by kernel_rfl) (by kernel_rfl) (by kernel_rfl) (by kernel_rfl) (by kernel_rfl) (by kernel_rfl) (fun _ _ _ h => h) (Or.inl ⟨by rfl, fun w' hS => ?_⟩) hSK ?_
        · obtain ⟨s0, s1, s2⟩ := hS
          go_simp
        simp only [Act.put]
        refine L_take (i := 14) (v := .int .i64 (kn : Int)) rfl (by kernel_rfl) (by kernel_rfl) (by kernel_rfl) (by kernel_rfl) (by kernel_rfl) (by kernel_rfl) (fun _ _ _ h => h) (Or.inl ⟨by rfl, fun w' hS => ?_⟩) hSK ?_
        · obtain ⟨s0, s1, s2⟩ := hS
          go_simp
        simp only [Act.put]
        refine L_take (i := 15) (v := .int .u8 (kn : Int)) rfl (by kernel_rfl) (by kernel_rfl) (by kernel_rfl) (by kernel_rfl) (by kernel_rfl) (by kernel_rfl) (fun _ _ _ h => h) (Or.inl ⟨by rfl, fun w' hS => ?_⟩) hSK ?_
        · obtain ⟨s0, s1, s2⟩ := hS
          go_simp
        simp only [Act.put]
        refine L_take (i := 19) (v := .string X4) rfl (by kernel_rfl) (by kernel_rfl) (by kernel_rfl) (by kernel_rfl) (by kernel_rfl) (by kernel_rfl) (fun _ _ _ h => h) (Or.inl ⟨by rfl, fun w' hS => ?_⟩) hSK ?_
        · obtain ⟨s0, s1, s2⟩ := hS
          go_simp
        simp only [Act.put]
        refine L_take (i := 20) (v := .int .i64 (X4.size : Int)) rfl (by kernel_rfl) (by kernel_rfl) (by kernel_rfl) (by kernel_rfl) (by kernel_rfl) (by kernel_rfl) (fun _ _ _ h => h) (Or.inl ⟨by rfl, fun w' hS => ?_⟩) hSK ?_
        · obtain ⟨s0, s1, s2⟩ := hS
          go_simp
        simp only [Act.put]
        refine L_take (i := 23) (v := .string X4) rfl (by kernel_rfl) (by kernel_rfl) (by kernel_rfl) (by kernel_rfl) (by kernel_rfl) (by kernel_rfl) (fun _ _ _ h => h) (Or.inl ⟨by rfl, fun w' hS => ?_⟩) hSK ?_
        · obtain ⟨s0, s1, s2⟩ := hS
          go_simp
        simp only [Act.put]
        refine L_two (i := 7) (j := 16) (by kernel_rfl) rfl rfl (fun K hK => ?_) (fun K hK => ?_)
        · skip
          go_simp
          go_wp2_with (go_at_call 32; (with_reducible refine (HK1.out _).mono ?_); rintro e wa ⟨rfl, hbn⟩)
          have hqn := bthen hq hbn (Nat.le_refl _)
          have hSKn := HSS.out _ hqn
          refine hK.out _ _ (fun _ => hSKn) ?_
          clear hK K hSK hq
          have hq := hqn
          have hSK := hSKn
          clear hqn hSKn hbn
          (try simp only [Act.put])
          refine L_take (i := 8) (v := .string (O ++ X1)) rfl (by kernel_rfl) (by kernel_rfl) (by kernel_rfl) (by kernel_rfl) (by kernel_rfl) (by kernel_rfl) (fun _ _ _ h => h) (Or.inl ⟨by rfl, fun w' hS => ?_⟩) hSK ?_
          · obtain ⟨s0, s1, s2⟩ := hS
            go_simp
          simp only [Act.put]
          refine L_two (i := 16) (j := 21) (by kernel_rfl) rfl rfl (fun K hK => ?_) (fun K hK => ?_)
          · skip
            go_simp
            have hqn := hq.alloc hq.size (.cells #[.int .u8 (kn : Int)] 5)
            have hz : (wa.alloc (.cells #[.int .u8 (kn : Int)] 5)).cell? ⟨wa.heap.size, 0, none⟩ = some (.int .u8 (kn : Int)) := by rw [Lib.cell_of_heap (heap_alloc_new wa (.cells #[.int .u8 (kn : Int)] 5))]; rfl
            have hSKn := HSS.out _ hqn
            refine hK.out _ _ (fun _ => hSKn) ?_
            clear hK K hSK hq
            have hq := hqn
            have hSK := hSKn
            clear hqn hSKn
            (try simp only [Act.put])
            generalize hh : wa.alloc (.cells #[.int .u8 (kn : Int)] 5) = wn at *
            clear hh
            generalize wa.heap.size = gb at *
            refine L_two (i := 17) (j := 21) (by kernel_rfl) rfl rfl (fun K hK => ?_) (fun K hK => ?_)
            · skip
              go_simp
              refine hK.out _ _ (fun _ => hSK) ?_
              clear hK K
              (try simp only [Act.put])
              refine L_take (i := 18) (v := .string (O ++ X1 ++ X2)) rfl (by kernel_rfl) (by kernel_rfl) (by kernel_rfl) (by kernel_rfl) (by kernel_rfl) (by kernel_rfl) (fun _ _ _ h => h) (Or.inl ⟨by rfl, fun w' hS => ?_⟩) hSK ?_
              · obtain ⟨s0, s1, s2⟩ := hS
                go_simp
              simp only [Act.put]
              refine L_one (i := 21) (by kernel_rfl) rfl (fun K hK => ?_)
              go_simp
              go_wp2_with (go_at_call 32; (with_reducible refine (HK2.out _).mono ?_); rintro e we ⟨rfl, hbn⟩)
              have hqn := bthen hq hbn (Nat.le_refl _)
              have hSKn := HSS.out _ hqn
              have hzn := keep_cell hbn hz
              refine hK.out _ _ (fun _ => hSKn) ?_
              clear hK K hSK hq hz
              have hq := hqn
              have hSK := hSKn
              have hz := hzn
              clear hqn hSKn hbn hzn
              (try simp only [Act.put])
              refine L_take (i := 22) (v := .string (O ++ X1 ++ X2 ++ X3)) rfl (by kernel_rfl) (by kernel_rfl) (by kernel_rfl) (by kernel_rfl) (by kernel_rfl) (by kernel_rfl) (fun _ _ _ h => h) (Or.inl ⟨by rfl, fun w' hS => ?_⟩) hSK ?_
              · obtain ⟨s0, s1, s2⟩ := hS
                go_simp
              simp only [Act.put]
              refine L_take (i := 24) (v := .string (O ++ X1 ++ X2 ++ X3 ++ X4)) rfl (by kernel_rfl) (by kernel_rfl) (by kernel_rfl) (by kernel_rfl) (by kernel_rfl) (by kernel_rfl) (fun _ _ _ h => h) (Or.inl ⟨by rfl, fun w' hS => ?_⟩) hSK ?_
              · obtain ⟨s0, s1, s2⟩ := hS
                go_simp
              simp only [Act.put]
              refine L_take (i := 25) (v := .string (O ++ X1 ++ X2 ++ X3 ++ X4)) rfl (by kernel_rfl) (by kernel_rfl) (by kernel_rfl) (by kernel_rfl) (by kernel_rfl) (by kernel_rfl) (fun _ _ _ h => h) (Or.inl ⟨by rfl, fun w' hS => ?_⟩) hSK ?_
              · obtain ⟨s0, s1, s2⟩ := hS
                go_simp
              simp only [Act.put]
              refine L_done (by kernel_rfl) ?_
              have HQ := Lib.hid (bthen HB1.out hq (Nat.le_refl _))
              clear hq hSK
              go_wp2
              go_roundw
              case rel => exact ⟨q + 1, by omega, by go_num, by rw [HSN.out], HQ.out⟩
              case measure => simp [intOf]; omega
            · skip
              go_simp
              go_wp2_with (go_at_call 32; (with_reducible refine (HK2.out _).mono ?_); rintro e we ⟨rfl, hbn⟩)
              have hqn := bthen hq hbn (Nat.le_refl _)
              have hSKn := HSS.out _ hqn
              have hzn := keep_cell hbn hz
              refine hK.out _ _ (fun _ => hSKn) ?_
              clear hK K hSK hq hz
              have hq := hqn
              have hSK := hSKn
              have hz := hzn
              clear hqn hSKn hbn hzn
              (try simp only [Act.put])
              refine L_one (i := 17) (by kernel_rfl) rfl (fun K hK => ?_)
              go_simp
              refine hK.out _ _ (fun _ => hSK) ?_
              clear hK K
              (try simp only [Act.put])
              refine L_take (i := 18) (v := .string (O ++ X1 ++ X2)) rfl (by kernel_rfl) (by kernel_rfl) (by kernel_rfl) (by kernel_rfl) (by kernel_rfl) (by kernel_rfl) (fun _ _ _ h => h) (Or.inl ⟨by rfl, fun w' hS => ?_⟩) hSK ?_
              · obtain ⟨s0, s1, s2⟩ := hS
                go_simp
              simp only [Act.put]
              refine L_take (i := 22) (v := .string (O ++ X1 ++ X2 ++ X3)) rfl (by kernel_rfl) (by kernel_rfl) (by kernel_rfl) (by kernel_rfl) (by kernel_rfl) (by kernel_rfl) (fun _ _ _ h => h) (Or.inl ⟨by rfl, fun w' hS => ?_⟩) hSK ?_
              · obtain ⟨s0, s1, s2⟩ := hS
                go_simp
              simp only [Act.put]
              refine L_take (i := 24) (v := .string (O ++ X1 ++ X2 ++ X3 ++ X4)) rfl (by kernel_rfl) (by kernel_rfl) (by kernel_rfl) (by kernel_rfl) (by kernel_rfl) (by kernel_rfl) (fun _ _ _ h => h) (Or.inl ⟨by rfl, fun w' hS => ?_⟩) hSK ?_
              · obtain ⟨s0, s1, s2⟩ := hS
                go_simp
              simp only [Act.put]
              refine L_take (i := 25) (v := .string (O ++ X1 ++ X2 ++ X3 ++ X4)) rfl (by kernel_rfl) (by kernel_rfl) (by kernel_rfl) (by kernel_rfl) (by kernel_rfl) (by kernel_rfl) (fun _ _ _ h => h) (Or.inl ⟨by rfl, fun w' hS => ?_⟩) hSK ?_
              · obtain ⟨s0, s1, s2⟩ := hS
                go_simp
              simp only [Act.put]
              refine L_done (by kernel_rfl) ?_
              have HQ := Lib.hid (bthen HB1.out hq (Nat.le_refl _))
              clear hq hSK
              go_wp2
              go_roundw
              case rel => exact ⟨q + 1, by omega, by go_num, by rw [HSN.out], HQ.out⟩
              case measure => simp [intOf]; omega
          · skip
            go_simp
            go_wp2_with (go_at_call 32; (with_reducible refine (HK2.out _).mono ?_); rintro e we ⟨rfl, hbn⟩)
            have hqn := bthen hq hbn (Nat.le_refl _)
            have hSKn := HSS.out _ hqn
            refine hK.out _ _ (fun _ => hSKn) ?_
            clear hK K hSK hq
            have hq := hqn
            have hSK := hSKn
            clear hqn hSKn hbn
            (try simp only [Act.put])
            refine L_one (i := 16) (by kernel_rfl) rfl (fun K hK => ?_)
            go_simp
            have hqn := hq.alloc hq.size (.cells #[.int .u8 (kn : Int)] 5)
            have hz : (we.alloc (.cells #[.int .u8 (kn : Int)] 5)).cell? ⟨we.heap.size, 0, none⟩ = some (.int .u8 (kn : Int)) := by rw [Lib.cell_of_heap (heap_alloc_new we (.cells #[.int .u8 (kn : Int)] 5))]; rfl
            have hSKn := HSS.out _ hqn
            refine hK.out _ _ (fun _ => hSKn) ?_
            clear hK K hSK hq
            have hq := hqn
            have hSK := hSKn
            clear hqn hSKn
            (try simp only [Act.put])
            generalize hh : we.alloc (.cells #[.int .u8 (kn : Int)] 5) = wn at *
            clear hh
            generalize we.heap.size = gb at *
            refine L_one (i := 17) (by kernel_rfl) rfl (fun K hK => ?_)
            go_simp
            refine hK.out _ _ (fun _ => hSK) ?_
            clear hK K
            (try simp only [Act.put])
            refine L_take (i := 18) (v := .string (O ++ X1 ++ X2)) rfl (by kernel_rfl) (by kernel_rfl) (by kernel_rfl) (by kernel_rfl) (by kernel_rfl) (by kernel_rfl) (fun _ _ _ h => h) (Or.inl ⟨by rfl, fun w' hS => ?_⟩) hSK ?_
            · obtain ⟨s0, s1, s2⟩ := hS
              go_simp
            simp only [Act.put]
            refine L_take (i := 22) (v := .string (O ++ X1 ++ X2 ++ X3)) rfl (by kernel_rfl) (by kernel_rfl) (by kernel_rfl) (by kernel_rfl) (by kernel_rfl) (by kernel_rfl) (fun _ _ _ h => h) (Or.inl ⟨by rfl, fun w' hS => ?_⟩) hSK ?_
            · obtain ⟨s0, s1, s2⟩ := hS
              go_simp
            simp only [Act.put]
            refine L_take (i := 24) (v := .string (O ++ X1 ++ X2 ++ X3 ++ X4)) rfl (by kernel_rfl) (by kernel_rfl) (by kernel_rfl) (by kernel_rfl) (by kernel_rfl) (by kernel_rfl) (fun _ _ _ h => h) (Or.inl ⟨by rfl, fun w' hS => ?_⟩) hSK ?_
            · obtain ⟨s0, s1, s2⟩ := hS
              go_simp
            simp only [Act.put]
            refine L_take (i := 25) (v := .string (O ++ X1 ++ X2 ++ X3 ++ X4)) rfl (by kernel_rfl) (by kernel_rfl) (by kernel_rfl) (by kernel_rfl) (by kernel_rfl) (by kernel_rfl) (fun _ _ _ h => h) (Or.inl ⟨by rfl, fun w' hS => ?_⟩) hSK ?_
            · obtain ⟨s0, s1, s2⟩ := hS
              go_simp
            simp only [Act.put]
            refine L_done (by kernel_rfl) ?_
            have HQ := Lib.hid (bthen HB1.out hq (Nat.le_refl _))
            clear hq hSK
            go_wp2
            go_roundw
            case rel => exact ⟨q + 1, by omega, by go_num, by rw [HSN.out], HQ.out⟩
            case measure => simp [intOf]; omega
        · skip
          go_simp
          have hqn := hq.alloc hq.size (.cells #[.int .u8 (kn : Int)] 5)
          have hz : (wc.alloc (.cells #[.int .u8 (kn : Int)] 5)).cell? ⟨wc.heap.size, 0, none⟩ = some (.int .u8 (kn : Int)) := by rw [Lib.cell_of_heap (heap_alloc_new wc (.cells #[.int .u8 (kn : Int)] 5))]; rfl
          have hSKn := HSS.out _ hqn
          refine hK.out _ _ (fun _ => hSKn) ?_
          clear hK K hSK hq
          have hq := hqn
          have hSK := hSKn
          clear hqn hSKn
          (try simp only [Act.put])
          generalize hh : wc.alloc (.cells #[.int .u8 (kn : Int)] 5) = wn at *
          clear hh
          generalize wc.heap.size = gb at *
          refine L_two (i := 7) (j := 17) (by kernel_rfl) rfl rfl (fun K hK => ?_) (fun K hK => ?_)
          · skip
            go_simp
            go_wp2_with (go_at_call 32; (with_reducible refine (HK1.out _).mono ?_); rintro e wa ⟨rfl, hbn⟩)
            have hqn := bthen hq hbn (Nat.le_refl _)
            have hSKn := HSS.out _ hqn
            have hzn := keep_cell hbn hz
            refine hK.out _ _ (fun _ => hSKn) ?_
            clear hK K hSK hq hz
            have hq := hqn
            have hSK := hSKn
            have hz := hzn
            clear hqn hSKn hbn hzn
            (try simp only [Act.put])
            refine L_take (i := 8) (v := .string (O ++ X1)) rfl (by kernel_rfl) (by kernel_rfl) (by kernel_rfl) (by kernel_rfl) (by kernel_rfl) (by kernel_rfl) (fun _ _ _ h => h) (Or.inl ⟨by rfl, fun w' hS => ?_⟩) hSK ?_
            · obtain ⟨s0, s1, s2⟩ := hS
              go_simp
            simp only [Act.put]
            refine L_two (i := 17) (j := 21) (by kernel_rfl) rfl rfl (fun K hK => ?_) (fun K hK => ?_)
            · skip
              go_simp
              refine hK.out _ _ (fun _ => hSK) ?_
              clear hK K
              (try simp only [Act.put])
              refine L_take (i := 18) (v := .string (O ++ X1 ++ X2)) rfl (by kernel_rfl) (by kernel_rfl) (by kernel_rfl) (by kernel_rfl) (by kernel_rfl) (by kernel_rfl) (fun _ _ _ h => h) (Or.inl ⟨by rfl, fun w' hS => ?_⟩) hSK ?_
              · obtain ⟨s0, s1, s2⟩ := hS
                go_simp
              simp only [Act.put]
              refine L_one (i := 21) (by kernel_rfl) rfl (fun K hK => ?_)
              go_simp
              go_wp2_with (go_at_call 32; (with_reducible refine (HK2.out _).mono ?_); rintro e we ⟨rfl, hbn⟩)
              have hqn := bthen hq hbn (Nat.le_refl _)
              have hSKn := HSS.out _ hqn
              have hzn := keep_cell hbn hz
              refine hK.out _ _ (fun _ => hSKn) ?_
              clear hK K hSK hq hz
              have hq := hqn
              have hSK := hSKn
              have hz := hzn
              clear hqn hSKn hbn hzn
              (try simp only [Act.put])
              refine L_take (i := 22) (v := .string (O ++ X1 ++ X2 ++ X3)) rfl (by kernel_rfl) (by kernel_rfl) (by kernel_rfl) (by kernel_rfl) (by kernel_rfl) (by kernel_rfl) (fun _ _ _ h => h) (Or.inl ⟨by rfl, fun w' hS => ?_⟩) hSK ?_
              · obtain ⟨s0, s1, s2⟩ := hS
                go_simp
              simp only [Act.put]
              refine L_take (i := 24) (v := .string (O ++ X1 ++ X2 ++ X3 ++ X4)) rfl (by kernel_rfl) (by kernel_rfl) (by kernel_rfl) (by kernel_rfl) (by kernel_rfl) (by kernel_rfl) (fun _ _ _ h => h) (Or.inl ⟨by rfl, fun w' hS => ?_⟩) hSK ?_
              · obtain ⟨s0, s1, s2⟩ := hS
                go_simp
              simp only [Act.put]
              refine L_take (i := 25) (v := .string (O ++ X1 ++ X2 ++ X3 ++ X4)) rfl (by kernel_rfl) (by kernel_rfl) (by kernel_rfl) (by kernel_rfl) (by kernel_rfl) (by kernel_rfl) (fun _ _ _ h => h) (Or.inl ⟨by rfl, fun w' hS => ?_⟩) hSK ?_
              · obtain ⟨s0, s1, s2⟩ := hS
                go_simp
              simp only [Act.put]
              refine L_done (by kernel_rfl) ?_
              have HQ := Lib.hid (bthen HB1.out hq (Nat.le_refl _))
              clear hq hSK
              go_wp2
              go_roundw
              case rel => exact ⟨q + 1, by omega, by go_num, by rw [HSN.out], HQ.out⟩
              case measure => simp [intOf]; omega
            · skip
              go_simp
              go_wp2_with (go_at_call 32; (with_reducible refine (HK2.out _).mono ?_); rintro e we ⟨rfl, hbn⟩)
              have hqn := bthen hq hbn (Nat.le_refl _)
              have hSKn := HSS.out _ hqn
              have hzn := keep_cell hbn hz
              refine hK.out _ _ (fun _ => hSKn) ?_
              clear hK K hSK hq hz
              have hq := hqn
              have hSK := hSKn
              have hz := hzn
              clear hqn hSKn hbn hzn
              (try simp only [Act.put])
              refine L_one (i := 17) (by kernel_rfl) rfl (fun K hK => ?_)
              go_simp
              refine hK.out _ _ (fun _ => hSK) ?_
              clear hK K
              (try simp only [Act.put])
              refine L_take (i := 18) (v := .string (O ++ X1 ++ X2)) rfl (by kernel_rfl) (by kernel_rfl) (by kernel_rfl) (by kernel_rfl) (by kernel_rfl) (by kernel_rfl) (fun _ _ _ h => h) (Or.inl ⟨by rfl, fun w' hS => ?_⟩) hSK ?_
              · obtain ⟨s0, s1, s2⟩ := hS
                go_simp
              simp only [Act.put]
              refine L_take (i := 22) (v := .string (O ++ X1 ++ X2 ++ X3)) rfl (by kernel_rfl) (by kernel_rfl) (by kernel_rfl) (by kernel_rfl) (by kernel_rfl) (by kernel_rfl) (fun _ _ _ h => h) (Or.inl ⟨by rfl, fun w' hS => ?_⟩) hSK ?_
              · obtain ⟨s0, s1, s2⟩ := hS
                go_simp
              simp only [Act.put]
              refine L_take (i := 24) (v := .string (O ++ X1 ++ X2 ++ X3 ++ X4)) rfl (by kernel_rfl) (by kernel_rfl) (by kernel_rfl) (by kernel_rfl) (by kernel_rfl) (by kernel_rfl) (fun _ _ _ h => h) (Or.inl ⟨by rfl, fun w' hS => ?_⟩) hSK ?_
              · obtain ⟨s0, s1, s2⟩ := hS
                go_simp
              simp only [Act.put]
              refine L_take (i := 25) (v := .string (O ++ X1 ++ X2 ++ X3 ++ X4)) rfl (by kernel_rfl) (by kernel_rfl) (by kernel_rfl) (by kernel_rfl) (by kernel_rfl) (by kernel_rfl) (fun _ _ _ h => h) (Or.inl ⟨by rfl, fun w' hS => ?_⟩) hSK ?_
              · obtain ⟨s0, s1, s2⟩ := hS
                go_simp
              simp only [Act.put]
              refine L_done (by kernel_rfl) ?_
              have HQ := Lib.hid (bthen HB1.out hq (Nat.le_refl _))
              clear hq hSK
              go_wp2
              go_roundw
              case rel => exact ⟨q + 1, by omega, by go_num, by rw [HSN.out], HQ.out⟩
              case measure => simp [intOf]; omega
          · skip
            go_simp
            refine hK.out _ _ (fun _ => hSK) ?_
            clear hK K
            (try simp only [Act.put])
            refine L_one (i := 7) (by kernel_rfl) rfl (fun K hK => ?_)
            go_simp
            go_wp2_with (go_at_call 32; (with_reducible refine (HK1.out _).mono ?_); rintro e wa ⟨rfl, hbn⟩)
            have hqn := bthen hq hbn (Nat.le_refl _)
            have hSKn := HSS.out _ hqn
            have hzn := keep_cell hbn hz
            refine hK.out _ _ (fun _ => hSKn) ?_
            clear hK K hSK hq hz
            have hq := hqn
            have hSK := hSKn
            have hz := hzn
            clear hqn hSKn hbn hzn
            (try simp only [Act.put])
            refine L_take (i := 8) (v := .string (O ++ X1)) rfl (by kernel_rfl) (by kernel_rfl) (by kernel_rfl) (by kernel_rfl) (by kernel_rfl) (by kernel_rfl) (fun _ _ _ h => h) (Or.inl ⟨by rfl, fun w' hS => ?_⟩) hSK ?_
            · obtain ⟨s0, s1, s2⟩ := hS
              go_simp
            simp only [Act.put]
            refine L_take (i := 18) (v := .string (O ++ X1 ++ X2)) rfl (by kernel_rfl) (by kernel_rfl) (by kernel_rfl) (by kernel_rfl) (by kernel_rfl) (by kernel_rfl) (fun _ _ _ h => h) (Or.inl ⟨by rfl, fun w' hS => ?_⟩) hSK ?_
            · obtain ⟨s0, s1, s2⟩ := hS
              go_simp
            simp only [Act.put]
            refine L_one (i := 21) (by kernel_rfl) rfl (fun K hK => ?_)
            go_simp
            go_wp2_with (go_at_call 32; (with_reducible refine (HK2.out _).mono ?_); rintro e we ⟨rfl, hbn⟩)
            have hqn := bthen hq hbn (Nat.le_refl _)
            have hSKn := HSS.out _ hqn
            have hzn := keep_cell hbn hz
            refine hK.out _ _ (fun _ => hSKn) ?_
            clear hK K hSK hq hz
            have hq := hqn
            have hSK := hSKn
            have hz := hzn
            clear hqn hSKn hbn hzn
            (try simp only [Act.put])
            refine L_take (i := 22) (v := .string (O ++ X1 ++ X2 ++ X3)) rfl (by kernel_rfl) (by kernel_rfl) (by kernel_rfl) (by kernel_rfl) (by kernel_rfl) (by kernel_rfl) (fun _ _ _ h => h) (Or.inl ⟨by rfl, fun w' hS => ?_⟩) hSK ?_
            · obtain ⟨s0, s1, s2⟩ := hS
              go_simp
            simp only [Act.put]
            refine L_take (i := 24) (v := .string (O ++ X1 ++ X2 ++ X3 ++ X4)) rfl (by kernel_rfl) (by kernel_rfl) (by kernel_rfl) (by kernel_rfl) (by kernel_rfl) (by kernel_rfl) (fun _ _ _ h => h) (Or.inl ⟨by rfl, fun w' hS => ?_⟩) hSK ?_
            · obtain ⟨s0, s1, s2⟩ := hS
              go_simp
            simp only [Act.put]
            refine L_take (i := 25) (v := .string (O ++ X1 ++ X2 ++ X3 ++ X4)) rfl (by kernel_rfl) (by kernel_rfl) (by kernel_rfl) (by kernel_rfl) (by kernel_rfl) (by kernel_rfl) (fun _ _ _ h => h) (Or.inl ⟨by rfl, fun w' hS => ?_⟩) hSK ?_
            · obtain ⟨s0, s1, s2⟩ := hS
              go_simp
            simp only [Act.put]
            refine L_done (by kernel_rfl) ?_
            have HQ := Lib.hid (bthen HB1.out hq (Nat.le_refl _))
            clear hq hSK
            go_wp2
            go_roundw
            case rel => exact ⟨q + 1, by omega, by go_num, by rw [HSN.out], HQ.out⟩
            case measure => simp [intOf]; omega
      · obtain rfl : nV = q := by omega
        rw [List.take_of_length_le (by rw [List.length_zip, HMY.out.2.1]; omega)]
        have hI := HI.out.below hb
        have hzl := cols_len (d.cols.zip d.vals) (fun p hp => by
          obtain ⟨i, hi, e1, e2⟩ := mem_zip_get (d := d) (by rw [hI.lens.1, hI.lens.2]) hp
          intro v hv
          have hrr : ∃ r' ∈ rs, r'.vs = p.2 := by
            rw [← e2, hI.eq, List.getD_eq_getElem?_getD, List.getElem?_map]
            rw [hI.lens.1] at hi
            have : i < rs.length := by rw [hI.vals.1]; exact hi
            rw [List.getElem?_eq_getElem this]
            exact ⟨rs[i], List.getElem_mem this, rfl⟩
          obtain ⟨r', hr', e'⟩ := hrr
          rw [← e'] at hv
          exact hI.fv r' hr' v hv)
        have hzl2 : (d.cols.zip d.vals).length ≤ nV := by rw [List.length_zip, hI.lens.1]; omega
        have hL1 : (headB d ++ (d.cols.zip d.vals).flatMap colBytes).length ≤ 5000000 := by rw [List.length_append]; omega
        have hbe := body_eq d
        generalize headB d ++ (d.cols.zip d.vals).flatMap colBytes = L1 at *
        have HBE := Lib.hid hbe; clear hbe hzl hzl2 hhl
        replace HI := Lib.hid hI; clear hI
        replace HD := Lib.hid hDr; clear hDr
        replace HB := Lib.hid (bthen HB.out hb (Nat.le_refl _)); clear hb hlt
        generalize wr = WO at *
        go_wp2
        go_loopw [4, 9] (fun sv iv ws => ∃ q : Nat, q ≤ nV ∧ iv = .int .i64 q ∧ sv = .string (str (L1 ++ (d.vals.take q).flatMap statBytes)) ∧ Below WO.heap.size WO ws) (fun _ iv _ => nV - (intOf iv).toNat)
        case atStart => exact ⟨0, Nat.zero_le _, rfl, by simp, Below.refl _ _⟩
        case round =>
          clear x0 x1 x2
          obtain ⟨q, hq, rfl, rfl, hb⟩ := hrel
          have hDr := HD.out.below hb
          obtain ⟨x0, x1, x2⟩ := hDr.cells
          by_cases hlt : q < nV
          · have hI := HI.out.below hb
            obtain ⟨b1, o1, c, hc, hA1, hb1, y0, y1, y2⟩ := CSl.at_ hI.cols hlt
            obtain ⟨b2, o2, r, hr, hA2, hb2, z0⟩ := RSl.at_ hI.vals hlt
            have hV := hI.rows r (List.mem_of_getElem? hr)
            obtain ⟨_, _, hfv, hft⟩ := col_facts hI HMY.out.1 hc hr hlt
            have hrv := hI.row hr
            have hsn := sts_snoc hrv
            obtain ⟨sm1, sm2, sm3⟩ := stat_small hfv hft
            have hsb : statBytes r.vs = cnt (stat r.vs).nulls ++ limit (stat r.vs).mn ++ limit (stat r.vs).mx := rfl
            have hrn : r.vs.length ≤ 4096 := by
              have hm := HMY.out.1
              have := (hm.2 q (by rw [HMY.out.2.1]; exact hlt)).2.2.2.2.1
              rw [getD_at hrv] at this
              have := hm.1.2.1
              omega
            have hpl := stats_len (d.vals.take q) (fun vs hv => by
              have hv := List.mem_of_mem_take hv
              obtain ⟨i, hi⟩ := List.getElem?_of_mem hv
              have hil : i < nV := by rw [← hI.lens.2]; exact (List.getElem?_eq_some_iff.1 hi).1
              obtain ⟨_, _, c', hc', _⟩ := CSl.at_ hI.cols hil
              obtain ⟨_, _, r', hr', _⟩ := RSl.at_ hI.vals hil
              obtain ⟨_, _, f1, f2⟩ := col_facts hI HMY.out.1 hc' hr' hil
              have : r'.vs = vs := by have := hI.row hr'; rw [hi] at this; injection this with this; exact this.symm
              rw [← this]
              exact ⟨f1, _, f2⟩)
            have htl : (d.vals.take q).length ≤ q := List.length_take_le _ _
            have hrn2 : r.n ≤ maxLen := Nat.le_trans (hI.nr r (List.mem_of_getElem? hr)) (by unfold maxLen; omega)
            have hT := fun w h => Stats.statR_any c.id r.A r.n r.c r.vs w h hrn2 (fun v hv => Nat.le_trans (hfv v hv).s (by unfold maxLen; omega))
            rw [hsb] at hsn
            clear hsb
            generalize (stat r.vs).nulls = N at *
            generalize (stat r.vs).mn = mn at *
            generalize (stat r.vs).mx = mx at *
            have hk1 := fun w => Varint.Varint_any N w (by omega)
            simp only [enc_cnt] at hk1
            have hk2 := fun w => bound_any mn w sm1
            have hk3 := fun w => bound_any mx w sm2
            have ll1 := cnt_size N
            have ll2 := limit_len mn sm1.s
            have ll3 := limit_len mx sm2.s
            have hLq : (L1 ++ (d.vals.take q).flatMap statBytes).length ≤ 5100000 := by rw [List.length_append]; omega
            generalize hLL : L1 ++ (d.vals.take q).flatMap statBytes = L at *
            have s1 := str_append L (cnt N)
            have s2 := str_append (L ++ cnt N) (limit mn)
            have s3 := str_append (L ++ cnt N ++ limit mn) (limit mx)
            have hadd1 := add_str (str L) (str (cnt N)) (by rw [str_size, str_size]; omega)
            have hadd2 := add_str (str L ++ str (cnt N)) (str (limit mn)) (by rw [s1, str_size, str_size, List.length_append]; omega)
            have hadd3 := add_str (str L ++ str (cnt N) ++ str (limit mn)) (str (limit mx)) (by rw [s1, s2, str_size, str_size]; simp only [List.length_append]; omega)
            have hSN : str L ++ str (cnt N) ++ str (limit mn) ++ str (limit mx) = str (L1 ++ (d.vals.take (q + 1)).flatMap statBytes) := by
              rw [s1, s2, s3, hsn, ← hLL]; simp only [List.append_assoc]
            have HSN := Lib.hid hSN; clear hSN
            clear s1 s2 s3 hsn ll1 ll2 ll3 sm1 sm2 sm3 hpl htl hrn hrv hfv hft hr hI hLq hLL hrn2
            generalize str L = O at *
            generalize str (cnt N) = X1 at *
            generalize str (limit mn) = X2 at *
            generalize str (limit mx) = X3 at *
            obtain ⟨k5, i5, b5, s5⟩ := mn
            obtain ⟨k6, i6, b6, s6⟩ := mx
            obtain ⟨cid, cnm, ckd⟩ := c
            obtain ⟨rA, rn, rc, rvs⟩ := r
            simp only [vagg] at hk2 hk3 hT hV z0 y0
            have HK1 := Lib.hid hk1; clear hk1
            have HK2 := Lib.hid hk2; clear hk2
            have HK3 := Lib.hid hk3; clear hk3
            have HT := Lib.hid hT; clear hT
            have HV := Lib.hid hV; clear hV hc
            subst hA1; subst hA2
            have hxl := hDr.lt
            have HSS := Lib.hid (fun wT (h : Below wr.heap.size wr wT) => (show wT.cell? ⟨w.heap.size, 1, none⟩ = some (.slice (some ⟨b1, o1, none⟩) nV cC) ∧ wT.cell? ⟨w.heap.size, 2, none⟩ = some (.slice (some ⟨b2, o2, none⟩) nV cV) ∧ wT.cell? ⟨b1, o1 + q * 3, none⟩ = some (.int .i64 cid) ∧ wT.cell? ⟨b2, o2 + q, none⟩ = some (.slice rA rn rc) from
              ⟨(h.cell (p := ⟨w.heap.size, 1, none⟩) hxl).trans x1, (h.cell (p := ⟨w.heap.size, 2, none⟩) hxl).trans x2, (h.cell (p := ⟨b1, _, none⟩) hb1).trans y0, (h.cell (p := ⟨b2, _, none⟩) hb2).trans z0⟩))
            have HB1 := Lib.hid hb; clear hb
            have hi1 : (0 : Int) ≤ (q : Int) := by omega
            have hi2 : (q : Int) < (nV : Int) := by omega
            go_upto_region 12 with fail
            have hq : Below wr.heap.size wr wr.drew := (Below.refl wr.heap.size wr).drew
            refine wp_region_any (by kernel_rfl) ?_
            change wpAny _ _ _ _ _ _ _ (World.drew _)
            clear x0 x1 x2 y0 y1 y2 z0 hDr
            generalize wr.drew = wc at *
            refine any_of_L (S := fun w' => w'.cell? ⟨w.heap.size, 1, none⟩ = some (.slice (some ⟨b1, o1, none⟩) nV cC) ∧ w'.cell? ⟨w.heap.size, 2, none⟩ = some (.slice (some ⟨b2, o2, none⟩) nV cV) ∧ w'.cell? ⟨b1, o1 + q * 3, none⟩ = some (.int .i64 cid) ∧ w'.cell? ⟨b2, o2 + q, none⟩ = some (.slice rA rn rc)) (st := [14]) _ _ _ _ ?_
            have hSK := HSS.out _ hq
            refine L_take (i := 0) (v := .pointer (some ⟨w.heap.size, 1, none⟩)) rfl (by kernel_rfl) (by kernel_rfl) (by kernel_rfl) (by kernel_rfl) (by kernel_rfl) (by kernel_rfl) (fun _ _ _ h => h) (Or.inl ⟨by rfl, fun w' hS => ?_⟩) hSK ?_
            · obtain ⟨s0, s1, s2, s3⟩ := hS
              go_simp
            simp only [Act.put, List.setIfInBounds_toArray]
            refine L_take (i := 1) (v := .slice (some ⟨b1, o1, none⟩) nV cC) rfl (by kernel_rfl) (by kernel_rfl) (by kernel_rfl) (by kernel_rfl) (by kernel_rfl) (by kernel_rfl) (fun _ _ _ h => h) (Or.inl ⟨by rfl, fun w' hS => ?_⟩) hSK ?_
            · obtain ⟨s0, s1, s2, s3⟩ := hS
              go_simp
            simp only [Act.put]
            refine L_take (i := 2) (v := .int .i64 (q : Int)) rfl (by kernel_rfl) (by kernel_rfl) (by kernel_rfl) (by kernel_rfl) (by kernel_rfl) (by kernel_rfl) (fun _ _ _ h => h) (Or.inl ⟨by rfl, fun w' hS => ?_⟩) hSK ?_
            · obtain ⟨s0, s1, s2, s3⟩ := hS
              go_simp
            simp only [Act.put]
            refine L_take (i := 3) (v := .pointer (some ⟨b1, o1 + q * 3, none⟩)) rfl (by kernel_rfl) (by kernel_rfl) (by kernel_rfl) (by kernel_rfl) (by kernel_rfl) (by kernel_rfl) (fun _ _ _ h => h) (Or.inl ⟨by rfl, fun w' hS => ?_⟩) hSK ?_
            · obtain ⟨s0, s1, s2, s3⟩ := hS
              go_simp
            simp only [Act.put]
            refine L_take (i := 4) (v := .pointer (some ⟨b1, o1 + q * 3, none⟩)) rfl (by kernel_rfl) (by kernel_rfl) (by kernel_rfl) (by kernel_rfl) (by kernel_rfl) (by kernel_rfl) (fun _ _ _ h => h) (Or.inl ⟨by rfl, fun w' hS => ?_⟩) hSK ?_
            · obtain ⟨s0, s1, s2, s3⟩ := hS
              go_simp
            simp only [Act.put]
            refine L_take (i := 5) (v := .int .i64 cid) rfl (by kernel_rfl) (by kernel_rfl) (by kernel_rfl) (by kernel_rfl) (by kernel_rfl) (by kernel_rfl) (fun _ _ _ h => h) (Or.inl ⟨by rfl, fun w' hS => ?_⟩) hSK ?_
            · obtain ⟨s0, s1, s2, s3⟩ := hS
              go_simp
            simp only [Act.put]
            refine L_take (i := 6) (v := .pointer (some ⟨w.heap.size, 2, none⟩)) rfl (by kernel_rfl) (by kernel_rfl) (by kernel_rfl) (by kernel_rfl) (by kernel_rfl) (by kernel_rfl) (fun _ _ _ h => h) (Or.inl ⟨by rfl, fun w' hS => ?_⟩) hSK ?_
            · obtain ⟨s0, s1, s2, s3⟩ := hS
              go_simp
            simp only [Act.put]
            refine L_take (i := 7) (v := .slice (some ⟨b2, o2, none⟩) nV cV) rfl (by kernel_rfl) (by kernel_rfl) (by kernel_rfl) (by kernel_rfl) (by kernel_rfl) (by kernel_rfl) (fun _ _ _ h => h) (Or.inl ⟨by rfl, fun w' hS => ?_⟩) hSK ?_
            · obtain ⟨s0, s1, s2, s3⟩ := hS
              go_simp
            simp only [Act.put]
            refine L_take (i := 8) (v := .int .i64 (q : Int)) rfl (by kernel_rfl) (by kernel_rfl) (by kernel_rfl) (by kernel_rfl) (by kernel_rfl) (by kernel_rfl) (fun _ _ _ h => h) (Or.inl ⟨by rfl, fun w' hS => ?_⟩) hSK ?_
            · obtain ⟨s0, s1, s2, s3⟩ := hS
              go_simp
            simp only [Act.put]
            refine L_take (i := 9) (v := .pointer (some ⟨b2, o2 + q, none⟩)) rfl (by kernel_rfl) (by kernel_rfl) (by kernel_rfl) (by kernel_rfl) (by kernel_rfl) (by kernel_rfl) (fun _ _ _ h => h) (Or.inl ⟨by rfl, fun w' hS => ?_⟩) hSK ?_
            · obtain ⟨s0, s1, s2, s3⟩ := hS
              go_simp
            simp only [Act.put]
            refine L_take (i := 10) (v := .pointer (some ⟨b2, o2 + q, none⟩)) rfl (by kernel_rfl) (by kernel_rfl) (by kernel_rfl) (by kernel_rfl) (by kernel_rfl) (by kernel_rfl) (fun _ _ _ h => h) (Or.inl ⟨by rfl, fun w' hS => ?_⟩) hSK ?_
            · obtain ⟨s0, s1, s2, s3⟩ := hS
              go_simp
            simp only [Act.put]
            refine L_take (i := 11) (v := .slice rA rn rc) rfl (by kernel_rfl) (by kernel_rfl) (by kernel_rfl) (by kernel_rfl) (by kernel_rfl) (by kernel_rfl) (fun _ _ _ h => h) (Or.inl ⟨by rfl, fun w' hS => ?_⟩) hSK ?_
            · obtain ⟨s0, s1, s2, s3⟩ := hS
              go_simp
            simp only [Act.put]
            refine L_two (i := 12) (j := 13) (by kernel_rfl) rfl rfl (fun K hK => ?_) (fun K hK => ?_)
            · skip
              go_simp
              go_wp2_with (go_at_call 34; (with_reducible refine (HT.out _ (VSl.below HV.out hq)).mono ?_); rintro e wS ⟨rfl, hbS⟩)
              have hqn := bthen hq hbS (Nat.le_refl _)
              refine hK.out _ _ (fun _ => HSS.out _ hqn) ?_
              clear hK K
              (try simp only [Act.put])
              refine L_one (i := 13) (by kernel_rfl) rfl (fun K hK => ?_)
              go_simp
              have hqa := hqn.alloc hqn.size (.cells #[.int .i64 0, .int .i64 0, .int .i64 0, .int .i64 0, .bool false, .string { data := #[] }, .int .i64 0, .int .i64 0, .bool false, .string { data := #[] }] 73)
              refine hK.out _ _ (fun _ => HSS.out _ hqa) ?_
              clear hK K
              (try simp only [Act.put])
              have hs0 := Stats.SBox.new wS wS.heap.size rfl 0 0 nul nul
              have hszS := hqn.size
              refine L_one (i := 14) (by kernel_rfl) rfl (fun K hK => ?_)
              refine step_store_stat rfl (.tmp 10) (.tmp 91) rfl wS.heap.size cid (N : Nat) 0 0 ⟨k5, i5, b5, s5⟩ ⟨k6, i6, b6, s6⟩ nul nul rfl rfl hs0 ?_
              intro wq hsx hgq
              have hqq := hqa.grown hgq hqa.size (fun j hj => by cases hj; exact hszS)
              refine hK.out _ _ (fun h => absurd (by simp) h) ?_
              clear hK K hSK hs0 hgq
              generalize wS.heap.size = g9 at *
              refine L_done (by kernel_rfl) ?_
              have HQW := Lib.hid (bthen HB1.out hqq (Nat.le_refl _))
              clear hqq hqa hqn hq hbS
              have hgl := hsx.lt
              have HSX := Lib.hid (fun wT (h : Below wq.heap.size wq wT) => hsx.below h hgl)
              obtain ⟨_, f1, f2, f3, f4, f5, f6, f7, f8, f9⟩ := hsx.cells
              simp only [] at f1 f2 f3 f4 f5 f6 f7 f8 f9
              clear hsx hgl
              have hq1 := Below.refl wq.heap.size wq
              have hq2 := Below.refl wq.heap.size wq
              have hq3 := Below.refl wq.heap.size wq
              go_wp2_with fail
              go_region_held3 (fun w' => w'.cell? ⟨g9, 1, none⟩ = some (.int .i64 (N : Nat)) ∧ (w'.cell? ⟨g9, 2, none⟩ = some (.int .i64 k5) ∧ w'.cell? ⟨g9, 3, none⟩ = some (.int .i64 i5) ∧ w'.cell? ⟨g9, 4, none⟩ = some (.bool b5) ∧ w'.cell? ⟨g9, 5, none⟩ = some (.string s5)) ∧ (w'.cell? ⟨g9, 6, none⟩ = some (.int .i64 k6) ∧ w'.cell? ⟨g9, 7, none⟩ = some (.int .i64 i6) ∧ w'.cell? ⟨g9, 8, none⟩ = some (.bool b6) ∧ w'.cell? ⟨g9, 9, none⟩ = some (.string s6)))
                (first | go_keep | exact sts_cells (HSX.out _ hq3) | exact sts_cells (HSX.out _ hq2) | exact sts_cells (HSX.out _ hq1))
                ((first
                  | (go_at_call 32; (with_reducible refine (HK1.out _).mono ?_); rintro e wx ⟨rfl, hbx⟩; have hq1 : Below wq.heap.size wq wx := bthen (Below.refl _ wq).drew hbx (Nat.le_refl _))
                  | (go_at_call 35; (with_reducible refine (HK2.out _).mono ?_); rintro e wy ⟨rfl, hby⟩; have hq2 : Below wq.heap.size wq wy := bthen hq1 hby (Nat.le_refl _))
                  | (go_at_call 35; (with_reducible refine (HK3.out _).mono ?_); rintro e wz ⟨rfl, hbz⟩; have hq3 : Below wq.heap.size wq wz := bthen hq2 hbz (Nat.le_refl _))))
              have HQ := Lib.hid (bthen HQW.out hq3 (Nat.le_refl _))
              clear f1 f2 f3 f4 f5 f6 f7 f8 f9 hq1 hq2 hq3 HSX
              go_wp2
              go_roundw
              case rel => exact ⟨q + 1, by omega, by go_num, by rw [HSN.out], HQ.out⟩
              case measure => simp [intOf]; omega
            · skip
              go_simp
              have hqa := hq.alloc hq.size (.cells #[.int .i64 0, .int .i64 0, .int .i64 0, .int .i64 0, .bool false, .string { data := #[] }, .int .i64 0, .int .i64 0, .bool false, .string { data := #[] }] 73)
              refine hK.out _ _ (fun _ => HSS.out _ hqa) ?_
              clear hK K
              (try simp only [Act.put])
              have hs0 := Stats.SBox.new wc wc.heap.size rfl 0 0 nul nul
              have hszS := hq.size
              refine L_one (i := 12) (by kernel_rfl) rfl (fun K hK => ?_)
              go_simp
              go_wp2_with (go_at_call 34; (with_reducible refine (HT.out _ (VSl.below HV.out hqa)).mono ?_); rintro e wS ⟨rfl, hbS⟩)
              have hqn := bthen hqa hbS (Nat.le_refl _)
              have hs1 := hs0.below hbS hs0.lt
              refine hK.out _ _ (fun _ => HSS.out _ hqn) ?_
              clear hK K
              (try simp only [Act.put])
              refine L_one (i := 14) (by kernel_rfl) rfl (fun K hK => ?_)
              refine step_store_stat rfl (.tmp 10) (.tmp 91) rfl wc.heap.size cid (N : Nat) 0 0 ⟨k5, i5, b5, s5⟩ ⟨k6, i6, b6, s6⟩ nul nul rfl rfl hs1 ?_
              intro wq hsx hgq
              have hqq := hqn.grown hgq hqn.size (fun j hj => by cases hj; exact hszS)
              refine hK.out _ _ (fun h => absurd (by simp) h) ?_
              clear hK K hSK hs0 hs1 hgq
              generalize wc.heap.size = g9 at *
              refine L_done (by kernel_rfl) ?_
              have HQW := Lib.hid (bthen HB1.out hqq (Nat.le_refl _))
              clear hqq hqa hqn hq hbS
              have hgl := hsx.lt
              have HSX := Lib.hid (fun wT (h : Below wq.heap.size wq wT) => hsx.below h hgl)
              obtain ⟨_, f1, f2, f3, f4, f5, f6, f7, f8, f9⟩ := hsx.cells
              simp only [] at f1 f2 f3 f4 f5 f6 f7 f8 f9
              clear hsx hgl
              have hq1 := Below.refl wq.heap.size wq
              have hq2 := Below.refl wq.heap.size wq
              have hq3 := Below.refl wq.heap.size wq
              go_wp2_with fail
              go_region_held3 (fun w' => w'.cell? ⟨g9, 1, none⟩ = some (.int .i64 (N : Nat)) ∧ (w'.cell? ⟨g9, 2, none⟩ = some (.int .i64 k5) ∧ w'.cell? ⟨g9, 3, none⟩ = some (.int .i64 i5) ∧ w'.cell? ⟨g9, 4, none⟩ = some (.bool b5) ∧ w'.cell? ⟨g9, 5, none⟩ = some (.string s5)) ∧ (w'.cell? ⟨g9, 6, none⟩ = some (.int .i64 k6) ∧ w'.cell? ⟨g9, 7, none⟩ = some (.int .i64 i6) ∧ w'.cell? ⟨g9, 8, none⟩ = some (.bool b6) ∧ w'.cell? ⟨g9, 9, none⟩ = some (.string s6)))
                (first | go_keep | exact sts_cells (HSX.out _ hq3) | exact sts_cells (HSX.out _ hq2) | exact sts_cells (HSX.out _ hq1))
                ((first
                  | (go_at_call 32; (with_reducible refine (HK1.out _).mono ?_); rintro e wx ⟨rfl, hbx⟩; have hq1 : Below wq.heap.size wq wx := bthen (Below.refl _ wq).drew hbx (Nat.le_refl _))
                  | (go_at_call 35; (with_reducible refine (HK2.out _).mono ?_); rintro e wy ⟨rfl, hby⟩; have hq2 : Below wq.heap.size wq wy := bthen hq1 hby (Nat.le_refl _))
                  | (go_at_call 35; (with_reducible refine (HK3.out _).mono ?_); rintro e wz ⟨rfl, hbz⟩; have hq3 : Below wq.heap.size wq wz := bthen hq2 hbz (Nat.le_refl _))))
              have HQ := Lib.hid (bthen HQW.out hq3 (Nat.le_refl _))
              clear f1 f2 f3 f4 f5 f6 f7 f8 f9 hq1 hq2 hq3 HSX
              go_wp2
              go_roundw
              case rel => exact ⟨q + 1, by omega, by go_num, by rw [HSN.out], HQ.out⟩
              case measure => simp [intOf]; omega
          · obtain rfl : nV = q := by omega
            rw [List.take_of_length_le (by rw [(HI.out.below hb).lens.2]; exact Nat.le_refl _), ← HBE.out]
            have hbody : (fileBody d).length ≤ 5100000 := by
              rw [HBE.out, List.length_append]
              have hI := HI.out.below hb
              have := stats_len d.vals (fun vs hv => by
                obtain ⟨i, hi⟩ := List.getElem?_of_mem hv
                have hil : i < nV := by rw [← hI.lens.2]; exact (List.getElem?_eq_some_iff.1 hi).1
                obtain ⟨_, _, c', hc', _⟩ := CSl.at_ hI.cols hil
                obtain ⟨_, _, r', hr', _⟩ := RSl.at_ hI.vals hil
                obtain ⟨_, _, f1, f2⟩ := col_facts hI HMY.out.1 hc' hr' hil
                have : r'.vs = vs := by have := hI.row hr'; rw [hi] at this; injection this with this; exact this.symm
                rw [← this]
                exact ⟨f1, _, f2⟩)
              rw [hI.lens.2] at this
              omega
            have hSe := fun w => Crc.refSeal_any (str (fileBody d)) w (by rw [str_size]; unfold maxReach; omega)
            rw [str_list] at hSe
            have hzs : (str (fileBody d)).size = (fileBody d).length := by rw [str_size]
            obtain ⟨M, hMv⟩ : ∃ M : Int, M = ((str (fileBody d)).size : Int) + 4 := ⟨_, rfl⟩
            have hw107 : IntKind.i64.wrap (((str (fileBody d)).size : Int) + 4) = M := by rw [hMv, hzs, IntKind.wrap_i64]; omega
            have hM2 : M = ((fileBody d).length : Int) + 4 := by rw [hMv, hzs]
            by_cases hgr : 65536 < (fileBody d).length + 4
            · have hno : ¬ fileOk d := fun e => by have := e.2; omega
              have hf1 : str (filePut d) = ByteArray.empty := by unfold filePut; rw [if_neg hno]; rfl
              have hf2 : fileErr d = 1100 := by unfold fileErr; rw [if_neg hno]
              have HF := Lib.hid (And.intro hf1 hf2); clear hf1 hf2 hno
              have hgt2 : (65536 : Int) < M := by omega
              have hgt3 : decide ((65536 : Int) < M) = true := decide_eq_true hgt2
              clear hM2 hzs hMv hgr hbody
              generalize str (CrcMath.seal_ (fileBody d)) = Z at *
              generalize str (fileBody d) = SB at *
              have HSe := Lib.hid hSe; clear hSe
              go_wp2
              go_ret2
              exact ⟨by rw [HF.out.1, HF.out.2]; rfl, bthen HB.out hb (Nat.le_refl _)⟩
            · have hok : fileOk d := ⟨HMY.out.1, by omega⟩
              have hf1 : str (filePut d) = str (CrcMath.seal_ (fileBody d)) := by unfold filePut; rw [if_pos hok]
              have hf2 : fileErr d = 0 := by unfold fileErr; rw [if_pos hok]
              have HF := Lib.hid (And.intro hf1 hf2); clear hf1 hf2 hok
              have hgt2 : M ≤ 65536 := by omega
              have hgt3 : decide ((65536 : Int) < M) = false := decide_eq_false (by omega)
              clear hM2 hzs hMv hgr hbody
              generalize str (CrcMath.seal_ (fileBody d)) = Z at *
              generalize str (fileBody d) = SB at *
              have HSe := Lib.hid hSe; clear hSe
              go_wp2_with (go_at_call 14; (with_reducible refine (HSe.out _).mono ?_); rintro e w6 ⟨rfl, hb6⟩)
              go_ret2
              exact ⟨by rw [HF.out.1, HF.out.2]; rfl, bthen (bthen HB.out hb (Nat.le_refl _)) hb6 (Nat.le_refl _)⟩
  · rw [decide_eq_false hm] at hM
    have hno : ¬ fileOk d := fun e => hm e.1
    have hf1 : str (filePut d) = ByteArray.empty := by unfold filePut; rw [if_neg hno]; rfl
    have hf2 : fileErr d = 1100 := by unfold fileErr; rw [if_neg hno]
    rw [hf1, hf2]
    have HM := Lib.hid hM; clear hM hf1 hf2 hno hm l1 l2
    obtain ⟨x0, x1, x2⟩ := hD.cells
    have HB := Lib.hid hbt; clear hbt
    have HI := Lib.hid h0; clear h0 hD
    go_enter Tryz.func7, Tryz.ntmps7
    go_wp2_with (go_at_call 10; (with_reducible refine (HM.out _ HI.out).mono ?_); rintro e w1 ⟨rfl, hb1⟩)
    go_ret2
    exact ⟨rfl, bthen HB.out hb1 (Nat.le_refl _)⟩
end Go.Proofs.YtgmemdedpklnhaaGreat.File
