/-
  Lemmas of this claim, text behind text: FilePut. Each states its own conditions.
-/
import Derived.Test.YtgmemdedpklnhaaGreatPart16

/-
  THE WALK of colfile.Put.
-/


namespace Go.Proofs.YtgmemdedpklnhaaGreat.File
open Go.RowKit ValMath Vals Sl VecMath Vec Dat Bld

theorem lk_list : lk1.data.toList = magic := rfl
theorem lk_size : lk1.size = 3 := rfl
theorem head_str (a b : List UInt8) : lk1 ++ str a ++ str b = str (magic ++ a ++ b) := by
  rw [show lk1 = str magic from rfl, str_append, str_append]
def headB (d : Dat) : List UInt8 := magic ++ cnt d.rows.toNat ++ cnt d.cols.length
theorem body_eq (d : Dat) : fileBody d = headB d ++ (d.cols.zip d.vals).flatMap colBytes ++ d.vals.flatMap statBytes := by
  unfold fileBody headB; simp only [List.append_assoc]
theorem head_len (d : Dat) : (headB d).length ≤ 23 := by
  have h1 := cnt_size d.rows.toNat
  have h2 := cnt_size d.cols.length
  unfold headB; simp only [List.length_append]; simp [magic]; omega
theorem data_keep {w w' : World} {g : Nat} {R : Int} {C V : Value} (h : DBox w g R C V) (hb : Below w.heap.size w w') : w'.cell? ⟨g, 0, none⟩ = some (.int .i64 R) ∧ w'.cell? ⟨g, 1, none⟩ = some C := ⟨(h.below hb).cells.1, (h.below hb).cells.2.1⟩
theorem stats_at {d : Dat} {q : Nat} {c : Colm} {vs : List Val} (hc : d.cols[q]? = some c) (hv : d.vals[q]? = some vs) : (statsOf d)[q]? = some (sta (c, vs)) := by
  have hz : (d.cols.zip d.vals)[q]? = some (c, vs) := by rw [List.getElem?_zip_eq_some]; exact ⟨hc, hv⟩
  unfold statsOf; rw [List.getElem?_map, hz]; rfl
theorem own_at {w : World} {B n c q : Nat} {A : Option Addr} {xs : List Sta} {s : Sta} (h : OwnS w B (.slice A n c) xs) (hn : xs.length = n) (hq : q < n) (hs : xs[q]? = some s) :
    ∃ g, A = some ⟨g, 0, none⟩ ∧ g < w.heap.size ∧ w.cell? ⟨g, q * 10, none⟩ = some (.int .i64 s.c) ∧ w.cell? ⟨g, q * 10 + 1, none⟩ = some (.int .i64 s.n) ∧
      (w.cell? ⟨g, q * 10 + 2, none⟩ = some (.int .i64 s.mn.k) ∧ w.cell? ⟨g, q * 10 + 3, none⟩ = some (.int .i64 s.mn.i) ∧ w.cell? ⟨g, q * 10 + 4, none⟩ = some (.bool s.mn.b) ∧ w.cell? ⟨g, q * 10 + 5, none⟩ = some (.string s.mn.s)) ∧
      (w.cell? ⟨g, q * 10 + 6, none⟩ = some (.int .i64 s.mx.k) ∧ w.cell? ⟨g, q * 10 + 7, none⟩ = some (.int .i64 s.mx.i) ∧ w.cell? ⟨g, q * 10 + 8, none⟩ = some (.bool s.mx.b) ∧ w.cell? ⟨g, q * 10 + 9, none⟩ = some (.string s.mx.s)) := by
  obtain ⟨g, rfl, _, hlt, _, hc⟩ := OwnG.cells h (fun _ => rfl) rfl hn (by omega)
  have hql : q < xs.length := by omega
  have hx : xs[q] = s := by rw [List.getElem?_eq_getElem hql] at hs; injection hs
  have hc := hc q hql
  rw [hx] at hc
  exact ⟨g, rfl, hlt, hc 0 (by omega), hc 1 (by omega), ⟨hc 2 (by omega), hc 3 (by omega), hc 4 (by omega), hc 5 (by omega)⟩, ⟨hc 6 (by omega), hc 7 (by omega), hc 8 (by omega), hc 9 (by omega)⟩⟩
theorem sts_keep {W1 wc wz : World} {g9 b : Nat} {n k5 i5 k6 i6 : Int} {b5 b6 : Bool} {s5 s6 : ByteArray} {cid : Int}
    (h : ∀ wT, Below W1.heap.size W1 wT → Stats.SBox wT g9 cid n ⟨k5, i5, b5, s5⟩ ⟨k6, i6, b6, s6⟩) (hq : Below W1.heap.size W1 wc) (hk : Lib.OthersKept 5 (some b) wc wz) (hne : some g9 ≠ some b) : Stats.SBox wz g9 cid n ⟨k5, i5, b5, s5⟩ ⟨k6, i6, b6, s6⟩ :=
  hk g9 _ (h wc hq) hne (fun c fz e => by injection e with _ e2 _; exact absurd e2 (by decide))
theorem sts_cells {w : World} {g9 : Nat} {n k5 i5 k6 i6 cid : Int} {b5 b6 : Bool} {s5 s6 : ByteArray} (h : Stats.SBox w g9 cid n ⟨k5, i5, b5, s5⟩ ⟨k6, i6, b6, s6⟩) :
    w.cell? ⟨g9, 1, none⟩ = some (.int .i64 n) ∧ (w.cell? ⟨g9, 2, none⟩ = some (.int .i64 k5) ∧ w.cell? ⟨g9, 3, none⟩ = some (.int .i64 i5) ∧ w.cell? ⟨g9, 4, none⟩ = some (.bool b5) ∧ w.cell? ⟨g9, 5, none⟩ = some (.string s5)) ∧ (w.cell? ⟨g9, 6, none⟩ = some (.int .i64 k6) ∧ w.cell? ⟨g9, 7, none⟩ = some (.int .i64 i6) ∧ w.cell? ⟨g9, 8, none⟩ = some (.bool b6) ∧ w.cell? ⟨g9, 9, none⟩ = some (.string s6)) := by
  obtain ⟨_, a1, a2, a3, a4, a5, a6, a7, a8, a9⟩ := h.cells
  exact ⟨a1, ⟨a2, a3, a4, a5⟩, ⟨a6, a7, a8, a9⟩⟩
theorem write_keep {WB wb w3 : World} {g B : Nat} {x y : Value} (h : ∀ wT, Below WB.heap.size WB wT → (wT.cell? ⟨g, 0, none⟩ = some x ∧ wT.cell? ⟨g, 1, none⟩ = some y)) (hq : Below WB.heap.size WB wb) (hb : Below B wb w3) (hg : g < B) :
    w3.cell? ⟨g, 0, none⟩ = some x ∧ w3.cell? ⟨g, 1, none⟩ = some y := ⟨(hb.cell (p := ⟨g, 0, none⟩) hg).trans (h _ hq).1, (hb.cell (p := ⟨g, 1, none⟩) hg).trans (h _ hq).2⟩
set_option maxRecDepth 20000 in
set_option maxHeartbeats 8000000 in
theorem put_any (d : Dat) (AC AV : Option Addr) (nC cC nV cV : Nat) (rs : List RowA) (w : World) (h : DIn w d AC nC AV nV rs) :
    Calls Tryz.prog 6 #[dagg d.rows AC nC cC AV nV cV] w fun e w' => e = .returned (.tuple #[.string (str (filePut d)), .int .i64 (fileErr d : Nat)]) ∧ Below w.heap.size w w' := by
  obtain ⟨l1, l2⟩ := h.lens
  have hM := fun w h => may_any d AC AV nC cC nV cV rs w h
  have hD : DBox (w.alloc (.cells #[.int .i64 d.rows, .slice AC nC cC, .slice AV nV cV] 25)) w.heap.size d.rows (.slice AC nC cC) (.slice AV nV cV) := DBox.new w _ _ _
  have hbt := Vals.one_new (w := w) (.cells #[.int .i64 d.rows, .slice AC nC cC, .slice AV nV cV] 25)
  have h0 := h.below hbt
  clear h
  by_cases hm : mayFile d
  · obtain ⟨Rn, hR, hRn⟩ := head_nat hm
    have hhd := hm.1
    unfold headOk at hhd
    have h5 := hhd.2.2.2.2
    rw [l1] at hhd
    have hnv : nV = nC := by omega
    subst hnv
    have hn12 : nV ≤ 12 := hhd.2.2.2.1
    have hn1 : 1 ≤ nV := hhd.2.2.1
    clear hhd h5 l2
    rw [decide_eq_true hm] at hM
    rw [hR] at hM hD hbt h0 ⊢
    have hK1 := fun w => count_any Rn w (by omega)
    have hK2 := fun w => count_any nV w (by omega)
    have hH1 : headB d = magic ++ cnt Rn ++ cnt nV := by unfold headB; rw [hR, l1, Int.toNat_natCast]
    have hH2 := head_str (cnt Rn) (cnt nV)
    have hc1 := cnt_size Rn
    have hc2 := cnt_size nV
    have hadd1 := add_str lk1 (str (cnt Rn)) (by rw [str_size, lk_size]; omega)
    have hadd2 := add_str (lk1 ++ str (cnt Rn)) (str (cnt nV)) (by rw [show lk1 = str magic from rfl, str_append, str_size, str_size]; simp [magic]; omega)
    rw [← hH1] at hH2
    have hwl : ([] : List UInt8).length + (str (headB d)).size ≤ 140737488355328 := by have := head_len d; rw [str_size]; simp; omega
    rw [← hH2] at hwl
    simp only [lk1] at hadd1 hadd2 hH2 hwl
    have HH := Lib.hid (And.intro hH2 hwl); clear hH1 hH2 hc1 hc2 hwl
    generalize str (cnt Rn) = S1 at *
    generalize str (cnt nV) = S2 at *
    have HM := Lib.hid hM; clear hM
    have HK1 := Lib.hid hK1; clear hK1
    have HK2 := Lib.hid hK2; clear hK2
    have HMY := Lib.hid (And.intro hm (And.intro l1 hR)); clear hm l1 hR
    obtain ⟨x0, x1, x2⟩ := hD.cells
    have HD := Lib.hid hD; clear hD
    have HI := Lib.hid h0; clear h0
    have HB := Lib.hid hbt; clear hbt
    go_enter Tryz.func6, Tryz.ntmps6
    go_wp2_with (go_at_call 9; (with_reducible refine (HM.out _ HI.out).mono ?_); rintro e w1 ⟨rfl, hb1⟩; replace HB := Lib.hid (bthen HB.out hb1 (Nat.le_refl _)); replace HI := Lib.hid (HI.out.below hb1); replace HD := Lib.hid (HD.out.below hb1); clear hb1 x0 x1 x2 HM)
    go_upto_region 4 with fail
    obtain ⟨B, hBe⟩ : ∃ B, B = w1.heap.size := ⟨_, rfl⟩
    have hBl : Bld (w1.alloc (.cells #[.pointer none, .slice none 0 0] 56)) w1.heap.size w1.heap.size [] := Bld.new w1
    have hb2 := Vals.one_new (w := w1) (.cells #[.pointer none, .slice none 0 0] 56)
    have hD2 := HD.out.alloc (.cells #[.pointer none, .slice none 0 0] 56)
    generalize hWB : w1.alloc (.cells #[.pointer none, .slice none 0 0] 56) = WB at *
    have hgw := HD.out.lt
    have hBW : w1.heap.size ≤ WB.heap.size := hb2.size
    have HBL := Lib.hid hBl; clear hBl
    have HB2 := Lib.hid hb2; clear hb2
    have HSS := Lib.hid (fun wT (h : Below WB.heap.size WB wT) => data_keep hD2 h)
    obtain ⟨x0, x1, _⟩ := hD2.cells
    clear hD2 hWB
    have hq1 := Below.refl WB.heap.size WB
    have hq2 := Below.refl WB.heap.size WB
    have hSA := trivial
    go_region_held3 (fun w' => w'.cell? ⟨w.heap.size, 0, none⟩ = some (.int .i64 (Rn : Nat)) ∧ w'.cell? ⟨w.heap.size, 1, none⟩ = some (.slice AC nV cC))
      (first | go_keep | exact HSS.out _ hq2 | exact HSS.out _ hq1 | exact hSA)
      ((first
        | (go_at_call 26; (with_reducible refine (HK1.out _).mono ?_); rintro e wa ⟨rfl, hba⟩; have hq1 : Below WB.heap.size WB wa := bthen (Below.refl _ WB).drew hba (Nat.le_refl _))
        | (go_at_call 26; (with_reducible refine (HK2.out _).mono ?_); rintro e wb ⟨rfl, hbb⟩; have hq2 : Below WB.heap.size WB wb := bthen hq1 hbb (Nat.le_refl _))
        | (go_at_call 25; (refine (write_any w1.heap.size w1.heap.size [] _ _ (HBL.out.below hq2) HH.out.2 (Nat.le_trans hBW hq2.size)).mono ?_); rintro e w3 ⟨rfl, hU, hb3⟩; have hSA := write_keep (g := w.heap.size) HSS.out hq2 hb3 hgw)))
    have hU2 := hU.bld
    rw [HH.out.1, str_list, List.nil_append] at hU2
    have HU := Lib.hid hU2; clear hU hU2
    have hbA : Below w1.heap.size w1 w3 := (HB2.out.trans (hq2.mono hBW)).trans hb3
    have HBA := Lib.hid hbA; clear hbA hb3 hq1 hq2 hSA HBL HB2 HSS x0 x1 HK1 HK2 hadd1 hadd2
    clear hq1 hq2 hSA
    have hhl := head_len d
    go_wp2
    go_loopw [28] (fun iv wr => ∃ q : Nat, q ≤ nV ∧ iv = .int .i64 q ∧ Bld wr w1.heap.size w1.heap.size (headB d ++ ((d.cols.zip d.vals).take q).flatMap colBytes) ∧ Below w1.heap.size w1 wr) (fun iv _ => nV - (intOf iv).toNat)
    case atStart => exact ⟨0, Nat.zero_le _, rfl, by simpa using HU.out, HBA.out⟩
    case round =>
      clear HU HBA
      obtain ⟨q, hq, rfl, hBl, hb⟩ := hrel
      have hszr := hb.size
      by_cases hlt : q < nV
      · have hI := HI.out.below hb
        have hDr := HD.out.below hb
        obtain ⟨b1, o1, c, hc, hA1, hb1, y0, y1, y2⟩ := CSl.at_ hI.cols hlt
        obtain ⟨b2, o2, r, hr, hA2, hb2, z0⟩ := RSl.at_ hI.vals hlt
        have hV := hI.rows r (List.mem_of_getElem? hr)
        obtain ⟨⟨idn, kn, rfl, hid0, hid1, hk0, hk1⟩, hme, hfv, hft⟩ := col_facts hI HMY.out.1 hc hr hlt
        have hsn := cols_snoc hc (hI.row hr)
        have hcl := cols_len ((d.cols.zip d.vals).take q) (fun p hp => by
          obtain ⟨i, hi, e1, e2⟩ := mem_zip_get (d := d) (by rw [hI.lens.1, hI.lens.2]) (List.mem_of_mem_take hp)
          intro v hv
          have hrr : ∃ r' ∈ rs, r'.vs = p.2 := by
            rw [← e2, hI.eq, List.getD_eq_getElem?_getD, List.getElem?_map]
            rw [hI.lens.1] at hi
            have : i < rs.length := by rw [hI.vals.1]; exact hi
            rw [List.getElem?_eq_getElem this]
            exact ⟨rs[i], List.getElem_mem this, rfl⟩
          obtain ⟨r', hr', e'⟩ := hrr
          rw [← e'] at hv
          exact hI.fv r' hr' v hv)
        have htl : ((d.cols.zip d.vals).take q).length ≤ q := List.length_take_le _ _
        obtain ⟨rA, rn, rc, rvs⟩ := r
        simp only [] at y0 y1 y2 z0 hV hme hfv hsn hft
        have hput : put (kn : Int) rvs = put (kn : Int) rvs := rfl
        have hpl := put_small (kn : Int) hfv
        have hP := fun w h => Vec.put_any (kn : Int) rA rn rc rvs w h hfv
        rw [hme] at hP
        have hcb : colBytes (⟨(idn : Int), ByteArray.empty, (kn : Int)⟩, rvs) = cnt idn ++ ([UInt8.ofNat kn] ++ (cnt (put (kn : Int) rvs).length ++ put (kn : Int) rvs)) := by
          unfold colBytes; simp only [Int.toNat_natCast]
        rw [hcb] at hsn
        generalize put (kn : Int) rvs = PB at *
        clear hput hcb hme hft hfv hid0 hc hr hI
        have hll : (headB d ++ ((d.cols.zip d.vals).take q).flatMap colBytes).length ≤ 5000000 := by rw [List.length_append]; omega
        have hk1 := fun w => count_any idn w hid1
        have hk2 : ∀ w, Calls Tryz.prog 26 #[.int .i64 ((str PB).size : Nat)] w fun e w' => e = .returned (.string (str (cnt PB.length))) ∧ Below w.heap.size w w' := fun w => by
          have := count_any (str PB).size w (by rw [str_size]; omega)
          rw [str_size] at this ⊢; exact this
        have hcs1 := cnt_size idn
        have hcs2 := cnt_size PB.length
        have hcv : ∀ (W : World) (g c : Nat), W.cell? ⟨g, 0, none⟩ = some (.int .u8 (kn : Int)) → (convert 54 9 (.slice (some ⟨g, 0, none⟩) 1 c)).run Tryz.prog W = .ok (.string (str [UInt8.ofNat kn])) W := fun W g c h => by
          rw [run_str_one W g c (kn : Int) h, str_nums]; simp
        have hw8 : IntKind.u8.wrap (kn : Int) = (kn : Int) := by rw [IntKind.wrap_u8]; omega
        have e1 := str_append (cnt idn) [UInt8.ofNat kn]
        have e2 := str_append (cnt idn ++ [UInt8.ofNat kn]) (cnt PB.length)
        have e3 := str_append (cnt idn ++ [UInt8.ofNat kn] ++ cnt PB.length) PB
        have hadd1 := add_str (str (cnt idn)) (str [UInt8.ofNat kn]) (by rw [str_size, str_size]; simp; omega)
        have hadd2 := add_str (str (cnt idn) ++ str [UInt8.ofNat kn]) (str (cnt PB.length)) (by rw [e1, str_size, str_size]; simp; omega)
        have hadd3 := add_str (str (cnt idn) ++ str [UInt8.ofNat kn] ++ str (cnt PB.length)) (str PB) (by rw [e1, e2, str_size, str_size]; simp; omega)
        have hE : str (cnt idn) ++ str [UInt8.ofNat kn] ++ str (cnt PB.length) ++ str PB = str (cnt idn ++ ([UInt8.ofNat kn] ++ (cnt PB.length ++ PB))) := by rw [e1, e2, e3]; simp only [List.append_assoc]
        have hlen : (headB d ++ ((d.cols.zip d.vals).take q).flatMap colBytes).length + (str (cnt idn) ++ str [UInt8.ofNat kn] ++ str (cnt PB.length) ++ str PB).size ≤ 140737488355328 := by rw [hE, str_size]; simp only [List.length_append, List.length_singleton] at hll ⊢; omega
        have hsn2 : headB d ++ ((d.cols.zip d.vals).take (q + 1)).flatMap colBytes = headB d ++ ((d.cols.zip d.vals).take q).flatMap colBytes ++ (str (cnt idn) ++ str [UInt8.ofNat kn] ++ str (cnt PB.length) ++ str PB).data.toList := by rw [hE, str_list, hsn, List.append_assoc]
        clear e1 e2 e3 hE hsn hcs1 hcs2 hll hcl htl hpl hhl hid1
        generalize headB d ++ ((d.cols.zip d.vals).take q).flatMap colBytes = L at *
        generalize str (cnt idn) = X1 at *
        generalize str [UInt8.ofNat kn] = X2 at *
        generalize str (cnt PB.length) = X3 at *
        generalize str PB = X4 at *
        have HLN := Lib.hid (And.intro hlen hsn2); clear hlen hsn2
        have HK1 := Lib.hid hk1; clear hk1
        have HK2 := Lib.hid hk2; clear hk2
        have HP := Lib.hid hP; clear hP
        have hcb : CBox (wr.alloc (.cells #[.int .i64 (idn : Int), .string ByteArray.empty, .int .i64 (kn : Int)] 63)) wr.heap.size ⟨(idn : Int), ByteArray.empty, (kn : Int)⟩ := CBox.new wr ⟨(idn : Int), ByteArray.empty, (kn : Int)⟩
        have hon := Vals.one_new (w := wr) (.cells #[.int .i64 (idn : Int), .string ByteArray.empty, .int .i64 (kn : Int)] 63)
        have hz1 := hon.cell (p := ⟨b2, o2 + q, none⟩) hb2
        rw [z0] at hz1
        subst hA1; subst hA2
        go_upto_region 8 with fail
        have hD1 := hDr.below hon
        have hV1 := hV.below hon
        have hBl1 := hBl.below hon
        have hb1' := bthen hb hon (Nat.le_refl _)
        generalize hW1 : wr.alloc (.cells #[.int .i64 (idn : Int), .string ByteArray.empty, .int .i64 (kn : Int)] 63) = W1 at *
        have hb2' : b2 < W1.heap.size := Nat.lt_of_lt_of_le hb2 hon.size
        generalize wr.heap.size = g9 at *
        have HCB := Lib.hid hcb
        have HVD := Lib.hid (vsl_drew hV1); clear hV1
        have HBL := Lib.hid hBl1; clear hBl1
        have HBB := Lib.hid hb1'; clear hb1'
        obtain ⟨_, _, u2⟩ := hcb.cells
        obtain ⟨_, _, v2⟩ := hD1.cells
        have hS : ∀ wT, Below W1.heap.size W1 wT → (wT.cell? ⟨g9, 2, none⟩ = some (.int .i64 (kn : Int)) ∧ wT.cell? ⟨w.heap.size, 2, none⟩ = some (.slice (some ⟨b2, o2, none⟩) nV cV) ∧ wT.cell? ⟨b2, o2 + q, none⟩ = some (.slice rA rn rc)) :=
          fun wT h => ⟨(CBox.below hcb h).cells.2.2, (hD1.below h).cells.2.2, (h.cell (p := ⟨b2, o2 + q, none⟩) hb2').trans hz1⟩
        have HSS := Lib.hid hS; clear hS
        clear hcb hD1 hV hBl hDr hb z0 y0 y1 y2 hW1 hon
        simp only [] at u2
        have hi1 : (0 : Int) ≤ (q : Int) := by omega
        have hi2 : (q : Int) < (nV : Int) := by omega
        have hq1 := Below.refl W1.heap.size W1
        go_region_held3 (fun w' => w'.cell? ⟨g9, 2, none⟩ = some (.int .i64 (kn : Int)) ∧ w'.cell? ⟨w.heap.size, 2, none⟩ = some (.slice (some ⟨b2, o2, none⟩) nV cV) ∧ w'.cell? ⟨b2, o2 + q, none⟩ = some (.slice rA rn rc))
          (first | go_keep | exact HSS.out _ hq1)
          ((first
            | (go_at_call 27; (with_reducible refine (HP.out _ HVD.out).mono ?_); rintro e wp ⟨rfl, hbp⟩; have hq1 : Below W1.heap.size W1 wp := bthen (Below.refl _ W1).drew hbp (Nat.le_refl _))))
        have hC2 := HCB.out.below hq1
        have hBl2 := HBL.out.below hq1
        have hBB2 := bthen HBB.out hq1 (Nat.le_refl _)
        have hg9p : g9 < wp.heap.size := hC2.lt
        replace HCB := Lib.hid hC2
        replace HBL := Lib.hid hBl2; clear hBl2
        replace HBB := Lib.hid hBB2; clear hBB2 hbp HVD HSS HP u2 v2 hz1 hb2' hi1 hi2
        clear hq1
        go_wp2_with fail
        go_upto_region 9 with fail
        obtain ⟨u0, _, u2⟩ := hC2.cells
        simp only [] at u0 u2
        clear hC2
        have hal1 : (wp.drew.alloc (.cells #[.int .u8 (kn : Int)] 5)).cell? ⟨g9, 0, none⟩ = some (.int .i64 (idn : Int)) := ((Vals.one_new (w := wp.drew) (.cells #[.int .u8 (kn : Int)] 5)).cell (p := ⟨g9, 0, none⟩) hg9p).trans u0
        go_region_with (first
          | (go_at_call 26; (with_reducible refine (HK1.out _).mono ?_); rintro e wa ⟨rfl, hba⟩; (try have hz1 : wa.cell? ⟨wp.heap.size, 0, none⟩ = some (.int .u8 (kn : Int)) := keep_new (V := wp.drew) hba); (first | have hq1 : Below wp.heap.size wp wa := bthen (Below.refl _ wp).drew hba (Nat.le_refl _) | have hq1 : Below wp.heap.size wp wa := bthen ((Below.refl _ wp).drew.alloc (Nat.le_refl _) (.cells #[.int .u8 (kn : Int)] 5)) hba (Nat.le_refl _)); have k2a : wa.cell? ⟨g9, 2, none⟩ = some (.int .i64 (kn : Int)) := (CBox.below HCB.out hq1).cells.2.2)
          | (go_at_call 26; (with_reducible refine (HK2.out _).mono ?_); rintro e wb ⟨rfl, hbb⟩; (try have hz2 : wb.cell? ⟨wa.heap.size, 0, none⟩ = some (.int .u8 (kn : Int)) := keep_new (V := wa) hbb); (try have hz3 : wb.cell? ⟨wp.heap.size, 0, none⟩ = some (.int .u8 (kn : Int)) := keep_cell hbb hz1); (first | have hq2 : Below wp.heap.size wp wb := bthen hq1 hbb (Nat.le_refl _) | have hq2 : Below wp.heap.size wp wb := bthen (hq1.alloc hq1.size _) hbb (Nat.le_refl _)); have k2b : wb.cell? ⟨g9, 2, none⟩ = some (.int .i64 (kn : Int)) := (CBox.below HCB.out hq2).cells.2.2)
          | (go_at_call 25; (first | refine (write_any w1.heap.size w1.heap.size L _ _ (HBL.out.below hq2) HLN.out.1 (Nat.le_trans HBB.out.size hq2.size)).mono ?_ | refine (write_any w1.heap.size w1.heap.size L _ _ ((HBL.out.below hq2).alloc _) HLN.out.1 (Nat.le_trans HBB.out.size (Nat.le_trans hq2.size (by simp)))).mono ?_); rintro e wz ⟨rfl, hU, hbz⟩; (first | have hBz : Below w1.heap.size w1 wz := (bthen HBB.out hq2 (Nat.le_refl _)).trans hbz | have hBz : Below w1.heap.size w1 wz := ((bthen HBB.out hq2 (Nat.le_refl _)).alloc (Below.size (bthen HBB.out hq2 (Nat.le_refl _))) _).trans hbz)))
        all_goals
          have hUB := hU.bld
          rw [← HLN.out.2] at hUB
          clear hal1 u0 u2
          go_wp2_with fail
          go_roundw
          case rel => exact ⟨q + 1, by omega, by go_num, hUB, hBz⟩
          case measure => simp [intOf]; omega
      · obtain rfl : nV = q := by omega
        rw [List.take_of_length_le (by rw [List.length_zip, HMY.out.2.1]; omega)] at hBl
        have hI := HI.out.below hb
        have hDr := HD.out.below hb
        have hbl := (Bld.lt hBl).1
        have hT := told_any w.heap.size d AC AV nV cC cV rs wr (by rw [HMY.out.2.2]; exact hDr) hI hn12
        have hsl : (statsOf d).length = nV := by unfold statsOf; rw [List.length_map, List.length_zip, hI.lens.1, hI.lens.2]; omega
        have hzl := cols_len (d.cols.zip d.vals) (fun p hp => by
          obtain ⟨i, hi, e1, e2⟩ := mem_zip_get (d := d) (by rw [hI.lens.1, hI.lens.2]) hp
          intro v hv
          have hrr : ∃ r' ∈ rs, r'.vs = p.2 := by
            rw [← e2, hI.eq, List.getD_eq_getElem?_getD, List.getElem?_map]
            rw [hI.lens.1] at hi
            have : i < rs.length := by rw [hI.vals.1]; exact hi
            rw [List.getElem?_eq_getElem this]
            exact ⟨rs[i], List.getElem_mem this, rfl⟩
          obtain ⟨r', hr', e'⟩ := hrr
          rw [← e'] at hv
          exact hI.fv r' hr' v hv)
        have hzl2 : (d.cols.zip d.vals).length ≤ nV := by rw [List.length_zip, hI.lens.1]; omega
        have hL1 : (headB d ++ (d.cols.zip d.vals).flatMap colBytes).length ≤ 5000000 := by rw [List.length_append]; omega
        have hbe := body_eq d
        generalize headB d ++ (d.cols.zip d.vals).flatMap colBytes = L1 at *
        have HT := Lib.hid hT; clear hT hzl hzl2 hhl
        have HBE := Lib.hid hbe; clear hbe
        have HBL := Lib.hid hBl; clear hBl
        have HBB := Lib.hid hb; clear hb hDr hI
        go_wp2_with (go_at_call 28; (with_reducible refine HT.out.mono ?_); rintro e w4 ⟨u, rfl, hO, hb4⟩; obtain ⟨A62, c62, rfl, _, _⟩ := OwnG.form hO hsl; replace HBL := Lib.hid (HBL.out.below hb4); replace HBB := Lib.hid (bthen HBB.out hb4 (Nat.le_refl _)); have HO := Lib.hid hO; clear hO hb4)
        clear HT
        have hne : (Value.slice A62 nV c62).ownBlock ≠ some w1.heap.size := fun e => by have := own_base HO.out _ e; omega
        go_loopw [64] (fun iv ws => ∃ q : Nat, q ≤ nV ∧ iv = .int .i64 q ∧ Bld ws w1.heap.size w1.heap.size (L1 ++ (d.vals.take q).flatMap statBytes) ∧ Below w1.heap.size w1 ws ∧ OwnS ws wr.heap.size (.slice A62 nV c62) (statsOf d)) (fun iv _ => nV - (intOf iv).toNat)
        case atStart => exact ⟨0, Nat.zero_le _, rfl, by simpa using HBL.out, HBB.out, HO.out⟩
        case round =>
          clear HBL HBB HO
          obtain ⟨q, hq, rfl, hBl, hb, hO⟩ := hrel
          by_cases hlt : q < nV
          · have hI := HI.out.below hb
            obtain ⟨b1, o1, c, hc, hA1, hb1, y0, y1, y2⟩ := CSl.at_ hI.cols hlt
            obtain ⟨b2, o2, r, hr, hA2, hb2, z0⟩ := RSl.at_ hI.vals hlt
            obtain ⟨_, _, hfv, hft⟩ := col_facts hI HMY.out.1 hc hr hlt
            have hrv := hI.row hr
            have hat := stats_at hc hrv
            have hsn := sts_snoc hrv
            obtain ⟨sm1, sm2, sm3⟩ := stat_small hfv hft
            have hsb : statBytes r.vs = cnt (stat r.vs).nulls ++ limit (stat r.vs).mn ++ limit (stat r.vs).mx := rfl
            have hst : sta (c, r.vs) = ⟨c.id, (stat r.vs).nulls, (stat r.vs).mn, (stat r.vs).mx⟩ := rfl
            have hrn : r.vs.length ≤ 4096 := by
              have hm := HMY.out.1
              have := (hm.2 q (by rw [HMY.out.2.1]; exact hlt)).2.2.2.2.1
              rw [getD_at hrv] at this
              have := hm.1.2.1
              omega
            have hpl := stats_len (d.vals.take q) (fun vs hv => by
              have hv := List.mem_of_mem_take hv
              obtain ⟨i, hi⟩ := List.getElem?_of_mem hv
              have hil : i < nV := by rw [← hI.lens.2]; exact (List.getElem?_eq_some_iff.1 hi).1
              obtain ⟨_, _, c', hc', _⟩ := CSl.at_ hI.cols hil
              obtain ⟨_, _, r', hr', _⟩ := RSl.at_ hI.vals hil
              obtain ⟨_, _, f1, f2⟩ := col_facts hI HMY.out.1 hc' hr' hil
              have : r'.vs = vs := by have := hI.row hr'; rw [hi] at this; injection this with this; exact this.symm
              rw [← this]
              exact ⟨f1, _, f2⟩)
            have htl : (d.vals.take q).length ≤ q := List.length_take_le _ _
            rw [hst] at hat
            rw [hsb] at hsn
            clear hsb hst
            obtain ⟨g, hAg, hglt, e0, e1, ⟨e2, e3, e4, e5⟩, ⟨e6, e7, e8, e9⟩⟩ := own_at hO hsl hlt hat
            generalize (stat r.vs).nulls = N at *
            generalize (stat r.vs).mn = mn at *
            generalize (stat r.vs).mx = mx at *
            have hk1 := fun w => count_any N w (by omega)
            have hk2 := fun w => limit_any mn w sm1.f sm1.k0 sm1.k1 sm1.s
            have hk3 := fun w => limit_any mx w sm2.f sm2.k0 sm2.k1 sm2.s
            have ll1 := cnt_size N
            have ll2 := limit_len mn sm1.s
            have ll3 := limit_len mx sm2.s
            have s1 := str_append (cnt N) (limit mn)
            have s2 := str_append (cnt N ++ limit mn) (limit mx)
            have hadd1 := add_str (str (cnt N)) (str (limit mn)) (by rw [str_size, str_size]; omega)
            have hadd2 := add_str (str (cnt N) ++ str (limit mn)) (str (limit mx)) (by rw [s1, str_size, str_size, List.length_append]; omega)
            have hE : str (cnt N) ++ str (limit mn) ++ str (limit mx) = str (cnt N ++ limit mn ++ limit mx) := by rw [s1, s2]
            have hlen : (L1 ++ (d.vals.take q).flatMap statBytes).length + (str (cnt N) ++ str (limit mn) ++ str (limit mx)).size ≤ 140737488355328 := by rw [hE, str_size]; simp only [List.length_append]; omega
            have hsn2 : L1 ++ (d.vals.take (q + 1)).flatMap statBytes = L1 ++ (d.vals.take q).flatMap statBytes ++ (str (cnt N) ++ str (limit mn) ++ str (limit mx)).data.toList := by rw [hE, str_list, hsn]; simp only [List.append_assoc]
            clear s1 s2 hE hsn ll1 ll2 ll3 sm1 sm2 sm3 hpl htl hrn hat hrv hfv hft hc hr hI y0 y1 y2 z0 hb1 hb2 hA1 hA2
            generalize L1 ++ (d.vals.take q).flatMap statBytes = L at *
            generalize str (cnt N) = X1 at *
            generalize str (limit mn) = X2 at *
            generalize str (limit mx) = X3 at *
            have HLN := Lib.hid (And.intro hlen hsn2); clear hlen hsn2
            obtain ⟨k5, i5, b5, s5⟩ := mn
            obtain ⟨k6, i6, b6, s6⟩ := mx
            simp only [vagg] at hk2 hk3 e2 e3 e4 e5 e6 e7 e8 e9 e0 e1
            have HK1 := Lib.hid hk1; clear hk1
            have HK2 := Lib.hid hk2; clear hk2
            have HK3 := Lib.hid hk3; clear hk3
            generalize c.id = cid at *
            have hsx : Stats.SBox (wr.alloc (.cells #[.int .i64 cid, .int .i64 (N : Nat), .int .i64 k5, .int .i64 i5, .bool b5, .string s5, .int .i64 k6, .int .i64 i6, .bool b6, .string s6] 73)) wr.heap.size cid (N : Nat) ⟨k5, i5, b5, s5⟩ ⟨k6, i6, b6, s6⟩ := Stats.SBox.new wr _ rfl cid (N : Nat) ⟨k5, i5, b5, s5⟩ ⟨k6, i6, b6, s6⟩
            have hon := Vals.one_new (w := wr) (.cells #[.int .i64 cid, .int .i64 (N : Nat), .int .i64 k5, .int .i64 i5, .bool b5, .string s5, .int .i64 k6, .int .i64 i6, .bool b6, .string s6] 73)
            have hBl1 := hBl.below hon
            have hO1 := OwnG.below hO hon
            have hb1' := bthen hb hon (Nat.le_refl _)
            have hbl2 := (Bld.lt hBl).1
            subst hAg
            clear hBl hO hb
            go_upto_region 14 with fail
            generalize hW1 : wr.alloc (.cells #[.int .i64 cid, .int .i64 (N : Nat), .int .i64 k5, .int .i64 i5, .bool b5, .string s5, .int .i64 k6, .int .i64 i6, .bool b6, .string s6] 73) = W1 at *
            generalize hgq : wr.heap.size = g9 at *
            have hS : ∀ wT, Below W1.heap.size W1 wT → Stats.SBox wT g9 cid (N : Nat) ⟨k5, i5, b5, s5⟩ ⟨k6, i6, b6, s6⟩ := fun wT h => hsx.below h hsx.lt
            obtain ⟨_, f1, f2, f3, f4, f5, f6, f7, f8, f9⟩ := hsx.cells
            simp only [] at f1 f2 f3 f4 f5 f6 f7 f8 f9
            have hBs : w1.heap.size ≤ W1.heap.size := hb1'.size
            have HSS := Lib.hid hS; clear hS
            have HBL := Lib.hid hBl1; clear hBl1
            have HBB := Lib.hid hb1'; clear hb1'
            have HO := Lib.hid hO1; clear hO1
            have hg9 := hsx.lt
            have hgW : some g9 ≠ some w1.heap.size := by intro e; injection e with e; omega
            clear hsx hW1 hon hgq e0 e1 e2 e3 e4 e5 e6 e7 e8 e9
            have hq1 := Below.refl W1.heap.size W1
            have hq2 := Below.refl W1.heap.size W1
            have hq3 := Below.refl W1.heap.size W1
            have hSA := trivial
            go_region_held3 (fun w' => w'.cell? ⟨g9, 1, none⟩ = some (.int .i64 (N : Nat)) ∧ (w'.cell? ⟨g9, 2, none⟩ = some (.int .i64 k5) ∧ w'.cell? ⟨g9, 3, none⟩ = some (.int .i64 i5) ∧ w'.cell? ⟨g9, 4, none⟩ = some (.bool b5) ∧ w'.cell? ⟨g9, 5, none⟩ = some (.string s5)) ∧ (w'.cell? ⟨g9, 6, none⟩ = some (.int .i64 k6) ∧ w'.cell? ⟨g9, 7, none⟩ = some (.int .i64 i6) ∧ w'.cell? ⟨g9, 8, none⟩ = some (.bool b6) ∧ w'.cell? ⟨g9, 9, none⟩ = some (.string s6)))
              (first | go_keep | exact sts_cells (HSS.out _ hq3) | exact sts_cells (HSS.out _ hq2) | exact sts_cells (HSS.out _ hq1) | exact sts_cells hSA)
              ((first
                | (go_at_call 26; (with_reducible refine (HK1.out _).mono ?_); rintro e wa ⟨rfl, hba⟩; have hq1 : Below W1.heap.size W1 wa := bthen (Below.refl _ W1).drew hba (Nat.le_refl _))
                | (go_at_call 29; (with_reducible refine (HK2.out _).mono ?_); rintro e wb ⟨rfl, hbb⟩; have hq2 : Below W1.heap.size W1 wb := bthen hq1 hbb (Nat.le_refl _))
                | (go_at_call 29; (with_reducible refine (HK3.out _).mono ?_); rintro e wc ⟨rfl, hbc⟩; have hq3 : Below W1.heap.size W1 wc := bthen hq2 hbc (Nat.le_refl _))
                | (go_at_call 25; (refine (write_k w1.heap.size w1.heap.size L _ _ (HBL.out.below hq3) HLN.out.1 (Nat.le_trans hBs hq3.size)).mono ?_); rintro e wz ⟨rfl, hU, hbz, hkz⟩; have hSA := sts_keep HSS.out hq3 hkz hgW)))
            have hUB := hU.bld
            rw [← HLN.out.2] at hUB
            have hOz : OwnS wz _ _ _ := own_others (OwnG.below HO.out hq3) hkz (by decide) hne
            have hBz : Below w1.heap.size w1 wz := (bthen HBB.out hq3 (Nat.le_refl _)).trans hbz
            clear hSA f1 f2 f3 f4 f5 f6 f7 f8 f9
            go_wp2
            go_roundw
            case rel => exact ⟨q + 1, by omega, by go_num, hUB, hBz, hOz⟩
            case measure => simp [intOf]; omega
          · obtain rfl : nV = q := by omega
            rw [List.take_of_length_le (by rw [(HI.out.below hb).lens.2]; exact Nat.le_refl _), ← HBE.out] at hBl
            have hbody : (fileBody d).length ≤ 5100000 := by
              rw [HBE.out, List.length_append]
              have hI := HI.out.below hb
              have := stats_len d.vals (fun vs hv => by
                obtain ⟨i, hi⟩ := List.getElem?_of_mem hv
                have hil : i < nV := by rw [← hI.lens.2]; exact (List.getElem?_eq_some_iff.1 hi).1
                obtain ⟨_, _, c', hc', _⟩ := CSl.at_ hI.cols hil
                obtain ⟨_, _, r', hr', _⟩ := RSl.at_ hI.vals hil
                obtain ⟨_, _, f1, f2⟩ := col_facts hI HMY.out.1 hc' hr' hil
                have : r'.vs = vs := by have := hI.row hr'; rw [hi] at this; injection this with this; exact this.symm
                rw [← this]
                exact ⟨f1, _, f2⟩)
              rw [hI.lens.2] at this
              omega
            have hSe := fun w => Crc.seal_any (str (fileBody d)) w (by rw [str_size]; unfold maxReach; omega)
            rw [str_list] at hSe
            have hzs : (str (CrcMath.seal_ (fileBody d))).size = (fileBody d).length + 4 := by rw [str_size, seal_length]
            have hsz0 := hb.size
            by_cases hgr : 65536 < (fileBody d).length + 4
            · have hno : ¬ fileOk d := fun e => by have := e.2; omega
              have hf1 : str (filePut d) = ByteArray.empty := by unfold filePut; rw [if_neg hno]; rfl
              have hf2 : fileErr d = 1100 := by unfold fileErr; rw [if_neg hno]
              have HF := Lib.hid (And.intro hf1 hf2); clear hf1 hf2 hno
              have hgt : decide ((65536 : Int) < ((str (CrcMath.seal_ (fileBody d))).size : Int)) = true := decide_eq_true (by rw [hzs]; omega)
              have hgt2 : (65536 : Int) < ((str (CrcMath.seal_ (fileBody d))).size : Int) := by rw [hzs]; omega
              generalize fileBody d = body at *
              generalize str (CrcMath.seal_ body) = Z at *
              have HSe := Lib.hid hSe; clear hSe hzs hgr hbody
              have HBL := Lib.hid hBl; clear hBl
              go_wp2_with (first
                | (go_at_call 31; (refine (string_any w1.heap.size w1.heap.size body _ HBL.out hsz0).mono ?_); rintro e w5 ⟨rfl, hb5⟩)
                | (go_at_call 30; (with_reducible refine (HSe.out _).mono ?_); rintro e w6 ⟨rfl, hb6⟩))
              go_ret2
              exact ⟨by rw [HF.out.1, HF.out.2]; rfl, bthen (bthen HB.out (hb.trans hb5) (Nat.le_refl _)) hb6 (Nat.le_refl _)⟩
            · have hok : fileOk d := ⟨HMY.out.1, by omega⟩
              have hf1 : str (filePut d) = str (CrcMath.seal_ (fileBody d)) := by unfold filePut; rw [if_pos hok]
              have hf2 : fileErr d = 0 := by unfold fileErr; rw [if_pos hok]
              have HF := Lib.hid (And.intro hf1 hf2); clear hf1 hf2 hok
              have hgt : decide ((65536 : Int) < ((str (CrcMath.seal_ (fileBody d))).size : Int)) = false := decide_eq_false (by rw [hzs]; omega)
              have hgt2 : ((str (CrcMath.seal_ (fileBody d))).size : Int) ≤ 65536 := by rw [hzs]; omega
              generalize fileBody d = body at *
              generalize str (CrcMath.seal_ body) = Z at *
              have HSe := Lib.hid hSe; clear hSe hzs hgr hbody
              have HBL := Lib.hid hBl; clear hBl
              go_wp2_with (first
                | (go_at_call 31; (refine (string_any w1.heap.size w1.heap.size body _ HBL.out hsz0).mono ?_); rintro e w5 ⟨rfl, hb5⟩)
                | (go_at_call 30; (with_reducible refine (HSe.out _).mono ?_); rintro e w6 ⟨rfl, hb6⟩))
              go_ret2
              exact ⟨by rw [HF.out.1, HF.out.2]; rfl, bthen (bthen HB.out (hb.trans hb5) (Nat.le_refl _)) hb6 (Nat.le_refl _)⟩
  · rw [decide_eq_false hm] at hM
    have hno : ¬ fileOk d := fun e => hm e.1
    have hf1 : str (filePut d) = ByteArray.empty := by unfold filePut; rw [if_neg hno]; rfl
    have hf2 : fileErr d = 1100 := by unfold fileErr; rw [if_neg hno]
    rw [hf1, hf2]
    have HM := Lib.hid hM; clear hM hf1 hf2 hno hm l1 l2
    obtain ⟨x0, x1, x2⟩ := hD.cells
    have HB := Lib.hid hbt; clear hbt
    have HI := Lib.hid h0; clear h0 hD
    go_enter Tryz.func6, Tryz.ntmps6
    go_wp2_with (go_at_call 9; (with_reducible refine (HM.out _ HI.out).mono ?_); rintro e w1 ⟨rfl, hb1⟩)
    go_ret2
    exact ⟨rfl, bthen HB.out hb1 (Nat.le_refl _)⟩
end Go.Proofs.YtgmemdedpklnhaaGreat.File
