/-
  Lemmas of this claim, text behind text: FileMore. Each states its own conditions.
-/
import Derived.Test.YtgmemdedpklnhaaPart06
import Derived.Test.YtgmemdedpklnhaaPart09
import Derived.Test.YtgmemdedpklnhaaPart19

/-
  THE WALK of boathouselaw11.FileColumns.
-/



namespace Go.Proofs.Ytgmemdedpklnhaa.File
open Go.RowKit ValMath Vals Sl VecMath Vec Dat

theorem made_vals4 (n : Nat) : (madeCells (Value.agg #[.int .i64 0, .int .i64 0, .bool false, .string { data := #[] }]).cells (n * 4)).toList = vscells (List.replicate n nul) := by
  apply List.ext_getElem?
  intro j
  by_cases hj : j < n * 4
  · have hr := vscells_at (List.replicate n nul) (j / 4) (j % 4) (by rw [List.length_replicate]; omega) (Nat.mod_lt _ (by omega))
    rw [show j / 4 * 4 + j % 4 = j by omega, List.getElem_replicate] at hr
    rw [hr]
    have h4 : j % 4 = 0 ∨ j % 4 = 1 ∨ j % 4 = 2 ∨ j % 4 = 3 := by omega
    rcases h4 with h | h | h | h <;> simp [madeCells, hj, Value.cells, vcells, nul, h] <;> rfl
  · rw [List.getElem?_eq_none (by simp [madeCells]; omega), List.getElem?_eq_none (by rw [vscells_length, List.length_replicate]; omega)]
section
variable {w : World} {ops : Array Oper} {o : Oper} {a : Act} {K : Act → World → Prop} {Q : Exit → Act → World → Prop} {E : Prop}
theorem step_make_vals (hgd : o.guard = none) (l c : Operand) (hop : o.op = Op.makeSlice 44 l c) (base : Nat) (kl kc : IntKind) (n : Nat) (hl : a.eval l = .int kl (n : Int)) (hc : a.eval c = .int kc (n : Int)) (b2 : n ≤ 7036874417766) (b4 : base ≤ w.heap.size)
    (h : ∀ w', OwnV w' base (.slice (some ⟨w.heap.size, 0, none⟩) n n) (List.replicate n nul) → w.grownBy w' none → K (a.put o.dst (.slice (some ⟨w.heap.size, 0, none⟩) n n)) w') : if Region.wanted o (yielded ops a.tmps) = true then Oper.wp Try.prog o a w K Q else E := by
  rw [if_pos (by simp [Region.wanted, hgd])]
  obtain ⟨i0, hi, hz, hs, hb⟩ := info_parts info_val
  obtain ⟨w', hrun, r1, r2⟩ := run_make_full (P := Try.prog) w base 44 38 i0 _ 4 Try.underlying44 hi hz hs kl kc n (by rw [hb]; omega) (by unfold maxLen; omega) b4
  unfold Oper.wp
  simp [execOp, hop, hl, hc, hrun, Result.andThen]
  refine h w' ?_ r2
  unfold OwnV
  rw [List.length_replicate, ← made_vals4]; exact r1
end
/-- Data of the call's own, as a function reads it. -/
theorem own_in {w : World} {B n1 n2 c1 c2 : Nat} {A1 A2 : Option Addr} {d : Dat} {qs : List RowA} (h : OwnD w B d (.slice A1 n1 c1) (.slice A2 n2 c2) qs) (hn1 : d.cols.length = n1) (hn2 : d.vals.length = n2) (h1 : n1 ≤ 100) (h2 : n2 ≤ 100) (hl : ∀ vs ∈ d.vals, vs.length ≤ 4096) (fc : ∀ c ∈ d.cols, FineC c) (fv : ∀ vs ∈ d.vals, ∀ v ∈ vs, Fine v)
    (r1 : -9223372036854775808 ≤ d.rows) (r2 : d.rows < 9223372036854775808) : DIn w d A1 n1 A2 n2 qs := by
  have hm : ∀ r ∈ qs, r.vs ∈ d.vals := fun r hr => by rw [h.eq]; exact List.mem_map.2 ⟨r, hr, rfl⟩
  have hn : ∀ r ∈ qs, r.vs.length = r.n := fun r hr => ((own_len (h.each r hr)).1).symm
  refine ⟨OwnC.sl h.cols hn1, OwnR.sl h.rows ?_, fun r hr => (h.each r hr).sl (hn r hr), h.eq, by omega, by omega, fun r hr => ?_, fc, fun r hr => fv _ (hm r hr), r1, r2⟩
  · have := congrArg List.length h.eq; simp at this; omega
  · have := hl _ (hm r hr); rw [hn r hr] at this; omega
/-- Lent data are data of the call's own. -/
theorem lent_own {w : World} {B B' gC nC kC gV nV kV : Nat} {d : Dat} {rs rs' : List RowA} (hC : LentC w B' gC nC kC d.cols) (hV : LentRw w B' gV nV kV rs' rs) (he : d.vals = rs.map (·.vs)) (hB : B ≤ B') : OwnD w B d (.slice (some ⟨gC, 0, none⟩) nC kC) (.slice (some ⟨gV, 0, none⟩) nV kV) rs' := by
  refine ⟨own_le hC.head hB, own_le hV.own hB, fun r hr => ?_, by rw [he, hV.eq]⟩
  obtain ⟨⟨g', e, hl⟩, _⟩ := hV.each r hr
  rw [e]
  have h1 := hl.own
  unfold OwnV at h1 ⊢
  rw [show (r.vs ++ [Mem.mark, Mem.mark]).length = r.n + 2 by simp [hl.len]] at h1
  rw [hl.len]
  refine own_le (own_take h1 (by omega) ?_) hB
  rw [vscells_append, List.take_append_of_le_length (by rw [vscells_length, hl.len]; exact Nat.le_refl _), List.take_of_length_le (by rw [vscells_length, hl.len]; exact Nat.le_refl _)]
theorem OwnD.col {w wA : World} {B g7 g2 : Nat} {n1 n2 : Int} {C V C2 V2 u : Value} {d : Dat} {rs : List RowA} {o : Obj} {c : Colm} (hx : DBox w g2 n2 C2 V2) (hbox : DBox w g7 n1 C V) (hown : OwnD w B d C V rs) (hne : g2 ≠ g7)
    (hA : OwnC wA B u (d.cols ++ [c])) (hg : (w.alloc o).grownBy wA C.ownBlock) :
    DBox (wA.setCell ⟨g7, 1, none⟩ u) g2 n2 C2 V2 ∧ DBox (wA.setCell ⟨g7, 1, none⟩ u) g7 n1 u V ∧ OwnC (wA.setCell ⟨g7, 1, none⟩ u) B u (d.cols ++ [c]) ∧ OwnR (wA.setCell ⟨g7, 1, none⟩ u) B V rs ∧ ∀ r ∈ rs, OwnV (wA.setCell ⟨g7, 1, none⟩ u) B (.slice r.A r.n r.c) r.vs := by
  have hC := OwnG.alloc hown.cols o
  have hx1 := hx.alloc o
  have hbx1 := hbox.alloc o
  have hx2 := dbox_keep hx1 hC (by decide) hg
  have hbx2 := dbox_keep hbx1 hC (by decide) hg
  refine ⟨hx2.other hne, DBox.put1 hbx2 u, own_drop hA hbx2 (by decide), ?_, fun r hr => ?_⟩
  · exact own_drop (World.ownsRow.kept (OwnG.alloc hown.rows o) hg (own_ne (OwnG.alloc hown.rows o) hC (by decide))) hbx2 (by decide)
  · exact own_drop (World.ownsRow.kept ((hown.each r hr).alloc o) hg (own_ne ((hown.each r hr).alloc o) hC (by decide))) hbx2 (by decide)
theorem OwnD.row {w wA : World} {B g7 g2 : Nat} {n1 n2 : Int} {C V C2 V2 u : Value} {cols : List Colm} {rs : List RowA} {o : Obj} {r1 : RowA} (hx : DBox w g2 n2 C2 V2) (hbox : DBox w g7 n1 C V) (hC : OwnC w B C cols) (hV : OwnR w B V rs) (hne : g2 ≠ g7)
    (hE : ∀ r ∈ rs, OwnV w B (.slice r.A r.n r.c) r.vs) (hr1 : OwnV w B (.slice r1.A r1.n r1.c) r1.vs)
    (hA : OwnR wA B u (rs ++ [r1])) (hg : (w.alloc o).grownBy wA V.ownBlock) :
    DBox (wA.setCell ⟨g7, 2, none⟩ u) g2 n2 C2 V2 ∧ DBox (wA.setCell ⟨g7, 2, none⟩ u) g7 n1 C u ∧ OwnC (wA.setCell ⟨g7, 2, none⟩ u) B C cols ∧ OwnR (wA.setCell ⟨g7, 2, none⟩ u) B u (rs ++ [r1]) ∧ ∀ r ∈ rs ++ [r1], OwnV (wA.setCell ⟨g7, 2, none⟩ u) B (.slice r.A r.n r.c) r.vs := by
  have hV1 := OwnG.alloc hV o
  have hx2 := dbox_keep (hx.alloc o) hV1 (by decide) hg
  have hbx2 := dbox_keep (hbox.alloc o) hV1 (by decide) hg
  have key : ∀ r : RowA, OwnV w B (.slice r.A r.n r.c) r.vs → OwnV (wA.setCell ⟨g7, 2, none⟩ u) B (.slice r.A r.n r.c) r.vs := fun r hr =>
    own_drop (World.ownsRow.kept (hr.alloc o) hg (own_ne (hr.alloc o) hV1 (by decide))) hbx2 (by decide)
  refine ⟨hx2.other hne, DBox.put2 hbx2 u, ?_, own_drop hA hbx2 (by decide), fun r hr => ?_⟩
  · exact own_drop (World.ownsRow.kept (OwnG.alloc hC o) hg (own_ne (OwnG.alloc hC o) hV1 (by decide))) hbx2 (by decide)
  · rw [List.mem_append, List.mem_singleton] at hr
    rcases hr with hr | rfl
    · exact key r (hE r hr)
    · exact key _ hr1
theorem may_len {d : Dat} (h : mayFile d) : ∀ vs ∈ d.vals, vs.length ≤ 4096 := by
  intro vs hvs
  obtain ⟨i, hi, rfl⟩ := List.mem_iff_getElem.1 hvs
  have hc := h.2 i (by have := h.1.2.2.2.2; omega)
  unfold colOk at hc
  have := hc.2.2.2.2.1
  rw [List.getD_eq_getElem?_getD, List.getElem?_eq_getElem hi] at this
  simp only [Option.getD_some] at this
  have h2 := h.1.2.1
  omega
set_option maxRecDepth 20000 in
set_option maxHeartbeats 1500000 in
theorem fileColumns_any (d : Dat) (AC : Option Addr) (nC cC : Nat) (AV : Option Addr) (nV cV : Nat) (rs : List RowA) (kind : Int) (w : World) (h0 : DArg w d AC nC cC AV nV cV rs) (_h1 : (Lit.int .i64 kind).wf = true) :
    Calls Try.prog 4 #[dagg d.rows AC nC cC AV nV cV, .int .i64 kind] w fun e w' => e = .returned (.bool true) ∧ Below w.heap.size w w' := by
  have hin := h0.in_
  obtain ⟨l1, l2⟩ := hin.lens
  have h64 := file_in64 hin
  have hP := fun w h => put_any d AC AV nC cC nV cV rs w h
  have hCA := h0.cols
  have hVA := h0.vals
  have heq := h0.eq
  clear h0
  obtain ⟨R, hRd⟩ : ∃ R, R = d.rows := ⟨_, rfl⟩
  rw [← hRd] at hP ⊢
  have HRD := Lib.hid hRd; clear hRd
  have hx := DBox.new w R (.slice AC nC cC) (.slice AV nV cV)
  have hb := Vals.one_new (w := w) (.cells #[.int .i64 R, .slice AC nC cC, .slice AV nV cV] 25)
  have HIN := Lib.hid hin; clear hin
  have HX := Lib.hid hx; clear hx
  have HBT := Lib.hid hb; clear hb
  by_cases hok : fileOk d
  · have he : fileErr d = 0 := by unfold fileErr; rw [if_pos hok]
    rw [he] at hP
    have hl : (filePut d).length = (fileBody d).length + 4 := by unfold filePut; rw [if_pos hok, VecMath.seal_length]
    have hl2 := hok.2
    have hnv : nV = nC := by have := hok.1.1.2.2.2.2; omega
    subst hnv
    by_cases h12 : nV = 12
    · have hne0 : (str (filePut d)).toList.isEmpty = false := str_some (by omega)
      generalize str (filePut d) = P at *
      clear hl hl2 he hok h64 hCA hVA heq l1 l2
      subst h12
      have HP := Lib.hid hP; clear hP
      obtain ⟨x0, x1, x2⟩ := HX.out.cells
      go_enter Try.func4, Try.ntmps4
      go_wp2_with fail
      refine (awake_any _).mono ?_
      rintro e w1 ⟨rfl, hb1⟩
      clear x0 x1 x2
      replace HX := Lib.hid (HX.out.below hb1)
      replace HBT := Lib.hid (bthen HBT.out hb1 (Nat.le_refl _))
      clear hb1
      obtain ⟨x0, x1, x2⟩ := HX.out.cells
      go_wp2_with fail
      refine (HP.out _ (HIN.out.below HBT.out)).mono ?_
      rintro e w2 ⟨rfl, hb2⟩
      clear x0 x1 x2
      replace HX := Lib.hid (HX.out.below hb2)
      replace HBT := Lib.hid (bthen HBT.out hb2 (Nat.le_refl _))
      clear hb2
      obtain ⟨x0, x1, x2⟩ := HX.out.cells
      go_wp2_with (go_at_call 7; refine (Nums.num_any _ _).mono ?_; rintro e w' ⟨rfl, rfl⟩)
      go_ret
      exact ⟨rfl, HBT.out⟩
    · have hn12 : nV < 12 := by have := hok.1.1.2.2.2.1; omega
      have hn1 : 1 ≤ nV := by have := hok.1.1.2.2.1; omega
      obtain ⟨m, rfl⟩ : ∃ m, nV = m + 1 := ⟨nV - 1, by omega⟩
      obtain ⟨b1, o1, c, hc, hA1, hb1, y0, y1, y2⟩ := CSl.at_ HIN.out.cols (k := m) (by omega)
      subst hA1
      have hm11 : m < 11 := by omega
      by_cases hbig : 1000000 < c.id
      · generalize str (filePut d) = P at *
        obtain ⟨id, nm, kd⟩ := c
        simp only [] at y0 hbig
        clear hl hl2 he hok h64 hCA hVA heq l1 l2 hn1 hn12 h12 hc
        have HP := Lib.hid hP; clear hP
        obtain ⟨x0, x1, x2⟩ := HX.out.cells
        go_enter Try.func4, Try.ntmps4
        go_wp2_with fail
        refine (awake_any _).mono ?_
        rintro e w1 ⟨rfl, hb1⟩
        clear x0 x1 x2
        replace HX := Lib.hid (HX.out.below hb1)
        replace HBT := Lib.hid (bthen HBT.out hb1 (Nat.le_refl _))
        clear hb1
        obtain ⟨x0, x1, x2⟩ := HX.out.cells
        go_wp2_with fail
        refine (HP.out _ (HIN.out.below HBT.out)).mono ?_
        rintro e w2 ⟨rfl, hb2⟩
        clear x0 x1 x2
        replace HX := Lib.hid (HX.out.below hb2)
        replace HBT := Lib.hid (bthen HBT.out hb2 (Nat.le_refl _))
        clear hb2
        obtain ⟨x0, x1, x2⟩ := HX.out.cells
        have z0 := (HBT.out.cell (p := ⟨b1, o1 + m * 3, none⟩) hb1).trans y0
        clear y0 y1 y2
        have hi1 : (0 : Int) ≤ (m : Int) := by omega
        have hi2 : (m : Int) < ((m + 1 : Nat) : Int) := by omega
        go_wp2_with (go_at_call 7; refine (Nums.num_any _ _).mono ?_; rintro e w' ⟨rfl, rfl⟩)
        go_ret
        exact ⟨rfl, HBT.out⟩
      · obtain ⟨n, hn⟩ : ∃ n : Nat, d.rows = (n : Int) := ⟨d.rows.toNat, by have := hok.1.1.1; omega⟩
        have hn4 : n ≤ 4096 := by have := hok.1.1.2.1; omega
        obtain ⟨dd, hdd, hk2⟩ := Crc.mod_nat kind 3 (by omega)
        have hk2 : (IntKind.u64.wrap kind).tmod 3 = (dd : Int) := hk2
        have hid0 : 0 < c.id := by
          have := hok.1.2 m (by omega)
          unfold colOk at this
          rw [getD_at hc] at this; exact this.1
        have hmay := more_may hok.1 (by omega) (1 + (dd : Int)) ⟨by omega, by omega⟩ hn (c := c) (by rw [l1]; exact hc)
        have hno := fun h => more_ok hok c.id (1 + (dd : Int)) n hn4 hmay h
        have hst := more_stats (d := d) (by omega) c.id (1 + (dd : Int)) n
        have hfd := fback hok h64
        have hD64 : FileIn64 (moreDat d c.id (1 + (dd : Int)) n) := by
          refine ⟨fun vs hvs => ?_, fun x hx => ?_⟩
          · unfold moreDat at hvs
            simp only [List.mem_append, List.mem_singleton] at hvs
            rcases hvs with hvs | rfl
            · exact h64.1 vs hvs
            · intro v hv; rw [List.mem_replicate] at hv; rw [hv.2]; exact ⟨by decide, by decide⟩
          · unfold moreDat at hx
            simp only [List.mem_append, List.mem_singleton] at hx
            rcases hx with hx | rfl
            · exact h64.2 x hx
            · unfold moreCol; simp only []; omega
        have hback := fun h => fback (d := moreDat d c.id (1 + (dd : Int)) n) h hD64
        have hml := may_len hmay
        have hcl : (moreDat d c.id (1 + (dd : Int)) n).cols = d.cols ++ [moreCol c.id (1 + (dd : Int))] := rfl
        have hvl : (moreDat d c.id (1 + (dd : Int)) n).vals = d.vals ++ [List.replicate n nul] := rfl
        have hrl : (moreDat d c.id (1 + (dd : Int)) n).rows = d.rows := rfl
        have hcvl : (cleanDat (moreDat d c.id (1 + (dd : Int)) n)).vals.length = m + 1 + 1 := by unfold cleanDat moreDat; simp [l2]
        have hcrl : (cleanDat (moreDat d c.id (1 + (dd : Int)) n)).rows = d.rows := rfl
        have hPz : (str (filePut d)).size = (filePut d).length := str_size _
        have hz1 : (str (filePut d)).size ≤ maxReach := by rw [hPz, hl]; unfold maxReach; omega
        have hz2 : (str (filePut (moreDat d c.id (1 + (dd : Int)) n))).size ≤ maxReach := by
          rw [str_size]
          by_cases ho : fileOk (moreDat d c.id (1 + (dd : Int)) n)
          · have h1 := ho.2
            unfold filePut; rw [if_pos ho, VecMath.seal_length]; unfold maxReach; omega
          · unfold filePut; rw [if_neg ho]; simp
        have hsl1 : (statsOf (cleanDat d)).length = m + 1 := by rw [stats_length (by omega)]; exact l1
        have hS1 := fun w => stats_any (str (filePut d)) w hz1
        rw [hfd.1, hfd.2] at hS1
        have hfc : ∀ x ∈ (moreDat d c.id (1 + (dd : Int)) n).cols, FineC x := by
          intro x hx
          rw [hcl, List.mem_append, List.mem_singleton] at hx
          rcases hx with hx | rfl
          · exact HIN.out.fc x hx
          · unfold moreCol; constructor <;> simp only [] <;> first | omega | simp
        have hfv : ∀ vs ∈ (moreDat d c.id (1 + (dd : Int)) n).vals, ∀ v ∈ vs, Fine v := by
          intro vs hvs
          rw [hvl, List.mem_append, List.mem_singleton] at hvs
          rcases hvs with hvs | rfl
          · rw [HIN.out.eq] at hvs
            obtain ⟨r, hr, rfl⟩ := List.mem_map.1 hvs
            exact HIN.out.fv r hr
          · intro v hv; rw [List.mem_replicate] at hv; rw [hv.2]; exact Sl.fine_nul
        have hE2 : (fileErr (moreDat d c.id (1 + (dd : Int)) n) = 0 → fdat (str (filePut (moreDat d c.id (1 + (dd : Int)) n))) = cleanDat (moreDat d c.id (1 + (dd : Int)) n) ∧ fcode (str (filePut (moreDat d c.id (1 + (dd : Int)) n))) = 0) ∧ (fileErr (moreDat d c.id (1 + (dd : Int)) n) ≠ 0 → 60000 < (str (filePut d)).size) := by
          refine ⟨fun h => hback (err_zero h), fun h => ?_⟩
          rw [hPz]; exact hno (fun e => h (by unfold fileErr; rw [if_pos e]))
        generalize hDD : moreDat d c.id (1 + (dd : Int)) n = D2 at *
        have hr1 : -9223372036854775808 ≤ D2.rows := by rw [hrl, hn]; omega
        have hr2 : D2.rows < 9223372036854775808 := by rw [hrl, hn]; omega
        have hP2 := fun w A1 A2 c1 c2 rs h => put_any D2 A1 A2 (m + 1 + 1) c1 (m + 1 + 1) c2 rs w h
        have hin2 := fun w B A1 A2 c1 c2 rs h => own_in (w := w) (B := B) (n1 := m + 1 + 1) (n2 := m + 1 + 1) (c1 := c1) (c2 := c2) (A1 := A1) (A2 := A2) (d := D2) (qs := rs) h (by rw [hcl]; simp [l1]) (by rw [hvl]; simp [l2]) (by omega) (by omega) hml hfc hfv hr1 hr2
        have hG2 := fun w => get_any (str (filePut D2)) w hz2
        have hS2 := fun w => stats_any (str (filePut D2)) w hz2
        unfold GetPost at hG2
        have hRn : R = (n : Int) := by rw [HRD.out, hn]
        rw [hrl, ← HRD.out] at hP2
        rw [← HRD.out] at hcrl
        generalize str (filePut d) = P at *
        generalize str (filePut D2) = P2 at *
        generalize fdat P2 = FD2 at *
        generalize fcode P2 = FC2 at *
        generalize fileErr D2 = E2 at *
        have hLN := fun W (h : Below w.heap.size w W) => lent_any d (some ⟨b1, o1, none⟩) (m + 1) cC AV (m + 1) cV rs W ⟨CSl.below hCA.sl h, hCA.le, hCA.cap, hCA.fine, hCA.nil⟩ ⟨RSl.below hVA.sl h, hVA.le, hVA.cap, fun r hr => (hVA.rows r hr).below h, hVA.nil⟩
        rw [hn] at hLN
        have HLN := Lib.hid hLN; clear hLN
        subst hRn
        obtain ⟨id, nm, kd⟩ := c
        simp only [] at y0 hbig hid0 hst hcl
        have hb12 : d.cols.length ≤ 12 := by omega
        have hcell : (m + 1 : Nat) ≤ 12 := by omega
        have hdl : d.cols.length = m + 1 := l1
        have HP := Lib.hid hP; clear hP
        have HP2 := Lib.hid hP2; clear hP2
        have HIN2 := Lib.hid hin2; clear hin2
        have HG2 := Lib.hid hG2; clear hG2
        have HS1 := Lib.hid hS1; clear hS1
        have HS2 := Lib.hid hS2; clear hS2
        have HE2 := Lib.hid hE2; clear hE2
        have HST := Lib.hid (And.intro hst (And.intro hsl1 (And.intro hcvl hcrl))); clear hst hsl1 hcvl hcrl
        have HDC := Lib.hid (And.intro hcl (And.intro hvl heq)); clear hcl hvl heq
        clear hl hl2 he hok h64 hCA hVA l1 l2 hn1 hn12 h12 hc hmay hno hfd hD64 hback hml hrl hPz hz1 hz2 hfc hfv hDD hr1 hr2 hn hdl y1 y2
        have hDL := Lib.hid hb12; clear hb12
        have hw58 : IntKind.i64.wrap (id + 1) = id + 1 := by rw [IntKind.wrap_i64]; omega
        obtain ⟨x0, x1, x2⟩ := HX.out.cells
        go_enter Try.func4, Try.ntmps4
        go_wp2_with fail
        refine (awake_any _).mono ?_
        rintro e w1 ⟨rfl, hb1⟩
        clear x0 x1 x2
        replace HX := Lib.hid (HX.out.below hb1)
        replace HBT := Lib.hid (bthen HBT.out hb1 (Nat.le_refl _))
        clear hb1
        obtain ⟨x0, x1, x2⟩ := HX.out.cells
        go_wp2_with fail
        refine (HP.out _ (HIN.out.below HBT.out)).mono ?_
        rintro e w2 ⟨rfl, hb2⟩
        clear x0 x1 x2
        replace HX := Lib.hid (HX.out.below hb2)
        replace HBT := Lib.hid (bthen HBT.out hb2 (Nat.le_refl _))
        clear hb2
        obtain ⟨x0, x1, x2⟩ := HX.out.cells
        have z0 := (HBT.out.cell (p := ⟨b1, o1 + m * 3, none⟩) hb1).trans y0
        clear y0
        have hi1 : (0 : Int) ≤ (m : Int) := by omega
        have hi2 : (m : Int) < ((m + 1 : Nat) : Int) := by omega
        have hi3 : ¬ (12 : Int) ≤ ((m + 1 : Nat) : Int) := by omega
        go_wp2_with (go_at_call 7; refine (Nums.num_any _ _).mono ?_; rintro e w' ⟨rfl, rfl⟩)
        have hsz2 := HBT.out.size
        refine (HLN.out _ HBT.out).mono ?_
        rintro e w3 ⟨gC, kC, gV, kV, rs', rfl, hLC, hLR, hb3⟩
        clear x0 x1 x2
        replace HX := Lib.hid (HX.out.below hb3)
        replace HBT := Lib.hid (bthen HBT.out hb3 (Nat.le_refl _))
        have hO := lent_own (B := w.heap.size) hLC hLR HDC.out.2.2 hsz2
        have hsz3 := HBT.out.size
        have hb4 := Vals.one_new (w := w3) (.cells #[.int .i64 (n : Nat), .slice (some ⟨gC, 0, none⟩) (m + 1) kC, .slice (some ⟨gV, 0, none⟩) (m + 1) kV] 25)
        have hxl := HX.out.lt
        have hy := DBox.new w3 (n : Nat) (.slice (some ⟨gC, 0, none⟩) (m + 1) kC) (.slice (some ⟨gV, 0, none⟩) (m + 1) kV)
        have hO4 := OwnD.below hO hb4
        replace HX := Lib.hid (HX.out.below hb4)
        replace HBT := Lib.hid (bthen HBT.out hb4 (Nat.le_refl _))
        clear hLC hLR hb3 hO HLN z0 hsz2
        have hsz4 := HBT.out.size
        go_upto_region 10 with fail
        generalize hW4 : w3.alloc (.cells #[.int .i64 (n : Nat), .slice (some ⟨gC, 0, none⟩) (m + 1) kC, .slice (some ⟨gV, 0, none⟩) (m + 1) kV] 25) = W4 at *
        clear hW4 hb4
        have hne : w.heap.size ≠ w3.heap.size := by omega
        have hle8 : w.heap.size ≤ w3.heap.size := hsz3
        generalize w3.heap.size = g8 at *
        have HY := Lib.hid hy; clear hy
        have HO := Lib.hid hO4; clear hO4
        have HNE := Lib.hid (And.intro hne hle8); clear hne hle8
        obtain ⟨y0, y1, y2⟩ := HY.out.cells
        have hl12 := hDL.out
        have hdd3 : dd < 3 := hdd
        have hHD : (moreCol id (1 + (dd : Int))) = ⟨id + 1, ByteArray.empty, 1 + (dd : Int)⟩ := rfl
        have HHD := Lib.hid hHD; clear hHD
        have hcl2 : (d.cols ++ [(⟨id + 1, ByteArray.empty, 1 + (dd : Int)⟩ : Colm)]).length = m + 1 + 1 := by
          have := (own_len HO.out.cols).1; simp; omega
        have HCL2 := Lib.hid hcl2; clear hcl2
        go_upto_region 11 with (first
          | (at_builtin; refine wpList_push_col rfl (.tmp 56) (.tmp 65) rfl w.heap.size (.slice (some ⟨gC, 0, none⟩) (m + 1) kC) d.cols (id + 1) (1 + (dd : Int)) ByteArray.empty W4.heap.size 1 W4 rfl rfl rfl rfl HO.out.cols hl12 hsz4 ?_; intro uc wA hA hgA hatA; obtain ⟨A2, c2, rfl, _, _⟩ := OwnG.form hA HCL2.out; have hbA := dbox_keep (HY.out.alloc _) (OwnG.alloc HO.out.cols _) (by decide) hgA; have d1 := hbA.cells.2.1; have f1 := hbA.free 1; have hMC := OwnD.col HX.out HY.out HO.out HNE.out.1 hA hgA; have hBA := (Below.alloc HBT.out hsz4 (.cells #[.int .i64 (id + 1), .string ByteArray.empty, .int .i64 (1 + (dd : Int))] 43)).grown hgA (Below.size (Below.alloc HBT.out hsz4 (.cells #[.int .i64 (id + 1), .string ByteArray.empty, .int .i64 (1 + (dd : Int))] 43))) (own_base HO.out.cols); have HMC := Lib.hid (And.intro hMC hBA); clear hA hatA hMC hbA hBA hgA))
        clear y0 y1 y2 d1 f1
        have hBB := HMC.out.2.setCell (p := ⟨g8, 1, none⟩) HNE.out.2 (.slice A2 (m + 1 + 1) c2)
        have hOD5 : OwnD (wA.setCell ⟨g8, 1, none⟩ (.slice A2 (m + 1 + 1) c2)) w.heap.size ⟨(n : Int), d.cols ++ [(⟨id + 1, ByteArray.empty, 1 + (dd : Int)⟩ : Colm)], d.vals⟩ (.slice A2 (m + 1 + 1) c2) (.slice (some ⟨gV, 0, none⟩) (m + 1) kV) rs' := ⟨HMC.out.1.2.2.1, HMC.out.1.2.2.2.1, HMC.out.1.2.2.2.2, HO.out.eq⟩
        have hX5 := HMC.out.1.1
        have hY5 := HMC.out.1.2.1
        clear HMC HX HBT HY HO
        generalize wA.setCell ⟨g8, 1, none⟩ (.slice A2 (m + 1 + 1) c2) = W5 at *
        have HX := Lib.hid hX5; clear hX5
        have HY := Lib.hid hY5; clear hY5
        have HO := Lib.hid hOD5; clear hOD5
        have HBT := Lib.hid hBB; clear hBB
        refine wp_region_any (by kernel_rfl) ?_
        change wpAny _ _ _ _ _ _ _ (World.drew _)
        refine any_of_L (S := fun w' => w'.cell? ⟨g8, 2, none⟩ = some (.slice (some ⟨gV, 0, none⟩) (m + 1) kV) ∧ w'.cell? ⟨w.heap.size, 0, none⟩ = some (.int .i64 (n : Nat))) (st := [9]) _ _ _ _ ?_
        have hSK : W5.drew.cell? ⟨g8, 2, none⟩ = some (.slice (some ⟨gV, 0, none⟩) (m + 1) kV) ∧ W5.drew.cell? ⟨w.heap.size, 0, none⟩ = some (.int .i64 (n : Nat)) := ⟨HY.out.drew.cells.2.2, HX.out.drew.cells.1⟩
        refine L_take (i := 0) (v := .pointer (some ⟨g8, 2, none⟩)) rfl (by kernel_rfl) (by kernel_rfl) (by kernel_rfl) (by kernel_rfl) (by kernel_rfl) (by kernel_rfl) (fun _ _ _ h => h) (Or.inl ⟨by rfl, fun w' hS => ?_⟩) hSK ?_
        · obtain ⟨s0, s1⟩ := hS
          go_simp
        simp only [Act.put, List.setIfInBounds_toArray]
        refine L_take (i := 1) (v := .slice (some ⟨gV, 0, none⟩) (m + 1) kV) rfl (by kernel_rfl) (by kernel_rfl) (by kernel_rfl) (by kernel_rfl) (by kernel_rfl) (by kernel_rfl) (fun _ _ _ h => h) (Or.inl ⟨by rfl, fun w' hS => ?_⟩) hSK ?_
        · obtain ⟨s0, s1⟩ := hS
          go_simp
        simp only [Act.put]
        refine L_take (i := 2) (v := .pointer (some ⟨w.heap.size, 0, none⟩)) rfl (by kernel_rfl) (by kernel_rfl) (by kernel_rfl) (by kernel_rfl) (by kernel_rfl) (by kernel_rfl) (fun _ _ _ h => h) (Or.inl ⟨by rfl, fun w' hS => ?_⟩) hSK ?_
        · obtain ⟨s0, s1⟩ := hS
          go_simp
        simp only [Act.put]
        refine L_take (i := 3) (v := .int .i64 (n : Nat)) rfl (by kernel_rfl) (by kernel_rfl) (by kernel_rfl) (by kernel_rfl) (by kernel_rfl) (by kernel_rfl) (fun _ _ _ h => h) (Or.inl ⟨by rfl, fun w' hS => ?_⟩) hSK ?_
        · obtain ⟨s0, s1⟩ := hS
          go_simp
        simp only [Act.put]
        refine L_one (i := 4) (by kernel_rfl) rfl (fun K hK => ?_)
        have hszd : w.heap.size ≤ W5.drew.heap.size := HBT.out.size
        refine step_make_vals rfl _ _ rfl w.heap.size .i64 .i64 n rfl rfl (by omega) hszd ?_
        intro w6 hV6 hg6
        have hb6 := (Below.refl W5.drew.heap.size W5.drew).grown hg6 (Nat.le_refl _) (fun j hj => by cases hj)
        have HX6 := Lib.hid (HX.out.drew.below hb6)
        have HY6 := Lib.hid (HY.out.drew.below hb6)
        have HO6 := Lib.hid (OwnD.below (w := W5.drew) (show OwnD W5.drew _ _ _ _ _ from ⟨HO.out.cols, HO.out.rows, HO.out.each, HO.out.eq⟩) hb6)
        have HB6 := Lib.hid (bthen HBT.out.drew hb6 (Nat.le_refl _))
        have HV6 := Lib.hid hV6; clear hV6
        generalize W5.drew.heap.size = g6 at *
        have hSK2 : w6.cell? ⟨g8, 2, none⟩ = some (.slice (some ⟨gV, 0, none⟩) (m + 1) kV) ∧ w6.cell? ⟨w.heap.size, 0, none⟩ = some (.int .i64 (n : Nat)) := ⟨HY6.out.cells.2.2, HX6.out.cells.1⟩
        clear hSK hb6 hg6
        refine hK.out _ _ (fun _ => hSK2) ?_
        clear hK K
        simp only [Act.put]
        refine L_one (i := 5) (by kernel_rfl) rfl (fun K hK => ?_)
        go_simp
        refine hK.out _ _ (fun _ => hSK2) ?_
        clear hK K
        refine L_one (i := 6) (by kernel_rfl) rfl (fun K hK => ?_)
        go_simp
        have hSK3 : (w6.alloc (.cells #[.slice (some ⟨g6, 0, none⟩) n n] 46)).cell? ⟨g8, 2, none⟩ = some (.slice (some ⟨gV, 0, none⟩) (m + 1) kV) ∧ (w6.alloc (.cells #[.slice (some ⟨g6, 0, none⟩) n n] 46)).cell? ⟨w.heap.size, 0, none⟩ = some (.int .i64 (n : Nat)) := ⟨(HY6.out.alloc _).cells.2.2, (HX6.out.alloc _).cells.1⟩
        refine hK.out _ _ (fun _ => hSK3) ?_
        clear hK K hSK2
        refine L_one (i := 7) (by kernel_rfl) rfl (fun K hK => ?_)
        have hrl : rs'.length = m + 1 := by have := (own_len HO6.out.rows).1; omega
        have hsz6 := HB6.out.size
        refine step_push_g (f := rcells) 46 23 _ 1 24 info_row Try.underlying23 rfl (Nat.succ_pos _) rfl (.tmp 69) (.tmp 74) rfl w.heap.size (.slice (some ⟨gV, 0, none⟩) (m + 1) kV) rs' ⟨some ⟨g6, 0, none⟩, n, n, List.replicate n nul⟩ w6.heap.size 1 rfl rfl #[.slice (some ⟨g6, 0, none⟩) n n] rfl rfl (row_one _ _ _) (heap_alloc_new w6 _) (OwnG.alloc HO6.out.rows _) (by rw [hrl]; unfold maxLen; omega) (by omega) (by simp; omega) ?_
        intro ur wB hB hgB hatB
        obtain ⟨A3, c3, rfl, _, _⟩ := OwnG.form hB (n := m + 1 + 1) (by simp [hrl])
        have hXB := dbox_keep (HX6.out.alloc (.cells #[.slice (some ⟨g6, 0, none⟩) n n] 46)) (OwnG.alloc HO6.out.rows _) (by decide) hgB
        have hYB := dbox_keep (HY6.out.alloc (.cells #[.slice (some ⟨g6, 0, none⟩) n n] 46)) (OwnG.alloc HO6.out.rows _) (by decide) hgB
        have hSK4 : wB.cell? ⟨g8, 2, none⟩ = some (.slice (some ⟨gV, 0, none⟩) (m + 1) kV) ∧ wB.cell? ⟨w.heap.size, 0, none⟩ = some (.int .i64 (n : Nat)) := ⟨hYB.cells.2.2, hXB.cells.1⟩
        have hMR := OwnD.row HX6.out HY6.out HO6.out.cols HO6.out.rows HNE.out.1 HO6.out.each (r1 := ⟨some ⟨g6, 0, none⟩, n, n, List.replicate n nul⟩) HV6.out hB hgB
        have hBB3 := (Below.alloc HB6.out hsz6 (.cells #[.slice (some ⟨g6, 0, none⟩) n n] 46)).grown hgB (Below.size (Below.alloc HB6.out hsz6 (.cells #[.slice (some ⟨g6, 0, none⟩) n n] 46))) (own_base HO6.out.rows)
        have HMR := Lib.hid (And.intro hMR hBB3); clear hMR hBB3 hB hatB hgB
        refine hK.out _ _ (fun _ => hSK4) ?_
        clear hK K hSK3
        simp only [Act.put]
        refine L_one (i := 8) (by kernel_rfl) rfl (fun K hK => ?_)
        go_simp
        refine hK.out _ _ (fun _ => hSK4) ?_
        clear hK K
        have f2 := hYB.free 2
        have e2 := hYB.cells.2.2
        refine L_one (i := 9) (by kernel_rfl) rfl (fun K hK => ?_)
        go_simp
        refine hK.out _ _ (fun h => absurd (by simp) h) ?_
        clear hK K hSK4 f2 e2 hXB hYB
        refine L_done (by kernel_rfl) ?_
        have hBB := HMR.out.2.setCell (p := ⟨g8, 2, none⟩) HNE.out.2 (.slice A3 (m + 1 + 1) c3)
        have hOD7 : OwnD (wB.setCell ⟨g8, 2, none⟩ (.slice A3 (m + 1 + 1) c3)) w.heap.size D2 (.slice A2 (m + 1 + 1) c2) (.slice A3 (m + 1 + 1) c3) (rs' ++ [⟨some ⟨g6, 0, none⟩, n, n, List.replicate n nul⟩]) :=
          ⟨by rw [HDC.out.1]; exact HMR.out.1.2.2.1, HMR.out.1.2.2.2.1, HMR.out.1.2.2.2.2, by rw [HDC.out.2.1, List.map_append]; exact congrArg (· ++ [List.replicate n nul]) HO6.out.eq⟩
        have hin7 := HIN2.out _ _ _ _ _ _ _ hOD7
        have hX7 := HMR.out.1.1
        have hY7 := HMR.out.1.2.1
        clear HMR HX HBT HY HO HX6 HY6 HO6 HB6 HV6 hOD7
        generalize wB.setCell ⟨g8, 2, none⟩ (.slice A3 (m + 1 + 1) c3) = W7 at *
        have HX := Lib.hid hX7; clear hX7
        have HIN7 := Lib.hid hin7; clear hin7
        have HBT := Lib.hid hBB; clear hBB
        obtain ⟨y0, y1, y2⟩ := hY7.cells
        clear hY7
        go_wp2_with fail
        refine (HP2.out _ _ _ _ _ _ HIN7.out).mono ?_
        rintro e w8 ⟨rfl, hb8⟩
        clear y0 y1 y2 HP2 HIN7 HIN2
        replace HX := Lib.hid (HX.out.below hb8)
        replace HBT := Lib.hid (bthen HBT.out hb8 (Nat.le_refl _))
        clear hb8
        go_wp2_with fail
        refine (HG2.out _).mono ?_
        rintro e w9 ⟨BC, mC, dC, BV, mV, dV, qs, rfl, hO, hb9⟩
        replace HX := Lib.hid (HX.out.below hb9)
        replace HBT := Lib.hid (bthen HBT.out hb9 (Nat.le_refl _))
        have hmV : mV = FD2.vals.length := by
          have h1 := (own_len hO.rows).1
          have h2 := congrArg List.length hO.eq
          simp at h2; omega
        have HMV := Lib.hid hmV; clear hmV hO hb9
        have hz := DBox.new w9 FD2.rows (.slice BC mC dC) (.slice BV mV dV)
        have HZ := Lib.hid hz; clear hz
        have hb10 := Vals.one_new (w := w9) (.cells #[.int .i64 FD2.rows, .slice BC mC dC, .slice BV mV dV] 25)
        replace HX := Lib.hid (HX.out.below hb10)
        replace HBT := Lib.hid (bthen HBT.out hb10 (Nat.le_refl _))
        clear hb10
        go_wp2_with fail
        refine (HS1.out _).mono ?_
        rintro e wc ⟨u1, rfl, hs1, hbc⟩
        replace HX := Lib.hid (HX.out.below hbc)
        replace HBT := Lib.hid (bthen HBT.out hbc (Nat.le_refl _))
        replace HZ := Lib.hid (HZ.out.below hbc)
        obtain ⟨A13, c13, rfl, _, _⟩ := OwnG.form hs1 HST.out.2.1
        have HW1 := Lib.hid (OwnS.sl hs1 HST.out.2.1); clear hs1 hbc
        go_wp2_with fail
        refine (HS2.out _).mono ?_
        rintro e wd ⟨u2, rfl, hs2, hbd⟩
        replace HX := Lib.hid (HX.out.below hbd)
        replace HBT := Lib.hid (bthen HBT.out hbd (Nat.le_refl _))
        replace HZ := Lib.hid (HZ.out.below hbd)
        replace HW1 := Lib.hid (SSl.below HW1.out hbd)
        obtain ⟨LS, hLS⟩ : ∃ LS, LS = (statsOf FD2).length := ⟨_, rfl⟩
        obtain ⟨A15, c15, rfl, hc15, hc16⟩ := OwnG.form hs2 hLS.symm
        have HW2 := Lib.hid (OwnS.sl hs2 hLS.symm); clear hs2 hbd
        have HLS := Lib.hid hLS; clear hLS
        obtain ⟨x0, x1, x2⟩ := HX.out.cells
        obtain ⟨z0, z1, z2⟩ := HZ.out.cells
        by_cases hE : E2 = 0
        · obtain ⟨hf1, hf2⟩ := HE2.out.1 hE
          subst hf1 hf2 hE
          have hL2 : LS = m + 1 + 1 := by rw [HLS.out, HST.out.1, List.length_append, HST.out.2.1]; rfl
          have hMV : mV = m + 1 + 1 := by rw [HMV.out]; exact HST.out.2.2.1
          have hRW : (cleanDat D2).rows = (n : Int) := HST.out.2.2.2
          rw [hRW] at z0
          have hw2 := HW2.out
          rw [HST.out.1] at hw2
          subst hL2; subst hMV
          have hw1 := HW1.out
          have hsl := HST.out.2.1
          clear HST HMV HLS HW2 HW1 hRW HZ HE2
          generalize statsOf (cleanDat d) = SA at *
          obtain ⟨b3, o3, st, hst, hA3, hb3, s0, s1, s2, s3, s4, s5, s6, s7, s8, s9⟩ := SSl.at_ hw2 (k := m + 1) (by omega)
          obtain rfl : (⟨id + 1, (n : Int), nul, nul⟩ : Sta) = st := by
            rw [List.getElem?_append_right (by omega), hsl, Nat.sub_self] at hst
            injection hst
          subst hA3
          have hw3 : SSl wd (some ⟨b3, o3, none⟩) (m + 1) SA := by
            have := SSl.take hw2 (m := m + 1) (by omega)
            rwa [List.take_append_of_le_length (by omega), List.take_of_length_le (by omega)] at this
          have hSS := fun mm => sameStats_any (some ⟨b3, o3, none⟩) A13 (m + 1) c15 c13 SA (wd.drewN mm) hw3 hw1 (by unfold maxLen; omega)
          have HSS := Lib.hid hSS; clear hSS hw1 hw2 hw3 hst hsl
          simp only [nul] at s0 s1 s2 s3 s4 s5 s6 s7 s8 s9
          have s5' : wd.cell? ⟨b3, o3 + (m + 1) * 10 + 5, none⟩ = some (.string { data := #[] }) := s5
          have s9' : wd.cell? ⟨b3, o3 + (m + 1) * 10 + 9, none⟩ = some (.string { data := #[] }) := s9
          clear s5 s9
          have hqe : ∀ W, (binOp .eql 40 (.agg #[.int .i64 (id + 1), .int .i64 (n : Int), .int .i64 0, .int .i64 0, .bool false, .string { data := #[] }, .int .i64 0, .int .i64 0, .bool false, .string { data := #[] }]) (.agg #[.int .i64 (id + 1), .int .i64 (n : Int), .int .i64 0, .int .i64 0, .bool false, .string { data := #[] }, .int .i64 0, .int .i64 0, .bool false, .string { data := #[] }])).run Try.prog W = .ok (.bool true) W := fun W => Stats.eql_stat (id + 1) (n : Int) nul nul W
          have hge := fun x y W => Stats.guard_stat .eql x y #[.int .i64 (id + 1), .int .i64 (n : Int), .int .i64 0, .int .i64 0, .bool false, .string { data := #[] }, .int .i64 0, .int .i64 0, .bool false, .string { data := #[] }] #[.int .i64 (id + 1), .int .i64 (n : Int), .int .i64 0, .int .i64 0, .bool false, .string { data := #[] }, .int .i64 0, .int .i64 0, .bool false, .string { data := #[] }] W
          have hj1 : (0 : Int) ≤ ((m + 1 : Nat) : Int) := by omega
          have hj2 : ((m + 1 : Nat) : Int) < ((m + 1 + 1 : Nat) : Int) := by omega
          have hj3 : ((m + 1 : Nat) : Int) ≤ (c15 : Int) := by omega
          go_upto_region 19 with (go_at_call 7; refine (Nums.num_any _ _).mono ?_; rintro e w' ⟨rfl, rfl⟩)
          go_quiet ((first
            | (go_at_call 7; exact Calls.quiet_of_same ((Nums.num_any _ _).mono fun _ _ h => ⟨h.1, h.2.symm⟩))
            | (go_at_call 14; exact Calls.quiet_of (HSS.out _))))
          go_wp2
          go_ret
          exact ⟨rfl, below_drewN HBT.out _⟩
        · have h6 := HE2.out.2 hE
          have h6' : (60000 : Int) < (P.size : Int) := by omega
          have hne2 : (((E2 : Nat) : Int) != 0) = true := by simp; omega
          clear z0 z1 z2 HZ HW1 HW2 HMV
          go_wp2_with (go_at_call 7; refine (Nums.num_any _ _).mono ?_; rintro e w' ⟨rfl, rfl⟩)
          go_ret
          exact ⟨rfl, HBT.out⟩
  · have he : fileErr d = 1100 := by unfold fileErr; rw [if_neg hok]
    rw [he] at hP
    have hpe : (str (filePut d)).toList.isEmpty = true := by unfold filePut; rw [if_neg hok, Lib.toList_data, str_list]; rfl
    generalize str (filePut d) = P at *
    clear he hok h64 hCA hVA heq l1 l2
    have HP := Lib.hid hP; clear hP
    obtain ⟨x0, x1, x2⟩ := HX.out.cells
    go_enter Try.func4, Try.ntmps4
    go_wp2_with fail
    refine (awake_any _).mono ?_
    rintro e w1 ⟨rfl, hb1⟩
    clear x0 x1 x2
    replace HX := Lib.hid (HX.out.below hb1)
    replace HBT := Lib.hid (bthen HBT.out hb1 (Nat.le_refl _))
    clear hb1
    obtain ⟨x0, x1, x2⟩ := HX.out.cells
    go_wp2_with fail
    refine (HP.out _ (HIN.out.below HBT.out)).mono ?_
    rintro e w2 ⟨rfl, hb2⟩
    clear x0 x1 x2
    replace HX := Lib.hid (HX.out.below hb2)
    replace HBT := Lib.hid (bthen HBT.out hb2 (Nat.le_refl _))
    clear hb2
    obtain ⟨x0, x1, x2⟩ := HX.out.cells
    go_wp2_with (go_at_call 7; refine (Nums.num_any _ _).mono ?_; rintro e w' ⟨rfl, rfl⟩)
    go_ret
    exact ⟨rfl, HBT.out⟩
end Go.Proofs.Ytgmemdedpklnhaa.File
