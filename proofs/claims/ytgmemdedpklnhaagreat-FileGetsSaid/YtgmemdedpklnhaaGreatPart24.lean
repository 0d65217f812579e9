/-
  Lemmas of this claim, text behind text: RefUnfile. Each states its own conditions.
-/
import Derived.Test.YtgmemdedpklnhaaGreatPart18
import Derived.Test.YtgmemdedpklnhaaGreatPart20
import Derived.Test.YtgmemdedpklnhaaGreatPart22

/-
  THE WALK of boathouseref7.Unfile.
-/



namespace Go.Proofs.YtgmemdedpklnhaaGreat.File
open Go.RowKit ValMath Vals Sl VecMath Vec Dat

theorem head_yes {b : List UInt8} (h : b.take 3 = magic) : rdBytes 3 ⟨b, 0, false⟩ = (magic, ⟨b, 3, false⟩) := by
  have hl : 3 ≤ b.length := by have := congrArg List.length h; simp [magic] at this; omega
  unfold rdBytes Rd.rest Rd.step
  rw [if_neg (by simp; omega)]
  simp [h]
theorem head_not {b : List UInt8} (h : b.take 3 ≠ magic) : (rdBytes 3 ⟨b, 0, false⟩).1 ≠ magic := by
  unfold rdBytes Rd.rest
  split
  · show ([] : List UInt8) ≠ magic; decide
  · simpa using h
theorem num_bad {m : Nat} {r : Rd} (h : (rdNum m r).2.bad = true) : (rdNum m r).1 = 0 := by
  unfold rdNum at h ⊢
  split
  · rfl
  · rename_i hn
    rw [if_neg hn] at h
    exact absurd (Or.inl h) hn
theorem bytes_bad {n : Nat} {r : Rd} (h : r.bad = true) : (rdBytes n r).2.bad = true := by
  unfold rdBytes; rw [if_pos (.inl h)]; rfl
theorem num_bad2 {m : Nat} {r : Rd} (h : r.bad = true) : (rdNum m r).2.bad = true := by
  unfold rdNum; rw [if_pos (.inl h)]; rfl
theorem col_good {dec : Int → List UInt8 → Option (List Val)} {r : Rd} {c : Colm × List Val} (h : (rdCol dec r).1 = some c) : (rdCol dec r).2.bad = false := by
  unfold rdCol at h ⊢
  simp only [] at h ⊢
  split
  · rename_i hh; rw [if_pos hh] at h; cases h
  · rename_i hh
    simp only [not_or] at hh
    simpa using hh.1
theorem cols_good {dec : Int → List UInt8 → Option (List Val)} {r : Rd} {q : Nat} {cs : List (Colm × List Val)} (h : (rdCols dec (q + 1) r).1 = some cs) : (rdCols dec (q + 1) r).2.bad = false := by
  simp only [rdCols] at h ⊢
  split at h
  · cases h
  · rename_i cs' hcs
    split at h
    · cases h
    · rename_i c hc
      exact col_good hc
theorem byte_one {r : Rd} (h : (rdByte r).2.bad = false) : ∃ x : UInt8, (rdBytes 1 r).1 = [x] ∧ (rdByte r).1 = x.toNat := by
  unfold rdByte at h ⊢
  simp only [] at h ⊢
  unfold rdBytes at h ⊢
  split
  · rename_i hh; rw [if_pos hh] at h; cases h
  · rename_i hh
    simp only [not_or, Nat.not_lt] at hh
    unfold Rd.rest
    obtain ⟨x, l, hx⟩ : ∃ x l, r.s.drop r.at_ = x :: l := by
      cases hd : r.s.drop r.at_ with
      | nil => have := congrArg List.length hd; simp at this; omega
      | cons x l => exact ⟨x, l, rfl⟩
    rw [hx]
    exact ⟨x, rfl, rfl⟩
theorem _root_.Go.Proofs.YtgmemdedpklnhaaGreat.Dat.DBox.put_rows {w : World} {g : Nat} {rows : Int} {C V : Value} (h : DBox w g rows C V) (x : Int) : DBox (w.setCell ⟨g, 0, none⟩ (.int .i64 x)) g x C V := Vec.set_heap h
/-- Data in the midst of reading, the document's way. -/
structure MidT (w : World) (B gr g7 : Nat) (rq : Rd) (n1 : Int) (C V : Value) (d : Dat) (rs : List RowA) : Prop where
  rd : Rdr 96 w gr rq
  box : DBox w g7 n1 C V
  own : OwnD w B d C V rs
theorem MidT.below {w w' : World} {B gr g7 : Nat} {rq : Rd} {n1 : Int} {C V : Value} {d : Dat} {rs : List RowA} (h : MidT w B gr g7 rq n1 C V d rs) (hb : Below w.heap.size w w') : MidT w' B gr g7 rq n1 C V d rs :=
  ⟨h.rd.below hb, h.box.below hb, h.own.below hb⟩
theorem MidT.drew {w : World} {B gr g7 : Nat} {rq : Rd} {n1 : Int} {C V : Value} {d : Dat} {rs : List RowA} (h : MidT w B gr g7 rq n1 C V d rs) : MidT w.drew B gr g7 rq n1 C V d rs := ⟨h.rd, h.box, h.own.cols, h.own.rows, h.own.each, h.own.eq⟩
theorem MidT.ne {w : World} {B gr g7 : Nat} {rq : Rd} {n1 : Int} {C V : Value} {d : Dat} {rs : List RowA} (h : MidT w B gr g7 rq n1 C V d rs) : gr ≠ g7 := by
  intro e
  have h1 := h.rd
  have h2 := h.box
  unfold Rdr at h1; unfold DBox at h2
  rw [e, h2] at h1
  injection h1 with h1
  injection h1 with _ h1 _
  exact absurd h1 (by decide)
theorem MidT.read {w w' : World} {B gr g7 : Nat} {rq rq' : Rd} {n1 : Int} {C V : Value} {d : Dat} {rs : List RowA} (h : MidT w B gr g7 rq n1 C V d rs) (hr : Rdr 96 w' gr rq') (hg : w.grownBy w' (some gr)) : MidT w' B gr g7 rq' n1 C V d rs := by
  have hrd := h.rd
  unfold Rdr at hrd
  refine ⟨hr, h.box.grown hg (fun e => h.ne (by injection e with e; exact e.symm)), ⟨own_keep h.own.cols hrd (by decide) hg, own_keep h.own.rows hrd (by decide) hg, fun r hr => own_keep (h.own.each r hr) hrd (by decide) hg, h.own.eq⟩⟩
theorem MidT.flag {w : World} {B gr g7 : Nat} {rq : Rd} {n1 : Int} {C V : Value} {d : Dat} {rs : List RowA} (h : MidT w B gr g7 rq n1 C V d rs) (f : Bool) : MidT (w.setCell ⟨gr, 2, none⟩ (.bool f)) B gr g7 ⟨rq.s, rq.at_, f⟩ n1 C V d rs :=
  h.read (h.rd.bad f) (Mem.grown_set w gr 2 (.bool f) (n := 0) (c := 0))
theorem MidT.other {w : World} {B gr g7 g o : Nat} {c0 : Colm} {rq : Rd} {n1 : Int} {C V x : Value} {d : Dat} {rs : List RowA} (h : MidT w B gr g7 rq n1 C V d rs) (hc : CBox w g c0) (hg : ∀ k, C.ownBlock = some k → k ≠ g) : MidT (w.setCell ⟨g, o, none⟩ x) B gr g7 rq n1 C V d rs := by
  unfold CBox at hc
  have hrd := h.rd
  have hbx := h.box
  unfold Rdr at hrd
  unfold DBox at hbx
  have h1 : gr ≠ g := by intro e; rw [e, hc] at hrd; injection hrd with h1; injection h1 with _ h1 _; exact absurd h1 (by decide)
  have h2 : g7 ≠ g := by intro e; rw [e, hc] at hbx; injection hbx with h1; injection h1 with _ h1 _; exact absurd h1 (by decide)
  refine ⟨h.rd.other h1, h.box.other h2, ⟨own_set h.own.cols (fun e => hg _ e rfl) _, own_drop h.own.rows hc (by decide), fun r hr => own_drop (h.own.each r hr) hc (by decide), h.own.eq⟩⟩
theorem MidT.col {w wA : World} {B gr g7 : Nat} {rq : Rd} {n1 : Int} {C V u : Value} {d : Dat} {rs : List RowA} {o : Obj} {c : Colm} (h : MidT w B gr g7 rq n1 C V d rs)
    (hA : OwnC wA B u (d.cols ++ [c])) (hg : (w.alloc o).grownBy wA C.ownBlock) :
    Rdr 96 (wA.setCell ⟨g7, 1, none⟩ u) gr rq ∧ DBox (wA.setCell ⟨g7, 1, none⟩ u) g7 n1 u V ∧ OwnC (wA.setCell ⟨g7, 1, none⟩ u) B u (d.cols ++ [c]) ∧ OwnR (wA.setCell ⟨g7, 1, none⟩ u) B V rs ∧ ∀ r ∈ rs, OwnV (wA.setCell ⟨g7, 1, none⟩ u) B (.slice r.A r.n r.c) r.vs := by
  have hC := OwnG.alloc h.own.cols o
  have hrd1 := h.rd.alloc o
  have hbx1 := h.box.alloc o
  unfold Rdr at hrd1
  unfold DBox at hbx1
  have hrd2 := box_keep hrd1 hC (by decide) hg
  have hbx2 := box_keep hbx1 hC (by decide) hg
  refine ⟨?_, DBox.put1 hbx2 u, own_drop hA hbx2 (by decide), ?_, fun r hr => ?_⟩
  · unfold Rdr; rw [Below.heap_setCell _ _ _ _ h.ne]; exact hrd2
  · exact own_drop (World.ownsRow.kept (OwnG.alloc h.own.rows o) hg (own_ne (OwnG.alloc h.own.rows o) hC (by decide))) hbx2 (by decide)
  · exact own_drop (World.ownsRow.kept ((h.own.each r hr).alloc o) hg (own_ne ((h.own.each r hr).alloc o) hC (by decide))) hbx2 (by decide)
theorem MidT.row {w wA : World} {B gr g7 : Nat} {rq : Rd} {n1 : Int} {C V u : Value} {cols : List Colm} {rs : List RowA} {o : Obj} {r1 : RowA} (hrd : Rdr 96 w gr rq) (hbox : DBox w g7 n1 C V) (hC : OwnC w B C cols) (hV : OwnR w B V rs)
    (hE : ∀ r ∈ rs, OwnV w B (.slice r.A r.n r.c) r.vs) (hr1 : OwnV w B (.slice r1.A r1.n r1.c) r1.vs) (hne : gr ≠ g7)
    (hA : OwnR wA B u (rs ++ [r1])) (hg : (w.alloc o).grownBy wA V.ownBlock) :
    Rdr 96 (wA.setCell ⟨g7, 2, none⟩ u) gr rq ∧ DBox (wA.setCell ⟨g7, 2, none⟩ u) g7 n1 C u ∧ OwnC (wA.setCell ⟨g7, 2, none⟩ u) B C cols ∧ OwnR (wA.setCell ⟨g7, 2, none⟩ u) B u (rs ++ [r1]) ∧ ∀ r ∈ rs ++ [r1], OwnV (wA.setCell ⟨g7, 2, none⟩ u) B (.slice r.A r.n r.c) r.vs := by
  have hV1 := OwnG.alloc hV o
  have hrd1 := hrd.alloc o
  have hbx1 := hbox.alloc o
  unfold Rdr at hrd1
  unfold DBox at hbx1
  have hrd2 := box_keep hrd1 hV1 (by decide) hg
  have hbx2 := box_keep hbx1 hV1 (by decide) hg
  have key : ∀ r : RowA, OwnV w B (.slice r.A r.n r.c) r.vs → OwnV (wA.setCell ⟨g7, 2, none⟩ u) B (.slice r.A r.n r.c) r.vs := fun r hr =>
    own_drop (World.ownsRow.kept (hr.alloc o) hg (own_ne (hr.alloc o) hV1 (by decide))) hbx2 (by decide)
  refine ⟨?_, DBox.put2 hbx2 u, ?_, own_drop hA hbx2 (by decide), fun r hr => ?_⟩
  · unfold Rdr; rw [Below.heap_setCell _ _ _ _ hne]; exact hrd2
  · exact own_drop (World.ownsRow.kept (OwnG.alloc hC o) hg (own_ne (OwnG.alloc hC o) hV1 (by decide))) hbx2 (by decide)
  · rw [List.mem_append, List.mem_singleton] at hr
    rcases hr with hr | rfl
    · exact key r (hE r hr)
    · exact key _ hr1
set_option maxRecDepth 20000 in
set_option maxHeartbeats 8000000 in
theorem refUnfile_any (s : ByteArray) (w : World) (hs : s.size ≤ maxReach) : Calls Tryz.prog 17 #[.string s] w (GetPost s w) := by
  have hO := fun w => Crc.refOpen_any s w hs
  have hD0 : DBox (w.alloc (.cells #[.int .i64 0, .slice none 0 0, .slice none 0 0] 25)) w.heap.size 0 (.slice none 0 0) (.slice none 0 0) := DBox.new w _ _ _
  have hb0 := Vals.one_new (w := w) (.cells #[.int .i64 0, .slice none 0 0, .slice none 0 0] 25)
  cases ho : CrcMath.open_ s.data.toList with
  | none =>
    have hg := get_sum ho
    have hc : Crc.code s.data.toList = 400 := by unfold Crc.code; rw [ho]; rfl
    rw [hc] at hO
    have HO := Lib.hid hO; clear hO
    have HG := Lib.hid hg; clear hg hc ho
    have HD := Lib.hid hD0; clear hD0
    have HB := Lib.hid hb0; clear hb0
    go_enter Tryz.func17, Tryz.ntmps17
    go_wp2_with (first
      | (go_at_call 47; (with_reducible refine (HO.out _).mono ?_); rintro e w2 ⟨rfl, hb2⟩; have hD2 := HD.out.below hb2)
      | (refine wpList_store_data rfl (.tmp 2) (.tmp 25) rfl w.heap.size 0 0 none none none none 0 0 0 0 0 0 0 0 rfl rfl hD2 ?_; intro wq hDq hgq hsq))
    exact ret_data hDq rfl rfl rfl (post_none HG.out rfl ((bthen HB.out hb2 (Nat.le_refl _)).grown hgq (Below.size (bthen HB.out hb2 (Nat.le_refl _))) (fun j hj => by cases hj; exact Nat.le_refl _)))
  | some b =>
    have hc : Crc.code s.data.toList = 0 := by unfold Crc.code; rw [ho]; rfl
    have hop : Crc.opened s.data.toList = b := by unfold Crc.opened; rw [ho]; rfl
    rw [hc, hop] at hO
    clear hc hop
    have hbl := open_len ho
    have hsl : s.data.toList.length = s.size := by simp
    have okz : OkR ⟨b, 0, false⟩ := ⟨Nat.zero_le _, by show b.length ≤ maxReach; omega⟩
    have hbx : ∀ w2 : World, Rdr 96 (w2.alloc (.cells #[.string (str b), .int .i64 0, .bool false] 96)) w2.heap.size ⟨b, 0, false⟩ := fun w2 => heap_alloc_new w2 _
    have hB3 : ∀ g w, Rdr 96 w g ⟨b, 0, false⟩ → Calls Tryz.prog 48 #[.pointer (some ⟨g, 0, none⟩), .int .i64 3] w fun e w' => e = .returned (.string (str (rdBytes 3 ⟨b, 0, false⟩).1)) ∧ Rdr 96 w' g (rdBytes 3 ⟨b, 0, false⟩).2 ∧ w.grownBy w' (some g) := fun g w h => tbytes_any g 3 ⟨b, 0, false⟩ w h okz (by omega)
    have ok1 := rdBytes_okR (n := 3) okz
    have HO := Lib.hid hO; clear hO
    have HD := Lib.hid hD0; clear hD0
    have HB := Lib.hid hb0; clear hb0
    by_cases hp : b.take 3 = magic
    · rw [head_yes hp] at hB3 ok1
      simp only [] at hB3 ok1
      have hdec : decF decP b = match (rdCols decP (rdNum 12 (rdNum 4096 ⟨b, 3, false⟩).2).1 (rdNum 12 (rdNum 4096 ⟨b, 3, false⟩).2).2).1 with
          | none => none
          | some cs => some (datOf (rdNum 4096 ⟨b, 3, false⟩).1 cs) := if_pos hp
      generalize (⟨b, 3, false⟩ : Rd) = r0 at *
      have hN1 : ∀ g w, Rdr 96 w g r0 → Calls Tryz.prog 49 #[.pointer (some ⟨g, 0, none⟩), .int .i64 4096] w fun e w' => e = .returned (.int .i64 ((rdNum 4096 r0).1 : Nat)) ∧ Rdr 96 w' g (rdNum 4096 r0).2 ∧ w.grownBy w' (some g) := fun g w h => tnum_any g 4096 r0 w h ok1
      have hn1 := rdNum_le 4096 r0
      have ok2 := rdNum_okR (m := 4096) ok1
      generalize rdNum 4096 r0 = X at *
      obtain ⟨n1, r1⟩ := X
      simp only [] at hdec hN1 hn1 ok2
      have hN2 : ∀ g w, Rdr 96 w g r1 → Calls Tryz.prog 49 #[.pointer (some ⟨g, 0, none⟩), .int .i64 12] w fun e w' => e = .returned (.int .i64 ((rdNum 12 r1).1 : Nat)) ∧ Rdr 96 w' g (rdNum 12 r1).2 ∧ w.grownBy w' (some g) := fun g w h => tnum_any g 12 r1 w h ok2
      have hn2 := rdNum_le 12 r1
      have hnb := fun h => num_bad (m := 12) (r := r1) h
      have ok3 := rdNum_okR (m := 12) ok2
      generalize rdNum 12 r1 = X at *
      obtain ⟨n2, r2⟩ := X
      simp only [] at hdec hN2 hn2 ok3 hnb
      have HDEC := Lib.hid (And.intro ho (And.intro hdec (And.intro ok3 hnb))); clear hdec ho ok3 ok2 ok1 okz hp hnb
      generalize (⟨b, 0, false⟩ : Rd) = rz at *
      have HB3 := Lib.hid hB3; clear hB3
      have HN1 := Lib.hid hN1; clear hN1
      have HN2 := Lib.hid hN2; clear hN2
      have HBX := Lib.hid hbx; clear hbx
      go_enter Tryz.func17, Tryz.ntmps17
      go_wp2_with fail
      refine (HO.out _).mono ?_
      rintro e w2 ⟨rfl, hb2⟩
      have hD2 := HD.out.below hb2
      have hbt := bthen HB.out hb2 (Nat.le_refl _)
      have hz2 := hb2.size
      go_wp2_with fail
      refine (HB3.out _ _ (HBX.out w2)).mono ?_
      rintro e w3 ⟨rfl, hR3, hg3⟩
      have hz3 := hg3.size
      have hR3a := hR3.alloc (.cells #[.int .i64 0, .slice none 0 0, .slice none 0 0] 25)
      go_wp2_with fail
      refine (HN1.out _ _ hR3a).mono ?_
      rintro e w4 ⟨rfl, hR4, hg4⟩
      have hz4 := hg4.size
      have hgr : w2.heap.size < w3.heap.size := by simp at hz3; omega
      have hDx : DBox w4 w3.heap.size 0 (.slice none 0 0) (.slice none 0 0) := (DBox.new w3 0 (.slice none 0 0) (.slice none 0 0)).grown hg4 (fun e => by injection e with e; omega)
      have hbA := (hb2.alloc hz2 (.cells #[.string (str b), .int .i64 0, .bool false] 96)).grown hg3 (Below.size (hb2.alloc hz2 (.cells #[.string (str b), .int .i64 0, .bool false] 96))) (fun j hj => by cases hj; exact hz2)
      have hbC := (hbA.alloc hbA.size (.cells #[.int .i64 0, .slice none 0 0, .slice none 0 0] 25)).grown hg4 (Below.size (hbA.alloc hbA.size (.cells #[.int .i64 0, .slice none 0 0, .slice none 0 0] 25))) (fun j hj => by cases hj; exact hz2)
      have hg7B : (w.alloc (.cells #[.int .i64 0, .slice none 0 0, .slice none 0 0] 25)).heap.size ≤ w3.heap.size := hbA.size
      have hw0 : w.heap.size < (w.alloc (.cells #[.int .i64 0, .slice none 0 0, .slice none 0 0] 25)).heap.size := by simp
      obtain ⟨d0, d1, d2⟩ := hDx.cells
      have f0 := hDx.free 0
      have hDx2 := DBox.put_rows hDx (n1 : Int)
      have hbD := hbC.setCell (p := ⟨w3.heap.size, 0, none⟩) hg7B (.int .i64 (n1 : Int))
      have hR5 : Rdr 96 (w4.setCell ⟨w3.heap.size, 0, none⟩ (.int .i64 (n1 : Int))) w2.heap.size r1 := hR4.other (by omega)
      go_wp2_with fail
      refine (HN2.out _ _ hR5).mono ?_
      rintro e w5 ⟨rfl, hR6, hg6⟩
      have hDy := hDx2.grown hg6 (fun e => by injection e with e; omega)
      have hbE := hbD.grown hg6 (Below.size hbD) (fun j hj => by cases hj; exact hz2)
      have hmid : MidT w5 (w.alloc (.cells #[.int .i64 0, .slice none 0 0, .slice none 0 0] 25)).heap.size w2.heap.size w3.heap.size r2 (n1 : Int) (.slice none 0 0) (.slice none 0 0) ⟨(n1 : Int), [], []⟩ [] := ⟨hR6, hDy, OwnG.nil _ _ _ _ _, OwnG.nil _ _ _ _ _, by simp, rfl⟩
      have HM := Lib.hid (And.intro hmid hbE)
      clear hmid hbE hDy hR6 hg6 hR5 hbD hDx2 f0 d0 d1 d2 hbC hbA hDx hR4 hg4 hR3a hR3 hg3 hbt hD2 HO HB3 HN1 HN2 HBX hz3 hz4
      clear hb2
      generalize w.alloc (.cells #[.int .i64 0, .slice none 0 0, .slice none 0 0] 25) = W0 at *
      generalize w2.heap.size = gr at *
      generalize w3.heap.size = g7 at *
      have hme : ((str magic).toList == [76, 75, 49]) = true := by rw [Lib.toList_data, str_list]; decide
      generalize str magic = SM at *
      go_wp2
      go_loopw [10] (fun iv wr => ∃ (q : Nat) (X : Rd) (C V : Value), iv = .int .i64 q ∧ Rdr 96 wr gr X ∧ DBox wr g7 (n1 : Int) C V ∧ Below W0.heap.size W0 wr ∧ ((X.bad = true ∧ fdat s = noDat ∧ fcode s = 1100) ∨ (q ≤ n2 ∧ ∃ (AC : Option Addr) (cC : Nat) (AV : Option Addr) (cV : Nat) (cs : List (Colm × List Val)) (rs : List RowA), C = .slice AC q cC ∧ V = .slice AV q cV ∧ (rdCols decP q r2).1 = some cs ∧ X = (rdCols decP q r2).2 ∧ OwnD wr W0.heap.size ⟨(n1 : Int), cs.map (·.1), cs.map (·.2)⟩ C V rs))) (fun iv _ => n2 - (intOf iv).toNat)
      case atStart => exact ⟨0, r2, _, _, rfl, HM.out.1.rd, HM.out.1.box, HM.out.2, .inr ⟨Nat.zero_le _, none, 0, none, 0, [], [], rfl, rfl, rfl, rfl, HM.out.1.own⟩⟩
      case round =>
        clear HM
        obtain ⟨q, X, C, V, rfl, hRx, hDx, hb, hor⟩ := hrel
        have hDe := HD.out.below hb
        have hBe := hb
        by_cases hxb : X.bad = true
        · have hf : fdat s = noDat ∧ fcode s = 1100 := by
            rcases hor with h | ⟨hq, AC, cC, AV, cV, cs, rs, _, _, hcs, hX, _⟩
            · exact h.2
            · cases q with
              | zero =>
                have hn0 : n2 = 0 := HDEC.out.2.2.2 (by rw [hX] at hxb; exact hxb)
                have hd := HDEC.out.2.1
                rw [hn0] at hd
                exact get_worse HDEC.out.1 (d := datOf n1 []) hd (fun h => by have := h.1.1.1.2.2.1; simp [datOf] at this)
              | succ q => rw [hX, cols_good hcs] at hxb; cases hxb
          have HF := Lib.hid hf; clear hf hor
          as_aux_lemma =>
            by_cases hlt : q < n2
            · skip
              obtain ⟨y0, y1, y2⟩ := hRx.cells
              rw [hxb] at y2
              go_wp2_with (refine wpList_store_data rfl (.tmp 2) (.tmp 108) rfl w.heap.size 0 0 none none none none 0 0 0 0 0 0 0 0 rfl rfl hDe ?_; intro wq hDq hgq hsq)
              exact ret_data hDq rfl rfl rfl (post_none HF.out rfl ((bthen HB.out hBe (Nat.le_refl _)).grown hgq (Below.size (bthen HB.out hBe (Nat.le_refl _))) (fun j hj => by cases hj; exact Nat.le_refl _)))
            · skip
              obtain ⟨y0, y1, y2⟩ := hRx.cells
              rw [hxb] at y2
              go_wp2_with (refine wpList_store_data rfl (.tmp 2) (.tmp 108) rfl w.heap.size 0 0 none none none none 0 0 0 0 0 0 0 0 rfl rfl hDe ?_; intro wq hDq hgq hsq)
              exact ret_data hDq rfl rfl rfl (post_none HF.out rfl ((bthen HB.out hBe (Nat.le_refl _)).grown hgq (Below.size (bthen HB.out hBe (Nat.le_refl _))) (fun j hj => by cases hj; exact Nat.le_refl _)))
        · have hxf : X.bad = false := by simpa using hxb
          rcases hor with h | ⟨hq, AC, cC, AV, cV, cs, rs, rfl, rfl, hcs, hX, hO⟩
          · exact absurd h.1 hxb
          · clear hxb
            obtain ⟨hcl, hcf⟩ := rdCols_fine hcs
            by_cases hlt : q < n2
            · as_aux_lemma =>
              have ok3 := rdCols_okR (dec := decP) q HDEC.out.2.2.1
              have hstep := rdCols_next (dec := decP) hcs
              have hno : (rdCols decP (q + 1) r2).1 = none → fdat s = noDat ∧ fcode s = 1100 := fun h => by
                have h2 := rdCols_none h (n2 - (q + 1))
                rw [show q + 1 + (n2 - (q + 1)) = n2 by omega] at h2
                refine get_form HDEC.out.1 ?_
                rw [HDEC.out.2.1, h2]
              have hcd : rdCol decP (rdCols decP q r2).2 = (if (rdBytes (rdNum 65536 (rdByte (rdNum 9223372036854775807 (rdCols decP q r2).2).2).2).1 (rdNum 65536 (rdByte (rdNum 9223372036854775807 (rdCols decP q r2).2).2).2).2).2.bad = true ∨ (unvec decP ((rdByte (rdNum 9223372036854775807 (rdCols decP q r2).2).2).1 : Int) (rdBytes (rdNum 65536 (rdByte (rdNum 9223372036854775807 (rdCols decP q r2).2).2).2).1 (rdNum 65536 (rdByte (rdNum 9223372036854775807 (rdCols decP q r2).2).2).2).2).1).2 ≠ 0
                  then (none, (rdBytes (rdNum 65536 (rdByte (rdNum 9223372036854775807 (rdCols decP q r2).2).2).2).1 (rdNum 65536 (rdByte (rdNum 9223372036854775807 (rdCols decP q r2).2).2).2).2).2)
                  else (some (⟨((rdNum 9223372036854775807 (rdCols decP q r2).2).1 : Int), ByteArray.empty, ((rdByte (rdNum 9223372036854775807 (rdCols decP q r2).2).2).1 : Int)⟩, (unvec decP ((rdByte (rdNum 9223372036854775807 (rdCols decP q r2).2).2).1 : Int) (rdBytes (rdNum 65536 (rdByte (rdNum 9223372036854775807 (rdCols decP q r2).2).2).2).1 (rdNum 65536 (rdByte (rdNum 9223372036854775807 (rdCols decP q r2).2).2).2).2).1).1), (rdBytes (rdNum 65536 (rdByte (rdNum 9223372036854775807 (rdCols decP q r2).2).2).2).1 (rdNum 65536 (rdByte (rdNum 9223372036854775807 (rdCols decP q r2).2).2).2).2).2)) := rfl
              rw [hcd] at hstep
              clear hcd
              have hM0 : MidT wr W0.heap.size gr g7 (rdCols decP q r2).2 (n1 : Int) (.slice AC q cC) (.slice AV q cV) ⟨(n1 : Int), cs.map (·.1), cs.map (·.2)⟩ rs := ⟨by rw [← hX]; exact hRx, hDx, hO⟩
              rw [hX] at hxf
              clear hX hRx hDx hO
              generalize (rdCols decP q r2).2 = rq at *
              have hC1 : ∀ w, Rdr 96 w gr rq → Calls Tryz.prog 49 #[.pointer (some ⟨gr, 0, none⟩), .int .i64 9223372036854775807] w fun e w' => e = .returned (.int .i64 ((rdNum 9223372036854775807 rq).1 : Nat)) ∧ Rdr 96 w' gr (rdNum 9223372036854775807 rq).2 ∧ w.grownBy w' (some gr) := fun w h => tnum_any gr 9223372036854775807 rq w h ok3
              have hi1 := rdNum_le 9223372036854775807 rq
              have ok4 := rdNum_okR (m := 9223372036854775807) ok3
              generalize rdNum 9223372036854775807 rq = Y at *
              obtain ⟨idn, ra⟩ := Y
              simp only [] at hC1 hi1 ok4 hstep
              have hC2 : ∀ w, Rdr 96 w gr ra → Calls Tryz.prog 48 #[.pointer (some ⟨gr, 0, none⟩), .int .i64 1] w fun e w' => e = .returned (.string (str (rdBytes 1 ra).1)) ∧ Rdr 96 w' gr (rdByte ra).2 ∧ w.grownBy w' (some gr) := fun w h => tbytes_any gr 1 ra w h ok4 (by omega)
              have ok5 := rdByte_okR ok4
              have hi2 := rdByte_lt ra
              have hby := fun h => byte_one (r := ra) h
              generalize (rdBytes 1 ra).1 = ks at *
              generalize rdByte ra = Y at *
              obtain ⟨kn, rb⟩ := Y
              simp only [] at hC2 ok5 hi2 hstep hby
              have hC3 : ∀ w, Rdr 96 w gr rb → Calls Tryz.prog 49 #[.pointer (some ⟨gr, 0, none⟩), .int .i64 65536] w fun e w' => e = .returned (.int .i64 ((rdNum 65536 rb).1 : Nat)) ∧ Rdr 96 w' gr (rdNum 65536 rb).2 ∧ w.grownBy w' (some gr) := fun w h => tnum_any gr 65536 rb w h ok5
              have hrbn : rb.bad = true → (rdCols decP (q + 1) r2).1 = none := fun h => by rw [hstep, if_pos (.inl (bytes_bad (num_bad2 h)))]; rfl
              have hi3 := rdNum_le 65536 rb
              have ok6 := rdNum_okR (m := 65536) ok5
              generalize rdNum 65536 rb = Y at *
              obtain ⟨m, rc⟩ := Y
              simp only [] at hC3 hi3 ok6 hstep
              have hC4 : ∀ w, Rdr 96 w gr rc → Calls Tryz.prog 48 #[.pointer (some ⟨gr, 0, none⟩), .int .i64 (m : Nat)] w fun e w' => e = .returned (.string (str (rdBytes m rc).1)) ∧ Rdr 96 w' gr (rdBytes m rc).2 ∧ w.grownBy w' (some gr) := fun w h => tbytes_any gr m rc w h ok6 (by omega)
              have hi4 := rdBytes_le (n := m) (r := rc)
              generalize rdBytes m rc = Y at *
              obtain ⟨bts, rd⟩ := Y
              simp only [] at hC4 hi4 hstep
              have hC5 := fun w => Vec.unvec_any (kn : Int) (str bts) w (by rw [str_size]; unfold maxReach; omega)
              have hgv : uvals (kn : Int) (str bts) = (unvec decP (kn : Int) bts).1 := by rw [uvals_same]; unfold gvals; rw [str_list]
              have hgc : ucode (kn : Int) (str bts) = ((unvec decP (kn : Int) bts).2 : Nat) := by rw [ucode_same]; unfold gcode; rw [str_list]
              rw [hgv, hgc] at hC5
              have hfin := unvec_fine (kn : Int) bts
              generalize unvec decP (kn : Int) bts = Y at *
              obtain ⟨vs, cd⟩ := Y
              simp only [] at hC5 hstep hfin
              clear hgv hgc ok3 ok4 ok5 ok6
              generalize str bts = BT at *
              have HC1 := Lib.hid hC1; clear hC1
              have HC2 := Lib.hid hC2; clear hC2
              have HC3 := Lib.hid hC3; clear hC3
              have HC4 := Lib.hid hC4; clear hC4
              have HC5 := Lib.hid hC5; clear hC5
              have HRBN := Lib.hid (And.intro hrbn hby); clear hrbn hby
              have HST := Lib.hid (And.intro hstep (And.intro hno (And.intro hcs (And.intro hcf hfin)))); clear hstep hno hcs hcf hfin
              obtain ⟨y0, y1, y2⟩ := hM0.rd.cells
              rw [hxf] at y2
              go_wp2_with fail
              refine (HC1.out _ hM0.rd).mono ?_
              rintro e wa ⟨rfl, hRa, hga⟩
              have hMa := hM0.read hRa hga
              have hBa := hb.grown hga (Below.size hb) (fun j hj => by cases hj; exact hz2)
              clear y0 y1 y2 hRa hga hDe hBe
              have hcb : CBox (wa.alloc (.cells #[.int .i64 (idn : Nat), .string { data := #[] }, .int .i64 0] 63)) wa.heap.size ⟨(idn : Int), ByteArray.empty, 0⟩ := CBox.new wa ⟨(idn : Int), ByteArray.empty, 0⟩
              have hon := Vals.one_new (w := wa) (.cells #[.int .i64 (idn : Nat), .string { data := #[] }, .int .i64 0] 63)
              have hMb := hMa.below hon
              have hBb := bthen hBa hon (Nat.le_refl _)
              have hgrb : gr < wa.heap.size := hMa.rd.lt
              have hg7b : g7 < wa.heap.size := hMa.box.lt
              have hCl : ∀ k, (Value.slice AC q cC).ownBlock = some k → k ≠ wa.heap.size := fun k hk => by have := (World.ownsRow.lt hMa.own.cols k hk).2; omega
              go_wp2_with fail
              refine (HC2.out _ hMb.rd).mono ?_
              rintro e wb ⟨rfl, hRb, hgb⟩
              have hMc := hMb.read hRb hgb
              have hCc := CBox.grown hcb hgb (fun e => by injection e with e; omega)
              have hBc := hBb.grown hgb (Below.size hBb) (fun j hj => by cases hj; exact hz2)
              have hDc := HD.out.below hBc
              clear hRb hgb hcb hon hMb hBb hMa hBa
              generalize wa.heap.size = g11 at *
              by_cases hrb : rb.bad = true
              · as_aux_lemma =>
                have HF := Lib.hid (HST.out.2.1 (HRBN.out.1 hrb))
                have hRx := hMc.rd
                have hDe := hDc
                have hBe := hBc
                have hxb := hrb
                clear hMc hCc
                obtain ⟨y0, y1, y2⟩ := hRx.cells
                rw [hxb] at y2
                go_wp2_with (refine wpList_store_data rfl (.tmp 2) (.tmp 108) rfl w.heap.size 0 0 none none none none 0 0 0 0 0 0 0 0 rfl rfl hDe ?_; intro wq hDq hgq hsq)
                exact ret_data hDq rfl rfl rfl (post_none HF.out rfl ((bthen HB.out hBe (Nat.le_refl _)).grown hgq (Below.size (bthen HB.out hBe (Nat.le_refl _))) (fun j hj => by cases hj; exact Nat.le_refl _)))
              · have hrbf : rb.bad = false := by simpa using hrb
                obtain ⟨x, hkx, hknx⟩ := HRBN.out.2 hrbf
                subst hkx
                have hat := run_at (str [x]) 0 0 rfl (by rw [str_size]; simp)
                have hbyx : byteAt (str [x]).data.toList 0 = kn := by rw [str_list, hknx]; rfl
                rw [hbyx] at hat
                have hwk : IntKind.i64.wrap ((kn : Nat) : Int) = ((kn : Nat) : Int) := by rw [IntKind.wrap_i64]; omega
                have hwk2 : wrap64 ((kn : Nat) : Int) = ((kn : Nat) : Int) := by unfold wrap64; omega
                clear hbyx hknx hrb HRBN
                generalize str [x] = KS at *
                obtain ⟨y0, y1, y2⟩ := hMc.rd.cells
                rw [hrbf] at y2
                obtain ⟨u0, u1, u2⟩ := hCc.cells
                have uf := hCc.free 2
                simp only [] at u0 u1 u2
                have hMd := hMc.other (o := 2) (x := .int .i64 (kn : Nat)) hCc hCl
                have hCd : CBox (wb.setCell ⟨g11, 2, none⟩ (.int .i64 (kn : Nat))) g11 ⟨(idn : Int), ByteArray.empty, (kn : Int)⟩ := Vec.set_heap hCc
                have hg11 : W0.heap.size ≤ g11 := by omega
                have hBd := hBc.setCell (p := ⟨g11, 2, none⟩) hg11 (.int .i64 (kn : Nat))
                go_wp2_with fail
                refine (HC3.out _ hMd.rd).mono ?_
                rintro e wc ⟨rfl, hRc, hgc⟩
                have hMe := hMd.read hRc hgc
                have hCe := CBox.grown hCd hgc (fun e => by injection e with e; omega)
                have hBe0 := hBd.grown hgc (Below.size hBd) (fun j hj => by cases hj; exact hz2)
                clear y0 y1 y2 u0 u1 u2 uf hMd hCd hBd hRc hgc hMc hCc hBc hDc hat
                have HME := Lib.hid hMe; clear hMe
                have HCE := Lib.hid hCe
                have HRDc := Lib.hid (HME.out.rd.drew)
                have hCx := hCe.drew
                clear hCe
                obtain ⟨u0, u1, u2⟩ := HCE.out.cells
                simp only [] at u0 u1 u2
                go_upto_region 17 with fail
                go_region_held3 (fun w' => w'.cell? ⟨g11, 2, none⟩ = some (.int .i64 (kn : Nat)))
                  (first | go_keep | exact hCx.cells.2.2)
                  ((first
                    | (go_at_call 48; (with_reducible refine (HC4.out _ HRDc.out).mono ?_); rintro e wd ⟨rfl, hR, hgd⟩; have hCx := CBox.grown hCx hgd (fun e => by injection e with e; omega); have HRD2 := Lib.hid hR; clear hR)
                    | (go_at_call 50; (with_reducible refine (HC5.out _).mono ?_); rintro e we ⟨u9, rfl, hV, hbe⟩; have hCx := hCx.below hbe)))
                have hM3 := HME.out.drew.read HRD2.out hgd
                have hM4 := hM3.below hbe
                have hBe1 := hBe0.drew.grown hgd (Below.size hBe0.drew) (fun j hj => by cases hj; exact hz2)
                have hBe2 := bthen hBe1 hbe (Nat.le_refl _)
                have hV2 : OwnV we W0.heap.size u9 vs := own_le hV (Below.size hBe1)
                obtain ⟨A9, c9, rfl, _, hc9⟩ := hV2.form' (n := vs.length) rfl
                clear u0 u1 u2 HME HCE HRDc HRD2 hM3 hBe0 hBe1 hV hgd hbe
                obtain ⟨y0, y1, y2⟩ := hM4.rd.cells
                have yf := hM4.rd.free 2
                have hrl : rs.length = q := by have := congrArg List.length hM4.own.eq; simp at this; omega
                have hcl1 : (cs.map (·.1) ++ [(⟨(idn : Int), ByteArray.empty, (kn : Int)⟩ : Colm)]).length = q + 1 := by simp [hcl]
                have HL := Lib.hid (And.intro hrl hcl1); clear hrl hcl1
                have hrl12 : rs.length ≤ 12 := by have := HL.out.1; omega
                have hcl12 : (cs.map (·.1)).length ≤ 12 := by have := HL.out.2; simp at this; simp; omega
                clear hi1 hi2 hi3 hi4 hc9 hcl hwk hwk2
                have hVset : ∀ f, OwnV (we.setCell ⟨gr, 2, none⟩ (.bool f)) W0.heap.size (.slice A9 vs.length c9) vs := fun f => own_drop hV2 (by have := hM4.rd; unfold Rdr at this; exact this) (by decide)
                clear hV2
                by_cases hbd : rd.bad = true
                · as_aux_lemma =>
                  rw [hbd] at y2
                  have hf := HST.out.2.1 (by rw [HST.out.1, if_pos (.inl hbd)]; rfl)
                  have HF := Lib.hid hf; clear hf hbd
                  have hMg := hM4.flag true
                  have hBg := hBe2.setCell (p := ⟨gr, 2, none⟩) hz2 (.bool true)
                  have hgne : gr ≠ g11 := by omega
                  have hCg : CBox (we.setCell ⟨gr, 2, none⟩ (.bool true)) g11 ⟨(idn : Int), ByteArray.empty, (kn : Int)⟩ := by
                    have := hCx
                    unfold CBox at this ⊢
                    rw [Below.heap_setCell _ _ _ _ (Ne.symm hgne)]; exact this
                  have hVg : OwnV (we.setCell ⟨gr, 2, none⟩ (.bool true)) W0.heap.size (.slice A9 vs.length c9) vs := hVset true
                  clear hM4 hBe2 hCx hVset
                  go_upto_region 19 with fail
                  generalize we.setCell ⟨gr, 2, none⟩ (.bool true) = wf at *
                  have HMG := Lib.hid hMg; clear hMg
                  have HVG := Lib.hid hVg; clear hVg
                  obtain ⟨x0, x1, x2⟩ := HMG.out.box.cells
                  obtain ⟨u0, u1, u2⟩ := hCg.cells
                  simp only [] at u0 u1 u2
                  have hBgs := Below.size hBg
                  clear hCg
                  go_wp2_with (first
                    | (at_builtin; refine wpList_push_col rfl (.tmp 88) (.tmp 90) rfl W0.heap.size (.slice AC q cC) (cs.map (·.1)) (idn : Int) (kn : Int) ByteArray.empty wf.heap.size 1 wf rfl rfl rfl rfl HMG.out.own.cols hcl12 hBgs ?_; intro uc wA hA hgA hatA; obtain ⟨A2, c2, rfl, _, _⟩ := OwnG.form hA HL.out.2; have hbA := dbox_keep (HMG.out.box.alloc _) (OwnG.alloc HMG.out.own.cols _) (by decide) hgA; have d1 := hbA.cells.2.1; have d2 := hbA.cells.2.2; have f1 := hbA.free 1; have hMC := MidT.col HMG.out hA hgA; have hBA := (Below.alloc hBg hBgs (.cells #[.int .i64 (idn : Int), .string ByteArray.empty, .int .i64 (kn : Int)] 63)).grown hgA (Below.size (Below.alloc hBg hBgs (.cells #[.int .i64 (idn : Int), .string ByteArray.empty, .int .i64 (kn : Int)] 63))) (own_base HMG.out.own.cols); have hVA : OwnV wA W0.heap.size (.slice A9 vs.length c9) vs := World.ownsRow.kept (HVG.out.alloc _) hgA (own_ne (HVG.out.alloc (.cells #[.int .i64 (idn : Int), .string ByteArray.empty, .int .i64 (kn : Int)] 63)) (OwnG.alloc HMG.out.own.cols _) (by decide)); have hVB : OwnV (wA.setCell ⟨g7, 1, none⟩ (.slice A2 (q + 1) c2)) W0.heap.size (.slice A9 vs.length c9) vs := own_drop hVA hbA (by decide); have HMC := Lib.hid (And.intro hMC (And.intro hBA hVB)); clear hA hatA hMC hbA hBA hVA hVB x0 x1 x2 u0 u1 u2)
                    | (at_builtin; have hBB2 := HMC.out.2.1.setCell (p := ⟨g7, 1, none⟩) hg7B (.slice A2 (q + 1) c2); have hBX := Below.size hBB2; refine wpList_push_row rfl (.tmp 94) (.tmp 97) rfl W0.heap.size (.slice AV q cV) rs ⟨A9, vs.length, c9, vs⟩ wA.heap.size 1 (wA.setCell ⟨g7, 1, none⟩ (.slice A2 (q + 1) c2)) rfl rfl rfl (by simp) HMC.out.1.2.2.2.1 hrl12 hBX ?_; intro ur wB hA hgB hatB; obtain ⟨A3, c3, rfl, _, _⟩ := OwnG.form hA (n := q + 1) (by have := HL.out.1; simp; omega); have hbB := dbox_keep (HMC.out.1.2.1.alloc _) (OwnG.alloc HMC.out.1.2.2.2.1 _) (by decide) hgB; have f2 := hbB.free 2; have e2 := hbB.cells.2.2; have hMR := MidT.row HMC.out.1.1 HMC.out.1.2.1 HMC.out.1.2.2.1 HMC.out.1.2.2.2.1 HMC.out.1.2.2.2.2 (r1 := ⟨A9, vs.length, c9, vs⟩) HMC.out.2.2 HMG.out.ne hA hgB; have hBB3 := (Below.alloc hBB2 hBX (.cells #[.slice A9 vs.length c9] 67)).grown hgB (Below.size (Below.alloc hBB2 hBX (.cells #[.slice A9 vs.length c9] 67))) (own_base HMC.out.1.2.2.2.1); have HMR := Lib.hid (And.intro hMR hBB3); clear hA hatB hMR hbB hBB3 d1 d2 f1))
                  have hBB4 := HMR.out.2.setCell (p := ⟨g7, 2, none⟩) hg7B (.slice A3 (q + 1) c3)
                  go_roundw
                  case rel => exact ⟨q + 1, ⟨rd.s, rd.at_, true⟩, _, _, by go_num, HMR.out.1.1, HMR.out.1.2.1, hBB4, .inl ⟨rfl, HF.out⟩⟩
                  case measure => simp [intOf]; omega
                · have hbf : rd.bad = false := by simpa using hbd
                  rw [hbf] at y2
                  by_cases hcd : cd = 0
                  · as_aux_lemma =>
                    subst hcd
                    have hnx : rdCols decP (q + 1) r2 = (some (cs ++ [(⟨(idn : Int), ByteArray.empty, (kn : Int)⟩, vs)]), rd) := by rw [HST.out.1, if_neg (by rw [hbf]; simp)]; rfl
                    have hrde : (⟨rd.s, rd.at_, false⟩ : Rd) = rd := by obtain ⟨a1, a2, a3⟩ := rd; simp only [] at hbf; subst hbf; rfl
                    have HNX := Lib.hid (And.intro hnx hrde); clear hnx hrde hbd hbf
                    have hMg := hM4.flag false
                    have hBg := hBe2.setCell (p := ⟨gr, 2, none⟩) hz2 (.bool false)
                    have hgne : gr ≠ g11 := by omega
                    have hCg : CBox (we.setCell ⟨gr, 2, none⟩ (.bool false)) g11 ⟨(idn : Int), ByteArray.empty, (kn : Int)⟩ := by
                      have := hCx
                      unfold CBox at this ⊢
                      rw [Below.heap_setCell _ _ _ _ (Ne.symm hgne)]; exact this
                    have hVg : OwnV (we.setCell ⟨gr, 2, none⟩ (.bool false)) W0.heap.size (.slice A9 vs.length c9) vs := hVset false
                    clear hM4 hBe2 hCx hVset
                    go_upto_region 19 with fail
                    generalize we.setCell ⟨gr, 2, none⟩ (.bool false) = wf at *
                    have HMG := Lib.hid hMg; clear hMg
                    have HVG := Lib.hid hVg; clear hVg
                    obtain ⟨x0, x1, x2⟩ := HMG.out.box.cells
                    obtain ⟨u0, u1, u2⟩ := hCg.cells
                    simp only [] at u0 u1 u2
                    have hBgs := Below.size hBg
                    clear hCg
                    go_wp2_with (first
                      | (at_builtin; refine wpList_push_col rfl (.tmp 88) (.tmp 90) rfl W0.heap.size (.slice AC q cC) (cs.map (·.1)) (idn : Int) (kn : Int) ByteArray.empty wf.heap.size 1 wf rfl rfl rfl rfl HMG.out.own.cols hcl12 hBgs ?_; intro uc wA hA hgA hatA; obtain ⟨A2, c2, rfl, _, _⟩ := OwnG.form hA HL.out.2; have hbA := dbox_keep (HMG.out.box.alloc _) (OwnG.alloc HMG.out.own.cols _) (by decide) hgA; have d1 := hbA.cells.2.1; have d2 := hbA.cells.2.2; have f1 := hbA.free 1; have hMC := MidT.col HMG.out hA hgA; have hBA := (Below.alloc hBg hBgs (.cells #[.int .i64 (idn : Int), .string ByteArray.empty, .int .i64 (kn : Int)] 63)).grown hgA (Below.size (Below.alloc hBg hBgs (.cells #[.int .i64 (idn : Int), .string ByteArray.empty, .int .i64 (kn : Int)] 63))) (own_base HMG.out.own.cols); have hVA : OwnV wA W0.heap.size (.slice A9 vs.length c9) vs := World.ownsRow.kept (HVG.out.alloc _) hgA (own_ne (HVG.out.alloc (.cells #[.int .i64 (idn : Int), .string ByteArray.empty, .int .i64 (kn : Int)] 63)) (OwnG.alloc HMG.out.own.cols _) (by decide)); have hVB : OwnV (wA.setCell ⟨g7, 1, none⟩ (.slice A2 (q + 1) c2)) W0.heap.size (.slice A9 vs.length c9) vs := own_drop hVA hbA (by decide); have HMC := Lib.hid (And.intro hMC (And.intro hBA hVB)); clear hA hatA hMC hbA hBA hVA hVB x0 x1 x2 u0 u1 u2)
                      | (at_builtin; have hBB2 := HMC.out.2.1.setCell (p := ⟨g7, 1, none⟩) hg7B (.slice A2 (q + 1) c2); have hBX := Below.size hBB2; refine wpList_push_row rfl (.tmp 94) (.tmp 97) rfl W0.heap.size (.slice AV q cV) rs ⟨A9, vs.length, c9, vs⟩ wA.heap.size 1 (wA.setCell ⟨g7, 1, none⟩ (.slice A2 (q + 1) c2)) rfl rfl rfl (by simp) HMC.out.1.2.2.2.1 hrl12 hBX ?_; intro ur wB hA hgB hatB; obtain ⟨A3, c3, rfl, _, _⟩ := OwnG.form hA (n := q + 1) (by have := HL.out.1; simp; omega); have hbB := dbox_keep (HMC.out.1.2.1.alloc _) (OwnG.alloc HMC.out.1.2.2.2.1 _) (by decide) hgB; have f2 := hbB.free 2; have e2 := hbB.cells.2.2; have hMR := MidT.row HMC.out.1.1 HMC.out.1.2.1 HMC.out.1.2.2.1 HMC.out.1.2.2.2.1 HMC.out.1.2.2.2.2 (r1 := ⟨A9, vs.length, c9, vs⟩) HMC.out.2.2 HMG.out.ne hA hgB; have hBB3 := (Below.alloc hBB2 hBX (.cells #[.slice A9 vs.length c9] 67)).grown hgB (Below.size (Below.alloc hBB2 hBX (.cells #[.slice A9 vs.length c9] 67))) (own_base HMC.out.1.2.2.2.1); have HMR := Lib.hid (And.intro hMR hBB3); clear hA hatB hMR hbB hBB3 d1 d2 f1))
                    have hBB4 := HMR.out.2.setCell (p := ⟨g7, 2, none⟩) hg7B (.slice A3 (q + 1) c3)
                    go_roundw
                    case rel =>
                      refine ⟨q + 1, ⟨rd.s, rd.at_, false⟩, _, _, by go_num, HMR.out.1.1, HMR.out.1.2.1, hBB4, .inr ⟨by omega, A2, c2, A3, c3, cs ++ [(⟨(idn : Int), ByteArray.empty, (kn : Int)⟩, vs)], rs ++ [⟨A9, vs.length, c9, vs⟩], rfl, rfl, by rw [HNX.out.1], by rw [HNX.out.1, HNX.out.2], ?_⟩⟩
                      refine ⟨?_, HMR.out.1.2.2.2.1, HMR.out.1.2.2.2.2, ?_⟩
                      · have := HMR.out.1.2.2.1
                        simpa using this
                      · have := HMG.out.own.eq
                        simp at this
                        simp [this]
                    case measure => simp [intOf]; omega
                  · as_aux_lemma =>
                    have hne : ((((cd : Nat) : Int)) != 0) = true := by simp; omega
                    have hf := HST.out.2.1 (by rw [HST.out.1, if_pos (.inr hcd)]; rfl)
                    have HF := Lib.hid hf; clear hf hbd hbf hcd
                    have hMg := hM4.flag true
                    have hBg := hBe2.setCell (p := ⟨gr, 2, none⟩) hz2 (.bool true)
                    have hgne : gr ≠ g11 := by omega
                    have hCg : CBox (we.setCell ⟨gr, 2, none⟩ (.bool true)) g11 ⟨(idn : Int), ByteArray.empty, (kn : Int)⟩ := by
                      have := hCx
                      unfold CBox at this ⊢
                      rw [Below.heap_setCell _ _ _ _ (Ne.symm hgne)]; exact this
                    have hVg : OwnV (we.setCell ⟨gr, 2, none⟩ (.bool true)) W0.heap.size (.slice A9 vs.length c9) vs := hVset true
                    clear hM4 hBe2 hCx hVset
                    go_upto_region 19 with fail
                    generalize we.setCell ⟨gr, 2, none⟩ (.bool true) = wf at *
                    have HMG := Lib.hid hMg; clear hMg
                    have HVG := Lib.hid hVg; clear hVg
                    obtain ⟨x0, x1, x2⟩ := HMG.out.box.cells
                    obtain ⟨u0, u1, u2⟩ := hCg.cells
                    simp only [] at u0 u1 u2
                    have hBgs := Below.size hBg
                    clear hCg
                    go_wp2_with (first
                      | (at_builtin; refine wpList_push_col rfl (.tmp 88) (.tmp 90) rfl W0.heap.size (.slice AC q cC) (cs.map (·.1)) (idn : Int) (kn : Int) ByteArray.empty wf.heap.size 1 wf rfl rfl rfl rfl HMG.out.own.cols hcl12 hBgs ?_; intro uc wA hA hgA hatA; obtain ⟨A2, c2, rfl, _, _⟩ := OwnG.form hA HL.out.2; have hbA := dbox_keep (HMG.out.box.alloc _) (OwnG.alloc HMG.out.own.cols _) (by decide) hgA; have d1 := hbA.cells.2.1; have d2 := hbA.cells.2.2; have f1 := hbA.free 1; have hMC := MidT.col HMG.out hA hgA; have hBA := (Below.alloc hBg hBgs (.cells #[.int .i64 (idn : Int), .string ByteArray.empty, .int .i64 (kn : Int)] 63)).grown hgA (Below.size (Below.alloc hBg hBgs (.cells #[.int .i64 (idn : Int), .string ByteArray.empty, .int .i64 (kn : Int)] 63))) (own_base HMG.out.own.cols); have hVA : OwnV wA W0.heap.size (.slice A9 vs.length c9) vs := World.ownsRow.kept (HVG.out.alloc _) hgA (own_ne (HVG.out.alloc (.cells #[.int .i64 (idn : Int), .string ByteArray.empty, .int .i64 (kn : Int)] 63)) (OwnG.alloc HMG.out.own.cols _) (by decide)); have hVB : OwnV (wA.setCell ⟨g7, 1, none⟩ (.slice A2 (q + 1) c2)) W0.heap.size (.slice A9 vs.length c9) vs := own_drop hVA hbA (by decide); have HMC := Lib.hid (And.intro hMC (And.intro hBA hVB)); clear hA hatA hMC hbA hBA hVA hVB x0 x1 x2 u0 u1 u2)
                      | (at_builtin; have hBB2 := HMC.out.2.1.setCell (p := ⟨g7, 1, none⟩) hg7B (.slice A2 (q + 1) c2); have hBX := Below.size hBB2; refine wpList_push_row rfl (.tmp 94) (.tmp 97) rfl W0.heap.size (.slice AV q cV) rs ⟨A9, vs.length, c9, vs⟩ wA.heap.size 1 (wA.setCell ⟨g7, 1, none⟩ (.slice A2 (q + 1) c2)) rfl rfl rfl (by simp) HMC.out.1.2.2.2.1 hrl12 hBX ?_; intro ur wB hA hgB hatB; obtain ⟨A3, c3, rfl, _, _⟩ := OwnG.form hA (n := q + 1) (by have := HL.out.1; simp; omega); have hbB := dbox_keep (HMC.out.1.2.1.alloc _) (OwnG.alloc HMC.out.1.2.2.2.1 _) (by decide) hgB; have f2 := hbB.free 2; have e2 := hbB.cells.2.2; have hMR := MidT.row HMC.out.1.1 HMC.out.1.2.1 HMC.out.1.2.2.1 HMC.out.1.2.2.2.1 HMC.out.1.2.2.2.2 (r1 := ⟨A9, vs.length, c9, vs⟩) HMC.out.2.2 HMG.out.ne hA hgB; have hBB3 := (Below.alloc hBB2 hBX (.cells #[.slice A9 vs.length c9] 67)).grown hgB (Below.size (Below.alloc hBB2 hBX (.cells #[.slice A9 vs.length c9] 67))) (own_base HMC.out.1.2.2.2.1); have HMR := Lib.hid (And.intro hMR hBB3); clear hA hatB hMR hbB hBB3 d1 d2 f1))
                    have hBB4 := HMR.out.2.setCell (p := ⟨g7, 2, none⟩) hg7B (.slice A3 (q + 1) c3)
                    go_roundw
                    case rel => exact ⟨q + 1, ⟨rd.s, rd.at_, true⟩, _, _, by go_num, HMR.out.1.1, HMR.out.1.2.1, hBB4, .inl ⟨rfl, HF.out⟩⟩
                    case measure => simp [intOf]; omega
            · as_aux_lemma =>
              obtain rfl : n2 = q := by omega
              have hdecf : decF decP b = some ⟨(n1 : Int), cs.map (·.1), cs.map (·.2)⟩ := by rw [HDEC.out.2.1, hcs]; rfl
              have hin := OwnD.in_ (nC := n2) (nV := n2) hO hcf hn1 (by omega) hcl hcl
              have hP := fun w h => File.refFile_any ⟨(n1 : Int), cs.map (·.1), cs.map (·.2)⟩ AC AV n2 cC n2 cV rs w h
              have hgg := fun h => get_good (s := s) HDEC.out.1 hdecf h
              have hgw := fun h => get_worse (s := s) HDEC.out.1 hdecf h
              obtain ⟨x0, x1, x2⟩ := hDx.cells
              obtain ⟨y0, y1, y2⟩ := hRx.cells
              rw [hxf] at y2
              have HO2 := Lib.hid hO; clear hO
              have HIN := Lib.hid hin; clear hin hdecf hcs hcf hcl hX hRx
              generalize hdd : (⟨(n1 : Int), cs.map (·.1), cs.map (·.2)⟩ : Dat) = dd at *
              have hrows : dd.rows = (n1 : Int) := by rw [← hdd]
              rw [hrows] at hP
              by_cases hok : fileOk dd ∧ filePut dd = s.data.toList
              · have hg := hgg hok
                have he : fileErr dd = 0 := by unfold fileErr; rw [if_pos hok.1]
                rw [hok.2, he, str_self] at hP
                have HG := Lib.hid (And.intro hg (And.intro hrows hdd)); clear hg hrows hdd hgg hgw hok he
                have HP := Lib.hid hP; clear hP
                go_wp2_with fail
                refine (HP.out _ HIN.out).mono ?_
                rintro e w6 ⟨rfl, hb6⟩
                have hD6 := hDe.below hb6
                have hX6 := hDx.below hb6
                have hO6 := OwnD.below HO2.out hb6
                clear x0 x1 x2 y0 y1 y2
                obtain ⟨z0, z1, z2⟩ := hX6.cells
                go_wp2_with (refine wpList_store_data rfl (.tmp 2) (.tmp 122) rfl w.heap.size (n1 : Int) 0 AC AV none none n2 n2 0 0 cC cV 0 0 rfl rfl hD6 ?_; intro wq hDq hgq hsq)
                have hOw := (OwnD.base (B := w.heap.size) hO6 (Nat.le_of_lt hw0)).keep hD6 hgq
                have hBq := (bthen HB.out (bthen hb hb6 (Nat.le_refl _)) (Nat.le_refl _)).grown hgq (Below.size (bthen HB.out (bthen hb hb6 (Nat.le_refl _)) (Nat.le_refl _))) (fun j hj => by cases hj; exact Nat.le_refl _)
                exact ret_data hDq rfl rfl rfl ⟨AC, n2, cC, AV, n2, cV, rs, by rw [HG.out.1.1, HG.out.1.2, HG.out.2.1]; rfl, by rw [HG.out.1.1]; exact hOw, hBq⟩
              · have hg := hgw hok
                by_cases hf : fileErr dd = 0
                · have hne : ((str (filePut dd)).toList == s.toList) = false := str_ne (fun e => hok ⟨err_zero hf, e⟩)
                  rw [hf] at hP
                  generalize str (filePut dd) = Z at *
                  have HG := Lib.hid hg; clear hg hrows hdd hgg hgw hok hf
                  have HP := Lib.hid hP; clear hP
                  go_wp2_with fail
                  refine (HP.out _ HIN.out).mono ?_
                  rintro e w6 ⟨rfl, hb6⟩
                  have hD6 := hDe.below hb6
                  clear x0 x1 x2 y0 y1 y2
                  go_wp2_with (refine wpList_store_data rfl (.tmp 2) (.tmp 121) rfl w.heap.size 0 0 none none none none 0 0 0 0 0 0 0 0 rfl rfl hD6 ?_; intro wq hDq hgq hsq)
                  exact ret_data hDq rfl rfl rfl (post_none HG.out rfl ((bthen HB.out (bthen hb hb6 (Nat.le_refl _)) (Nat.le_refl _)).grown hgq (Below.size (bthen HB.out (bthen hb hb6 (Nat.le_refl _)) (Nat.le_refl _))) (fun j hj => by cases hj; exact Nat.le_refl _)))
                · have hne : (((fileErr dd : Nat) : Int) != 0) = true := by simp; omega
                  generalize ((fileErr dd : Nat) : Int) = E at *
                  generalize str (filePut dd) = Z at *
                  have HG := Lib.hid hg; clear hg hrows hdd hgg hgw hok hf
                  have HP := Lib.hid hP; clear hP
                  go_wp2_with fail
                  refine (HP.out _ HIN.out).mono ?_
                  rintro e w6 ⟨rfl, hb6⟩
                  have hD6 := hDe.below hb6
                  clear x0 x1 x2 y0 y1 y2
                  go_wp2_with (refine wpList_store_data rfl (.tmp 2) (.tmp 121) rfl w.heap.size 0 0 none none none none 0 0 0 0 0 0 0 0 rfl rfl hD6 ?_; intro wq hDq hgq hsq)
                  exact ret_data hDq rfl rfl rfl (post_none HG.out rfl ((bthen HB.out (bthen hb hb6 (Nat.le_refl _)) (Nat.le_refl _)).grown hgq (Below.size (bthen HB.out (bthen hb hb6 (Nat.le_refl _)) (Nat.le_refl _))) (fun j hj => by cases hj; exact Nat.le_refl _)))
    · as_aux_lemma =>
      have hg := get_form ho (show decF decP b = none from if_neg hp)
      have hne := head_not hp
      have hN1 : ∀ g w, Rdr 96 w g (rdBytes 3 ⟨b, 0, false⟩).2 → Calls Tryz.prog 49 #[.pointer (some ⟨g, 0, none⟩), .int .i64 4096] w fun e w' => e = .returned (.int .i64 ((rdNum 4096 (rdBytes 3 ⟨b, 0, false⟩).2).1 : Nat)) ∧ Rdr 96 w' g (rdNum 4096 (rdBytes 3 ⟨b, 0, false⟩).2).2 ∧ w.grownBy w' (some g) := fun g w h => tnum_any g 4096 _ w h ok1
      have ok2 := rdNum_okR (m := 4096) ok1
      generalize rdBytes 3 ⟨b, 0, false⟩ = X at *
      obtain ⟨hd, r0⟩ := X
      simp only [] at hB3 hN1 hne ok1 ok2
      have hn1 := rdNum_le 4096 r0
      generalize rdNum 4096 r0 = X at *
      obtain ⟨n1, r1⟩ := X
      simp only [] at hN1 hn1 ok2
      have hN2 : ∀ g w, Rdr 96 w g r1 → Calls Tryz.prog 49 #[.pointer (some ⟨g, 0, none⟩), .int .i64 12] w fun e w' => e = .returned (.int .i64 ((rdNum 12 r1).1 : Nat)) ∧ Rdr 96 w' g (rdNum 12 r1).2 ∧ w.grownBy w' (some g) := fun g w h => tnum_any g 12 r1 w h ok2
      have hn2 := rdNum_le 12 r1
      generalize rdNum 12 r1 = X at *
      obtain ⟨n2, r2⟩ := X
      simp only [] at hN2 hn2
      have hne2 : ((str hd).toList == lk1.toList) = false := str_ne (s := lk1) hne
      have hne3 : ((str hd).toList == [76, 75, 49]) = false := by rw [show ([76, 75, 49] : List UInt8) = lk1.toList from by rw [Lib.toList_data]; rfl]; exact hne2
      clear hne2
      generalize str hd = HS0 at *
      generalize (⟨b, 0, false⟩ : Rd) = rz at *
      have HG := Lib.hid hg; clear hg hp ho ok1 ok2 hne
      have HB3 := Lib.hid hB3; clear hB3
      have HN1 := Lib.hid hN1; clear hN1
      have HN2 := Lib.hid hN2; clear hN2
      have HBX := Lib.hid hbx; clear hbx
      go_enter Tryz.func17, Tryz.ntmps17
      go_wp2_with fail
      refine (HO.out _).mono ?_
      rintro e w2 ⟨rfl, hb2⟩
      have hD2 := HD.out.below hb2
      have hz2 := hb2.size
      go_wp2_with fail
      refine (HB3.out _ _ (HBX.out w2)).mono ?_
      rintro e w3 ⟨rfl, hR3, hg3⟩
      have hz3 := hg3.size
      have hR3a := hR3.alloc (.cells #[.int .i64 0, .slice none 0 0, .slice none 0 0] 25)
      go_wp2_with fail
      refine (HN1.out _ _ hR3a).mono ?_
      rintro e w4 ⟨rfl, hR4, hg4⟩
      have hz4 := hg4.size
      have hgr : w2.heap.size < w3.heap.size := by simp at hz3; omega
      have hDx : DBox w4 w3.heap.size 0 (.slice none 0 0) (.slice none 0 0) := (DBox.new w3 0 (.slice none 0 0) (.slice none 0 0)).grown hg4 (fun e => by injection e with e; omega)
      have hbA := (hb2.alloc hz2 (.cells #[.string (str b), .int .i64 0, .bool false] 96)).grown hg3 (Below.size (hb2.alloc hz2 (.cells #[.string (str b), .int .i64 0, .bool false] 96))) (fun j hj => by cases hj; exact hz2)
      have hbC := (hbA.alloc hbA.size (.cells #[.int .i64 0, .slice none 0 0, .slice none 0 0] 25)).grown hg4 (Below.size (hbA.alloc hbA.size (.cells #[.int .i64 0, .slice none 0 0, .slice none 0 0] 25))) (fun j hj => by cases hj; exact hz2)
      have hg7B : (w.alloc (.cells #[.int .i64 0, .slice none 0 0, .slice none 0 0] 25)).heap.size ≤ w3.heap.size := hbA.size
      obtain ⟨d0, d1, d2⟩ := hDx.cells
      have f0 := hDx.free 0
      have hbD := hbC.setCell (p := ⟨w3.heap.size, 0, none⟩) hg7B (.int .i64 (n1 : Int))
      have hR5 : Rdr 96 (w4.setCell ⟨w3.heap.size, 0, none⟩ (.int .i64 (n1 : Int))) w2.heap.size r1 := hR4.other (by omega)
      go_wp2_with fail
      refine (HN2.out _ _ hR5).mono ?_
      rintro e w5 ⟨rfl, hR6, hg6⟩
      have hbE := hbD.grown hg6 (Below.size hbD) (fun j hj => by cases hj; exact hz2)
      clear hbD f0 d0 d1 d2 hbC hbA hDx hR4 hg4 hR3a hR3 hg3 hD2 HO HB3 HN1 HN2 HBX hz3 hz4 hR5 hg6 hb2 hgr hg7B
      have hDe := HD.out.below hbE
      have hRx := hR6
      have hBe := hbE
      clear hR6 hbE
      generalize w.alloc (.cells #[.int .i64 0, .slice none 0 0, .slice none 0 0] 25) = W0 at *
      generalize w2.heap.size = gr at *
      go_wp2
      go_loopw [10] (fun iv wr => iv = .int .i64 0 ∧ w5 = wr) (fun _ _ => 0)
      case atStart => exact ⟨rfl, rfl⟩
      case round =>
        obtain ⟨rfl, rfl⟩ := hrel
        obtain ⟨y0, y1, y2⟩ := hRx.cells
        generalize r2.bad = bb at *
        cases bb
        · by_cases hlt : 0 < n2
          · skip
            go_wp2_with (refine wpList_store_data rfl (.tmp 2) (.tmp 108) rfl w.heap.size 0 0 none none none none 0 0 0 0 0 0 0 0 rfl rfl hDe ?_; intro wq hDq hgq hsq)
            exact ret_data hDq rfl rfl rfl (post_none HG.out rfl ((bthen HB.out hBe (Nat.le_refl _)).grown hgq (Below.size (bthen HB.out hBe (Nat.le_refl _))) (fun j hj => by cases hj; exact Nat.le_refl _)))
          · obtain rfl : n2 = 0 := by omega
            go_wp2_with (refine wpList_store_data rfl (.tmp 2) (.tmp 108) rfl w.heap.size 0 0 none none none none 0 0 0 0 0 0 0 0 rfl rfl hDe ?_; intro wq hDq hgq hsq)
            exact ret_data hDq rfl rfl rfl (post_none HG.out rfl ((bthen HB.out hBe (Nat.le_refl _)).grown hgq (Below.size (bthen HB.out hBe (Nat.le_refl _))) (fun j hj => by cases hj; exact Nat.le_refl _)))
        · by_cases hlt : 0 < n2
          · skip
            go_wp2_with (refine wpList_store_data rfl (.tmp 2) (.tmp 108) rfl w.heap.size 0 0 none none none none 0 0 0 0 0 0 0 0 rfl rfl hDe ?_; intro wq hDq hgq hsq)
            exact ret_data hDq rfl rfl rfl (post_none HG.out rfl ((bthen HB.out hBe (Nat.le_refl _)).grown hgq (Below.size (bthen HB.out hBe (Nat.le_refl _))) (fun j hj => by cases hj; exact Nat.le_refl _)))
          · obtain rfl : n2 = 0 := by omega
            go_wp2_with (refine wpList_store_data rfl (.tmp 2) (.tmp 108) rfl w.heap.size 0 0 none none none none 0 0 0 0 0 0 0 0 rfl rfl hDe ?_; intro wq hDq hgq hsq)
            exact ret_data hDq rfl rfl rfl (post_none HG.out rfl ((bthen HB.out hBe (Nat.le_refl _)).grown hgq (Below.size (bthen HB.out hBe (Nat.le_refl _))) (fun j hj => by cases hj; exact Nat.le_refl _)))
end Go.Proofs.YtgmemdedpklnhaaGreat.File
