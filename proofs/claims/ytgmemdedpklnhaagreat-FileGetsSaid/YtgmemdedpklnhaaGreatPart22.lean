/-
  Lemmas of this claim, text behind text: VecTk, VecTk2, VecTk3, VecTk4, VecTk5, VecTk6, VecTk7, VecUnv. Each states its own conditions.
-/
import Derived.Test.YtgmemdedpklnhaaGreatPart02
import Derived.Test.YtgmemdedpklnhaaGreatPart04
import Derived.Test.YtgmemdedpklnhaaGreatPart12
import Derived.Test.YtgmemdedpklnhaaGreatPart13

/-
  THE WALKS of the document's own taker: value, packed.
-/

namespace Go.Proofs.YtgmemdedpklnhaaGreat.Vec
open Go.RowKit ValMath Vals Sl VecMath Words

set_option maxRecDepth 20000 in
set_option maxHeartbeats 4000000 in
theorem tvalue2_any (g : Nat) (r : Rd) (w : World) (h : Rdr 96 w g r) (ok : OkR r) :
    Calls Tryz.prog 110 #[.pointer (some ⟨g, 0, none⟩), .int .i64 2] w fun e w' => e = .returned (vagg (rdVal 2 r).1) ∧ Rdr 96 w' g (rdVal 2 r).2 ∧ w.grownBy w' (some g) := by
  rw [rdVal_two]
  have hB : ∀ w, Rdr 96 w g r → Calls Tryz.prog 48 #[.pointer (some ⟨g, 0, none⟩), .int .i64 1] w fun e w' => e = .returned (.string (str (rdBytes 1 r).1)) ∧ Rdr 96 w' g (rdBytes 1 r).2 ∧ w.grownBy w' (some g) := fun w h => tbytes_any g 1 r w h ok (by omega)
  generalize rdBytes 1 r = X at *
  obtain ⟨l, r2⟩ := X
  simp only [] at hB ⊢
  have he : ((str l).toList == [1]) = decide (l = [1]) := by
    rw [Lib.toList_data, str_list]
    by_cases hl : l = [1]
    · subst hl; rfl
    · rw [decide_eq_false hl]; simpa using hl
  generalize decide (l = [1]) = bt at *
  generalize str l = S at *
  have HB := Lib.hid hB; clear hB
  have H := Lib.hid h; clear h
  have hg := H.out.lt
  have hA : Box (w.alloc (.cells #[.int .i64 0, .int .i64 0, .bool false, .string { data := #[] }] 71)) w.heap.size nul := Box.new w nul
  have hR0 := H.out.alloc (.cells #[.int .i64 0, .int .i64 0, .bool false, .string { data := #[] }] 71)
  have hgr0 : w.grownBy (w.alloc (.cells #[.int .i64 0, .int .i64 0, .bool false, .string { data := #[] }] 71)) (some g) := World.grownBy_alloc w _ (some g)
  have hne3 : w.heap.size ≠ g := by omega
  have hne1 : g ≠ w.heap.size := by omega
  have HH := Lib.hid (And.intro hA (And.intro hR0 hgr0)); clear hA hR0 hgr0
  go_enter Tryz.func110, Tryz.ntmps110
  go_wp2_with (first
    | (go_at_call 48; (with_reducible refine (HB.out _ HH.out.2.1).mono ?_); rintro e w1 ⟨rfl, hR1, hg1⟩; have hX1 := HH.out.1.grown hg1 (by simp; omega))
    | (refine wpList_store_val rfl (.tmp 4) (.tmp 50) rfl w.heap.size ⟨2, 0, bt, ByteArray.empty⟩ nul rfl rfl hX1 ?_; intro wq hBq hgq hsq))
  exact Stats.ret_box hBq rfl rfl rfl ⟨rfl, Rdr.grown hR1 hgq (by simp; omega), World.grownBy.andThen (grown_then HH.out.2.2 hg1) hgq (fun _ hj => .inl (by cases hj; exact Nat.le_refl _))⟩
set_option maxRecDepth 20000 in
set_option maxHeartbeats 4000000 in
theorem tvalue3_any (g : Nat) (r : Rd) (w : World) (h : Rdr 96 w g r) (ok : OkR r) :
    Calls Tryz.prog 110 #[.pointer (some ⟨g, 0, none⟩), .int .i64 3] w fun e w' => e = .returned (vagg (rdVal 3 r).1) ∧ Rdr 96 w' g (rdVal 3 r).2 ∧ w.grownBy w' (some g) := by
  rw [rdVal_three]
  have hN : ∀ w, Rdr 96 w g r → Calls Tryz.prog 49 #[.pointer (some ⟨g, 0, none⟩), .int .i64 64] w fun e w' => e = .returned (.int .i64 ((rdNum 64 r).1 : Nat)) ∧ Rdr 96 w' g (rdNum 64 r).2 ∧ w.grownBy w' (some g) := fun w h => tnum_any g 64 r w h ok
  have hle := rdNum_le 64 r
  have ok2 := rdNum_okR (m := 64) ok
  generalize rdNum 64 r = X at *
  obtain ⟨x, r2⟩ := X
  simp only [] at hN hle ok2 ⊢
  have hB := fun w h => tbytes_any g x r2 w h ok2 (by omega)
  rw [← str_mk]
  generalize rdBytes x r2 = Y at *
  obtain ⟨l, r3⟩ := Y
  simp only [] at hB ⊢
  generalize str l = S at *
  have HN := Lib.hid hN; clear hN
  have HB := Lib.hid hB; clear hB
  have H := Lib.hid h; clear h
  have hg := H.out.lt
  have hA : Box (w.alloc (.cells #[.int .i64 0, .int .i64 0, .bool false, .string { data := #[] }] 71)) w.heap.size nul := Box.new w nul
  have hR0 := H.out.alloc (.cells #[.int .i64 0, .int .i64 0, .bool false, .string { data := #[] }] 71)
  have hgr0 : w.grownBy (w.alloc (.cells #[.int .i64 0, .int .i64 0, .bool false, .string { data := #[] }] 71)) (some g) := World.grownBy_alloc w _ (some g)
  have hne3 : w.heap.size ≠ g := by omega
  have hne1 : g ≠ w.heap.size := by omega
  have HH := Lib.hid (And.intro hA (And.intro hR0 hgr0)); clear hA hR0 hgr0
  go_enter Tryz.func110, Tryz.ntmps110
  go_wp2_with (first
    | (go_at_call 49; (with_reducible refine (HN.out _ HH.out.2.1).mono ?_); rintro e w1 ⟨rfl, hR1, hg1⟩; have hX1 := HH.out.1.grown hg1 (by simp; omega))
    | (go_at_call 48; (with_reducible refine (HB.out _ hR1).mono ?_); rintro e w2 ⟨rfl, hR2, hg2⟩; have hX2 := hX1.grown hg2 (by simp; omega))
    | (refine wpList_store_val rfl (.tmp 4) (.tmp 57) rfl w.heap.size ⟨3, 0, false, S⟩ nul rfl rfl hX2 ?_; intro wq hBq hgq hsq))
  exact Stats.ret_box hBq rfl rfl rfl ⟨rfl, Rdr.grown hR2 hgq (by simp; omega), World.grownBy.andThen (grown_then (grown_then HH.out.2.2 hg1) hg2) hgq (fun _ hj => .inl (by cases hj; exact Nat.le_refl _))⟩
set_option maxRecDepth 20000 in
set_option maxHeartbeats 4000000 in
theorem tvalue1_any (g : Nat) (r : Rd) (w : World) (h : Rdr 96 w g r) (ok : OkR r) :
    Calls Tryz.prog 110 #[.pointer (some ⟨g, 0, none⟩), .int .i64 1] w fun e w' => e = .returned (vagg (rdVal 1 r).1) ∧ Rdr 96 w' g (rdVal 1 r).2 ∧ w.grownBy w' (some g) := by
  have hr1 := ok.1
  have hr2 := ok.2
  unfold maxReach at hr2
  have hG := fun w => Varint.refZag_any (str r.s) (r.at_ : Nat) w (by rw [str_size]; exact ok.2) (by omega) (by omega)
  obtain ⟨e1, e2, e3⟩ := g_rd (b := 64) ok
  rw [e1, e2, e3] at hG
  clear e1 e2 e3
  have hrn := rdVal_one (r := r)
  have hgb := get_bad (b := 64) (l := r.rest)
  generalize VarMath.get 64 r.rest = X at *
  obtain ⟨x, u, cd⟩ := X
  simp only [] at hG hrn hgb
  generalize VarMath.zag x = z at *
  have HN := Lib.hid hrn; clear hrn
  have H := Lib.hid h; clear h
  have hg := H.out.lt
  have hA : Box (w.alloc (.cells #[.int .i64 0, .int .i64 0, .bool false, .string { data := #[] }] 71)) w.heap.size nul := Box.new w nul
  have hR0 := H.out.alloc (.cells #[.int .i64 0, .int .i64 0, .bool false, .string { data := #[] }] 71)
  have hgr0 : w.grownBy (w.alloc (.cells #[.int .i64 0, .int .i64 0, .bool false, .string { data := #[] }] 71)) (some g) := World.grownBy_alloc w _ (some g)
  have hne3 : w.heap.size ≠ g := by omega
  have hne1 : g ≠ w.heap.size := by omega
  have HH := Lib.hid (And.intro hA (And.intro hR0 hgr0)); clear hA hR0 hgr0
  obtain ⟨z0, z1, z2⟩ := HH.out.2.1.cells
  have f1 := HH.out.2.1.free 1
  have f2 := HH.out.2.1.free 2
  by_cases hb : r.bad = true
  · have hR : rdVal 1 r = (nul, r.fail) := by rw [HN.out, if_pos (.inl hb)]
    have HR := Lib.hid hR; clear hR HN
    rw [hb] at z2
    generalize (if cd = 0 then (r.at_ : Int) + (u : Nat) else 0) = En at hG
    generalize (if cd = 0 then (0 : Int) else if cd = 1 then 500 else 501) = Co at hG
    have HG := Lib.hid hG; clear hG
    go_enter Tryz.func110, Tryz.ntmps110
    go_wp2
    generalize w.alloc (.cells #[.int .i64 0, .int .i64 0, .bool false, .string { data := #[] }] 71) = W0 at *
    go_region_held3 (fun w' => w'.cell? ⟨g, 0, none⟩ = some (.string (str r.s)) ∧ w'.cell? ⟨g, 1, none⟩ = some (.int .i64 (r.at_ : Nat)))
      (go_keep)
      ((first | (go_at_call 118; with_reducible refine (HG.out _).mono ?_; rintro e w' ⟨rfl, rfl⟩)))
    all_goals
      go_upto_region 6 with fail
      have hBX : Box (W0.drew.setCell ⟨g, 2, none⟩ (.bool true)) w.heap.size nul := (Box.drew HH.out.1).other hne3
      clear z0 z1 z2 f1 f2
      go_wp2_with (refine wpList_store_val rfl (.tmp 4) (.tmp 36) rfl w.heap.size nul nul rfl rfl hBX ?_; intro wq hBq hgq hsq)
      rw [HR.out]
      exact Stats.ret_box hBq rfl rfl rfl ⟨rfl, Rdr.grown HH.out.2.1.drew.fail hgq (by simp; omega), World.grownBy.andThen (grown_then (grown_then HH.out.2.2 (grown_drewN _ 1 _)) (grown_one _ _ _ _)) hgq (fun _ hj => .inl (by cases hj; exact Nat.le_refl _))⟩
  · have hbf : r.bad = false := by simpa using hb
    rw [hbf] at z2
    by_cases hc : cd = 0
    · subst hc
      rw [if_pos rfl, if_pos rfl] at hG
      have HG := Lib.hid hG; clear hG
      have hR : rdVal 1 r = (⟨1, z, false, ByteArray.empty⟩, r.step u) := by rw [HN.out, if_neg (by rintro (h | h); exact hb h; exact h rfl)]
      have HR := Lib.hid hR; clear hR HN hb
      go_enter Tryz.func110, Tryz.ntmps110
      go_wp2
      generalize w.alloc (.cells #[.int .i64 0, .int .i64 0, .bool false, .string { data := #[] }] 71) = W0 at *
      go_region_held3 (fun w' => w'.cell? ⟨g, 0, none⟩ = some (.string (str r.s)) ∧ w'.cell? ⟨g, 1, none⟩ = some (.int .i64 (r.at_ : Nat)))
        (go_keep)
        ((first | (go_at_call 118; with_reducible refine (HG.out _).mono ?_; rintro e w' ⟨rfl, rfl⟩)))
      all_goals
        go_upto_region 8 with fail
        clear z0 z1 z2 f1 f2
        have hM : Rdr 96 (W0.drew.setCell ⟨g, 1, none⟩ (.int .i64 ((r.at_ : Int) + (u : Int)))) g (r.step u) := HH.out.2.1.drew.move u
        have hX : Box (W0.drew.setCell ⟨g, 1, none⟩ (.int .i64 ((r.at_ : Int) + (u : Int)))) w.heap.size nul := (Box.drew HH.out.1).other hne3
        go_wp2_with (refine wpList_store_val rfl (.tmp 4) (.tmp 43) rfl w.heap.size ⟨1, z, false, ByteArray.empty⟩ nul rfl rfl hX ?_; intro wq hBq hgq hsq)
        rw [HR.out]
        exact Stats.ret_box hBq rfl rfl rfl ⟨rfl, Rdr.grown hM hgq (by simp; omega), World.grownBy.andThen (grown_then (grown_then HH.out.2.2 (grown_drewN _ 1 _)) (grown_one _ _ _ _)) hgq (fun _ hj => .inl (by cases hj; exact Nat.le_refl _))⟩
    · have hR : rdVal 1 r = (nul, r.fail) := by rw [HN.out, if_pos (.inr hc)]
      have HR := Lib.hid hR; clear hR HN hb
      rw [if_neg hc, if_neg hc] at hG
      obtain ⟨Co, hCo, hne⟩ : ∃ Co : Int, Co = (if cd = 1 then 500 else 501) ∧ (Co != 0) = true := ⟨_, rfl, by split <;> rfl⟩
      rw [← hCo] at hG
      clear hCo hgb hc
      have HG := Lib.hid hG; clear hG
      go_enter Tryz.func110, Tryz.ntmps110
      go_wp2
      generalize w.alloc (.cells #[.int .i64 0, .int .i64 0, .bool false, .string { data := #[] }] 71) = W0 at *
      go_region_held3 (fun w' => w'.cell? ⟨g, 0, none⟩ = some (.string (str r.s)) ∧ w'.cell? ⟨g, 1, none⟩ = some (.int .i64 (r.at_ : Nat)))
        (go_keep)
        ((first | (go_at_call 118; with_reducible refine (HG.out _).mono ?_; rintro e w' ⟨rfl, rfl⟩)))
      all_goals
        go_upto_region 6 with fail
        have hBX : Box (W0.drew.setCell ⟨g, 2, none⟩ (.bool true)) w.heap.size nul := (Box.drew HH.out.1).other hne3
        clear z0 z1 z2 f1 f2
        go_wp2_with (refine wpList_store_val rfl (.tmp 4) (.tmp 36) rfl w.heap.size nul nul rfl rfl hBX ?_; intro wq hBq hgq hsq)
        rw [HR.out]
        exact Stats.ret_box hBq rfl rfl rfl ⟨rfl, Rdr.grown HH.out.2.1.drew.fail hgq (by simp; omega), World.grownBy.andThen (grown_then (grown_then HH.out.2.2 (grown_drewN _ 1 _)) (grown_one _ _ _ _)) hgq (fun _ hj => .inl (by cases hj; exact Nat.le_refl _))⟩
theorem tvalue_any (k : Int) (g : Nat) (r : Rd) (w : World) (hk : k = 1 ∨ k = 2 ∨ k = 3) (h : Rdr 96 w g r) (ok : OkR r) :
    Calls Tryz.prog 110 #[.pointer (some ⟨g, 0, none⟩), .int .i64 k] w fun e w' => e = .returned (vagg (rdVal k r).1) ∧ Rdr 96 w' g (rdVal k r).2 ∧ w.grownBy w' (some g) := by
  rcases hk with rfl | rfl | rfl
  · exact tvalue1_any g r w h ok
  · exact tvalue2_any g r w h ok
  · exact tvalue3_any g r w h ok
end Go.Proofs.YtgmemdedpklnhaaGreat.Vec

/-
  THE WALKS of the document's own taker: packed.
-/

namespace Go.Proofs.YtgmemdedpklnhaaGreat.Vec
open Go.RowKit ValMath Vals Sl VecMath Words

theorem rdPackedR_okR {m w : Nat} {r : Rd} (h : OkR r) : OkR (rdPackedR m w r).2 := by
  unfold rdPackedR
  split
  · exact h.fail
  · exact rdPackedP_okR h
theorem rdPackedR_len (m w : Nat) (r : Rd) : (rdPackedR m w r).1.length ≤ m := by
  unfold rdPackedR
  split
  · simp
  · exact rdPackedP_len m w r
set_option maxRecDepth 20000 in
set_option maxHeartbeats 4000000 in
theorem tpacked_any (g m wd : Nat) (r : Rd) (w : World) (h : Rdr 96 w g r) (ok : OkR r) (hm : m ≤ 4096) (hwd : wd ≤ 16) :
    Calls Tryz.prog 79 #[.pointer (some ⟨g, 0, none⟩), .int .i64 (m : Nat), .int .i64 (wd : Nat)] w fun e w' => ∃ v, e = .returned v ∧ OwnI w' w.heap.size v (iat (rdPackedR m wd r).1) ∧ Rdr 96 w' g (rdPackedR m wd r).2 ∧ w.grownBy w' (some g) := by
  by_cases hbad : r.bad = true
  · have hR : rdPackedR m wd r = ([], r.fail) := by unfold rdPackedR; rw [if_pos (.inl hbad)]
    rw [hR]
    have H := Lib.hid h
    obtain ⟨z0, z1, z2⟩ := h.cells
    have f2 := h.free 2
    rw [hbad] at z2
    clear h
    go_enter Tryz.func79, Tryz.ntmps79
    go_wp2
    go_ret
    exact ⟨_, rfl, OwnI.nil _ _, H.out.fail, grown_one _ _ _ _⟩
  · have hbf : r.bad = false := by simpa using hbad
    have hmw : m * wd ≤ 4096 * 16 := Nat.mul_le_mul hm hwd
    have hB : ∀ (z : Int) w, z = (((m * wd + 7) / 8 : Nat) : Int) → Rdr 96 w g r → Calls Tryz.prog 48 #[.pointer (some ⟨g, 0, none⟩), .int .i64 z] w fun e w' => e = .returned (.string (str (rdBytes ((m * wd + 7) / 8) r).1)) ∧ Rdr 96 w' g (rdBytes ((m * wd + 7) / 8) r).2 ∧ w.grownBy w' (some g) := fun z w hz h => by rw [hz]; exact tbytes_any g ((m * wd + 7) / 8) r w h ok (by omega)
    have hrp : rdPackedR m wd r = (match unpack (rdBytes ((m * wd + 7) / 8) r).1 m wd with | some xs => (xs, (rdBytes ((m * wd + 7) / 8) r).2) | none => ([], (rdBytes ((m * wd + 7) / 8) r).2.fail)) := by
      rw [rdPackedR_good hbf hm]; rfl
    rw [hrp]
    clear hrp
    have hlen : (rdBytes ((m * wd + 7) / 8) r).1.length ≤ 8200 := by
      unfold rdBytes
      split
      · simp
      · simp only []; rw [List.length_take]; omega
    have hq0 : (m : Int) * (wd : Int) = ((m * wd : Nat) : Int) := by push_cast; rfl
    have hq1 : IntKind.i64.wrap ((m : Int) * (wd : Int)) = (m : Int) * (wd : Int) := by rw [hq0]; exact IntWalk.i64_in _ (by omega)
    have hq2 : IntKind.i64.wrap ((m : Int) * (wd : Int) + 7) = (m : Int) * (wd : Int) + 7 := by rw [hq0]; exact IntWalk.i64_in _ (by omega)
    have hq3 : (0 : Int) ≤ (m : Int) * (wd : Int) + 7 := by rw [hq0]; omega
    have hnb : wrap64 (Int.tdiv ((m : Int) * (wd : Int) + 7) 8) = (((m * wd + 7) / 8 : Nat) : Int) := by
      rw [Int.tdiv_eq_ediv_of_nonneg hq3, show ((m : Int) * (wd : Int) + 7) / 8 = (((m * wd + 7) / 8 : Nat) : Int) by push_cast; rfl]
      unfold wrap64; omega
    clear hq0 hq3
    generalize rdBytes ((m * wd + 7) / 8) r = X at *
    obtain ⟨l, r2⟩ := X
    simp only [] at hB hlen ⊢
    have hU := fun w => Bitpack.refUnpack_any (str l) (m : Nat) (wd : Nat) w (by rw [str_size]; unfold maxReach; omega)
    rw [str_list] at hU
    have hcase := unpack_same (l := l) hwd (show m ≤ 65536 by omega)
    generalize BitMath.unpackL l m wd = UL at *
    generalize BitMath.unpackE l m wd = UE at *
    have H := Lib.hid h
    have hg := h.lt
    obtain ⟨z0, z1, z2⟩ := h.cells
    rw [hbf] at z2
    clear h hbad
    have HB := Lib.hid hB; clear hB
    have HU := Lib.hid hU; clear hU
    have hd1 : decide ((4096 : Int) < (m : Int)) = false := decide_eq_false (by omega)
    have hd2 : decide (4096 < m) = false := decide_eq_false (by omega)
    generalize (m * wd + 7) / 8 = nb at *
    have HNB := Lib.hid hnb; clear hnb
    clear hlen hmw
    obtain ⟨s2, a2, b2⟩ := r2
    rcases hcase with ⟨xs, e1, rfl, rfl⟩ | ⟨e1, rfl, hne⟩
    · rw [e1]
      simp only []
      clear e1
      cases b2
      ·
        go_enter Tryz.func79, Tryz.ntmps79
        go_wp2_with (first
          | (go_at_call 48; (with_reducible refine (HB.out _ _ HNB.out H.out).mono ?_); rintro e w1 ⟨rfl, hR1, hg1⟩)
          | (go_at_call 109; (with_reducible refine (HU.out _).mono ?_); rintro e w2 ⟨v, rfl, hO, hb2⟩; have HO := Lib.hid hO; clear hO; have hR2 := hR1.below hb2; have y2 := hR2.cells.2.2; have f2 := hR2.free 2))
        go_ret
        exact ⟨_, rfl, own_le (own_set (k := 2) (own_le HO.out (Nat.le_refl _)) (Nat.lt_of_lt_of_le hg hg1.size)) hg1.size, hR2.bad _, grown_then (grown_then hg1 (World.grownBy.but (MapV.grown_of_below hb2) _)) (grown_one _ _ _ _)⟩
      ·
        go_enter Tryz.func79, Tryz.ntmps79
        go_wp2_with (first
          | (go_at_call 48; (with_reducible refine (HB.out _ _ HNB.out H.out).mono ?_); rintro e w1 ⟨rfl, hR1, hg1⟩)
          | (go_at_call 109; (with_reducible refine (HU.out _).mono ?_); rintro e w2 ⟨v, rfl, hO, hb2⟩; have HO := Lib.hid hO; clear hO; have hR2 := hR1.below hb2; have y2 := hR2.cells.2.2; have f2 := hR2.free 2))
        go_ret
        exact ⟨_, rfl, own_le (own_set (k := 2) (own_le HO.out (Nat.le_refl _)) (Nat.lt_of_lt_of_le hg hg1.size)) hg1.size, hR2.bad _, grown_then (grown_then hg1 (World.grownBy.but (MapV.grown_of_below hb2) _)) (grown_one _ _ _ _)⟩
    · rw [e1]
      simp only []
      clear e1
      cases b2
      ·
        go_enter Tryz.func79, Tryz.ntmps79
        go_wp2_with (first
          | (go_at_call 48; (with_reducible refine (HB.out _ _ HNB.out H.out).mono ?_); rintro e w1 ⟨rfl, hR1, hg1⟩)
          | (go_at_call 109; (with_reducible refine (HU.out _).mono ?_); rintro e w2 ⟨v, rfl, hO, hb2⟩; have HO := Lib.hid hO; clear hO; have hR2 := hR1.below hb2; have y2 := hR2.cells.2.2; have f2 := hR2.free 2))
        go_ret
        exact ⟨_, rfl, own_le (own_set (k := 2) (own_le HO.out (Nat.le_refl _)) (Nat.lt_of_lt_of_le hg hg1.size)) hg1.size, hR2.bad _, grown_then (grown_then hg1 (World.grownBy.but (MapV.grown_of_below hb2) _)) (grown_one _ _ _ _)⟩
      ·
        go_enter Tryz.func79, Tryz.ntmps79
        go_wp2_with (first
          | (go_at_call 48; (with_reducible refine (HB.out _ _ HNB.out H.out).mono ?_); rintro e w1 ⟨rfl, hR1, hg1⟩)
          | (go_at_call 109; (with_reducible refine (HU.out _).mono ?_); rintro e w2 ⟨v, rfl, hO, hb2⟩; have HO := Lib.hid hO; clear hO; have hR2 := hR1.below hb2; have y2 := hR2.cells.2.2; have f2 := hR2.free 2))
        go_ret
        exact ⟨_, rfl, own_le (own_set (k := 2) (own_le HO.out (Nat.le_refl _)) (Nat.lt_of_lt_of_le hg hg1.size)) hg1.size, hR2.bad _, grown_then (grown_then hg1 (World.grownBy.but (MapV.grown_of_below hb2) _)) (grown_one _ _ _ _)⟩
end Go.Proofs.YtgmemdedpklnhaaGreat.Vec

/-
  THE WALKS of the document's own taker: some, one by one.
-/

namespace Go.Proofs.YtgmemdedpklnhaaGreat.Vec
open Go.RowKit ValMath Vals Sl VecMath Words

theorem readValsR_okR (k : Int) (n : Nat) {r : Rd} (ok : OkR r) : OkR (readValsR k n r).2 := by
  induction n with
  | zero => exact ok
  | succ n ih =>
    simp only [readValsR]
    split
    · exact ih
    · exact rdVal_okR ih
theorem readValsR_stop (k : Int) {q : Nat} {r : Rd} (h : (readValsR k q r).2.bad = true) (j : Nat) : readValsR k (q + j) r = readValsR k q r := by
  induction j with
  | zero => rfl
  | succ j ih =>
    rw [← Nat.add_assoc]
    simp only [readValsR]
    rw [ih, if_pos h]
theorem readValsR_fine {k : Int} (hk : k = 1 ∨ k = 2 ∨ k = 3) (n : Nat) (r : Rd) : ∀ v ∈ (readValsR k n r).1, Fine v := by
  induction n with
  | zero => intro v hv; simp [readValsR] at hv
  | succ n ih =>
    intro v hv
    simp only [readValsR] at hv
    split at hv
    · exact ih v hv
    · simp only [List.mem_append, List.mem_singleton] at hv
      rcases hv with hv | rfl
      · exact ih v hv
      · exact (rdVal_fine hk _).1
set_option maxRecDepth 20000 in
set_option maxHeartbeats 4000000 in
theorem tsome0_any (k : Int) (g enc many : Nat) (r : Rd) (w : World) (he1 : enc ≠ 1) (he2 : enc ≠ 2) (hk : k = 1 ∨ k = 3) (h : Rdr 96 w g r) (ok : OkR r) (hm : many ≤ 4096) :
    Calls Tryz.prog 80 #[.pointer (some ⟨g, 0, none⟩), .int .i64 (enc : Nat), .int .i64 k, .int .i64 (many : Nat)] w fun e w' => ∃ v, e = .returned v ∧ OwnV w' w.heap.size v (readValsR k many r).1 ∧ Rdr 96 w' g (readValsR k many r).2 ∧ w.grownBy w' (some g) := by
  have e1 : (((enc : Nat) : Int) == 1) = false := by simp; omega
  have e2 : (((enc : Nat) : Int) == 2) = false := by simp; omega
  have hk2 : (k == 2) = false := by rcases hk with rfl | rfl <;> rfl
  have hk3 : k = 1 ∨ k = 2 ∨ k = 3 := by rcases hk with rfl | rfl <;> simp
  have hg := h.lt
  have HK := Lib.hid (And.intro hk3 ok); clear hk hk3 ok he1 he2
  have H := Lib.hid h; clear h
  go_enter Tryz.func80, Tryz.ntmps80
  go_wp2
  go_loopw [9, 22] (fun tv iv wr => ∃ q : Nat, q ≤ many ∧ iv = .int .i64 q ∧ OwnV wr w.heap.size tv (readValsR k q r).1 ∧ Rdr 96 wr g (readValsR k q r).2 ∧ w.grownBy wr (some g)) (fun _ iv _ => many - (intOf iv).toNat)
  case atStart => exact ⟨0, Nat.zero_le _, rfl, OwnV.nil _ _, H.out, World.grownBy.refl _ _⟩
  case round =>
    clear H
    obtain ⟨q, hq, rfl, hO, hR, hgr⟩ := hrel
    have hml := readValsR_length k q r
    obtain ⟨A9, c9, rfl, _, _⟩ := hO.form' (n := (readValsR k q r).1.length) rfl
    obtain ⟨z0, z1, z2⟩ := hR.cells
    by_cases hlt : q < many
    · by_cases hbd : (readValsR k q r).2.bad = true
      · have hst := readValsR_stop k hbd (many - q)
        rw [show q + (many - q) = many by omega] at hst
        have HST := Lib.hid hst; clear hst
        rw [hbd] at z2
        have HO := Lib.hid hO; clear hO
        have HR := Lib.hid hR; clear hR
        go_wp2
        go_ret
        exact ⟨_, rfl, by rw [HST.out]; exact HO.out, by rw [HST.out]; exact HR.out, hgr⟩
      · have hbf : (readValsR k q r).2.bad = false := by simpa using hbd
        have hrs : readValsR k (q + 1) r = ((readValsR k q r).1 ++ [(rdVal k (readValsR k q r).2).1], (rdVal k (readValsR k q r).2).2) := by
          simp only [readValsR]; rw [if_neg hbd]
        have hS := fun w h => tvalue_any k g (readValsR k q r).2 w HK.out.1 h (readValsR_okR k q HK.out.2)
        have hfl : (readValsR k q r).1.length < few := by unfold few; omega
        rw [hbf] at z2
        clear hbd hbf
        generalize readValsR k q r = X at *
        obtain ⟨O, r2⟩ := X
        simp only [] at hrs hS hO hR hml hfl z0 z1 z2
        generalize rdVal k r2 = Y at *
        obtain ⟨⟨ku, iu, bu, su⟩, r3⟩ := Y
        simp only [vagg] at hrs hS
        have HS := Lib.hid hS; clear hS
        have HRS := Lib.hid (And.intro hrs hfl); clear hrs hfl
        have HO := Lib.hid hO; clear hO
        have HR := Lib.hid hR; clear hR
        have HG := Lib.hid hgr; clear hgr
        have hsz := HG.out.size
        go_wp2_with (first
          | (go_at_call 110; (with_reducible refine (HS.out _ HR.out).mono ?_); rintro e w1 ⟨rfl, hR1, hg1⟩; have HR1 := Lib.hid hR1; have HO1 := Lib.hid (HO.out.keepB hg1 (own_ne HO.out hg)); have HG1 := Lib.hid (grown_then HG.out hg1); clear hR1 hg1; have hsz1 := HG1.out.size)
          | (at_builtin; (refine wpList_push_val rfl (.tmp 58) (.tmp 62) rfl w.heap.size (.slice A9 O.length c9) O ⟨ku, iu, bu, su⟩ w1.heap.size 1 rfl rfl (t := 71) (fr := (0, 0)) (heap_alloc_new w1 (.cells #[.int .i64 ku, .int .i64 iu, .bool bu, .string su] 71)) (HO1.out.alloc (.cells #[.int .i64 ku, .int .i64 iu, .bool bu, .string su] 71)) HRS.out.2 (by simp; omega) ?_; intro u2 wB hI2 hgB hatB)))
        go_roundw
        case rel => exact ⟨q + 1, by omega, by go_num, by rw [HRS.out.1]; exact hI2, by rw [HRS.out.1]; exact (HR1.out.alloc _).grown hgB (fun e => own_ne HO1.out hg e.symm), grown_step (grown_then HG1.out (World.grownBy_alloc _ _ _)) hgB (own_base HO1.out)⟩
        case measure => simp [intOf]; omega
    · obtain rfl : q = many := by omega
      go_wp2
      go_ret
      exact ⟨_, rfl, hO, hR, hgr⟩
end Go.Proofs.YtgmemdedpklnhaaGreat.Vec

/-
  THE WALKS of the document's own taker: some, bools.
-/

namespace Go.Proofs.YtgmemdedpklnhaaGreat.Vec
open Go.RowKit ValMath Vals Sl VecMath Words

set_option maxRecDepth 20000 in
set_option maxHeartbeats 4000000 in
theorem tsomeB_any (g enc many : Nat) (r : Rd) (w : World) (he1 : enc ≠ 1) (he2 : enc ≠ 2) (h : Rdr 96 w g r) (ok : OkR r) (hm : many ≤ 4096) :
    Calls Tryz.prog 80 #[.pointer (some ⟨g, 0, none⟩), .int .i64 (enc : Nat), .int .i64 2, .int .i64 (many : Nat)] w fun e w' => ∃ v, e = .returned v ∧ OwnV w' w.heap.size v ((rdPackedR many 1 r).1.map fun x => ⟨2, 0, decide (x = 1), ByteArray.empty⟩) ∧ Rdr 96 w' g (rdPackedR many 1 r).2 ∧ w.grownBy w' (some g) := by
  have e1 : (((enc : Nat) : Int) == 1) = false := by simp; omega
  have e2 : (((enc : Nat) : Int) == 2) = false := by simp; omega
  clear he1 he2
  have hg := h.lt
  have hP : ∀ w, Rdr 96 w g r → Calls Tryz.prog 79 #[.pointer (some ⟨g, 0, none⟩), .int .i64 (many : Nat), .int .i64 1] w fun e w' => ∃ v, e = .returned v ∧ OwnI w' w.heap.size v (iat (rdPackedR many 1 r).1) ∧ Rdr 96 w' g (rdPackedR many 1 r).2 ∧ w.grownBy w' (some g) := fun w h => tpacked_any g many 1 r w h ok hm (by omega)
  have hle := rdPackedR_len many 1 r
  generalize rdPackedR many 1 r = X at *
  obtain ⟨xs, r2⟩ := X
  simp only [] at hP hle ⊢
  have HP := Lib.hid hP; clear hP ok
  have H := Lib.hid h; clear h
  go_enter Tryz.func80, Tryz.ntmps80
  go_wp2_with (go_at_call 79; (with_reducible refine (HP.out _ H.out).mono ?_); rintro e w1 ⟨v, rfl, hI, hR, hgr⟩; obtain ⟨A5, c5, rfl, _, _, _⟩ := hI.form (n := xs.length) (iat_length xs); have HI := Lib.hid hI; have HR := Lib.hid hR; have HG := Lib.hid hgr; clear hI hR hgr)
  go_loopw [9, 21] (fun tv iv wr => ∃ q : Nat, q ≤ xs.length ∧ iv = .int .i64 q ∧ OwnV wr w.heap.size tv ((xs.take q).map fun x => ⟨2, 0, decide (x = 1), ByteArray.empty⟩) ∧ OwnI wr w.heap.size (.slice A5 xs.length c5) (iat xs) ∧ Rdr 96 wr g r2 ∧ w.grownBy wr (some g)) (fun _ iv _ => xs.length - (intOf iv).toNat)
  case atStart => exact ⟨0, Nat.zero_le _, rfl, OwnV.nil _ _, HI.out, HR.out, HG.out⟩
  case round =>
    clear HI HR HG H HP
    obtain ⟨q, hq, rfl, hO, hI, hR, hgr⟩ := hrel
    have hml : ((xs.take q).map fun x => (⟨2, 0, decide (x = 1), ByteArray.empty⟩ : Val)).length = q := by rw [List.length_map, List.length_take]; omega
    obtain ⟨A9, c9, rfl, _, _⟩ := hO.form' (n := q) hml
    by_cases hlt : q < xs.length
    · obtain ⟨b1, o1, y, hy, rfl, hb1, c0⟩ := (hI.sl (iat_length xs)).at_ hlt
      obtain ⟨x, rfl, hx⟩ := iat_get hy
      have hts := iat_take hx (fun x => (⟨2, 0, decide (x = 1), ByteArray.empty⟩ : Val))
      have he := eq_one x
      have hfl : ((xs.take q).map fun x => (⟨2, 0, decide (x = 1), ByteArray.empty⟩ : Val)).length < few := by rw [hml]; unfold few; omega
      generalize ((xs.take q).map fun x => (⟨2, 0, decide (x = 1), ByteArray.empty⟩ : Val)) = O at *
      generalize decide (x = 1) = bt at *
      have HRS := Lib.hid (And.intro hts (And.intro hml hfl)); clear hts hml hfl hx hy
      have HO := Lib.hid hO; clear hO
      have HR := Lib.hid hR; clear hR
      have HI := Lib.hid hI; clear hI
      have HG := Lib.hid hgr; clear hgr
      have hsz := HG.out.size
      go_wp2_with (at_builtin; (refine wpList_push_val rfl (.tmp 35) (.tmp 43) rfl w.heap.size (.slice A9 q c9) O ⟨2, 0, bt, ByteArray.empty⟩ wr.heap.size 1 rfl rfl (t := 71) (fr := (0, 0)) (heap_alloc_new wr (.cells #[.int .i64 2, .int .i64 0, .bool bt, .string ByteArray.empty] 71)) (HO.out.alloc (.cells #[.int .i64 2, .int .i64 0, .bool bt, .string ByteArray.empty] 71)) HRS.out.2.2 (by simp; omega) ?_; intro u2 wB hI2 hgB hatB))
      go_roundw
      case rel => exact ⟨q + 1, by omega, by go_num, by rw [HRS.out.1]; exact hI2, (HI.out.alloc _).keepV (HO.out.alloc _) hgB, (HR.out.alloc _).grown hgB (fun e => own_ne HO.out hg e.symm), grown_step (grown_then HG.out (World.grownBy_alloc _ _ _)) hgB (own_base HO.out)⟩
      case measure => simp [intOf]; omega
    · obtain rfl : q = xs.length := by omega
      rw [List.take_of_length_le (Nat.le_refl _)] at hO
      go_wp2
      go_ret
      exact ⟨_, rfl, hO, hR, hgr⟩
end Go.Proofs.YtgmemdedpklnhaaGreat.Vec

/-
  THE WALKS of the document's own taker: some, by runs.
-/


namespace Go.Proofs.YtgmemdedpklnhaaGreat.Vec
open Go.RowKit ValMath Vals Sl VecMath Words

theorem runsR_okR (k : Int) (many n : Nat) {r : Rd} (ok : OkR r) : OkR (runsR k many n r).2 := by
  induction n with
  | zero => exact ok
  | succ n ih =>
    simp only [runsR, runStepR]
    split
    · exact ih
    · exact rdVal_okR (rdNum_okR ih)
theorem runsR_fine {k : Int} (hk : k = 1 ∨ k = 2 ∨ k = 3) (many n : Nat) (r : Rd) : ∀ v ∈ (runsR k many n r).1, Fine v := by
  induction n with
  | zero => intro v hv; simp [runsR] at hv
  | succ n ih =>
    intro v hv
    simp only [runsR, runStepR] at hv
    split at hv
    · exact ih v hv
    · simp only [List.mem_append, List.mem_replicate] at hv
      rcases hv with hv | ⟨_, rfl⟩
      · exact ih v hv
      · exact (rdVal_fine hk _).1
theorem runStepR_good {k : Int} {many : Nat} {s : List Val × Rd} (h : s.2.bad = false) :
    runStepR k many s = (s.1 ++ List.replicate (min (rdNum 4096 s.2).1 (many - s.1.length)) (rdVal k (rdNum 4096 s.2).2).1, (rdVal k (rdNum 4096 s.2).2).2) := by
  unfold runStepR; rw [h]; rfl
set_option maxRecDepth 20000 in
set_option maxHeartbeats 8000000 in
theorem tsome1_any (k : Int) (g many : Nat) (r : Rd) (w : World) (hk : k = 1 ∨ k = 2 ∨ k = 3) (h : Rdr 96 w g r) (ok : OkR r) (hm : many ≤ 4096) :
    Calls Tryz.prog 80 #[.pointer (some ⟨g, 0, none⟩), .int .i64 1, .int .i64 k, .int .i64 (many : Nat)] w fun e w' => ∃ v, e = .returned v ∧ OwnV w' w.heap.size v (runsR k many (rdNum 4096 r).1 (rdNum 4096 r).2).1 ∧ Rdr 96 w' g (runsR k many (rdNum 4096 r).1 (rdNum 4096 r).2).2 ∧ w.grownBy w' (some g) := by
  have hg := h.lt
  have hN : ∀ w, Rdr 96 w g r → Calls Tryz.prog 49 #[.pointer (some ⟨g, 0, none⟩), .int .i64 4096] w fun e w' => e = .returned (.int .i64 ((rdNum 4096 r).1 : Nat)) ∧ Rdr 96 w' g (rdNum 4096 r).2 ∧ w.grownBy w' (some g) := fun w h => tnum_any g 4096 r w h ok
  have hle := rdNum_le 4096 r
  have ok2 := rdNum_okR (m := 4096) ok
  generalize rdNum 4096 r = X at *
  obtain ⟨c, r2⟩ := X
  simp only [] at hN hle ok2 ⊢
  have HK := Lib.hid (And.intro hk ok2); clear hk ok ok2
  have HN := Lib.hid hN; clear hN
  have H := Lib.hid h; clear h
  go_enter Tryz.func80, Tryz.ntmps80
  go_wp2_with (go_at_call 49; (with_reducible refine (HN.out _ H.out).mono ?_); rintro e w1 ⟨rfl, hR, hgr⟩; have HR := Lib.hid hR; have HG := Lib.hid hgr; clear hR hgr)
  clear H HN
  go_loopw [9, 11] (fun tv iv wr => ∃ q : Nat, q ≤ c ∧ iv = .int .i64 q ∧ OwnV wr w.heap.size tv (runsR k many q r2).1 ∧ Rdr 96 wr g (runsR k many q r2).2 ∧ w.grownBy wr (some g)) (fun _ iv _ => c - (intOf iv).toNat)
  case atStart => exact ⟨0, Nat.zero_le _, rfl, OwnV.nil _ _, HR.out, HG.out⟩
  case round =>
    clear HR HG
    obtain ⟨q, hq, rfl, hO, hR, hgr⟩ := hrel
    have hsl := runsR_length k many q r2
    have ok3 := runsR_okR k many q HK.out.2
    obtain ⟨z0, z1, z2⟩ := hR.cells
    by_cases hlt : q < c
    · by_cases hbd : (runsR k many q r2).2.bad = true
      · have hst := runsR_stop hbd (c - q)
        rw [show q + (c - q) = c by omega] at hst
        have HST := Lib.hid hst; clear hst
        rw [hbd] at z2
        have HO := Lib.hid hO; clear hO
        have HR := Lib.hid hR; clear hR
        go_wp2
        go_ret
        exact ⟨_, rfl, by rw [HST.out]; exact HO.out, by rw [HST.out]; exact HR.out, hgr⟩
      · have hbf : (runsR k many q r2).2.bad = false := by simpa using hbd
        have hrs : runsR k many (q + 1) r2 = runStepR k many (runsR k many q r2) := rfl
        rw [runStepR_good hbf] at hrs
        rw [hbf] at z2
        clear hbd hbf
        generalize runsR k many q r2 = X at *
        obtain ⟨S, r3⟩ := X
        simp only [] at hO hR hsl ok3 hrs z0 z1 z2
        have hN2 : ∀ w, Rdr 96 w g r3 → Calls Tryz.prog 49 #[.pointer (some ⟨g, 0, none⟩), .int .i64 4096] w fun e w' => e = .returned (.int .i64 ((rdNum 4096 r3).1 : Nat)) ∧ Rdr 96 w' g (rdNum 4096 r3).2 ∧ w.grownBy w' (some g) := fun w h => tnum_any g 4096 r3 w h ok3
        have hle2 := rdNum_le 4096 r3
        have ok4 := rdNum_okR (m := 4096) ok3
        generalize rdNum 4096 r3 = Y at *
        obtain ⟨d, r4⟩ := Y
        simp only [] at hN2 hle2 ok4 hrs
        have hS := fun w h => tvalue_any k g r4 w HK.out.1 h ok4
        generalize rdVal k r4 = Z at *
        obtain ⟨⟨ku, iu, bu, su⟩, r5⟩ := Z
        simp only [vagg] at hS hrs
        have HRS := Lib.hid hrs; clear hrs
        have HN2 := Lib.hid hN2; clear hN2
        have HS := Lib.hid hS; clear hS
        obtain ⟨A9, c9, rfl, _, _⟩ := hO.form' (n := S.length) rfl
        have HO := Lib.hid hO; clear hO
        have HR := Lib.hid hR; clear hR
        have HG := Lib.hid hgr; clear hgr ok3 ok4
        have hsz := HG.out.size
        go_wp2_with (first
          | (go_at_call 49; (with_reducible refine (HN2.out _ HR.out).mono ?_); rintro e w2 ⟨rfl, hR2, hg2⟩; have HR2 := Lib.hid hR2; have HO2 := Lib.hid (HO.out.keepB hg2 (own_ne HO.out hg)); have HG2 := Lib.hid (grown_then HG.out hg2); clear hR2 hg2)
          | (go_at_call 110; (with_reducible refine (HS.out _ HR2.out).mono ?_); rintro e w3 ⟨rfl, hR3, hg3⟩; have HR3 := Lib.hid hR3; have HO3 := Lib.hid (HO2.out.keepB hg3 (own_ne HO2.out hg)); have HG3 := Lib.hid (grown_then HG2.out hg3); clear hR3 hg3; have hsz3 := HG3.out.size))
        clear HO HR HG HN2 HO2 HR2 HG2 z0 z1 z2
        go_loopw [9, 14] (fun tv iv wi => ∃ j : Nat, j ≤ min d (many - S.length) ∧ iv = .int .i64 j ∧ OwnV wi w.heap.size tv (S ++ List.replicate j ⟨ku, iu, bu, su⟩) ∧ Box wi w3.heap.size ⟨ku, iu, bu, su⟩ ∧ Rdr 96 wi g r5 ∧ w.grownBy wi (some g) ∧ w3.heap.size < wi.heap.size ∧ tv.ownBlock ≠ some w3.heap.size) (fun _ iv _ => d - (intOf iv).toNat)
        case atStart => exact ⟨0, Nat.zero_le _, rfl, by rw [List.replicate_zero, List.append_nil]; exact OwnV.alloc HO3.out _, Box.new w3 ⟨ku, iu, bu, su⟩, HR3.out.alloc _, grown_then HG3.out (World.grownBy_alloc _ _ _), by simp, own_lt HO3.out (Nat.le_refl _)⟩
        case round =>
          clear HO3 HR3 HG3
          obtain ⟨j, hj, rfl, hO, hX, hR, hgr, hlt3, hne3⟩ := hrel
          have hml : (S ++ List.replicate j (⟨ku, iu, bu, su⟩ : Val)).length = S.length + j := by rw [List.length_append, List.length_replicate]
          obtain ⟨A, c8, rfl, _, _⟩ := hO.form' (n := S.length + j) hml
          by_cases hjd : j < min d (many - S.length)
          · have hsn := rep_snoc S j (⟨ku, iu, bu, su⟩ : Val)
            have hfl : (S ++ List.replicate j (⟨ku, iu, bu, su⟩ : Val)).length < few := by rw [hml]; unfold few; omega
            have hj1 : j < d := by omega
            have hj2 : S.length + j < many := by omega
            obtain ⟨n1, hn1⟩ : ∃ n1, n1 = S.length + j := ⟨_, rfl⟩
            rw [← hn1] at hml hO hj2 hne3 ⊢
            clear hj hsl HRS HS HK hn1 hle hq hlt
            generalize S ++ List.replicate j (⟨ku, iu, bu, su⟩ : Val) = O at *
            have HSN := Lib.hid (And.intro hsn (And.intro hfl hjd)); clear hsn hfl hml hjd
            have HO := Lib.hid hO; clear hO
            have HR := Lib.hid hR; clear hR
            have HG := Lib.hid hgr; clear hgr
            obtain ⟨x0, x1, x2, x3⟩ := hX.cells
            simp only [] at x0 x1 x2 x3
            have HX := Lib.hid (And.intro hX hne3); clear hX hne3
            have hszi := HG.out.size
            go_wp2_with (at_builtin; (refine wpList_push_val rfl (.tmp 96) (.tmp 98) rfl w.heap.size (.slice A n1 c8) O ⟨ku, iu, bu, su⟩ wr.heap.size 1 rfl rfl (t := 71) (fr := (0, 0)) (heap_alloc_new wr (.cells #[.int .i64 ku, .int .i64 iu, .bool bu, .string su] 71)) (HO.out.alloc (.cells #[.int .i64 ku, .int .i64 iu, .bool bu, .string su] 71)) HSN.out.2.1 (by simp; omega) ?_; intro u2 wB hI2 hgB hatB))
            go_roundw
            case rel => exact ⟨j + 1, HSN.out.2.2, by go_num, by rw [HSN.out.1]; exact hI2, (HX.out.1.alloc _).grown hgB (fun e => HX.out.2 e.symm), (HR.out.alloc _).grown hgB (fun e => own_ne HO.out hg e.symm), grown_step (grown_then HG.out (World.grownBy_alloc _ _ _)) hgB (own_base HO.out), Nat.lt_of_lt_of_le (by simp; omega) hgB.size, fun e => by rcases hatB with h | h <;> rw [h] at e; exact HX.out.2 e; simp at e; omega⟩
            case measure => simp [intOf]; omega
          · have hje : j = min d (many - S.length) := by omega
            have hex : j = d ∨ (j < d ∧ ¬ S.length + j < many) := by omega
            rw [← hje] at HRS
            have HR5 := HRS.out
            have hO2 : OwnV wr w.heap.size (.slice A (S.length + j) c8) (runsR k many (q + 1) r2).1 := by rw [HR5]; exact hO
            have hR2 : Rdr 96 wr g (runsR k many (q + 1) r2).2 := by rw [HR5]; exact hR
            clear HR5 HRS hO hR hje hjd hj hml hX
            have HO := Lib.hid hO2; clear hO2
            have HR := Lib.hid hR2; clear hR2
            have HG := Lib.hid hgr; clear hgr
            rcases hex with rfl | ⟨hx1, hx2⟩
            · go_wp2
              go_roundw
              case rel => exact ⟨q + 1, by omega, by go_num, HO.out, HR.out, HG.out⟩
              case measure => simp [intOf]; omega
            · go_wp2
              go_roundw
              case rel => exact ⟨q + 1, by omega, by go_num, HO.out, HR.out, HG.out⟩
              case measure => simp [intOf]; omega
    · obtain rfl : q = c := by omega
      go_wp2
      go_ret
      exact ⟨_, rfl, hO, hR, hgr⟩
end Go.Proofs.YtgmemdedpklnhaaGreat.Vec

/-
  THE WALKS of the document's own taker: some, by words.
-/

namespace Go.Proofs.YtgmemdedpklnhaaGreat.Vec
open Go.RowKit ValMath Vals Sl VecMath Words

theorem places_snoc {ws : List Val} {xs : List Nat} {q x : Nat} (h : xs[q]? = some x) : (xs.take (q + 1)).map (fun a => ws.getD a nul) = (xs.take q).map (fun a => ws.getD a nul) ++ [ws.getD x nul] := iat_take h _
theorem places_lt {n : Nat} {xs : List Nat} {q x : Nat} (h : xs[q]? = some x) (hx : x < n) (hl : ∀ a ∈ xs.take q, a < n) : ∀ a ∈ xs.take (q + 1), a < n := by
  rw [Vals.take_more h]
  intro a ha
  rw [List.mem_append, List.mem_singleton] at ha
  rcases ha with ha | rfl
  · exact hl a ha
  · exact hx
theorem getD_of {ws : List Val} {x : Nat} {v : Val} (h : ws[x]? = some v) : ws.getD x nul = v := by rw [List.getD_eq_getElem?_getD, h]; rfl
set_option maxRecDepth 20000 in
set_option maxHeartbeats 8000000 in
theorem tsome2_any (k : Int) (g many : Nat) (r : Rd) (w : World) (hk : k = 1 ∨ k = 2 ∨ k = 3) (h : Rdr 96 w g r) (ok : OkR r) (hm : many ≤ 4096) :
    Calls Tryz.prog 80 #[.pointer (some ⟨g, 0, none⟩), .int .i64 2, .int .i64 k, .int .i64 (many : Nat)] w fun e w' => ∃ v, e = .returned v ∧ OwnV w' w.heap.size v (wordsR k many r).1 ∧ Rdr 96 w' g (wordsR k many r).2 ∧ w.grownBy w' (some g) := by
  have hg := h.lt
  have hN : ∀ w, Rdr 96 w g r → Calls Tryz.prog 49 #[.pointer (some ⟨g, 0, none⟩), .int .i64 4096] w fun e w' => e = .returned (.int .i64 ((rdNum 4096 r).1 : Nat)) ∧ Rdr 96 w' g (rdNum 4096 r).2 ∧ w.grownBy w' (some g) := fun w h => tnum_any g 4096 r w h ok
  have hle := rdNum_le 4096 r
  have ok2 := rdNum_okR (m := 4096) ok
  have hwp : wordsR k many r = placesR (readValsR k (rdNum 4096 r).1 (rdNum 4096 r).2).1 (rdPackedR many (width ((rdNum 4096 r).1 - 1)) (readValsR k (rdNum 4096 r).1 (rdNum 4096 r).2).2).1 (rdPackedR many (width ((rdNum 4096 r).1 - 1)) (readValsR k (rdNum 4096 r).1 (rdNum 4096 r).2).2).2 := rfl
  generalize rdNum 4096 r = X at *
  obtain ⟨c, r2⟩ := X
  simp only [] at hN hle ok2 hwp
  have HWP := Lib.hid hwp; clear hwp
  have HK := Lib.hid (And.intro hk ok2); clear hk ok ok2
  have HN := Lib.hid hN; clear hN
  have H := Lib.hid h; clear h
  go_enter Tryz.func80, Tryz.ntmps80
  go_wp2_with (go_at_call 49; (with_reducible refine (HN.out _ H.out).mono ?_); rintro e w1 ⟨rfl, hR, hgr⟩; have HR := Lib.hid hR; have HG := Lib.hid hgr; clear hR hgr)
  clear H HN
  go_loopw [16, 17] (fun tv iv wr => ∃ q : Nat, q ≤ c ∧ iv = .int .i64 q ∧ OwnV wr w.heap.size tv (readValsR k q r2).1 ∧ Rdr 96 wr g (readValsR k q r2).2 ∧ w.grownBy wr (some g)) (fun _ iv _ => c - (intOf iv).toNat)
  case atStart => exact ⟨0, Nat.zero_le _, rfl, OwnV.nil _ _, HR.out, HG.out⟩
  case round =>
    clear HR HG
    obtain ⟨q, hq, rfl, hO, hR, hgr⟩ := hrel
    have hml := readValsR_length k q r2
    obtain ⟨z0, z1, z2⟩ := hR.cells
    by_cases hlt : q < c
    · by_cases hbd : (readValsR k q r2).2.bad = true
      · have hst := readValsR_stop k hbd (c - q)
        rw [show q + (c - q) = c by omega] at hst
        rw [hbd] at z2
        rw [← hst] at hO hR
        clear hst hbd hml
        have HO := Lib.hid hO; clear hO
        have HR := Lib.hid hR; clear hR
        have HG := Lib.hid hgr; clear hgr
        have hO := HO.out
        have ok3 := readValsR_okR k c HK.out.2
        have hwl : width (c - 1) ≤ 16 := Nat.le_trans (width_le (by omega)) (by omega)
        have hwd := fun w => Bitpack.refWidth_any ((c : Int) - 1) w (by omega)
        rw [width_pred] at hwd
        have hw1 : IntKind.i64.wrap ((c : Int) - 1) = (c : Int) - 1 := IntWalk.i64_in _ (by omega)
        have hfi := readValsR_length k c r2
        clear HO
        generalize readValsR k c r2 = X at *
        obtain ⟨ws, r3⟩ := X
        simp only [] at hO HR ok3 hfi HWP
        have hP := fun w h => tpacked_any g many (width (c - 1)) r3 w h ok3 hm hwl
        have hxl := rdPackedR_len many (width (c - 1)) r3
        generalize rdPackedR many (width (c - 1)) r3 = Z at *
        obtain ⟨xs, r4⟩ := Z
        simp only [] at hP hxl HWP
        generalize width (c - 1) = wd at *
        have HP := Lib.hid hP; clear hP ok3 hwl
        have HWD := Lib.hid hwd; clear hwd
        obtain ⟨A16, c16, rfl, _, _⟩ := hO.form' (n := ws.length) rfl
        have HO := Lib.hid hO; clear hO
        clear HK
        go_wp2_with (first
          | (go_at_call 99; (with_reducible refine (HWD.out _).mono ?_); rintro e w2 ⟨rfl, rfl⟩)
          | (go_at_call 79; (with_reducible refine (HP.out _ HR.out).mono ?_); rintro e w3 ⟨v, rfl, hI, hR3, hg3⟩; obtain ⟨A18, c18, rfl, _, _, _⟩ := hI.form (n := xs.length) (iat_length xs); have HI := Lib.hid hI; have HR3 := Lib.hid hR3; have HO3 := Lib.hid (HO.out.keepB hg3 (own_ne HO.out hg)); have HG3 := Lib.hid (grown_then HG.out hg3); clear hI hR3 hg3))
        clear HO HR HG HP HWD hw1
        obtain ⟨s4, a4, b4⟩ := r4
        go_loopw [9, 19] (fun tv iv wr => ∃ q : Nat, q ≤ xs.length ∧ iv = .int .i64 q ∧ (b4 = true → q = 0) ∧ (∀ a ∈ xs.take q, a < ws.length) ∧ OwnV wr w3.heap.size tv ((xs.take q).map fun a => ws.getD a nul) ∧ Below w3.heap.size w3 wr) (fun _ iv _ => xs.length - (intOf iv).toNat)
        case atStart => exact ⟨0, Nat.zero_le _, rfl, fun _ => rfl, by simp, OwnV.nil _ _, Below.refl _ _⟩
        case round =>
          obtain ⟨q, hq, rfl, hq0, hal, hO, hb⟩ := hrel
          have hml : ((xs.take q).map fun a => ws.getD a nul).length = q := by rw [List.length_map, List.length_take]; omega
          obtain ⟨A9, c9, rfl, _, _⟩ := hO.form' (n := q) hml
          have hbs := hb.size
          have hR := HR3.out.below hb
          obtain ⟨z0, z1, z2⟩ := hR.cells
          have hgf := hR.free 2
          have hsz3 := HG3.out.size
          cases b4 with
          | true =>
            obtain rfl := hq0 rfl
            have hp := placesR_bad (ws := ws) (l := xs) (r := ⟨s4, a4, true⟩) rfl
            rw [hp] at HWP
            have HR := Lib.hid hR; clear hR
            have HO := Lib.hid hO; clear hO
            by_cases h0 : 0 < xs.length
            · go_wp2
              go_ret
              exact ⟨_, rfl, by rw [HWP.out]; exact own_le HO.out hsz3, by rw [HWP.out]; exact HR.out, grown_then HG3.out (World.grownBy.but (MapV.grown_of_below hb) _)⟩
            · go_wp2
              go_ret
              exact ⟨_, rfl, by rw [HWP.out]; exact own_le HO.out hsz3, by rw [HWP.out]; exact HR.out, grown_then HG3.out (World.grownBy.but (MapV.grown_of_below hb) _)⟩
          | false =>
            clear hq0
            by_cases hlt : q < xs.length
            · obtain ⟨b1, o1, y, hy, rfl, hb1, c0⟩ := ((HI.out.below hb).sl (iat_length xs)).at_ hlt
              obtain ⟨x, rfl, hx⟩ := iat_get hy
              clear hy
              by_cases hxw : ws.length ≤ x
              · have hp := placesR_stop (r := ⟨s4, a4, false⟩) rfl hal hx hxw
                rw [hp] at HWP
                have HR := Lib.hid hR; clear hR
                have HO := Lib.hid hO; clear hO
                go_wp2
                go_ret
                exact ⟨_, rfl, by rw [HWP.out]; exact own_set (own_le HO.out hsz3) hg, by rw [HWP.out]; exact HR.out.bad _, grown_then (grown_then HG3.out (World.grownBy.but (MapV.grown_of_below hb) _)) (grown_one _ _ _ _)⟩
              · obtain ⟨b2, o2, v, hv, rfl, hb2, e0, e1, e2, e3⟩ := ((HO3.out.below hb).sl rfl).at_ (k := x) (by omega)
                have hsn := places_snoc (ws := ws) hx
                rw [getD_of hv] at hsn
                have hal2 := places_lt hx (show x < ws.length by omega) hal
                have hfl : ((xs.take q).map fun a => ws.getD a nul).length < few := by rw [hml]; unfold few; omega
                have HX := Lib.hid (And.intro hsn (And.intro hfl hal2)); clear hsn hfl hal2 hal hv hx hml
                have HR := Lib.hid hR; clear hR
                have HO := Lib.hid hO; clear hO
                generalize ((xs.take q).map fun a => ws.getD a nul) = O at *
                obtain ⟨kv, iv, bv, sv⟩ := v
                simp only [] at e0 e1 e2 e3
                go_wp2_with (at_builtin; (refine wpList_push_val rfl (.tmp 151) (.tmp 159) rfl w3.heap.size (.slice A9 q c9) O ⟨kv, iv, bv, sv⟩ wr.heap.size 1 rfl rfl (t := 71) (fr := (0, 0)) (heap_alloc_new wr (.cells #[.int .i64 kv, .int .i64 iv, .bool bv, .string sv] 71)) (HO.out.alloc (.cells #[.int .i64 kv, .int .i64 iv, .bool bv, .string sv] 71)) HX.out.2.1 (by simp; omega) ?_; intro u wA hA hgA hatA; have HA := Lib.hid hA; clear hA))
                go_roundw
                case rel => exact ⟨q + 1, by omega, by go_num, (fun h => by cases h), HX.out.2.2, by rw [HX.out.1]; exact HA.out, (hb.alloc hb.size _).grown hgA (by simp; omega) (own_base HO.out)⟩
                case measure => simp [intOf]; omega
            · obtain rfl : q = xs.length := by omega
              rw [List.take_of_length_le (Nat.le_refl _)] at hal hO
              have hp := placesR_ok hal (r := ⟨s4, a4, false⟩) rfl
              rw [hp] at HWP
              have HR := Lib.hid hR; clear hR
              have HO := Lib.hid hO; clear hO
              go_wp2
              go_ret
              exact ⟨_, rfl, by rw [HWP.out]; exact own_le HO.out hsz3, by rw [HWP.out]; exact HR.out, grown_then HG3.out (World.grownBy.but (MapV.grown_of_below hb) _)⟩
      · have hbf : (readValsR k q r2).2.bad = false := by simpa using hbd
        have hrs : readValsR k (q + 1) r2 = ((readValsR k q r2).1 ++ [(rdVal k (readValsR k q r2).2).1], (rdVal k (readValsR k q r2).2).2) := by
          simp only [readValsR]; rw [if_neg hbd]
        have hS := fun w h => tvalue_any k g (readValsR k q r2).2 w HK.out.1 h (readValsR_okR k q HK.out.2)
        have hfl : (readValsR k q r2).1.length < few := by unfold few; omega
        rw [hbf] at z2
        clear hbd hbf
        obtain ⟨A16, c16, rfl, _, _⟩ := hO.form' (n := (readValsR k q r2).1.length) rfl
        generalize readValsR k q r2 = X at *
        obtain ⟨O, r3⟩ := X
        simp only [] at hrs hS hO hR hml hfl z0 z1 z2
        generalize rdVal k r3 = Y at *
        obtain ⟨⟨ku, iu, bu, su⟩, r4⟩ := Y
        simp only [vagg] at hrs hS
        have HS := Lib.hid hS; clear hS
        have HRS := Lib.hid (And.intro hrs hfl); clear hrs hfl
        have HO := Lib.hid hO; clear hO
        have HR := Lib.hid hR; clear hR
        have HG := Lib.hid hgr; clear hgr
        have hsz := HG.out.size
        clear HWP
        go_wp2_with (first
          | (go_at_call 110; (with_reducible refine (HS.out _ HR.out).mono ?_); rintro e w1 ⟨rfl, hR1, hg1⟩; have HR1 := Lib.hid hR1; have HO1 := Lib.hid (HO.out.keepB hg1 (own_ne HO.out hg)); have HG1 := Lib.hid (grown_then HG.out hg1); clear hR1 hg1; have hsz1 := HG1.out.size)
          | (at_builtin; (refine wpList_push_val rfl (.tmp 116) (.tmp 120) rfl w.heap.size (.slice A16 O.length c16) O ⟨ku, iu, bu, su⟩ w1.heap.size 1 rfl rfl (t := 71) (fr := (0, 0)) (heap_alloc_new w1 (.cells #[.int .i64 ku, .int .i64 iu, .bool bu, .string su] 71)) (HO1.out.alloc (.cells #[.int .i64 ku, .int .i64 iu, .bool bu, .string su] 71)) HRS.out.2 (by simp; omega) ?_; intro u2 wB hI2 hgB hatB)))
        go_roundw
        case rel => exact ⟨q + 1, by omega, by go_num, by rw [HRS.out.1]; exact hI2, by rw [HRS.out.1]; exact (HR1.out.alloc _).grown hgB (fun e => own_ne HO1.out hg e.symm), grown_step (grown_then HG1.out (World.grownBy_alloc _ _ _)) hgB (own_base HO1.out)⟩
        case measure => simp [intOf]; omega
    · obtain rfl : c = q := by omega
      clear hml
      have HO := Lib.hid hO; clear hO
      have HR := Lib.hid hR; clear hR
      have HG := Lib.hid hgr; clear hgr
      have hO := HO.out
      have ok3 := readValsR_okR k c HK.out.2
      have hwl : width (c - 1) ≤ 16 := Nat.le_trans (width_le (by omega)) (by omega)
      have hwd := fun w => Bitpack.refWidth_any ((c : Int) - 1) w (by omega)
      rw [width_pred] at hwd
      have hw1 : IntKind.i64.wrap ((c : Int) - 1) = (c : Int) - 1 := IntWalk.i64_in _ (by omega)
      have hfi := readValsR_length k c r2
      clear HO
      generalize readValsR k c r2 = X at *
      obtain ⟨ws, r3⟩ := X
      simp only [] at hO HR ok3 hfi HWP
      have hP := fun w h => tpacked_any g many (width (c - 1)) r3 w h ok3 hm hwl
      have hxl := rdPackedR_len many (width (c - 1)) r3
      generalize rdPackedR many (width (c - 1)) r3 = Z at *
      obtain ⟨xs, r4⟩ := Z
      simp only [] at hP hxl HWP
      generalize width (c - 1) = wd at *
      have HP := Lib.hid hP; clear hP ok3 hwl
      have HWD := Lib.hid hwd; clear hwd
      obtain ⟨A16, c16, rfl, _, _⟩ := hO.form' (n := ws.length) rfl
      have HO := Lib.hid hO; clear hO
      clear HK
      go_wp2_with (first
        | (go_at_call 99; (with_reducible refine (HWD.out _).mono ?_); rintro e w2 ⟨rfl, rfl⟩)
        | (go_at_call 79; (with_reducible refine (HP.out _ HR.out).mono ?_); rintro e w3 ⟨v, rfl, hI, hR3, hg3⟩; obtain ⟨A18, c18, rfl, _, _, _⟩ := hI.form (n := xs.length) (iat_length xs); have HI := Lib.hid hI; have HR3 := Lib.hid hR3; have HO3 := Lib.hid (HO.out.keepB hg3 (own_ne HO.out hg)); have HG3 := Lib.hid (grown_then HG.out hg3); clear hI hR3 hg3))
      clear HO HR HG HP HWD hw1
      obtain ⟨s4, a4, b4⟩ := r4
      go_loopw [9, 19] (fun tv iv wr => ∃ q : Nat, q ≤ xs.length ∧ iv = .int .i64 q ∧ (b4 = true → q = 0) ∧ (∀ a ∈ xs.take q, a < ws.length) ∧ OwnV wr w3.heap.size tv ((xs.take q).map fun a => ws.getD a nul) ∧ Below w3.heap.size w3 wr) (fun _ iv _ => xs.length - (intOf iv).toNat)
      case atStart => exact ⟨0, Nat.zero_le _, rfl, fun _ => rfl, by simp, OwnV.nil _ _, Below.refl _ _⟩
      case round =>
        obtain ⟨q, hq, rfl, hq0, hal, hO, hb⟩ := hrel
        have hml : ((xs.take q).map fun a => ws.getD a nul).length = q := by rw [List.length_map, List.length_take]; omega
        obtain ⟨A9, c9, rfl, _, _⟩ := hO.form' (n := q) hml
        have hbs := hb.size
        have hR := HR3.out.below hb
        obtain ⟨z0, z1, z2⟩ := hR.cells
        have hgf := hR.free 2
        have hsz3 := HG3.out.size
        cases b4 with
        | true =>
          obtain rfl := hq0 rfl
          have hp := placesR_bad (ws := ws) (l := xs) (r := ⟨s4, a4, true⟩) rfl
          rw [hp] at HWP
          have HR := Lib.hid hR; clear hR
          have HO := Lib.hid hO; clear hO
          by_cases h0 : 0 < xs.length
          · go_wp2
            go_ret
            exact ⟨_, rfl, by rw [HWP.out]; exact own_le HO.out hsz3, by rw [HWP.out]; exact HR.out, grown_then HG3.out (World.grownBy.but (MapV.grown_of_below hb) _)⟩
          · go_wp2
            go_ret
            exact ⟨_, rfl, by rw [HWP.out]; exact own_le HO.out hsz3, by rw [HWP.out]; exact HR.out, grown_then HG3.out (World.grownBy.but (MapV.grown_of_below hb) _)⟩
        | false =>
          clear hq0
          by_cases hlt : q < xs.length
          · obtain ⟨b1, o1, y, hy, rfl, hb1, c0⟩ := ((HI.out.below hb).sl (iat_length xs)).at_ hlt
            obtain ⟨x, rfl, hx⟩ := iat_get hy
            clear hy
            by_cases hxw : ws.length ≤ x
            · have hp := placesR_stop (r := ⟨s4, a4, false⟩) rfl hal hx hxw
              rw [hp] at HWP
              have HR := Lib.hid hR; clear hR
              have HO := Lib.hid hO; clear hO
              go_wp2
              go_ret
              exact ⟨_, rfl, by rw [HWP.out]; exact own_set (own_le HO.out hsz3) hg, by rw [HWP.out]; exact HR.out.bad _, grown_then (grown_then HG3.out (World.grownBy.but (MapV.grown_of_below hb) _)) (grown_one _ _ _ _)⟩
            · obtain ⟨b2, o2, v, hv, rfl, hb2, e0, e1, e2, e3⟩ := ((HO3.out.below hb).sl rfl).at_ (k := x) (by omega)
              have hsn := places_snoc (ws := ws) hx
              rw [getD_of hv] at hsn
              have hal2 := places_lt hx (show x < ws.length by omega) hal
              have hfl : ((xs.take q).map fun a => ws.getD a nul).length < few := by rw [hml]; unfold few; omega
              have HX := Lib.hid (And.intro hsn (And.intro hfl hal2)); clear hsn hfl hal2 hal hv hx hml
              have HR := Lib.hid hR; clear hR
              have HO := Lib.hid hO; clear hO
              generalize ((xs.take q).map fun a => ws.getD a nul) = O at *
              obtain ⟨kv, iv, bv, sv⟩ := v
              simp only [] at e0 e1 e2 e3
              go_wp2_with (at_builtin; (refine wpList_push_val rfl (.tmp 151) (.tmp 159) rfl w3.heap.size (.slice A9 q c9) O ⟨kv, iv, bv, sv⟩ wr.heap.size 1 rfl rfl (t := 71) (fr := (0, 0)) (heap_alloc_new wr (.cells #[.int .i64 kv, .int .i64 iv, .bool bv, .string sv] 71)) (HO.out.alloc (.cells #[.int .i64 kv, .int .i64 iv, .bool bv, .string sv] 71)) HX.out.2.1 (by simp; omega) ?_; intro u wA hA hgA hatA; have HA := Lib.hid hA; clear hA))
              go_roundw
              case rel => exact ⟨q + 1, by omega, by go_num, (fun h => by cases h), HX.out.2.2, by rw [HX.out.1]; exact HA.out, (hb.alloc hb.size _).grown hgA (by simp; omega) (own_base HO.out)⟩
              case measure => simp [intOf]; omega
          · obtain rfl : q = xs.length := by omega
            rw [List.take_of_length_le (Nat.le_refl _)] at hal hO
            have hp := placesR_ok hal (r := ⟨s4, a4, false⟩) rfl
            rw [hp] at HWP
            have HR := Lib.hid hR; clear hR
            have HO := Lib.hid hO; clear hO
            go_wp2
            go_ret
            exact ⟨_, rfl, by rw [HWP.out]; exact own_le HO.out hsz3, by rw [HWP.out]; exact HR.out, grown_then HG3.out (World.grownBy.but (MapV.grown_of_below hb) _)⟩
end Go.Proofs.YtgmemdedpklnhaaGreat.Vec

/-
  THE WALKS of the document's own taker: some; what it gives.
-/


namespace Go.Proofs.YtgmemdedpklnhaaGreat.Vec
open Go.RowKit ValMath Vals Sl VecMath Words

theorem tsome_any (k : Int) (g enc many : Nat) (r : Rd) (w : World) (hk : k = 1 ∨ k = 2 ∨ k = 3) (h : Rdr 96 w g r) (ok : OkR r) (hm : many ≤ 4096) :
    Calls Tryz.prog 80 #[.pointer (some ⟨g, 0, none⟩), .int .i64 (enc : Nat), .int .i64 k, .int .i64 (many : Nat)] w fun e w' => ∃ v, e = .returned v ∧ OwnV w' w.heap.size v (someR k enc many r).1 ∧ Rdr 96 w' g (someR k enc many r).2 ∧ w.grownBy w' (some g) := by
  unfold someR
  by_cases h1 : enc = 1
  · subst h1; rw [if_pos rfl]; exact tsome1_any k g many r w hk h ok hm
  · rw [if_neg h1]
    by_cases h2 : enc = 2
    · subst h2; rw [if_pos rfl]; exact tsome2_any k g many r w hk h ok hm
    · rw [if_neg h2]
      by_cases h3 : k = 2
      · subst h3; rw [if_pos rfl]; exact tsomeB_any g enc many r w h1 h2 h ok hm
      · rw [if_neg h3]; exact tsome0_any k g enc many r w h1 h2 (by omega) h ok hm
theorem placesR_fine {ws : List Val} (h : ∀ v ∈ ws, Fine v) (l : List Nat) (r : Rd) : ∀ v ∈ (placesR ws l r).1, Fine v := by
  induction l with
  | nil => intro v hv; simp [placesR] at hv
  | cons a l ih =>
    simp only [placesR]
    split
    · intro v hv; simp at hv
    · split
      · intro v hv; simp at hv
      · intro v hv
        simp only [List.mem_cons] at hv
        rcases hv with rfl | hv
        · exact getD_fine h a
        · exact ih v hv
theorem bools_fine (xs : List Nat) : ∀ v ∈ xs.map (fun x => (⟨2, 0, decide (x = 1), ByteArray.empty⟩ : Val)), Fine v := by
  intro v hv
  simp only [List.mem_map] at hv
  obtain ⟨x, _, rfl⟩ := hv
  exact fine_bool _
theorem someR_fine {k : Int} (hk : k = 1 ∨ k = 2 ∨ k = 3) (e many : Nat) (r : Rd) : ∀ v ∈ (someR k e many r).1, Fine v := by
  unfold someR
  split
  · exact runsR_fine hk many _ _
  · split
    · exact placesR_fine (readValsR_fine hk _ _) _ _
    · split
      · exact bools_fine _
      · exact readValsR_fine hk many r
theorem rdPackedR_lt (m w : Nat) (r : Rd) : ∀ x ∈ (rdPackedR m w r).1, x < 2 ^ w := by
  unfold rdPackedR
  split
  · intro x hx; simp at hx
  · exact rdPackedP_lt m w r
end Go.Proofs.YtgmemdedpklnhaaGreat.Vec

/-
  THE WALK of boathouseref7.Unvec.
-/




namespace Go.Proofs.YtgmemdedpklnhaaGreat.Vec
open Go.RowKit ValMath Vals Sl VecMath Words

def uvals (k : Int) (s : ByteArray) : List Val := (unvec decR k s.data.toList).1
def ucode (k : Int) (s : ByteArray) : Int := ((unvec decR k s.data.toList).2 : Nat)
theorem uvals_same (k : Int) (s : ByteArray) : uvals k s = gvals k s := by unfold uvals gvals; rw [unvec_same]
theorem ucode_same (k : Int) (s : ByteArray) : ucode k s = gcode k s := by unfold ucode gcode; rw [unvec_same]
theorem unv_kind {k : Int} (s : ByteArray) (h : ¬ (1 ≤ k ∧ k ≤ 3)) : uvals k s = [] ∧ ucode k s = 900 := by
  unfold uvals ucode unvec; rw [if_pos (by omega)]; exact ⟨rfl, rfl⟩
theorem unv_sum {k : Int} {s : ByteArray} (h : 1 ≤ k ∧ k ≤ 3) (ho : CrcMath.open_ s.data.toList = none) : uvals k s = [] ∧ ucode k s = 902 := by
  unfold uvals ucode unvec; rw [if_neg (by omega), ho]; exact ⟨rfl, rfl⟩
theorem unv_form {k : Int} {s : ByteArray} {b : List UInt8} (h : 1 ≤ k ∧ k ≤ 3) (ho : CrcMath.open_ s.data.toList = some b) (hd : decR k b = none) : uvals k s = [] ∧ ucode k s = 901 := by
  unfold uvals ucode unvec; rw [if_neg (by omega), ho]; simp only [hd]; exact ⟨trivial, rfl⟩
theorem unv_worse {k : Int} {s : ByteArray} {b : List UInt8} {vs : List Val} (h : 1 ≤ k ∧ k ≤ 3) (ho : CrcMath.open_ s.data.toList = some b) (hd : decR k b = some vs) (hn : ¬ (mayErr k vs = 0 ∧ put k vs = s.data.toList)) : uvals k s = [] ∧ ucode k s = 901 := by
  unfold uvals ucode unvec; rw [if_neg (by omega), ho]; simp only [hd]; rw [if_neg hn]; exact ⟨rfl, rfl⟩
theorem unv_good {k : Int} {s : ByteArray} {b : List UInt8} {vs : List Val} (h : 1 ≤ k ∧ k ≤ 3) (ho : CrcMath.open_ s.data.toList = some b) (hd : decR k b = some vs) (hn : mayErr k vs = 0 ∧ put k vs = s.data.toList) : uvals k s = vs ∧ ucode k s = 0 := by
  unfold uvals ucode unvec; rw [if_neg (by omega), ho]; simp only [hd]; rw [if_pos hn]; exact ⟨rfl, rfl⟩
set_option maxRecDepth 20000 in
set_option maxHeartbeats 8000000 in
theorem unvec_any (k : Int) (s : ByteArray) (w : World) (hs : s.size ≤ maxReach) :
    Calls Tryz.prog 50 #[.int .i64 k, .string s] w fun e w' => ∃ u, e = .returned (.tuple #[u, .int .i64 (ucode k s)]) ∧ OwnV w' w.heap.size u (uvals k s) ∧ Below w.heap.size w w' := by
  by_cases h1 : 1 ≤ k ∧ k ≤ 3
  · have hkd1 : ¬ k < 1 := by omega
    have hkd2 : ¬ 3 < k := by omega
    have hO := fun w => Crc.refOpen_any s w hs
    cases ho : CrcMath.open_ s.data.toList with
    | none =>
      have hg := unv_sum h1 ho
      have hc : Crc.code s.data.toList = 400 := by unfold Crc.code; rw [ho]; rfl
      rw [hc] at hO
      have HO := Lib.hid hO; clear hO
      have HG := Lib.hid hg; clear hg hc ho h1
      go_enter Tryz.func50, Tryz.ntmps50
      go_wp2_with (go_at_call 47; (with_reducible refine (HO.out _).mono ?_); rintro e w2 ⟨rfl, hb2⟩)
      go_ret2
      exact ⟨_, ret_vi HG.out.2.symm, by rw [HG.out.1]; exact OwnV.nil _ _, hb2⟩
    | some b =>
      have hc : Crc.code s.data.toList = 0 := by unfold Crc.code; rw [ho]; rfl
      have hop : Crc.opened s.data.toList = b := by unfold Crc.opened; rw [ho]; rfl
      rw [hc, hop] at hO
      clear hc hop
      have hbl := open_len ho
      cases b with
      | nil =>
        have hg := unv_form h1 ho (show decR k [] = none from if_pos rfl)
        have he : (str []).toList.isEmpty = true := by rw [Lib.toList_data]; rfl
        have HO := Lib.hid hO; clear hO
        have HG := Lib.hid hg; clear hg ho h1
        go_enter Tryz.func50, Tryz.ntmps50
        go_wp2_with (go_at_call 47; (with_reducible refine (HO.out _).mono ?_); rintro e w2 ⟨rfl, hb2⟩)
        go_ret2
        exact ⟨_, ret_vi HG.out.2.symm, by rw [HG.out.1]; exact OwnV.nil _ _, hb2⟩
      | cons e0 bt =>
      have ok0 : OkR ⟨e0 :: bt, 1, false⟩ := ⟨by simp, by rw [show s.data.toList.length = s.size by simp] at hbl; show (e0 :: bt).length ≤ maxReach; omega⟩
      have hk3 : k = 1 ∨ k = 2 ∨ k = 3 := by omega
      have hdp : decR k (e0 :: bt) = (if (someR k e0.toNat (left (rdPackedR (rdNum 4096 ⟨e0 :: bt, 1, false⟩).1 1 (rdNum 4096 ⟨e0 :: bt, 1, false⟩).2).1) (rdPackedR (rdNum 4096 ⟨e0 :: bt, 1, false⟩).1 1 (rdNum 4096 ⟨e0 :: bt, 1, false⟩).2).2).2.bad = true ∨
          (someR k e0.toNat (left (rdPackedR (rdNum 4096 ⟨e0 :: bt, 1, false⟩).1 1 (rdNum 4096 ⟨e0 :: bt, 1, false⟩).2).1) (rdPackedR (rdNum 4096 ⟨e0 :: bt, 1, false⟩).1 1 (rdNum 4096 ⟨e0 :: bt, 1, false⟩).2).2).1.length ≠ left (rdPackedR (rdNum 4096 ⟨e0 :: bt, 1, false⟩).1 1 (rdNum 4096 ⟨e0 :: bt, 1, false⟩).2).1 then none else
          some (weave (rdPackedR (rdNum 4096 ⟨e0 :: bt, 1, false⟩).1 1 (rdNum 4096 ⟨e0 :: bt, 1, false⟩).2).1 (someR k e0.toNat (left (rdPackedR (rdNum 4096 ⟨e0 :: bt, 1, false⟩).1 1 (rdNum 4096 ⟨e0 :: bt, 1, false⟩).2).1) (rdPackedR (rdNum 4096 ⟨e0 :: bt, 1, false⟩).1 1 (rdNum 4096 ⟨e0 :: bt, 1, false⟩).2).2).1)) := rfl
      have hN : ∀ g w, Rdr 96 w g ⟨e0 :: bt, 1, false⟩ → Calls Tryz.prog 49 #[.pointer (some ⟨g, 0, none⟩), .int .i64 4096] w fun e w' => e = .returned (.int .i64 ((rdNum 4096 ⟨e0 :: bt, 1, false⟩).1 : Nat)) ∧ Rdr 96 w' g (rdNum 4096 ⟨e0 :: bt, 1, false⟩).2 ∧ w.grownBy w' (some g) := fun g w h => tnum_any g 4096 ⟨e0 :: bt, 1, false⟩ w h ok0
      have hle := rdNum_le 4096 ⟨e0 :: bt, 1, false⟩
      have ok2 := rdNum_okR (m := 4096) ok0
      generalize rdNum 4096 ⟨e0 :: bt, 1, false⟩ = X at *
      obtain ⟨many, r2⟩ := X
      simp only [] at hdp hN hle ok2
      have hP : ∀ g w, Rdr 96 w g r2 → Calls Tryz.prog 79 #[.pointer (some ⟨g, 0, none⟩), .int .i64 (many : Nat), .int .i64 1] w fun e w' => ∃ v, e = .returned v ∧ OwnI w' w.heap.size v (iat (rdPackedR many 1 r2).1) ∧ Rdr 96 w' g (rdPackedR many 1 r2).2 ∧ w.grownBy w' (some g) := fun g w h => tpacked_any g many 1 r2 w h ok2 hle (by omega)
      have hxl := rdPackedR_len many 1 r2
      have hxb := rdPackedR_lt many 1 r2
      have hful := rdPackedR_full (m := many) (w := 1) (r := r2)
      have ok3 := rdPackedR_okR (m := many) (w := 1) ok2
      generalize rdPackedR many 1 r2 = X at *
      obtain ⟨ns, r3⟩ := X
      simp only [] at hdp hP hxl hxb ok3 hful
      have hS := fun g w h => tsome_any k g e0.toNat (left ns) r3 w hk3 h ok3 (by have := left_le ns; omega)
      have hsf := someR_fine hk3 e0.toNat (left ns) r3
      have hll := left_le ns
      have hwas := fun h => hful (someR_was (k := k) (e := e0.toNat) (m := left ns) (r := r3) h)
      generalize someR k e0.toNat (left ns) r3 = X at *
      obtain ⟨vs, r4⟩ := X
      simp only [] at hdp hS hsf hwas
      have he : (str (e0 :: bt)).toList.isEmpty = false := by rw [Lib.toList_data]; rfl
      have hat := run_at (str (e0 :: bt)) 0 0 rfl (by rw [str_size]; simp)
      have hby : byteAt (str (e0 :: bt)).data.toList 0 = e0.toNat := by rw [str_list]; rfl
      rw [hby] at hat
      have hwr : wrap64 ((e0.toNat : Nat) : Int) = ((e0.toNat : Nat) : Int) := by have := e0.toNat_lt; unfold wrap64; omega
      have hbx : ∀ w2 : World, Rdr 96 (w2.alloc (.cells #[.string (str (e0 :: bt)), .int .i64 1, .bool false] 96)) w2.heap.size ⟨e0 :: bt, 1, false⟩ := fun w2 => heap_alloc_new w2 _
      generalize (⟨e0 :: bt, 1, false⟩ : Rd) = r0 at *
      have HD := Lib.hid (And.intro h1 (And.intro ho (And.intro hdp (And.intro hsf hwas)))); clear h1 ho hdp hsf hwas hful ok0 ok2 ok3 hk3 hbl
      generalize hS0 : str (e0 :: bt) = S0 at *
      clear hS0 hby
      generalize e0.toNat = en at *
      have HO := Lib.hid hO; clear hO
      have HN := Lib.hid hN; clear hN
      have HP := Lib.hid hP; clear hP
      have HS := Lib.hid hS; clear hS
      have HBX := Lib.hid hbx; clear hbx
      go_enter Tryz.func50, Tryz.ntmps50
      go_wp2_with (first
        | (go_at_call 47; (with_reducible refine (HO.out _).mono ?_); rintro e2 w2 ⟨rfl, hb2⟩; have HR0 := Lib.hid (HBX.out w2))
        | (go_at_call 49; (with_reducible refine (HN.out _ _ HR0.out).mono ?_); rintro e4 w4 ⟨rfl, hR, hg4⟩; have HR4 := Lib.hid hR; clear hR)
        | (go_at_call 79; (with_reducible refine (HP.out _ _ HR4.out).mono ?_); rintro e5 w5 ⟨v, rfl, hI, hR, hg5⟩; obtain ⟨A11, c11, rfl, _, _, _⟩ := hI.form (n := ns.length) (iat_length ns); have HI := Lib.hid hI; have HR5 := Lib.hid hR; clear hI hR))
      have hbt5 := (((hb2.alloc hb2.size (.cells #[.string S0, .int .i64 1, .bool false] 96)).grown hg4 (Below.size (hb2.alloc hb2.size (.cells #[.string S0, .int .i64 1, .bool false] 96))) (fun j hj => by cases hj; exact hb2.size)))
      have hbt7 := hbt5.grown hg5 hbt5.size (fun j hj => by cases hj; exact hb2.size)
      have HBT := Lib.hid hbt7; clear hbt5 hbt7
      have hz4 : w2.heap.size < w4.heap.size := by have h4 := hg4.size; simp at h4; omega
      have hz2 := hb2.size
      clear hg4 hg5 HR0 HR4 HO HN HP HBX
      go_loopw [11, 12] (fun nv iv wr => ∃ q : Nat, q ≤ ns.length ∧ iv = .int .i64 q ∧ nv = .int .i64 (left (ns.take q) : Nat) ∧ Below w5.heap.size w5 wr) (fun _ iv _ => ns.length - (intOf iv).toNat)
      case atStart => exact ⟨0, Nat.zero_le _, rfl, rfl, Below.refl _ _⟩
      case round =>
        obtain ⟨q, hq, rfl, rfl, hb⟩ := hrel
        have hI := HI.out.below hb
        by_cases hlt : q < ns.length
        · obtain ⟨b1, o1, y, hy, rfl, hb1, c0⟩ := (hI.sl (iat_length ns)).at_ hlt
          obtain ⟨x, rfl, hx⟩ := iat_get hy
          have hts := Vals.take_more hx
          have hls := left_snoc (ns.take q) x
          rw [← hts] at hls
          have hx2 := hxb x (List.mem_of_getElem? hx)
          have hlq := left_le (ns.take q)
          rw [List.length_take] at hlq
          clear hI HD HS HI HR5 HBT hts hx hy
          generalize left (ns.take q) = l0 at *
          have hw0 : IntKind.i64.wrap ((l0 : Int) + 1) = (l0 : Int) + 1 := IntWalk.i64_in _ (by omega)
          by_cases hx1 : x = 1
          · subst hx1
            rw [if_pos rfl] at hls
            have HL := Lib.hid hls; clear hls
            have hw1 : IntKind.i64.wrap ((l0 : Int) + 1 - 1) = (l0 : Int) := by rw [IntWalk.i64_in _ (by omega)]; omega
            go_wp2
            go_roundw
            case rel => exact ⟨q + 1, by omega, by go_num, by rw [HL.out]; rfl, hb⟩
            case measure => simp [intOf]; omega
          · obtain rfl : x = 0 := by omega
            rw [if_neg hx1] at hls
            have HL := Lib.hid hls; clear hls hx1
            have hw1 : IntKind.i64.wrap ((l0 : Int) + 1 - 0) = ((l0 + 1 : Nat) : Int) := by rw [IntWalk.i64_in _ (by omega)]; push_cast; omega
            go_wp2
            go_roundw
            case rel => exact ⟨q + 1, by omega, by go_num, by rw [HL.out]; go_num, hb⟩
            case measure => simp [intOf]; omega
        · obtain rfl : q = ns.length := by omega
          rw [List.take_of_length_le (Nat.le_refl _)]
          have HI := Lib.hid hI; clear hI
          have HR := Lib.hid (HR5.out.below hb)
          replace HBT := Lib.hid (bthen HBT.out hb (Nat.le_refl _))
          have hzr := hb.size
          clear HR5
          obtain ⟨wv, rfl⟩ : ∃ wv : World, wv = wr := ⟨_, rfl⟩
          obtain ⟨s4, a4, b4⟩ := r4
          by_cases hgd : b4 = true ∨ vs.length ≠ left ns
          · have hdp := HD.out.2.2.1
            rw [if_pos hgd] at hdp
            have hg := unv_form HD.out.1 HD.out.2.1 hdp
            have HG := Lib.hid hg; clear hg hdp HD hxb
            cases b4 with
            | true =>
              go_wp2_with (go_at_call 80; (with_reducible refine (HS.out _ _ HR.out).mono ?_); rintro e6 w6 ⟨v, rfl, hV, hR, hg6⟩; obtain ⟨A15, c15, rfl, _, _⟩ := hV.form' (n := vs.length) rfl; have z2 := hR.cells.2.2; have HV := Lib.hid hV; clear hV hR)
              go_ret2
              exact ⟨_, ret_vi HG.out.2.symm, by rw [HG.out.1]; exact OwnV.nil _ _, HBT.out.grown hg6 HBT.out.size (fun j hj => by cases hj; exact hz2)⟩
            | false =>
              have hd2 : ((((vs.length : Nat) : Int)) != ((left ns : Nat) : Int)) = true := by simp; simp at hgd; omega
              clear hgd
              go_wp2_with (go_at_call 80; (with_reducible refine (HS.out _ _ HR.out).mono ?_); rintro e6 w6 ⟨v, rfl, hV, hR, hg6⟩; obtain ⟨A15, c15, rfl, _, _⟩ := hV.form' (n := vs.length) rfl; have z2 := hR.cells.2.2; have HV := Lib.hid hV; clear hV hR)
              go_ret2
              exact ⟨_, ret_vi HG.out.2.symm, by rw [HG.out.1]; exact OwnV.nil _ _, HBT.out.grown hg6 HBT.out.size (fun j hj => by cases hj; exact hz2)⟩
          · have hb4 : b4 = false := by cases b4 <;> simp at hgd ⊢
            subst hb4
            have hnm : ns.length = many := HD.out.2.2.2.2 rfl
            have hvl : vs.length = left ns := by
              by_cases h : vs.length = left ns
              · exact h
              · exact absurd (.inr h) hgd
            have hdp := HD.out.2.2.1
            rw [if_neg hgd] at hdp
            have hgb := fun h => unv_worse HD.out.1 HD.out.2.1 hdp h
            have hgg := fun h => unv_good HD.out.1 HD.out.2.1 hdp h
            have hfw := weave_fine ns vs HD.out.2.2.2.1
            have HD2 := Lib.hid (And.intro hgb (And.intro hgg hfw)); clear hgb hgg hfw hdp HD hgd
            subst hnm
            have d1 : ((((vs.length : Nat) : Int)) != ((left ns : Nat) : Int)) = false := by simp; omega
            have HVL := Lib.hid hvl; clear hvl
            go_wp2_with (go_at_call 80; (with_reducible refine (HS.out _ _ HR.out).mono ?_); rintro e6 w6 ⟨v, rfl, hV, hR, hg6⟩; obtain ⟨A15, c15, rfl, _, _⟩ := hV.form' (n := vs.length) rfl; have z2 := hR.cells.2.2; have HV := Lib.hid hV; clear hV hR)
            clear d1 z2
            have HI6 := Lib.hid (HI.out.keepB hg6 (own_ne HI.out hz4))
            replace HBT := Lib.hid (HBT.out.grown hg6 HBT.out.size (fun j hj => by cases hj; exact hz2))
            have HV0 := HV.out.sl rfl
            clear HI HR HS hg6
            go_loopw [14, 15, 16] (fun ov jv iv wr => ∃ q : Nat, q ≤ ns.length ∧ iv = .int .i64 q ∧ jv = .int .i64 (left (ns.take q) : Nat) ∧ OwnV wr w6.heap.size ov (weave (ns.take q) vs) ∧ Below w6.heap.size w6 wr) (fun _ _ iv _ => ns.length - (intOf iv).toNat)
            case atStart => exact ⟨0, Nat.zero_le _, rfl, rfl, OwnV.nil _ _, Below.refl _ _⟩
            case round =>
              obtain ⟨q, hq, rfl, rfl, hO, hb⟩ := hrel
              have hml : (weave (ns.take q) vs).length = q := by rw [weave_length, List.length_take]; omega
              obtain ⟨A16, c16, rfl, _, _⟩ := hO.form' (n := q) hml
              have hbs := hb.size
              by_cases hlt : q < ns.length
              · obtain ⟨b1, o1, y, hy, rfl, hb1, c0⟩ := ((HI6.out.below hb).sl (iat_length ns)).at_ hlt
                obtain ⟨x, rfl, hx⟩ := iat_get hy
                have hts := Vals.take_more hx
                have hls := left_snoc (ns.take q) x
                have hws := weave_snoc (ns.take q) x vs
                rw [← hts] at hls hws
                have hfl : (weave (ns.take q) vs).length < few := by rw [hml]; unfold few; omega
                have HX := Lib.hid (And.intro hls (And.intro hws hfl)); clear hls hws hfl hts
                by_cases hx1 : x = 1
                · subst hx1
                  have HO := Lib.hid hO; clear hO
                  have hlx := HX.out.1
                  rw [if_pos rfl, Nat.add_zero] at hlx
                  have HLX := Lib.hid hlx; clear hlx
                  clear hx hy HVL HD2 hml HV0
                  generalize weave (ns.take q) vs = O at *
                  generalize left (ns.take q) = l0 at *
                  go_wp2_with (at_builtin; (refine wpList_push_val rfl (.tmp 83) (.tmp 85) rfl w6.heap.size (.slice A16 q c16) O nul wr.heap.size 1 rfl rfl (t := 71) (fr := (0, 0)) (heap_alloc_new wr (.cells #[.int .i64 0, .int .i64 0, .bool false, .string ByteArray.empty] 71)) (HO.out.alloc (.cells #[.int .i64 0, .int .i64 0, .bool false, .string ByteArray.empty] 71)) HX.out.2.2 (by simp; omega) ?_; intro u2 wB hI2 hgB hatB))
                  go_roundw
                  case rel => exact ⟨q + 1, by omega, by go_num, by rw [HLX.out]; rfl, by rw [HX.out.2.1]; exact hI2, (hb.alloc hb.size _).grown hgB (by simp; omega) (own_base HO.out)⟩
                  case measure => simp [intOf]; omega
                · have hlt2 := left_take_lt hx hx1
                  rw [← HVL.out] at hlt2
                  obtain ⟨b2, o2, v, hv, rfl, hb2', e0', e1, e2', e3⟩ := (HV0.below hb).at_ (k := left (ns.take q)) hlt2
                  have hhd : (vs.drop (left (ns.take q))).headD nul = v := by rw [List.headD_eq_head?_getD, List.head?_drop, hv]; rfl
                  have hls := HX.out.1
                  have hws := HX.out.2.1
                  rw [if_neg hx1] at hls
                  rw [if_neg hx1, hhd] at hws
                  have HY := Lib.hid (And.intro hls (And.intro hws HX.out.2.2)); clear hls hws hhd hv HX
                  have hx2 : x < 2 := hxb x (List.mem_of_getElem? hx)
                  have hx0 : x = 0 := by clear HI6 HBT; omega
                  subst hx0
                  have HO := Lib.hid hO; clear hO
                  have hll0 := left_le (ns.take q)
                  rw [List.length_take] at hll0
                  clear hx hy HVL HD2 hml hx1
                  generalize weave (ns.take q) vs = O at *
                  generalize left (ns.take q) = l0 at *
                  have hwl0 : IntKind.i64.wrap ((l0 : Int) + 1) = ((l0 + 1 : Nat) : Int) := by rw [IntWalk.i64_in _ (by omega)]; push_cast; rfl
                  obtain ⟨kv, iv, bv, sv⟩ := v
                  simp only [] at e0' e1 e2' e3
                  go_wp2_with (at_builtin; (refine wpList_push_val rfl (.tmp 87) (.tmp 92) rfl w6.heap.size (.slice A16 q c16) O ⟨kv, iv, bv, sv⟩ wr.heap.size 1 rfl rfl (t := 71) (fr := (0, 0)) (heap_alloc_new wr (.cells #[.int .i64 kv, .int .i64 iv, .bool bv, .string sv] 71)) (HO.out.alloc (.cells #[.int .i64 kv, .int .i64 iv, .bool bv, .string sv] 71)) HY.out.2.2 (by simp; omega) ?_; intro u wA hA hgA hatA; have HA := Lib.hid hA; clear hA))
                  go_roundw
                  case rel => exact ⟨q + 1, by omega, by go_num, by rw [HY.out.1]; go_num, by rw [HY.out.2.1]; exact HA.out, (hb.alloc hb.size _).grown hgA (by simp; omega) (own_base HO.out)⟩
                  case measure => simp [intOf]; omega
              · obtain rfl : q = ns.length := by omega
                rw [List.take_of_length_le (Nat.le_refl _)] at hO
                rw [List.take_of_length_le (Nat.le_refl _)] at hml
                have hgb := HD2.out.1
                have hgg := HD2.out.2.1
                have hP := fun w h => refVec_any k A16 ns.length c16 (weave ns vs) w h HD2.out.2.2
                have hsl := hO.sl hml
                have hz6 := HBT.out.size
                have hO2 : OwnV wr w.heap.size (.slice A16 ns.length c16) (weave ns vs) := own_le hO hz6
                replace HBT := Lib.hid (bthen HBT.out hb (Nat.le_refl _))
                clear HD2 HVL HI6 hO hxb HV0
                generalize weave ns vs = O at *
                have HO := Lib.hid hO2; clear hO2
                have HSL := Lib.hid hsl; clear hsl
                generalize encOf k O = EN at *
                by_cases h0 : mayErr k O = 0
                · by_cases hpe : put k O = s.data.toList
                  · have hg := hgg ⟨h0, hpe⟩
                    have HG := Lib.hid hg; clear hg hgb hgg
                    rw [h0, hpe, str_self] at hP
                    have HP := Lib.hid hP; clear hP h0 hpe
                    go_wp2_with (go_at_call 33; (with_reducible refine (HP.out _ HSL.out).mono ?_); rintro e7 w7 ⟨rfl, hb7⟩)
                    go_ret2
                    exact ⟨_, ret_vi HG.out.2.symm, by rw [HG.out.1]; exact HO.out.below hb7, bthen HBT.out hb7 (Nat.le_refl _)⟩
                  · have hg := hgb (fun h => hpe h.2)
                    have HG := Lib.hid hg; clear hg hgb hgg
                    rw [h0] at hP
                    have hne := str_ne hpe
                    generalize str (put k O) = Z at *
                    have HP := Lib.hid hP; clear hP h0 hpe
                    go_wp2_with (go_at_call 33; (with_reducible refine (HP.out _ HSL.out).mono ?_); rintro e7 w7 ⟨rfl, hb7⟩)
                    go_ret2
                    exact ⟨_, ret_vi HG.out.2.symm, by rw [HG.out.1]; exact OwnV.nil _ _, bthen HBT.out hb7 (Nat.le_refl _)⟩
                · have hg := hgb (fun h => h0 h.1)
                  have HG := Lib.hid hg; clear hg hgb hgg
                  have hne : (((mayErr k O : Nat) : Int) != 0) = true := by simp; omega
                  generalize ((mayErr k O : Nat) : Int) = E at *
                  generalize str (put k O) = Z at *
                  have HP := Lib.hid hP; clear hP h0
                  go_wp2_with (go_at_call 33; (with_reducible refine (HP.out _ HSL.out).mono ?_); rintro e7 w7 ⟨rfl, hb7⟩)
                  go_ret2
                  exact ⟨_, ret_vi HG.out.2.symm, by rw [HG.out.1]; exact OwnV.nil _ _, bthen HBT.out hb7 (Nat.le_refl _)⟩
  · have hg := unv_kind s h1
    have HG := Lib.hid hg; clear hg
    by_cases hk1 : k < 1
    · clear h1
      go_enter Tryz.func50, Tryz.ntmps50
      go_wp2
      go_ret2
      exact ⟨_, ret_vi HG.out.2.symm, by rw [HG.out.1]; exact OwnV.nil _ _, Below.refl _ _⟩
    · have hk3 : 3 < k := by omega
      clear h1
      go_enter Tryz.func50, Tryz.ntmps50
      go_wp2
      go_ret2
      exact ⟨_, ret_vi HG.out.2.symm, by rw [HG.out.1]; exact OwnV.nil _ _, Below.refl _ _⟩
end Go.Proofs.YtgmemdedpklnhaaGreat.Vec
