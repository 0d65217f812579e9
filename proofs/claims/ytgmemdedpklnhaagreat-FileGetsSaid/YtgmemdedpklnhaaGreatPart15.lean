/-
  Lemmas of this claim, text behind text: StatOf. Each states its own conditions.
-/
import Derived.Test.YtgmemdedpklnhaaGreatPart05
import Derived.Test.YtgmemdedpklnhaaGreatPart09
import Derived.Test.YtgmemdedpklnhaaGreatPart14

/-
  THE WALK of stats.Of.
-/




namespace Go.Proofs.YtgmemdedpklnhaaGreat.Stats
open Go.RowKit ValMath Vals Sl

theorem add_parts (s : St) (v : Val) : (addS s v).nulls = (if null v then s.nulls + 1 else s.nulls) ∧ (addS s v).mn = lesser s.mn v ∧ (addS s v).mx = greater s.mx v := ⟨rfl, rfl, rfl⟩

theorem field_k (k i : Int) (b : Bool) (s : ByteArray) (w : World) : (Instr.field 71 (.agg #[.int .i64 k, .int .i64 i, .bool b, .string s]) 0).run Tryz.prog w = .ok (.int .i64 k) w := by kernel_rfl
theorem keep12 {w' : World} {a b : Nat} {c n : Int} {km im kx ix kv iv : Int} {bm bx bv : Bool} {sm sx sv : ByteArray} (hS : SBox w' a c n ⟨km, im, bm, sm⟩ ⟨kx, ix, bx, sx⟩) (hB : Box w' b ⟨kv, iv, bv, sv⟩) :
    (w'.cell? ⟨a, 2, none⟩ = some (.int .i64 km) ∧ w'.cell? ⟨a, 3, none⟩ = some (.int .i64 im) ∧ w'.cell? ⟨a, 4, none⟩ = some (.bool bm) ∧ w'.cell? ⟨a, 5, none⟩ = some (.string sm)) ∧
    (w'.cell? ⟨a, 6, none⟩ = some (.int .i64 kx) ∧ w'.cell? ⟨a, 7, none⟩ = some (.int .i64 ix) ∧ w'.cell? ⟨a, 8, none⟩ = some (.bool bx) ∧ w'.cell? ⟨a, 9, none⟩ = some (.string sx)) ∧
    (w'.cell? ⟨b, 0, none⟩ = some (.int .i64 kv) ∧ w'.cell? ⟨b, 1, none⟩ = some (.int .i64 iv) ∧ w'.cell? ⟨b, 2, none⟩ = some (.bool bv) ∧ w'.cell? ⟨b, 3, none⟩ = some (.string sv)) := by
  obtain ⟨_, _, z2, z3, z4, z5, z6, z7, z8, z9⟩ := hS.cells
  exact ⟨⟨z2, z3, z4, z5⟩, ⟨z6, z7, z8, z9⟩, hB.cells⟩
set_option maxRecDepth 20000 in
set_option maxHeartbeats 16000000 in
theorem of_any (c : Int) (A : Option Addr) (n cap : Nat) (vs : List Val) (w : World) (hv : VSl w A n vs) (hn : n ≤ maxLen) :
    Calls Tryz.prog 59 #[.int .i64 c, .slice A n cap] w fun e w' => e = .returned (sagg c (stat vs).nulls (stat vs).mn (stat vs).mx) ∧ Below w.heap.size w w' := by
  have hn2 : n < 9223372036854775808 := by have h : maxLen = 9223372036854775807 := rfl; omega
  go_enter Tryz.func59, Tryz.ntmps59
  go_wp2
  go_loopw [12] (fun i wr => ∃ k : Nat, k ≤ n ∧ i = .int .i64 k ∧ SBox wr w.heap.size 0 0 nul nul ∧ SBox wr (w.heap.size + 1) c (stat (vs.take k)).nulls (stat (vs.take k)).mn (stat (vs.take k)).mx ∧ Below w.heap.size w wr)
    (fun i _ => n - (intOf i).toNat)
  case atStart => exact ⟨0, Nat.zero_le _, rfl, (SBox.new _ _ rfl _ _ nul nul).alloc _, SBox.new _ _ (by simp) _ _ nul nul, Vals.two_new _ _⟩
  case round =>
    obtain ⟨k, hk, rfl, hS0, hS, hb⟩ := hrel
    by_cases hlt : k < n
    · have hvr := hv.below hb
      obtain ⟨b1, o1, v, hv1, rfl, hb1, c0, c1, c2, c3⟩ := hvr.at_ hlt
      have hts := take_more hv1
      obtain ⟨e1, e2, e3⟩ : (stat (vs.take (k + 1))).nulls = (if null v then (stat (vs.take k)).nulls + 1 else (stat (vs.take k)).nulls) ∧ (stat (vs.take (k + 1))).mn = lesser (stat (vs.take k)).mn v ∧ (stat (vs.take (k + 1))).mx = greater (stat (vs.take k)).mx v := by rw [hts, stat_snoc]; exact ⟨rfl, rfl, rfl⟩
      have hnl := stat_nulls_le (vs.take k)
      have hlk : (vs.take k).length ≤ k := List.length_take_le _ _
      generalize (stat (vs.take k)).nulls = q at *
      generalize (stat (vs.take k)).mn = mn at *
      generalize (stat (vs.take k)).mx = mx at *
      have hp := plain_any v
      have hnn : null v = ((clean v).k == 0) := by unfold null; by_cases h : (clean v).k = 0 <;> simp [h]
      have hL := lesser_any mn v
      have hG := greater_any mx v
      generalize null v = nv at hnn e1
      generalize hu : clean v = u at hp hnn
      generalize lesser mn v = l at hL e2
      generalize greater mx v = g at hG e3
      obtain ⟨kv, iv, bv, sv⟩ := v
      obtain ⟨ku, iu, bu, su⟩ := u
      obtain ⟨km, im, bm, sm⟩ := mn
      obtain ⟨kx, ix, bx, sx⟩ := mx
      obtain ⟨kl, il, bl, sl⟩ := l
      obtain ⟨kg, ig, bg, sg⟩ := g
      simp only [vagg] at c0 c1 c2 c3 hp hL hG hnn
      have HP := Lib.hid hp; clear hp
      have HL := Lib.hid hL; clear hL
      have HG := Lib.hid hG; clear hG
      have HE := Lib.hid (And.intro e1 (And.intro e2 e3)); clear e1 e2 e3
      have HNN := Lib.hid hnn; clear hnn hu
      have HS0 := Lib.hid hS0; clear hS0
      have HS := Lib.hid hS; clear hS hts hvr
      have hqk : q ≤ k := by omega
      clear hnl hlk
      have hl0 := HS0.out.lt
      have hl1 := HS.out.lt
      obtain ⟨z0, z1, z2, z3, z4, z5, z6, z7, z8, z9⟩ := HS.out.cells
      have zf1 := HS.out.free 1
      simp only [] at z0 z1 z2 z3 z4 z5 z6 z7 z8 z9
      have hfd : ∀ w : World, (Instr.field 71 (.agg #[.int .i64 ku, .int .i64 iu, .bool bu, .string su]) 0).run Tryz.prog w = .ok (.int .i64 ku) w := fun _ => field_k _ _ _ _ _
      by_cases h0 : ku = 0
      · have h0' : (ku == 0) = true := by simp [h0]
        have hE2 : (((stat (vs.take (k + 1))).nulls : Nat) : Int) = ((q : Int) + 1) := by rw [HE.out.1, HNN.out, h0']; rfl
        have HE2 := Lib.hid hE2; clear hE2 h0
        have hwr : IntKind.i64.wrap ((q : Int) + 1) = (q : Int) + 1 := IntWalk.i64_in _ (by omega)
        go_upto_region 7 with (go_at_call 71; with_reducible refine (HP.out _).mono ?_; rintro e w1 ⟨rfl, hb2⟩; clear z0 z1 z2 z3 z4 z5 z6 z7 z8 z9 zf1 c0 c1 c2 c3; have HS1 := Lib.hid ((HS.out.alloc (.cells #[.int .i64 kv, .int .i64 iv, .bool bv, .string sv] 71)).below hb2 (HS.out.alloc _).lt); have HS2 := Lib.hid ((HS0.out.alloc (.cells #[.int .i64 kv, .int .i64 iv, .bool bv, .string sv] 71)).below hb2 (HS0.out.alloc _).lt); have HB1 := Lib.hid ((Box.new wr ⟨kv, iv, bv, sv⟩).below hb2); have HBT := Lib.hid (bthen (hb.alloc hb.size _) hb2 (Nat.le_refl _)); clear hb2; obtain ⟨z0, z1, z2, z3, z4, z5, z6, z7, z8, z9⟩ := HS1.out.cells; have zf1 := HS1.out.free 1; simp only [] at z0 z1 z2 z3 z4 z5 z6 z7 z8 z9)
        generalize hw7 : w1.setCell ⟨w.heap.size + 1, 1, none⟩ (.int .i64 ((q : Int) + 1)) = w7
        have hS7 : SBox w7 (w.heap.size + 1) c ((q : Int) + 1) ⟨km, im, bm, sm⟩ ⟨kx, ix, bx, sx⟩ := by rw [← hw7]; exact HS1.out.put1 _
        have hR7 : SBox w7 w.heap.size 0 0 nul nul := by rw [← hw7]; exact HS2.out.other (by omega)
        have hB7 : Box w7 wr.heap.size ⟨kv, iv, bv, sv⟩ := by rw [← hw7]; exact HB1.out.other (by omega)
        have hb7 : Below w.heap.size w w7 := by rw [← hw7]; exact HBT.out.setCell (p := ⟨w.heap.size + 1, 1, none⟩) (Nat.le_succ _) _
        have hbl := HB1.out.lt
        clear z0 z1 z2 z3 z4 z5 z6 z7 z8 z9 zf1 hw7 HS1 HS2 HB1 HBT
        obtain ⟨z0, z1, z2, z3, z4, z5, z6, z7, z8, z9⟩ := hS7.cells
        obtain ⟨y0, y1, y2, y3⟩ := hB7.cells
        simp only [] at z0 z1 z2 z3 z4 z5 z6 z7 z8 z9 y0 y1 y2 y3
        have HS7 := Lib.hid hS7; clear hS7
        have HR7 := Lib.hid hR7; clear hR7
        have HB7 := Lib.hid hB7; clear hB7
        have HBT := Lib.hid hb7; clear hb7
        clear z0 z1
        have hne : w.heap.size ≠ w.heap.size + 1 := by omega
        refine wp_region_any (by kernel_rfl) ?_
        change wpAny _ _ _ _ _ _ _ (World.drew _)
        refine any_of_L (S := fun w' => (w'.cell? ⟨w.heap.size + 1, 2, none⟩ = some (.int .i64 km) ∧ w'.cell? ⟨w.heap.size + 1, 3, none⟩ = some (.int .i64 im) ∧ w'.cell? ⟨w.heap.size + 1, 4, none⟩ = some (.bool bm) ∧ w'.cell? ⟨w.heap.size + 1, 5, none⟩ = some (.string sm)) ∧
            (w'.cell? ⟨w.heap.size + 1, 6, none⟩ = some (.int .i64 kx) ∧ w'.cell? ⟨w.heap.size + 1, 7, none⟩ = some (.int .i64 ix) ∧ w'.cell? ⟨w.heap.size + 1, 8, none⟩ = some (.bool bx) ∧ w'.cell? ⟨w.heap.size + 1, 9, none⟩ = some (.string sx)) ∧
            (w'.cell? ⟨wr.heap.size, 0, none⟩ = some (.int .i64 kv) ∧ w'.cell? ⟨wr.heap.size, 1, none⟩ = some (.int .i64 iv) ∧ w'.cell? ⟨wr.heap.size, 2, none⟩ = some (.bool bv) ∧ w'.cell? ⟨wr.heap.size, 3, none⟩ = some (.string sv))) (st := [9, 10, 11]) _ _ _ _ ?_
        have hSK := keep12 HS7.out.drew HB7.out.drew
        clear z2 z3 z4 z5 z6 z7 z8 z9 y0 y1 y2 y3
        refine L_take (i := 0) (v := .pointer (some ⟨w.heap.size + 1, 2, none⟩)) rfl (by kernel_rfl) (by kernel_rfl) (by kernel_rfl) (by kernel_rfl) (by kernel_rfl) (by kernel_rfl) (fun _ _ _ h => h) (Or.inl ⟨by rfl, fun w' hS => ?_⟩) hSK ?_
        · obtain ⟨⟨z2, z3, z4, z5⟩, ⟨z6, z7, z8, z9⟩, ⟨y0, y1, y2, y3⟩⟩ := hS
          go_simp
        simp only [Act.put, List.setIfInBounds_toArray]
        refine L_take (i := 1) (v := .agg #[.int .i64 km, .int .i64 im, .bool bm, .string sm]) rfl (by kernel_rfl) (by kernel_rfl) (by kernel_rfl) (by kernel_rfl) (by kernel_rfl) (by kernel_rfl) (fun _ _ _ h => h) (Or.inl ⟨by rfl, fun w' hS => ?_⟩) hSK ?_
        · obtain ⟨⟨z2, z3, z4, z5⟩, ⟨z6, z7, z8, z9⟩, ⟨y0, y1, y2, y3⟩⟩ := hS
          go_simp
        simp only [Act.put]
        refine L_take (i := 2) (v := .agg #[.int .i64 kv, .int .i64 iv, .bool bv, .string sv]) rfl (by kernel_rfl) (by kernel_rfl) (by kernel_rfl) (by kernel_rfl) (by kernel_rfl) (by kernel_rfl) (fun _ _ _ h => h) (Or.inl ⟨by rfl, fun w' hS => ?_⟩) hSK ?_
        · obtain ⟨⟨z2, z3, z4, z5⟩, ⟨z6, z7, z8, z9⟩, ⟨y0, y1, y2, y3⟩⟩ := hS
          go_simp
        simp only [Act.put]
        refine L_take (i := 4) (v := .pointer (some ⟨w.heap.size + 1, 6, none⟩)) rfl (by kernel_rfl) (by kernel_rfl) (by kernel_rfl) (by kernel_rfl) (by kernel_rfl) (by kernel_rfl) (fun _ _ _ h => h) (Or.inl ⟨by rfl, fun w' hS => ?_⟩) hSK ?_
        · obtain ⟨⟨z2, z3, z4, z5⟩, ⟨z6, z7, z8, z9⟩, ⟨y0, y1, y2, y3⟩⟩ := hS
          go_simp
        simp only [Act.put]
        refine L_take (i := 5) (v := .agg #[.int .i64 kx, .int .i64 ix, .bool bx, .string sx]) rfl (by kernel_rfl) (by kernel_rfl) (by kernel_rfl) (by kernel_rfl) (by kernel_rfl) (by kernel_rfl) (fun _ _ _ h => h) (Or.inl ⟨by rfl, fun w' hS => ?_⟩) hSK ?_
        · obtain ⟨⟨z2, z3, z4, z5⟩, ⟨z6, z7, z8, z9⟩, ⟨y0, y1, y2, y3⟩⟩ := hS
          go_simp
        simp only [Act.put]
        refine L_two (i := 3) (j := 6) (by kernel_rfl) rfl rfl (fun K hK => ?_) (fun K hK => ?_)
        · go_simp
          go_wp2_with (go_at_call_of 90 (Value.string sm); with_reducible refine (HL.out _).mono ?_; rintro e wK ⟨rfl, hbK⟩)
          replace HS7 := Lib.hid (HS7.out.drew.below hbK HS7.out.drew.lt)
          replace HB7 := Lib.hid (HB7.out.drew.below hbK)
          replace HR7 := Lib.hid (HR7.out.drew.below hbK HR7.out.drew.lt)
          replace HBT := Lib.hid (bthen HBT.out.drew hbK (Nat.le_refl _))
          clear hSK hbK
          have hSK := keep12 HS7.out HB7.out
          refine hK.out _ _ (fun _ => hSK) ?_
          clear hK K
          refine L_take (i := 8) (v := .pointer (some ⟨w.heap.size + 1, 2, none⟩)) rfl (by kernel_rfl) (by kernel_rfl) (by kernel_rfl) (by kernel_rfl) (by kernel_rfl) (by kernel_rfl) (fun _ _ _ h => h) (Or.inl ⟨by rfl, fun w' hS => ?_⟩) hSK ?_
          · obtain ⟨⟨z2, z3, z4, z5⟩, ⟨z6, z7, z8, z9⟩, ⟨y0, y1, y2, y3⟩⟩ := hS
            go_simp
          simp only [Act.put]
          refine L_one (i := 6) (by kernel_rfl) rfl (fun K hK => ?_)
          obtain ⟨_, _, y0, y1, y2, y3⟩ := id hSK
          go_simp
          refine hK.out _ _ (fun _ => hSK) ?_
          clear hK K y0 y1 y2 y3
          refine L_one (i := 7) (by kernel_rfl) rfl (fun K hK => ?_)
          go_simp
          go_wp2_with (go_at_call_of 90 (Value.string sx); with_reducible refine (HG.out _).mono ?_; rintro e wL ⟨rfl, hbL⟩)
          replace HS7 := Lib.hid (HS7.out.below hbL HS7.out.lt)
          replace HB7 := Lib.hid (HB7.out.below hbL)
          replace HR7 := Lib.hid (HR7.out.below hbL HR7.out.lt)
          replace HBT := Lib.hid (bthen HBT.out hbL (Nat.le_refl _))
          clear hSK hbL
          have hSK := keep12 HS7.out HB7.out
          refine hK.out _ _ (fun _ => hSK) ?_
          clear hK K
          obtain ⟨⟨z2, z3, z4, z5⟩, ⟨z6, z7, z8, z9⟩, _⟩ := hSK
          have zf2 := HS7.out.free 2; have zf3 := HS7.out.free 3; have zf4 := HS7.out.free 4; have zf5 := HS7.out.free 5
          have zf6 := HS7.out.free 6; have zf7 := HS7.out.free 7; have zf8 := HS7.out.free 8; have zf9 := HS7.out.free 9
          refine L_one (i := 9) (by kernel_rfl) rfl (fun K hK => ?_)
          go_simp
          refine hK.out _ _ (fun h => absurd (by simp) h) ?_
          clear hK K
          refine L_one (i := 10) (by kernel_rfl) rfl (fun K hK => ?_)
          go_simp
          refine hK.out _ _ (fun h => absurd (by simp) h) ?_
          clear hK K
          refine L_one (i := 11) (by kernel_rfl) rfl (fun K hK => ?_)
          go_simp
          refine hK.out _ _ (fun h => absurd (by simp) h) ?_
          clear hK K
          refine L_done (by kernel_rfl) ?_
          clear HP HL HG HS HS0
          clear z2 z3 z4 z5 z6 z7 z8 z9 zf2 zf3 zf4 zf5 zf6 zf7 zf8 zf9
          go_wp2
          go_roundw
          case rel => exact ⟨k + 1, by omega, by go_num, (((((((HR7.out.other hne).other hne).other hne).other hne).other hne).other hne).other hne).other hne, by rw [HE2.out, HE.out.2.1, HE.out.2.2]; exact (HS7.out.put2 ⟨kl, il, bl, sl⟩).put3 ⟨kg, ig, bg, sg⟩, below_put4 (below_put4 HBT.out (Nat.le_succ _) 2 3 4 5 _ _ _ _) (Nat.le_succ _) 6 7 8 9 _ _ _ _⟩
          case measure => simp [intOf]; omega
        · obtain ⟨_, _, y0, y1, y2, y3⟩ := id hSK
          go_simp
          refine hK.out _ _ (fun _ => hSK) ?_
          clear hK K y0 y1 y2 y3
          refine L_one (i := 3) (by kernel_rfl) rfl (fun K hK => ?_)
          go_simp
          go_wp2_with (go_at_call_of 90 (Value.string sm); with_reducible refine (HL.out _).mono ?_; rintro e wK ⟨rfl, hbK⟩)
          replace HS7 := Lib.hid (HS7.out.drew.below hbK HS7.out.drew.lt)
          replace HB7 := Lib.hid (HB7.out.drew.below hbK)
          replace HR7 := Lib.hid (HR7.out.drew.below hbK HR7.out.drew.lt)
          replace HBT := Lib.hid (bthen HBT.out.drew hbK (Nat.le_refl _))
          clear hSK hbK
          have hSK := keep12 HS7.out HB7.out
          refine hK.out _ _ (fun _ => hSK) ?_
          clear hK K
          refine L_take (i := 8) (v := .pointer (some ⟨w.heap.size + 1, 2, none⟩)) rfl (by kernel_rfl) (by kernel_rfl) (by kernel_rfl) (by kernel_rfl) (by kernel_rfl) (by kernel_rfl) (fun _ _ _ h => h) (Or.inl ⟨by rfl, fun w' hS => ?_⟩) hSK ?_
          · obtain ⟨⟨z2, z3, z4, z5⟩, ⟨z6, z7, z8, z9⟩, ⟨y0, y1, y2, y3⟩⟩ := hS
            go_simp
          simp only [Act.put]
          refine L_one (i := 7) (by kernel_rfl) rfl (fun K hK => ?_)
          go_simp
          go_wp2_with (go_at_call_of 90 (Value.string sx); with_reducible refine (HG.out _).mono ?_; rintro e wL ⟨rfl, hbL⟩)
          replace HS7 := Lib.hid (HS7.out.below hbL HS7.out.lt)
          replace HB7 := Lib.hid (HB7.out.below hbL)
          replace HR7 := Lib.hid (HR7.out.below hbL HR7.out.lt)
          replace HBT := Lib.hid (bthen HBT.out hbL (Nat.le_refl _))
          clear hSK hbL
          have hSK := keep12 HS7.out HB7.out
          refine hK.out _ _ (fun _ => hSK) ?_
          clear hK K
          obtain ⟨⟨z2, z3, z4, z5⟩, ⟨z6, z7, z8, z9⟩, _⟩ := hSK
          have zf2 := HS7.out.free 2; have zf3 := HS7.out.free 3; have zf4 := HS7.out.free 4; have zf5 := HS7.out.free 5
          have zf6 := HS7.out.free 6; have zf7 := HS7.out.free 7; have zf8 := HS7.out.free 8; have zf9 := HS7.out.free 9
          refine L_one (i := 9) (by kernel_rfl) rfl (fun K hK => ?_)
          go_simp
          refine hK.out _ _ (fun h => absurd (by simp) h) ?_
          clear hK K
          refine L_one (i := 10) (by kernel_rfl) rfl (fun K hK => ?_)
          go_simp
          refine hK.out _ _ (fun h => absurd (by simp) h) ?_
          clear hK K
          refine L_one (i := 11) (by kernel_rfl) rfl (fun K hK => ?_)
          go_simp
          refine hK.out _ _ (fun h => absurd (by simp) h) ?_
          clear hK K
          refine L_done (by kernel_rfl) ?_
          clear HP HL HG HS HS0
          clear z2 z3 z4 z5 z6 z7 z8 z9 zf2 zf3 zf4 zf5 zf6 zf7 zf8 zf9
          go_wp2
          go_roundw
          case rel => exact ⟨k + 1, by omega, by go_num, (((((((HR7.out.other hne).other hne).other hne).other hne).other hne).other hne).other hne).other hne, by rw [HE2.out, HE.out.2.1, HE.out.2.2]; exact (HS7.out.put2 ⟨kl, il, bl, sl⟩).put3 ⟨kg, ig, bg, sg⟩, below_put4 (below_put4 HBT.out (Nat.le_succ _) 2 3 4 5 _ _ _ _) (Nat.le_succ _) 6 7 8 9 _ _ _ _⟩
          case measure => simp [intOf]; omega
      · have h0' : (ku == 0) = false := by simpa using h0
        have hE2 : (((stat (vs.take (k + 1))).nulls : Nat) : Int) = (q : Int) := by rw [HE.out.1, HNN.out, h0']; rfl
        have HE2 := Lib.hid hE2; clear hE2 h0
        have hwr : IntKind.i64.wrap ((q : Int) + 1) = (q : Int) + 1 := IntWalk.i64_in _ (by omega)
        go_upto_region 7 with (go_at_call 71; with_reducible refine (HP.out _).mono ?_; rintro e w1 ⟨rfl, hb2⟩; clear z0 z1 z2 z3 z4 z5 z6 z7 z8 z9 zf1 c0 c1 c2 c3; have HS1 := Lib.hid ((HS.out.alloc (.cells #[.int .i64 kv, .int .i64 iv, .bool bv, .string sv] 71)).below hb2 (HS.out.alloc _).lt); have HS2 := Lib.hid ((HS0.out.alloc (.cells #[.int .i64 kv, .int .i64 iv, .bool bv, .string sv] 71)).below hb2 (HS0.out.alloc _).lt); have HB1 := Lib.hid ((Box.new wr ⟨kv, iv, bv, sv⟩).below hb2); have HBT := Lib.hid (bthen (hb.alloc hb.size _) hb2 (Nat.le_refl _)); clear hb2; obtain ⟨z0, z1, z2, z3, z4, z5, z6, z7, z8, z9⟩ := HS1.out.cells; have zf1 := HS1.out.free 1; simp only [] at z0 z1 z2 z3 z4 z5 z6 z7 z8 z9)
        generalize hw7 : w1 = w7
        have hS7 : SBox w7 (w.heap.size + 1) c (q : Int) ⟨km, im, bm, sm⟩ ⟨kx, ix, bx, sx⟩ := by rw [← hw7]; exact HS1.out
        have hR7 : SBox w7 w.heap.size 0 0 nul nul := by rw [← hw7]; exact HS2.out
        have hB7 : Box w7 wr.heap.size ⟨kv, iv, bv, sv⟩ := by rw [← hw7]; exact HB1.out
        have hb7 : Below w.heap.size w w7 := by rw [← hw7]; exact HBT.out
        have hbl := HB1.out.lt
        clear z0 z1 z2 z3 z4 z5 z6 z7 z8 z9 zf1 hw7 HS1 HS2 HB1 HBT
        obtain ⟨z0, z1, z2, z3, z4, z5, z6, z7, z8, z9⟩ := hS7.cells
        obtain ⟨y0, y1, y2, y3⟩ := hB7.cells
        simp only [] at z0 z1 z2 z3 z4 z5 z6 z7 z8 z9 y0 y1 y2 y3
        have HS7 := Lib.hid hS7; clear hS7
        have HR7 := Lib.hid hR7; clear hR7
        have HB7 := Lib.hid hB7; clear hB7
        have HBT := Lib.hid hb7; clear hb7
        clear z0 z1
        have hne : w.heap.size ≠ w.heap.size + 1 := by omega
        refine wp_region_any (by kernel_rfl) ?_
        change wpAny _ _ _ _ _ _ _ (World.drew _)
        refine any_of_L (S := fun w' => (w'.cell? ⟨w.heap.size + 1, 2, none⟩ = some (.int .i64 km) ∧ w'.cell? ⟨w.heap.size + 1, 3, none⟩ = some (.int .i64 im) ∧ w'.cell? ⟨w.heap.size + 1, 4, none⟩ = some (.bool bm) ∧ w'.cell? ⟨w.heap.size + 1, 5, none⟩ = some (.string sm)) ∧
            (w'.cell? ⟨w.heap.size + 1, 6, none⟩ = some (.int .i64 kx) ∧ w'.cell? ⟨w.heap.size + 1, 7, none⟩ = some (.int .i64 ix) ∧ w'.cell? ⟨w.heap.size + 1, 8, none⟩ = some (.bool bx) ∧ w'.cell? ⟨w.heap.size + 1, 9, none⟩ = some (.string sx)) ∧
            (w'.cell? ⟨wr.heap.size, 0, none⟩ = some (.int .i64 kv) ∧ w'.cell? ⟨wr.heap.size, 1, none⟩ = some (.int .i64 iv) ∧ w'.cell? ⟨wr.heap.size, 2, none⟩ = some (.bool bv) ∧ w'.cell? ⟨wr.heap.size, 3, none⟩ = some (.string sv))) (st := [9, 10, 11]) _ _ _ _ ?_
        have hSK := keep12 HS7.out.drew HB7.out.drew
        clear z2 z3 z4 z5 z6 z7 z8 z9 y0 y1 y2 y3
        refine L_take (i := 0) (v := .pointer (some ⟨w.heap.size + 1, 2, none⟩)) rfl (by kernel_rfl) (by kernel_rfl) (by kernel_rfl) (by kernel_rfl) (by kernel_rfl) (by kernel_rfl) (fun _ _ _ h => h) (Or.inl ⟨by rfl, fun w' hS => ?_⟩) hSK ?_
        · obtain ⟨⟨z2, z3, z4, z5⟩, ⟨z6, z7, z8, z9⟩, ⟨y0, y1, y2, y3⟩⟩ := hS
          go_simp
        simp only [Act.put, List.setIfInBounds_toArray]
        refine L_take (i := 1) (v := .agg #[.int .i64 km, .int .i64 im, .bool bm, .string sm]) rfl (by kernel_rfl) (by kernel_rfl) (by kernel_rfl) (by kernel_rfl) (by kernel_rfl) (by kernel_rfl) (fun _ _ _ h => h) (Or.inl ⟨by rfl, fun w' hS => ?_⟩) hSK ?_
        · obtain ⟨⟨z2, z3, z4, z5⟩, ⟨z6, z7, z8, z9⟩, ⟨y0, y1, y2, y3⟩⟩ := hS
          go_simp
        simp only [Act.put]
        refine L_take (i := 2) (v := .agg #[.int .i64 kv, .int .i64 iv, .bool bv, .string sv]) rfl (by kernel_rfl) (by kernel_rfl) (by kernel_rfl) (by kernel_rfl) (by kernel_rfl) (by kernel_rfl) (fun _ _ _ h => h) (Or.inl ⟨by rfl, fun w' hS => ?_⟩) hSK ?_
        · obtain ⟨⟨z2, z3, z4, z5⟩, ⟨z6, z7, z8, z9⟩, ⟨y0, y1, y2, y3⟩⟩ := hS
          go_simp
        simp only [Act.put]
        refine L_take (i := 4) (v := .pointer (some ⟨w.heap.size + 1, 6, none⟩)) rfl (by kernel_rfl) (by kernel_rfl) (by kernel_rfl) (by kernel_rfl) (by kernel_rfl) (by kernel_rfl) (fun _ _ _ h => h) (Or.inl ⟨by rfl, fun w' hS => ?_⟩) hSK ?_
        · obtain ⟨⟨z2, z3, z4, z5⟩, ⟨z6, z7, z8, z9⟩, ⟨y0, y1, y2, y3⟩⟩ := hS
          go_simp
        simp only [Act.put]
        refine L_take (i := 5) (v := .agg #[.int .i64 kx, .int .i64 ix, .bool bx, .string sx]) rfl (by kernel_rfl) (by kernel_rfl) (by kernel_rfl) (by kernel_rfl) (by kernel_rfl) (by kernel_rfl) (fun _ _ _ h => h) (Or.inl ⟨by rfl, fun w' hS => ?_⟩) hSK ?_
        · obtain ⟨⟨z2, z3, z4, z5⟩, ⟨z6, z7, z8, z9⟩, ⟨y0, y1, y2, y3⟩⟩ := hS
          go_simp
        simp only [Act.put]
        refine L_two (i := 3) (j := 6) (by kernel_rfl) rfl rfl (fun K hK => ?_) (fun K hK => ?_)
        · go_simp
          go_wp2_with (go_at_call_of 90 (Value.string sm); with_reducible refine (HL.out _).mono ?_; rintro e wK ⟨rfl, hbK⟩)
          replace HS7 := Lib.hid (HS7.out.drew.below hbK HS7.out.drew.lt)
          replace HB7 := Lib.hid (HB7.out.drew.below hbK)
          replace HR7 := Lib.hid (HR7.out.drew.below hbK HR7.out.drew.lt)
          replace HBT := Lib.hid (bthen HBT.out.drew hbK (Nat.le_refl _))
          clear hSK hbK
          have hSK := keep12 HS7.out HB7.out
          refine hK.out _ _ (fun _ => hSK) ?_
          clear hK K
          refine L_take (i := 8) (v := .pointer (some ⟨w.heap.size + 1, 2, none⟩)) rfl (by kernel_rfl) (by kernel_rfl) (by kernel_rfl) (by kernel_rfl) (by kernel_rfl) (by kernel_rfl) (fun _ _ _ h => h) (Or.inl ⟨by rfl, fun w' hS => ?_⟩) hSK ?_
          · obtain ⟨⟨z2, z3, z4, z5⟩, ⟨z6, z7, z8, z9⟩, ⟨y0, y1, y2, y3⟩⟩ := hS
            go_simp
          simp only [Act.put]
          refine L_one (i := 6) (by kernel_rfl) rfl (fun K hK => ?_)
          obtain ⟨_, _, y0, y1, y2, y3⟩ := id hSK
          go_simp
          refine hK.out _ _ (fun _ => hSK) ?_
          clear hK K y0 y1 y2 y3
          refine L_one (i := 7) (by kernel_rfl) rfl (fun K hK => ?_)
          go_simp
          go_wp2_with (go_at_call_of 90 (Value.string sx); with_reducible refine (HG.out _).mono ?_; rintro e wL ⟨rfl, hbL⟩)
          replace HS7 := Lib.hid (HS7.out.below hbL HS7.out.lt)
          replace HB7 := Lib.hid (HB7.out.below hbL)
          replace HR7 := Lib.hid (HR7.out.below hbL HR7.out.lt)
          replace HBT := Lib.hid (bthen HBT.out hbL (Nat.le_refl _))
          clear hSK hbL
          have hSK := keep12 HS7.out HB7.out
          refine hK.out _ _ (fun _ => hSK) ?_
          clear hK K
          obtain ⟨⟨z2, z3, z4, z5⟩, ⟨z6, z7, z8, z9⟩, _⟩ := hSK
          have zf2 := HS7.out.free 2; have zf3 := HS7.out.free 3; have zf4 := HS7.out.free 4; have zf5 := HS7.out.free 5
          have zf6 := HS7.out.free 6; have zf7 := HS7.out.free 7; have zf8 := HS7.out.free 8; have zf9 := HS7.out.free 9
          refine L_one (i := 9) (by kernel_rfl) rfl (fun K hK => ?_)
          go_simp
          refine hK.out _ _ (fun h => absurd (by simp) h) ?_
          clear hK K
          refine L_one (i := 10) (by kernel_rfl) rfl (fun K hK => ?_)
          go_simp
          refine hK.out _ _ (fun h => absurd (by simp) h) ?_
          clear hK K
          refine L_one (i := 11) (by kernel_rfl) rfl (fun K hK => ?_)
          go_simp
          refine hK.out _ _ (fun h => absurd (by simp) h) ?_
          clear hK K
          refine L_done (by kernel_rfl) ?_
          clear HP HL HG HS HS0
          clear z2 z3 z4 z5 z6 z7 z8 z9 zf2 zf3 zf4 zf5 zf6 zf7 zf8 zf9
          go_wp2
          go_roundw
          case rel => exact ⟨k + 1, by omega, by go_num, (((((((HR7.out.other hne).other hne).other hne).other hne).other hne).other hne).other hne).other hne, by rw [HE2.out, HE.out.2.1, HE.out.2.2]; exact (HS7.out.put2 ⟨kl, il, bl, sl⟩).put3 ⟨kg, ig, bg, sg⟩, below_put4 (below_put4 HBT.out (Nat.le_succ _) 2 3 4 5 _ _ _ _) (Nat.le_succ _) 6 7 8 9 _ _ _ _⟩
          case measure => simp [intOf]; omega
        · obtain ⟨_, _, y0, y1, y2, y3⟩ := id hSK
          go_simp
          refine hK.out _ _ (fun _ => hSK) ?_
          clear hK K y0 y1 y2 y3
          refine L_one (i := 3) (by kernel_rfl) rfl (fun K hK => ?_)
          go_simp
          go_wp2_with (go_at_call_of 90 (Value.string sm); with_reducible refine (HL.out _).mono ?_; rintro e wK ⟨rfl, hbK⟩)
          replace HS7 := Lib.hid (HS7.out.drew.below hbK HS7.out.drew.lt)
          replace HB7 := Lib.hid (HB7.out.drew.below hbK)
          replace HR7 := Lib.hid (HR7.out.drew.below hbK HR7.out.drew.lt)
          replace HBT := Lib.hid (bthen HBT.out.drew hbK (Nat.le_refl _))
          clear hSK hbK
          have hSK := keep12 HS7.out HB7.out
          refine hK.out _ _ (fun _ => hSK) ?_
          clear hK K
          refine L_take (i := 8) (v := .pointer (some ⟨w.heap.size + 1, 2, none⟩)) rfl (by kernel_rfl) (by kernel_rfl) (by kernel_rfl) (by kernel_rfl) (by kernel_rfl) (by kernel_rfl) (fun _ _ _ h => h) (Or.inl ⟨by rfl, fun w' hS => ?_⟩) hSK ?_
          · obtain ⟨⟨z2, z3, z4, z5⟩, ⟨z6, z7, z8, z9⟩, ⟨y0, y1, y2, y3⟩⟩ := hS
            go_simp
          simp only [Act.put]
          refine L_one (i := 7) (by kernel_rfl) rfl (fun K hK => ?_)
          go_simp
          go_wp2_with (go_at_call_of 90 (Value.string sx); with_reducible refine (HG.out _).mono ?_; rintro e wL ⟨rfl, hbL⟩)
          replace HS7 := Lib.hid (HS7.out.below hbL HS7.out.lt)
          replace HB7 := Lib.hid (HB7.out.below hbL)
          replace HR7 := Lib.hid (HR7.out.below hbL HR7.out.lt)
          replace HBT := Lib.hid (bthen HBT.out hbL (Nat.le_refl _))
          clear hSK hbL
          have hSK := keep12 HS7.out HB7.out
          refine hK.out _ _ (fun _ => hSK) ?_
          clear hK K
          obtain ⟨⟨z2, z3, z4, z5⟩, ⟨z6, z7, z8, z9⟩, _⟩ := hSK
          have zf2 := HS7.out.free 2; have zf3 := HS7.out.free 3; have zf4 := HS7.out.free 4; have zf5 := HS7.out.free 5
          have zf6 := HS7.out.free 6; have zf7 := HS7.out.free 7; have zf8 := HS7.out.free 8; have zf9 := HS7.out.free 9
          refine L_one (i := 9) (by kernel_rfl) rfl (fun K hK => ?_)
          go_simp
          refine hK.out _ _ (fun h => absurd (by simp) h) ?_
          clear hK K
          refine L_one (i := 10) (by kernel_rfl) rfl (fun K hK => ?_)
          go_simp
          refine hK.out _ _ (fun h => absurd (by simp) h) ?_
          clear hK K
          refine L_one (i := 11) (by kernel_rfl) rfl (fun K hK => ?_)
          go_simp
          refine hK.out _ _ (fun h => absurd (by simp) h) ?_
          clear hK K
          refine L_done (by kernel_rfl) ?_
          clear HP HL HG HS HS0
          clear z2 z3 z4 z5 z6 z7 z8 z9 zf2 zf3 zf4 zf5 zf6 zf7 zf8 zf9
          go_wp2
          go_roundw
          case rel => exact ⟨k + 1, by omega, by go_num, (((((((HR7.out.other hne).other hne).other hne).other hne).other hne).other hne).other hne).other hne, by rw [HE2.out, HE.out.2.1, HE.out.2.2]; exact (HS7.out.put2 ⟨kl, il, bl, sl⟩).put3 ⟨kg, ig, bg, sg⟩, below_put4 (below_put4 HBT.out (Nat.le_succ _) 2 3 4 5 _ _ _ _) (Nat.le_succ _) 6 7 8 9 _ _ _ _⟩
          case measure => simp [intOf]; omega
    · obtain rfl : n = k := by omega
      have htk : vs.take n = vs := List.take_of_length_le (by rw [hv.1]; exact Nat.le_refl _)
      rw [htk] at hS
      obtain ⟨z0, z1, z2, z3, z4, z5, z6, z7, z8, z9⟩ := hS.cells
      obtain ⟨y0, y1, y2, y3, y4, y5, y6, y7, y8, y9⟩ := hS0.cells
      have yf0 := hS0.free 0; have yf1 := hS0.free 1; have yf2 := hS0.free 2; have yf3 := hS0.free 3; have yf4 := hS0.free 4
      have yf5 := hS0.free 5; have yf6 := hS0.free 6; have yf7 := hS0.free 7; have yf8 := hS0.free 8; have yf9 := hS0.free 9
      have HS0 := Lib.hid hS0; clear hS0 hS hv htk
      go_wp2
      exact ret_sbox (HS0.out.put c _ _ _) rfl rfl rfl ⟨rfl, below_put10 hb (Nat.le_refl _) _ _ _ _ _ _ _ _ _ _⟩
end Go.Proofs.YtgmemdedpklnhaaGreat.Stats
