/-
  Lemmas of this claim, text behind text: CutR, VecRef, VecMap. Each states its own conditions.
-/
import Derived.Maps.RangeWalk
import Derived.Test.YtgmemdedpklnhaaGreatPart01
import Derived.Test.YtgmemdedpklnhaaGreatPart03
import Derived.Test.YtgmemdedpklnhaaGreatPart05
import Derived.Test.YtgmemdedpklnhaaGreatPart06

/-
  THE WALK of the document's own Cut.
-/




namespace Go.Proofs.YtgmemdedpklnhaaGreat.Runs
open Go.RowKit ValMath Vals Sl

/-- The last run, where it lies. -/
theorem runs_last {W : World} {B : Nat} {v u : Value} {acc : List (Nat × Val)} {m : Nat} {x : Val} (hI : OwnI W B v (counts (acc ++ [(m, x)]))) (hV : OwnV W B u (vals (acc ++ [(m, x)]))) :
    ∃ g1 c1 g2 c2, v = .slice (some ⟨g1, 0, none⟩) (acc.length + 1) c1 ∧ u = .slice (some ⟨g2, 0, none⟩) (acc.length + 1) c2 ∧ B ≤ g1 ∧ g1 < W.heap.size ∧ B ≤ g2 ∧ g2 < W.heap.size ∧
      W.frozen? ⟨g1, acc.length, none⟩ = false ∧ W.cell? ⟨g1, acc.length, none⟩ = some (.int .i64 m) ∧
      (W.cell? ⟨g2, acc.length * 4, none⟩ = some (.int .i64 x.k) ∧ W.cell? ⟨g2, acc.length * 4 + 1, none⟩ = some (.int .i64 x.i) ∧ W.cell? ⟨g2, acc.length * 4 + 2, none⟩ = some (.bool x.b) ∧ W.cell? ⟨g2, acc.length * 4 + 3, none⟩ = some (.string x.s)) := by
  have hcl : (counts (acc ++ [(m, x)])).length = acc.length + 1 := by simp [counts]
  have hvl : (vals (acc ++ [(m, x)])).length = acc.length + 1 := by simp [vals]
  obtain ⟨A1, c1, rfl, _, _, h1⟩ := hI.form hcl
  obtain ⟨g1, rfl, a1, a2, hf, hc⟩ := h1 (by omega)
  obtain ⟨g2, c2, rfl⟩ : ∃ g2 c2, u = .slice (some ⟨g2, 0, none⟩) (acc.length + 1) c2 := by
    rcases hV.2 with ⟨_, h0⟩ | ⟨g, k, cur, e, _⟩
    · omega
    · exact ⟨g, k, by rw [e, hvl]⟩
  have hb := own_base_of hV
  have hs := hV.sl hvl
  obtain ⟨b, o, x', hx', hA, _, d0, d1, d2, d3⟩ := hs.at_ (k := acc.length) (by omega)
  injection hA with hA; injection hA with e1 e2; subst e1; subst e2
  have hxx : x' = x := by
    rw [vals_append, List.getElem?_append_right (by rw [vals_length]; omega), vals_length] at hx'
    simpa [vals] using hx'.symm
  subst hxx
  simp only [Nat.zero_add] at d0 d1 d2 d3
  refine ⟨g1, c1, g2, c2, rfl, rfl, a1, a2, hb.1, hb.2, hf _, ?_, d0, d1, d2, d3⟩
  rw [hc acc.length (by omega)]
  simp [counts]

set_option maxRecDepth 20000 in
set_option maxHeartbeats 1000000 in
theorem cutR_any (A : Option Addr) (n c : Nat) (vs : List Val) (w : World) (hv : VSl w A n vs) (hn : n * 40 ≤ 140737488355280) (hs : ∀ v ∈ vs, v.s.size ≤ maxLen) :
    Calls Tryz.prog 97 #[.slice A n c] w fun e w' => ∃ u1 u2, e = .returned (.tuple #[u1, u2]) ∧ OwnI w' w.heap.size u1 (counts (cut vs)) ∧ OwnV w' w.heap.size u2 (vals (cut vs)) ∧ Below w.heap.size w w' := by
  go_enter Tryz.func97, Tryz.ntmps97
  go_wp2
  go_loopw [4, 5, 6] (fun v4 v5 i wr => ∃ k : Nat, k ≤ n ∧ i = .int .i64 k ∧ OwnI wr w.heap.size v4 (counts (cut (vs.take k))) ∧ OwnV wr w.heap.size v5 (vals (cut (vs.take k))) ∧ Below w.heap.size w wr)
    (fun _ _ i _ => n - (intOf i).toNat)
  case atStart => exact ⟨0, Nat.zero_le _, rfl, OwnI.nil _ _, OwnV.nil _ _, Below.refl _ _⟩
  case round =>
    obtain ⟨k, hk, rfl, hI, hV, hb⟩ := hrel
    by_cases hlt : k < n
    · obtain ⟨b1, o1, v, hv1, rfl, hb1, c0, c1, c2, c3⟩ := hv.at_ hlt
      have hts := take_more hv1
      have hcs : cut (vs.take (k + 1)) = push (cut (vs.take k)) v := by rw [hts, cut_snoc]
      have hlen := cut_length (vs.take k)
      have hlk : (vs.take k).length ≤ k := List.length_take_le _ _
      have hbc := (bcell hb).1
      have hsz := hb.size
      have hp := clean_any v
      have hcc := cut_clean (vs.take k)
      have hvs := hs v (List.mem_of_getElem? hv1)
      have hxs : ∀ p ∈ cut (vs.take k), p.2.s.size ≤ maxLen := fun p hp => by
        obtain ⟨u, hu, e⟩ := cut_mem (vs.take k) p hp
        rw [← e]
        exact Nat.le_trans (clean_size u) (hs u (List.mem_of_mem_take hu))
      generalize hacc : cut (vs.take k) = acc at hI hV hcs hlen hcc hxs
      have HCS := Lib.hid hcs; clear hcs
      have HAcc := Lib.hid hacc; clear hacc
      have HV0 := Lib.hid hv; clear hv
      clear hv1 hts
      rcases List.eq_nil_or_concat acc with rfl | ⟨acc', ⟨m, x⟩, rfl⟩
      · obtain ⟨A1, c1', rfl, _, _, _⟩ := hI.form (n := 0) rfl
        obtain ⟨A2, c2', rfl, _, _⟩ := hV.form' (n := 0) rfl
        have hE : cut (vs.take (k + 1)) = ([] : List (Nat × Val)) ++ [(1, clean v)] := by rw [HCS.out]; exact push_other (lastIs_nil _)
        generalize clean v = u at hE hp
        obtain ⟨kv, iv, bv, sv⟩ := v
        obtain ⟨ku, iu, bu, su⟩ := u
        simp only [] at c0 c1 c2 c3 hp
        have HP := Lib.hid hp; clear hp
        have HE := Lib.hid hE; clear hE HCS hcc hxs hvs
        have HI := Lib.hid hI; clear hI
        have HV := Lib.hid hV; clear hV
        go_wp2
        go_quiet (fail)
        have HIz := Lib.hid (HI.out.drewN nq); clear HI
        have HVz := Lib.hid (HV.out.drewN nq); clear HV
        have hbz := below_drewN hb nq
        clear hb hbc hsz
        generalize wr.drewN nq = wz at *
        have hbc := (bcell hbz).1
        have hsz := hbz.size
        have hl1 : (counts ([] : List (Nat × Val))).length < few := by rw [counts_length]; unfold few; have := hlen; omega
        have hl2 : (vals ([] : List (Nat × Val))).length < few := by rw [vals_length]; unfold few; have := hlen; omega
        go_wp2_with (first
          | (refine wpList_push_int rfl _ _ rfl w.heap.size (Value.slice A1 0 c1') (counts ([] : List (Nat × Val))) 1 wz.heap.size 1 rfl rfl (t := 3) (fr := (0, 0)) (heap_alloc_new wz _) (HIz.out.alloc _) hl1 (Below.size (hbz.alloc hbz.size _)) ?_; intro u1 wA hA hgA hatA; have hVA := (HVz.out.alloc _).keepI (HIz.out.alloc _) hgA; have hbA := (hbz.alloc hbz.size _).grown hgA (Below.size (hbz.alloc hbz.size _)) (own_base HIz.out); have hbcA := (bcell hbA).1; have hszA := hbA.size; have HA1 := Lib.hid hA; have HV1 := Lib.hid hVA; clear hA hVA hgA hatA)
          | (go_at_call 66; with_reducible refine (HP.out _).mono ?_; rintro e w2 ⟨rfl, hb2⟩; have hbB := bthen hbA hb2 (Nat.le_refl _); have hszB := hbB.size)
          | (refine wpList_push_val rfl _ _ rfl w.heap.size (Value.slice A2 0 c2') (vals ([] : List (Nat × Val))) ⟨ku, iu, bu, su⟩ w2.heap.size 1 rfl rfl (t := 71) (fr := (0, 0)) (heap_alloc_new w2 _) ((HV1.out.below hb2).alloc _) hl2 (Below.size (hbB.alloc hbB.size _)) ?_; intro u2 wB hB hgB hatB; have hIB := ((HA1.out.below hb2).alloc _).keepV ((HV1.out.below hb2).alloc _) hgB; have hbC := (hbB.alloc hbB.size _).grown hgB (Below.size (hbB.alloc hbB.size _)) (own_base (HV1.out.below hb2)); have HB := Lib.hid hB; have HIB := Lib.hid hIB; clear hB hIB hgB hatB))
        go_roundw
        case rel => exact ⟨k + 1, by omega, by go_num, by rw [HE.out, counts_append]; exact HIB.out, by rw [HE.out, vals_append]; exact HB.out, hbC⟩
        case measure => simp [intOf]; omega
      · rw [List.concat_eq_append] at *
        obtain ⟨g1, c1', g2, c2', rfl, rfl, hB1, hg1, hB2, hg2, hfr, hic, d0, d1, d2, d3⟩ := runs_last hI hV
        have hmk : m ≤ k := by
          have := (cut_counts (vs.take k) (m, x) (by rw [HAcc.out]; simp)).2
          omega
        have hxc : clean x = x := hcc (m, x) (by simp)
        have hxs : x.s.size ≤ maxLen := hxs (m, x) (by simp)
        have hK := cmp_any x v
        have hcz := cmp_zero x v
        rw [hxc] at hcz
        have hl0 : acc'.length + 1 ≤ n := by simp at hlen; omega
        have hw1 : IntKind.i64.wrap ((acc'.length : Int) + 1 - 1) = (acc'.length : Int) := by rw [show (acc'.length : Int) + 1 - 1 = (acc'.length : Int) by omega]; exact IntWalk.i64_in _ (by omega)
        have hw6 : IntKind.i64.wrap (acc'.length : Int) = (acc'.length : Int) := IntWalk.i64_in _ (by omega)
        have hw2 : (0 : Int) ≤ (acc'.length : Int) := by omega
        have hw3 : (acc'.length : Int) < (acc'.length : Int) + 1 := by omega
        have hw4 : (0 : Int) ≤ (k : Int) := by omega
        have hw5 : (k : Int) < (n : Int) := by omega
        by_cases he : x = clean v
        · have hE : cut (vs.take (k + 1)) = acc' ++ [(m + 1, x)] := by rw [HCS.out]; exact push_same he
          have hC := hcz.2 he
          have hK := fun w => hK w hxs hvs
          rw [hC] at hK
          obtain ⟨kv, iv, bv, sv⟩ := v
          obtain ⟨kx, ix, bx, sx⟩ := x
          simp only [] at c0 c1 c2 c3 d0 d1 d2 d3 hK
          have hx4 : At4 wr g2 (acc'.length * 4) ⟨kx, ix, bx, sx⟩ := ⟨d0, d1, d2, d3⟩
          have hv4 : At4 wr b1 (o1 + k * 4) ⟨kv, iv, bv, sv⟩ := At4.below ⟨c0, c1, c2, c3⟩ hb hb1
          have hb1' : b1 < wr.heap.size := by omega
          have HX4 := Lib.hid (And.intro hx4 hv4); clear hx4 hv4
          have HK := Lib.hid hK; clear hK
          have HE := Lib.hid hE; clear hE HCS hcc hp hxs hvs he hC hcz hxc
          have HI := Lib.hid hI; clear hI
          have HV := Lib.hid hV; clear hV
          go_wp2
          go_region_held3 (fun w' => (w'.cell? ⟨g2, acc'.length * 4, none⟩ = some (.int .i64 kx) ∧ w'.cell? ⟨g2, acc'.length * 4 + 1, none⟩ = some (.int .i64 ix) ∧ w'.cell? ⟨g2, acc'.length * 4 + 2, none⟩ = some (.bool bx) ∧ w'.cell? ⟨g2, acc'.length * 4 + 3, none⟩ = some (.string sx)) ∧
              (w'.cell? ⟨b1, o1 + k * 4, none⟩ = some (.int .i64 kv) ∧ w'.cell? ⟨b1, o1 + k * 4 + 1, none⟩ = some (.int .i64 iv) ∧ w'.cell? ⟨b1, o1 + k * 4 + 2, none⟩ = some (.bool bv) ∧ w'.cell? ⟨b1, o1 + k * 4 + 3, none⟩ = some (.string sv)))
            (first | go_keep | exact ⟨HX4.out.1.drew.below hbK hg2, HX4.out.2.drew.below hbK hb1'⟩)
            ((first | (go_at_call 69; with_reducible refine (HK.out _).mono ?_; rintro e w1 ⟨rfl, hbK⟩)))
          have hic1 : w1.cell? ⟨g1, acc'.length, none⟩ = some (.int .i64 m) := (hbK.cell (p := ⟨g1, acc'.length, none⟩) hg1).trans hic
          have hfr1 : w1.frozen? ⟨g1, acc'.length, none⟩ = false := (hbK.frozen (p := ⟨g1, acc'.length, none⟩) hg1).trans hfr
          have R := rel_inc (W := w1) rfl (HI.out.drew.below hbK) (HV.out.drew.below hbK)
          have HR := Lib.hid R; clear R HX4 hic hfr hbc c0 c1 c2 c3 d0 d1 d2 d3
          have hbb := bthen hb.drew hbK (Nat.le_refl _)
          go_wp2
          go_roundw
          case rel => exact ⟨k + 1, by omega, by go_num, by rw [HE.out]; exact HR.out.1, by rw [HE.out]; exact HR.out.2, hbb.setCell (p := ⟨g1, acc'.length, none⟩) hB1 _⟩
          case measure => simp [intOf]; omega
        · have hE : cut (vs.take (k + 1)) = acc' ++ [(m, x)] ++ [(1, clean v)] := by rw [HCS.out]; exact push_other (by rw [lastIs_snoc]; simpa using he)
          have hC : cmp x v ≠ 0 := fun e => he (hcz.1 e)
          have hK := fun w => hK w hxs hvs
          generalize cmp x v = r at hC hK
          generalize clean v = u at hE hp
          obtain ⟨kv, iv, bv, sv⟩ := v
          obtain ⟨ku, iu, bu, su⟩ := u
          obtain ⟨kx, ix, bx, sx⟩ := x
          simp only [] at c0 c1 c2 c3 d0 d1 d2 d3 hK hp
          have hC : (r == 0) = false := by simpa using hC
          have HP := Lib.hid hp; clear hp
          have HK := Lib.hid hK; clear hK
          have HE := Lib.hid hE; clear hE HCS hcc hxs hvs he hcz hxc
          have hx4 : At4 wr g2 (acc'.length * 4) ⟨kx, ix, bx, sx⟩ := ⟨d0, d1, d2, d3⟩
          have hv4 : At4 wr b1 (o1 + k * 4) ⟨kv, iv, bv, sv⟩ := At4.below ⟨c0, c1, c2, c3⟩ hb hb1
          have hb1' : b1 < wr.heap.size := by omega
          have HX4 := Lib.hid (And.intro hx4 hv4); clear hx4 hv4
          have HI := Lib.hid hI; clear hI
          have HV := Lib.hid hV; clear hV
          go_wp2
          go_region_held3 (fun w' => (w'.cell? ⟨g2, acc'.length * 4, none⟩ = some (.int .i64 kx) ∧ w'.cell? ⟨g2, acc'.length * 4 + 1, none⟩ = some (.int .i64 ix) ∧ w'.cell? ⟨g2, acc'.length * 4 + 2, none⟩ = some (.bool bx) ∧ w'.cell? ⟨g2, acc'.length * 4 + 3, none⟩ = some (.string sx)) ∧
              (w'.cell? ⟨b1, o1 + k * 4, none⟩ = some (.int .i64 kv) ∧ w'.cell? ⟨b1, o1 + k * 4 + 1, none⟩ = some (.int .i64 iv) ∧ w'.cell? ⟨b1, o1 + k * 4 + 2, none⟩ = some (.bool bv) ∧ w'.cell? ⟨b1, o1 + k * 4 + 3, none⟩ = some (.string sv)))
            (first | go_keep | exact ⟨HX4.out.1.drew.below hbK hg2, HX4.out.2.drew.below hbK hb1'⟩)
            ((first | (go_at_call 69; with_reducible refine (HK.out _).mono ?_; rintro e wz ⟨rfl, hbK⟩)))
          have HIz := Lib.hid (HI.out.drew.below hbK); clear HI
          have HVz := Lib.hid (HV.out.drew.below hbK); clear HV
          have hbz := bthen hb.drew hbK (Nat.le_refl _)
          clear hbK HX4 hic hfr hbc d0 d1 d2 d3 hb hsz hb1' hg1 hg2 HK
          have hbc := (bcell hbz).1
          have hsz := hbz.size
          have hl1 : (counts (acc' ++ [(m, ⟨kx, ix, bx, sx⟩)])).length < few := by rw [counts_length]; unfold few; have := hlen; omega
          have hl2 : (vals (acc' ++ [(m, ⟨kx, ix, bx, sx⟩)])).length < few := by rw [vals_length]; unfold few; have := hlen; omega
          go_wp2_with (first
            | (refine wpList_push_int rfl _ _ rfl w.heap.size (Value.slice (some ⟨g1, 0, none⟩) (acc'.length + 1) c1') (counts (acc' ++ [(m, ⟨kx, ix, bx, sx⟩)])) 1 wz.heap.size 1 rfl rfl (t := 3) (fr := (0, 0)) (heap_alloc_new wz _) (HIz.out.alloc _) hl1 (Below.size (hbz.alloc hbz.size _)) ?_; intro u1 wA hA hgA hatA; have hVA := (HVz.out.alloc _).keepI (HIz.out.alloc _) hgA; have hbA := (hbz.alloc hbz.size _).grown hgA (Below.size (hbz.alloc hbz.size _)) (own_base HIz.out); have hbcA := (bcell hbA).1; have hszA := hbA.size; have HA1 := Lib.hid hA; have HV1 := Lib.hid hVA; clear hA hVA hgA hatA)
            | (go_at_call 66; with_reducible refine (HP.out _).mono ?_; rintro e w2 ⟨rfl, hb2⟩; have hbB := bthen hbA hb2 (Nat.le_refl _); have hszB := hbB.size)
            | (refine wpList_push_val rfl _ _ rfl w.heap.size (Value.slice (some ⟨g2, 0, none⟩) (acc'.length + 1) c2') (vals (acc' ++ [(m, ⟨kx, ix, bx, sx⟩)])) ⟨ku, iu, bu, su⟩ w2.heap.size 1 rfl rfl (t := 71) (fr := (0, 0)) (heap_alloc_new w2 _) ((HV1.out.below hb2).alloc _) hl2 (Below.size (hbB.alloc hbB.size _)) ?_; intro u2 wB hB hgB hatB; have hIB := ((HA1.out.below hb2).alloc _).keepV ((HV1.out.below hb2).alloc _) hgB; have hbC := (hbB.alloc hbB.size _).grown hgB (Below.size (hbB.alloc hbB.size _)) (own_base (HV1.out.below hb2)); have HB := Lib.hid hB; have HIB := Lib.hid hIB; clear hB hIB hgB hatB))
          go_roundw
          case rel => exact ⟨k + 1, by omega, by go_num, by rw [HE.out, counts_append]; exact HIB.out, by rw [HE.out, vals_append]; exact HB.out, hbC⟩
          case measure => simp [intOf]; omega
    · have he : vs.take k = vs := List.take_of_length_le (by rw [hv.1]; omega)
      rw [he] at hI hV
      have HI := Lib.hid hI; clear hI
      have HV := Lib.hid hV; clear hV
      go_wp2
      go_ret2
      exact ⟨_, _, rfl, HI.out, HV.out, hb⟩
end Go.Proofs.YtgmemdedpklnhaaGreat.Runs

/-
  THE WALKS of the document's own plain and of its three ways.
-/





namespace Go.Proofs.YtgmemdedpklnhaaGreat.Vec
open Go.RowKit ValMath Vals Sl VecMath Words

set_option maxRecDepth 100000 in
set_option maxHeartbeats 2000000 in
theorem refPlain_any (v : Val) (w : World) (hv : Fine v) : Calls Tryz.prog 70 #[vagg v] w fun e w' => e = .returned (.string (str (scalar v))) ∧ Below w.heap.size w w' := by
  have hs := hv.s
  have hZ := fun w => Varint.refZig_any v.i w hv.i1 hv.i2
  have hC := fun w => Varint.Varint_any v.s.size w (by omega)
  have hbx := At4.new w w.heap.size rfl v 71
  have hbt := Vals.one_new (w := w) (.cells #[.int .i64 v.k, .int .i64 v.i, .bool v.b, .string v.s] 71)
  have hsc : scalar v = if v.k = 1 then VarMath.enc (VarMath.zig v.i) else if v.k = 2 then [UInt8.ofNat (flag v.b)] else cnt v.s.size ++ v.s.data.toList := rfl
  have hcl := cnt_size v.s.size
  generalize scalar v = R at hsc ⊢
  obtain ⟨k, i, b, s⟩ := v
  simp only [] at hs hZ hC hbx hbt hsc hcl
  have HR := Lib.hid hsc; clear hsc
  have HZ := Lib.hid hZ; clear hZ
  have hC' : ∀ w, Calls Tryz.prog 32 #[.int .i64 (s.size : Nat)] w fun e w' => e = .returned (.string (str (cnt s.size))) ∧ Below w.heap.size w w' := hC
  have HC := Lib.hid hC'; clear hC hC' hv
  have HX := Lib.hid hbx; clear hbx
  by_cases h1 : k = 1
  · have hk : (k == 1) = true := by simp [h1]
    have hR : R = VarMath.enc (VarMath.zig i) := by rw [HR.out, if_pos h1]
    have HR := Lib.hid hR; clear hR h1
    go_enter Tryz.func70, Tryz.ntmps70
    go_wp2_with (go_at_call 101; with_reducible refine (HZ.out _).mono ?_; rintro e w1 ⟨rfl, hb1⟩)
    go_ret
    exact ⟨ret_str (by rw [HR.out]), bthen hbt hb1 (Nat.le_refl _)⟩
  · have hk : (k == 1) = false := by simpa using h1
    by_cases h2 : k = 2
    · have hk2 : (k == 2) = true := by simp [h2]
      have hR : R = [UInt8.ofNat (flag b)] := by rw [HR.out, if_neg h1, if_pos h2]
      have HR := Lib.hid hR; clear hR h1 h2
      cases b
      all_goals
        go_enter Tryz.func70, Tryz.ntmps70
        go_wp2
        go_ret
        exact ⟨ret_str (by rw [HR.out]; rfl), hbt⟩
    · have hk2 : (k == 2) = false := by simpa using h2
      have hR : R = cnt s.size ++ s.data.toList := by rw [HR.out, if_neg h1, if_neg h2]
      have HR := Lib.hid hR; clear hR h1 h2
      obtain ⟨f0, f1, f2, f3⟩ := HX.out.zero
      simp only [] at f0 f1 f2 f3
      have hz : (str (cnt s.size)).size = (cnt s.size).length := str_size _
      have hadd := add_str (str (cnt s.size)) s (by omega)
      have hrt : R = (str (cnt s.size) ++ s).data.toList := by rw [HR.out, append_toList]; rfl
      have HRT := Lib.hid hrt; clear hrt hz hcl
      generalize str (cnt s.size) = T at *
      go_enter Tryz.func70, Tryz.ntmps70
      go_wp2
      go_region_held3 (fun w' => w'.cell? ⟨w.heap.size, 3, none⟩ = some (.string s))
        (first | go_keep | exact (hbK.cell (p := ⟨w.heap.size, 3, none⟩) (by simp)).trans f3)
        ((first | (go_at_call 32; with_reducible refine (HC.out _).mono ?_; rintro e w1 ⟨rfl, hbK⟩)))
      all_goals
        go_wp2
        go_ret
        exact ⟨ret_str (str_eq HRT.out.symm), bthen hbt.drew hbK (Nat.le_refl _)⟩

/-- Three texts in a row. -/
def Tri (w : World) (g : Nat) (a b c : ByteArray) : Prop := w.heap[g]? = some (.cells #[.string a, .string b, .string c] 112 (0, 0))
theorem Tri.lt {w : World} {g : Nat} {a b c : ByteArray} (h : Tri w g a b c) : g < w.heap.size := (Array.getElem?_eq_some_iff.1 h).1
theorem Tri.below {w w' : World} {g : Nat} {a b c : ByteArray} (h : Tri w g a b c) (hb : Below w.heap.size w w') : Tri w' g a b c := (hb.block g h.lt).trans h
theorem Tri.new (w : World) (a b c : ByteArray) : Tri (w.alloc (.cells #[.string a, .string b, .string c] 112)) w.heap.size a b c := heap_alloc_new w _
theorem Tri.alloc {w : World} {g : Nat} {a b c : ByteArray} (h : Tri w g a b c) (o : Obj) : Tri (w.alloc o) g a b c := h.below (Vals.one_new o)
theorem Tri.grown {w w' : World} {g : Nat} {a b c : ByteArray} {row : Option Nat} (h : Tri w g a b c) (hb : w.grownBy w' row) (hr : some g ≠ row) : Tri w' g a b c := (hb.block g h.lt hr).trans h
theorem Tri.drew {w : World} {g : Nat} {a b c : ByteArray} (h : Tri w g a b c) : Tri w.drew g a b c := h
theorem Tri.drewN {w : World} {g : Nat} {a b c : ByteArray} (h : Tri w g a b c) (k : Nat) : Tri (w.drewN k) g a b c := h
theorem Tri.cells {w : World} {g : Nat} {a b c : ByteArray} (h : Tri w g a b c) : w.cell? ⟨g, 0, none⟩ = some (.string a) ∧ w.cell? ⟨g, 1, none⟩ = some (.string b) ∧ w.cell? ⟨g, 2, none⟩ = some (.string c) := by
  refine ⟨?_, ?_, ?_⟩ <;> rw [Lib.cell_of_heap h] <;> rfl
theorem Tri.free {w : World} {g : Nat} {a b c : ByteArray} (h : Tri w g a b c) (j : Nat) : w.frozen? ⟨g, j, none⟩ = false := Lib.frozen_of_heap h j
theorem set_heap {w : World} {g j : Nat} {cs : Array Value} {t : TypeId} {fr : Nat × Nat} {v : Value} (h : w.heap[g]? = some (.cells cs t fr)) : (w.setCell ⟨g, j, none⟩ v).heap[g]? = some (.cells (cs.setIfInBounds j v) t fr) := by
  have hl := (Array.getElem?_eq_some_iff.1 h).1
  have he := (Array.getElem?_eq_some_iff.1 h).2
  simp [World.setCell, hl, Array.getElem_modify, he]
theorem Tri.put0 {w : World} {g : Nat} {a b c : ByteArray} (h : Tri w g a b c) (x : ByteArray) : Tri (w.setCell ⟨g, 0, none⟩ (.string x)) g x b c := set_heap h
theorem Tri.put1 {w : World} {g : Nat} {a b c : ByteArray} (h : Tri w g a b c) (x : ByteArray) : Tri (w.setCell ⟨g, 1, none⟩ (.string x)) g a x c := set_heap h
theorem Tri.put2 {w : World} {g : Nat} {a b c : ByteArray} (h : Tri w g a b c) (x : ByteArray) : Tri (w.setCell ⟨g, 2, none⟩ (.string x)) g a b x := set_heap h
end Go.Proofs.YtgmemdedpklnhaaGreat.Vec

/-
  A MAP OF TWO TEXTS, made in a call and ranged over: the laws that vec.encode needs.
-/


namespace Go.Proofs.YtgmemdedpklnhaaGreat.VecMap
open Go.RowKit
open Go.Maps (Keyed)

theorem keyedI : Keyed Tryz.prog 3 := Maps.int_keyed Tryz.underlying3
theorem key_int {k : Int} (h : (Lit.int .i64 k).wf = true) : keyOf Tryz.prog 3 (.int .i64 k) = some (.int .i64 k) := by
  simp [keyOf, Tryz.underlying3, mapKey, h]
abbrev k1 : Lit := .int .i64 1
abbrev k2 : Lit := .int .i64 2
theorem key1 : WideAt.IsKeyLit k1 := trivial
theorem key2 : WideAt.IsKeyLit k2 := trivial
theorem ne12 : k1 ≠ k2 := by intro e; injection e with _ e; exact absurd e (by decide)
def D1 (r : ByteArray) : DataW Unit := (DataW.map []).put k1 (.lit (.string r.data.toList))
def D2 (r s : ByteArray) : DataW Unit := (D1 r).put k2 (.lit (.string s.data.toList))
def MapS (w : World) (b n : Nat) (D : DataW Unit) : Prop := w.ownsMap Tryz.prog 3 (plainElem Tryz.prog 9) b n D
theorem MapS.made (w : World) : MapS (w.alloc (.map #[] 0)) w.heap.size 0 (.map []) := World.ownsMap_made w _ _ _
theorem MapS.below {w w' : World} {b n : Nat} {D : DataW Unit} (h : MapS w b n D) (hb : Below w.heap.size w w') : MapS w' b n D := World.ownsMap.kept h (MapV.grown_of_below hb) (by simp)
theorem MapS.lt {w : World} {b n : Nat} {D : DataW Unit} (h : MapS w b n D) : b < w.heap.size := World.ownsMap.lt h
/-- The range over it under way: which of the two is still to come. -/
def Rng (w : World) (b r : Nat) (R S : ByteArray) (l1 l2 : Bool) (cnt : Nat) : Prop :=
  ∃ left, w.ranges Tryz.prog 3 (plainElem Tryz.prog 9) b r 2 (D2 R S) left cnt ∧ left k1 = l1 ∧ left k2 = l2
theorem Rng.left_eq {w : World} {b r cnt : Nat} {R S : ByteArray} {l1 l2 : Bool} (h : Rng w b r R S l1 l2 cnt) : w.rangeLeft b r = cnt := by obtain ⟨_, h, _⟩ := h; exact World.ranges.left_eq h
theorem at_one (R S : ByteArray) (z : DataW Unit) : (D2 R S).atKey k1 z = .lit (.string R.data.toList) := by
  unfold D2 D1
  rw [Maps.atKey_put_other ne12, Maps.atKey_put_same Maps.isMap_empty key1]
theorem at_two (R S : ByteArray) (z : DataW Unit) : (D2 R S).atKey k2 z = .lit (.string S.data.toList) := by
  unfold D2 D1
  rw [Maps.atKey_put_same (Maps.isMap_empty.put _ _) key2]
theorem at_else (R S : ByteArray) (x : Int) (z : DataW Unit) (h1 : x ≠ 1) (h2 : x ≠ 2) : (D2 R S).atKey (.int .i64 x) z = z := by
  unfold D2 D1
  rw [Maps.atKey_put_other (by intro e; injection e with _ e; exact h2 e), Maps.atKey_put_other (by intro e; injection e with _ e; exact h1 e)]
  simp [WideAt.atKey_none]
theorem has_one (R S : ByteArray) : Maps.has (D2 R S) k1 = true := by
  unfold D2 D1
  rw [Maps.has_put_other ne12, Maps.has_put_same Maps.isMap_empty key1]
theorem has_two (R S : ByteArray) : Maps.has (D2 R S) k2 = true := by
  unfold D2 D1
  rw [Maps.has_put_same (Maps.isMap_empty.put _ _) key2]
theorem str_of_list {a b : ByteArray} (h : a.data.toList = b.data.toList) : a = b := by
  cases a; cases b; simp at h; exact congrArg ByteArray.mk h
set_option maxRecDepth 20000 in
theorem elem_string_inv {v : Value} {z : DataW Unit × List MemPlace} (h : plainElem Tryz.prog 9 v = some z) : ∃ s : ByteArray, v = .string s ∧ z = (.lit (.string s.data.toList), []) := by
  unfold plainElem at h
  rw [Tryz.underlying9] at h
  cases v <;> simp at h
  exact ⟨_, rfl, h.2.symm⟩

section
variable {w : World} {ops : Array Oper} {rest : List Oper} {o : Oper} {a : Act} {Q : Exit → Act → World → Prop}
/-- An entry of a map's literal. -/
theorem wpList_insert_str (hg : o.guard = none) (m x v : Operand) (hop : o.op = Op.insert 128 m x v) (b n : Nat) (D : DataW Unit)
    (hm : a.eval m = .map (some b)) (h : MapS w b n D) (hn : n < maxLen) (k : Int) (hx : a.eval x = .int .i64 k) (hk : (Lit.int .i64 k).wf = true) (s : ByteArray) (hv : a.eval v = .string s) (hs : s.size ≤ maxLen)
    (hK : ∀ w', MapS w' b (n + 1) (D.put (.int .i64 k) (.lit (.string s.data.toList))) → w.grownBy w' (some b) → wpList Tryz.prog ops Q rest (a.put o.dst undef) w') : wpList Tryz.prog ops Q (o :: rest) a w := by
  refine wpList_plain hg fun K' hK' => ?_
  obtain ⟨w', hrun, r1, r2⟩ := World.ownsMap.update h keyedI Tryz.underlying128 hn (key_int hk) (plainElem_string Tryz.underlying9 hs)
  unfold Oper.wp
  simp [execOp, hop, hm, hx, hv, hrun, Result.andThen]
  exact hK' _ _ (hK w' r1 r2)
/-- 'range'. -/
theorem wpList_range_two (hg : o.guard = none) (m : Operand) (hop : o.op = Op.range 128 m) (b : Nat) (R S : ByteArray) (hm : a.eval m = .map (some b)) (h : MapS w b 2 (D2 R S))
    (hK : ∀ w' cnt, Rng w' b w.heap.size R S true true cnt → w.grownBy w' none → w'.heap.size = w.heap.size + 1 → wpList Tryz.prog ops Q rest (a.put o.dst (.pointer (some ⟨w.heap.size, 0, none⟩))) w') : wpList Tryz.prog ops Q (o :: rest) a w :=
  wpList_range_own w hg m _ hop 3 9 keyedI Tryz.underlying128 _ b 2 (D2 R S) hm h fun w' r1 r2 r3 => hK w' _ ⟨_, r1, has_one R S, has_two R S⟩ r2 r3
/-- The step. -/
theorem wpList_next_two (hg : o.guard = none) (it : Operand) (hop : o.op = Op.next it false) (b r : Nat) (R S : ByteArray) (l1 l2 : Bool) (cnt : Nat) (hit : a.eval it = .pointer (some ⟨r, 0, none⟩)) (h : Rng w b r R S l1 l2 cnt)
    (hDone : l1 = false → l2 = false → wpList Tryz.prog ops Q rest (a.put o.dst (.tuple #[.bool false])) w)
    (hOne : l1 = true → ∀ w' cnt', Rng w' b r R S false l2 cnt' → cnt' < cnt → w.grownBy w' (some r) → w'.heap.size = w.heap.size → (Instr.entry (.pointer (some ⟨r, 0, none⟩))).run Tryz.prog w' = .ok (.tuple #[.int .i64 1, .string R]) w' → wpList Tryz.prog ops Q rest (a.put o.dst (.tuple #[.bool true, .int .i64 1, .string R])) w')
    (hTwo : l2 = true → ∀ w' cnt', Rng w' b r R S l1 false cnt' → cnt' < cnt → w.grownBy w' (some r) → w'.heap.size = w.heap.size → (Instr.entry (.pointer (some ⟨r, 0, none⟩))).run Tryz.prog w' = .ok (.tuple #[.int .i64 2, .string S]) w' → wpList Tryz.prog ops Q rest (a.put o.dst (.tuple #[.bool true, .int .i64 2, .string S])) w') :
    wpList Tryz.prog ops Q (o :: rest) a w := by
  obtain ⟨left, hr, e1, e2⟩ := h
  refine wpList_next_ranges w hg it hop 3 keyedI (plainElem Tryz.prog 9) (Value.int .i64) Value.string (fun key kl hkey => by obtain ⟨x, rfl, _⟩ := Maps.keyOf_int_inv Tryz.underlying3 hkey; exact ⟨x, rfl⟩) (fun v y hv => by obtain ⟨c, rfl, _⟩ := elem_string_inv hv; exact ⟨c, rfl⟩)
    b r 2 (D2 R S) left cnt hit hr (fun _ hl => hDone (by rw [← e1]; exact hl _) (by rw [← e2]; exact hl _)) (fun x c kl y w' cnt' hkey hlk hv hat hrg hlt hgr hsz hen => ?_)
  obtain ⟨x', ex, rfl, _⟩ := Maps.keyOf_int_inv Tryz.underlying3 hkey
  cases ex
  obtain ⟨c', ec, rfl⟩ := elem_string_inv hv
  cases ec
  by_cases h1 : x = 1
  · subst h1
    have hc := hat .nil
    rw [at_one] at hc
    injection hc with hc; injection hc with hc
    have hc := str_of_list hc
    subst hc
    refine hOne (by rw [← e1]; exact hlk) w' cnt' ⟨_, hrg, ?_, ?_⟩ hlt hgr hsz hen
    · simp [WideAt.sameKey_self (show WideAt.IsKeyLit k1 from trivial)]
    · show (left k2 && !k2.sameKey k1) = l2
      rw [e2]; cases l2 <;> rfl
  · by_cases h2 : x = 2
    · subst h2
      have hc := hat .nil
      rw [at_two] at hc
      injection hc with hc; injection hc with hc
      have hc := str_of_list hc
      subst hc
      refine hTwo (by rw [← e2]; exact hlk) w' cnt' ⟨_, hrg, ?_, ?_⟩ hlt hgr hsz hen
      · show (left k1 && !k1.sameKey k2) = l1
        rw [e1]; cases l1 <;> rfl
      · simp [WideAt.sameKey_self (show WideAt.IsKeyLit k2 from trivial)]
    · exfalso
      have hc := hat .nil
      rw [at_else R S x _ h1 h2] at hc
      cases hc
end
end Go.Proofs.YtgmemdedpklnhaaGreat.VecMap
