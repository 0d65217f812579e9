/-
  THE WALK of the document's own Cut.
-/
import Derived.Test.YtkkpcdpoldjmkaaRuns
import Derived.Test.YtkkpcdpoldjmkaaPush
import Derived.Test.YtkkpcdpoldjmkaaCmp
import Derived.Test.YtkkpcdpoldjmkaaJoinMath
namespace Go.Proofs.Ytkkpcdpoldjmkaa.Runs
open Go.RowKit ValMath Vals Sl

/-- The last run, where it lies. -/
theorem runs_last {W : World} {B : Nat} {v u : Value} {acc : List (Nat × Val)} {m : Nat} {x : Val} (hI : OwnI W B v (counts (acc ++ [(m, x)]))) (hV : OwnV W B u (vals (acc ++ [(m, x)]))) :
    ∃ g1 c1 g2 c2, v = .slice (some ⟨g1, 0, none⟩) (acc.length + 1) c1 ∧ u = .slice (some ⟨g2, 0, none⟩) (acc.length + 1) c2 ∧ B ≤ g1 ∧ g1 < W.heap.size ∧ B ≤ g2 ∧ g2 < W.heap.size ∧
      W.frozen? ⟨g1, acc.length, none⟩ = false ∧ W.cell? ⟨g1, acc.length, none⟩ = some (.int .i64 m) ∧
      (W.cell? ⟨g2, acc.length * 4, none⟩ = some (.int .i64 x.k) ∧ W.cell? ⟨g2, acc.length * 4 + 1, none⟩ = some (.int .i64 x.i) ∧ W.cell? ⟨g2, acc.length * 4 + 2, none⟩ = some (.bool x.b) ∧ W.cell? ⟨g2, acc.length * 4 + 3, none⟩ = some (.string x.s)) := by
  have hcl : (counts (acc ++ [(m, x)])).length = acc.length + 1 := by simp [counts]
  have hvl : (vals (acc ++ [(m, x)])).length = acc.length + 1 := by simp [vals]
  obtain ⟨A1, c1, rfl, _, _, h1⟩ := hI.form hcl
  obtain ⟨g1, rfl, a1, a2, hf, hc⟩ := h1 (by omega)
  obtain ⟨g2, c2, rfl⟩ : ∃ g2 c2, u = .slice (some ⟨g2, 0, none⟩) (acc.length + 1) c2 := by
    rcases hV.2 with ⟨_, h0⟩ | ⟨g, k, cur, e, _⟩
    · omega
    · exact ⟨g, k, by rw [e, hvl]⟩
  have hb := own_base_of hV
  have hs := hV.sl hvl
  obtain ⟨b, o, x', hx', hA, _, d0, d1, d2, d3⟩ := hs.at_ (k := acc.length) (by omega)
  injection hA with hA; injection hA with e1 e2; subst e1; subst e2
  have hxx : x' = x := by
    rw [vals_append, List.getElem?_append_right (by rw [vals_length]; omega), vals_length] at hx'
    simpa [vals] using hx'.symm
  subst hxx
  simp only [Nat.zero_add] at d0 d1 d2 d3
  refine ⟨g1, c1, g2, c2, rfl, rfl, a1, a2, hb.1, hb.2, hf _, ?_, d0, d1, d2, d3⟩
  rw [hc acc.length (by omega)]
  simp [counts]

set_option maxRecDepth 20000 in
set_option maxHeartbeats 1000000 in
theorem cutR_any (A : Option Addr) (n c : Nat) (vs : List Val) (w : World) (hv : VSl w A n vs) (hn : n * 40 ≤ 140737488355280) (hs : ∀ v ∈ vs, v.s.size ≤ maxLen) :
    Calls Try.prog 61 #[.slice A n c] w fun e w' => ∃ u1 u2, e = .returned (.tuple #[u1, u2]) ∧ OwnI w' w.heap.size u1 (counts (cut vs)) ∧ OwnV w' w.heap.size u2 (vals (cut vs)) ∧ Below w.heap.size w w' := by
  go_enter Try.func61, Try.ntmps61
  go_wp2
  go_loopw [4, 5, 6] (fun v4 v5 i wr => ∃ k : Nat, k ≤ n ∧ i = .int .i64 k ∧ OwnI wr w.heap.size v4 (counts (cut (vs.take k))) ∧ OwnV wr w.heap.size v5 (vals (cut (vs.take k))) ∧ Below w.heap.size w wr)
    (fun _ _ i _ => n - (intOf i).toNat)
  case atStart => exact ⟨0, Nat.zero_le _, rfl, OwnI.nil _ _, OwnV.nil _ _, Below.refl _ _⟩
  case round =>
    obtain ⟨k, hk, rfl, hI, hV, hb⟩ := hrel
    by_cases hlt : k < n
    · obtain ⟨b1, o1, v, hv1, rfl, hb1, c0, c1, c2, c3⟩ := hv.at_ hlt
      have hts := take_more hv1
      have hcs : cut (vs.take (k + 1)) = push (cut (vs.take k)) v := by rw [hts, cut_snoc]
      have hlen := cut_length (vs.take k)
      have hlk : (vs.take k).length ≤ k := List.length_take_le _ _
      have hbc := (bcell hb).1
      have hsz := hb.size
      have hp := clean_any v
      have hcc := cut_clean (vs.take k)
      have hvs := hs v (List.mem_of_getElem? hv1)
      have hxs : ∀ p ∈ cut (vs.take k), p.2.s.size ≤ maxLen := fun p hp => by
        obtain ⟨u, hu, e⟩ := cut_mem (vs.take k) p hp
        rw [← e]
        exact Nat.le_trans (clean_size u) (hs u (List.mem_of_mem_take hu))
      generalize hacc : cut (vs.take k) = acc at hI hV hcs hlen hcc hxs
      have HCS := Lib.hid hcs; clear hcs
      have HAcc := Lib.hid hacc; clear hacc
      have HV0 := Lib.hid hv; clear hv
      clear hv1 hts
      rcases List.eq_nil_or_concat acc with rfl | ⟨acc', ⟨m, x⟩, rfl⟩
      · obtain ⟨A1, c1', rfl, _, _, _⟩ := hI.form (n := 0) rfl
        obtain ⟨A2, c2', rfl, _, _⟩ := hV.form' (n := 0) rfl
        have hE : cut (vs.take (k + 1)) = ([] : List (Nat × Val)) ++ [(1, clean v)] := by rw [HCS.out]; exact push_other (lastIs_nil _)
        generalize clean v = u at hE hp
        obtain ⟨kv, iv, bv, sv⟩ := v
        obtain ⟨ku, iu, bu, su⟩ := u
        simp only [] at c0 c1 c2 c3 hp
        have HP := Lib.hid hp; clear hp
        have HE := Lib.hid hE; clear hE HCS hcc hxs hvs
        have HI := Lib.hid hI; clear hI
        have HV := Lib.hid hV; clear hV
        go_wp2
        go_quiet (fail)
        have HIz := Lib.hid (HI.out.drewN nq); clear HI
        have HVz := Lib.hid (HV.out.drewN nq); clear HV
        have hbz := below_drewN hb nq
        clear hb hbc hsz
        generalize wr.drewN nq = wz at *
        have hbc := (bcell hbz).1
        have hsz := hbz.size
        have hl1 : (counts ([] : List (Nat × Val))).length < few := by rw [counts_length]; unfold few; have := hlen; omega
        have hl2 : (vals ([] : List (Nat × Val))).length < few := by rw [vals_length]; unfold few; have := hlen; omega
        go_wp2_with (first
          | (refine wpList_push_int rfl _ _ rfl w.heap.size (Value.slice A1 0 c1') (counts ([] : List (Nat × Val))) 1 wz.heap.size 1 rfl rfl (t := 3) (fr := (0, 0)) (heap_alloc_new wz _) (HIz.out.alloc _) hl1 (Below.size (hbz.alloc hbz.size _)) ?_; intro u1 wA hA hgA hatA; have hVA := (HVz.out.alloc _).keepI (HIz.out.alloc _) hgA; have hbA := (hbz.alloc hbz.size _).grown hgA (Below.size (hbz.alloc hbz.size _)) (own_base HIz.out); have hbcA := (bcell hbA).1; have hszA := hbA.size; have HA1 := Lib.hid hA; have HV1 := Lib.hid hVA; clear hA hVA hgA hatA)
          | (go_at_call 71; with_reducible refine (HP.out _).mono ?_; rintro e w2 ⟨rfl, hb2⟩; have hbB := bthen hbA hb2 (Nat.le_refl _); have hszB := hbB.size)
          | (refine wpList_push_val rfl _ _ rfl w.heap.size (Value.slice A2 0 c2') (vals ([] : List (Nat × Val))) ⟨ku, iu, bu, su⟩ w2.heap.size 1 rfl rfl (t := 52) (fr := (0, 0)) (heap_alloc_new w2 _) ((HV1.out.below hb2).alloc _) hl2 (Below.size (hbB.alloc hbB.size _)) ?_; intro u2 wB hB hgB hatB; have hIB := ((HA1.out.below hb2).alloc _).keepV ((HV1.out.below hb2).alloc _) hgB; have hbC := (hbB.alloc hbB.size _).grown hgB (Below.size (hbB.alloc hbB.size _)) (own_base (HV1.out.below hb2)); have HB := Lib.hid hB; have HIB := Lib.hid hIB; clear hB hIB hgB hatB))
        go_roundw
        case rel => exact ⟨k + 1, by omega, by go_num, by rw [HE.out, counts_append]; exact HIB.out, by rw [HE.out, vals_append]; exact HB.out, hbC⟩
        case measure => simp [intOf]; omega
      · rw [List.concat_eq_append] at *
        obtain ⟨g1, c1', g2, c2', rfl, rfl, hB1, hg1, hB2, hg2, hfr, hic, d0, d1, d2, d3⟩ := runs_last hI hV
        have hmk : m ≤ k := by
          have := (cut_counts (vs.take k) (m, x) (by rw [HAcc.out]; simp)).2
          omega
        have hxc : clean x = x := hcc (m, x) (by simp)
        have hxs : x.s.size ≤ maxLen := hxs (m, x) (by simp)
        have hK := cmp_any x v
        have hcz := cmp_zero x v
        rw [hxc] at hcz
        have hl0 : acc'.length + 1 ≤ n := by simp at hlen; omega
        have hw1 : IntKind.i64.wrap ((acc'.length : Int) + 1 - 1) = (acc'.length : Int) := by rw [show (acc'.length : Int) + 1 - 1 = (acc'.length : Int) by omega]; exact IntWalk.i64_in _ (by omega)
        have hw6 : IntKind.i64.wrap (acc'.length : Int) = (acc'.length : Int) := IntWalk.i64_in _ (by omega)
        have hw2 : (0 : Int) ≤ (acc'.length : Int) := by omega
        have hw3 : (acc'.length : Int) < (acc'.length : Int) + 1 := by omega
        have hw4 : (0 : Int) ≤ (k : Int) := by omega
        have hw5 : (k : Int) < (n : Int) := by omega
        by_cases he : x = clean v
        · have hE : cut (vs.take (k + 1)) = acc' ++ [(m + 1, x)] := by rw [HCS.out]; exact push_same he
          have hC := hcz.2 he
          have hK := fun w => hK w hxs hvs
          rw [hC] at hK
          obtain ⟨kv, iv, bv, sv⟩ := v
          obtain ⟨kx, ix, bx, sx⟩ := x
          simp only [] at c0 c1 c2 c3 d0 d1 d2 d3 hK
          have hx4 : At4 wr g2 (acc'.length * 4) ⟨kx, ix, bx, sx⟩ := ⟨d0, d1, d2, d3⟩
          have hv4 : At4 wr b1 (o1 + k * 4) ⟨kv, iv, bv, sv⟩ := At4.below ⟨c0, c1, c2, c3⟩ hb hb1
          have hb1' : b1 < wr.heap.size := by omega
          have HX4 := Lib.hid (And.intro hx4 hv4); clear hx4 hv4
          have HK := Lib.hid hK; clear hK
          have HE := Lib.hid hE; clear hE HCS hcc hp hxs hvs he hC hcz hxc
          have HI := Lib.hid hI; clear hI
          have HV := Lib.hid hV; clear hV
          go_wp2
          go_region_held3 (fun w' => (w'.cell? ⟨g2, acc'.length * 4, none⟩ = some (.int .i64 kx) ∧ w'.cell? ⟨g2, acc'.length * 4 + 1, none⟩ = some (.int .i64 ix) ∧ w'.cell? ⟨g2, acc'.length * 4 + 2, none⟩ = some (.bool bx) ∧ w'.cell? ⟨g2, acc'.length * 4 + 3, none⟩ = some (.string sx)) ∧
              (w'.cell? ⟨b1, o1 + k * 4, none⟩ = some (.int .i64 kv) ∧ w'.cell? ⟨b1, o1 + k * 4 + 1, none⟩ = some (.int .i64 iv) ∧ w'.cell? ⟨b1, o1 + k * 4 + 2, none⟩ = some (.bool bv) ∧ w'.cell? ⟨b1, o1 + k * 4 + 3, none⟩ = some (.string sv)))
            (first | go_keep | exact ⟨HX4.out.1.drew.below hbK hg2, HX4.out.2.drew.below hbK hb1'⟩)
            ((first | (go_at_call 72; with_reducible refine (HK.out _).mono ?_; rintro e w1 ⟨rfl, hbK⟩)))
          have hic1 : w1.cell? ⟨g1, acc'.length, none⟩ = some (.int .i64 m) := (hbK.cell (p := ⟨g1, acc'.length, none⟩) hg1).trans hic
          have hfr1 : w1.frozen? ⟨g1, acc'.length, none⟩ = false := (hbK.frozen (p := ⟨g1, acc'.length, none⟩) hg1).trans hfr
          have R := rel_inc (W := w1) rfl (HI.out.drew.below hbK) (HV.out.drew.below hbK)
          have HR := Lib.hid R; clear R HX4 hic hfr hbc c0 c1 c2 c3 d0 d1 d2 d3
          have hbb := bthen hb.drew hbK (Nat.le_refl _)
          go_wp2
          go_roundw
          case rel => exact ⟨k + 1, by omega, by go_num, by rw [HE.out]; exact HR.out.1, by rw [HE.out]; exact HR.out.2, hbb.setCell (p := ⟨g1, acc'.length, none⟩) hB1 _⟩
          case measure => simp [intOf]; omega
        · have hE : cut (vs.take (k + 1)) = acc' ++ [(m, x)] ++ [(1, clean v)] := by rw [HCS.out]; exact push_other (by rw [lastIs_snoc]; simpa using he)
          have hC : cmp x v ≠ 0 := fun e => he (hcz.1 e)
          have hK := fun w => hK w hxs hvs
          generalize cmp x v = r at hC hK
          generalize clean v = u at hE hp
          obtain ⟨kv, iv, bv, sv⟩ := v
          obtain ⟨ku, iu, bu, su⟩ := u
          obtain ⟨kx, ix, bx, sx⟩ := x
          simp only [] at c0 c1 c2 c3 d0 d1 d2 d3 hK hp
          have hC : (r == 0) = false := by simpa using hC
          have HP := Lib.hid hp; clear hp
          have HK := Lib.hid hK; clear hK
          have HE := Lib.hid hE; clear hE HCS hcc hxs hvs he hcz hxc
          have hx4 : At4 wr g2 (acc'.length * 4) ⟨kx, ix, bx, sx⟩ := ⟨d0, d1, d2, d3⟩
          have hv4 : At4 wr b1 (o1 + k * 4) ⟨kv, iv, bv, sv⟩ := At4.below ⟨c0, c1, c2, c3⟩ hb hb1
          have hb1' : b1 < wr.heap.size := by omega
          have HX4 := Lib.hid (And.intro hx4 hv4); clear hx4 hv4
          have HI := Lib.hid hI; clear hI
          have HV := Lib.hid hV; clear hV
          go_wp2
          go_region_held3 (fun w' => (w'.cell? ⟨g2, acc'.length * 4, none⟩ = some (.int .i64 kx) ∧ w'.cell? ⟨g2, acc'.length * 4 + 1, none⟩ = some (.int .i64 ix) ∧ w'.cell? ⟨g2, acc'.length * 4 + 2, none⟩ = some (.bool bx) ∧ w'.cell? ⟨g2, acc'.length * 4 + 3, none⟩ = some (.string sx)) ∧
              (w'.cell? ⟨b1, o1 + k * 4, none⟩ = some (.int .i64 kv) ∧ w'.cell? ⟨b1, o1 + k * 4 + 1, none⟩ = some (.int .i64 iv) ∧ w'.cell? ⟨b1, o1 + k * 4 + 2, none⟩ = some (.bool bv) ∧ w'.cell? ⟨b1, o1 + k * 4 + 3, none⟩ = some (.string sv)))
            (first | go_keep | exact ⟨HX4.out.1.drew.below hbK hg2, HX4.out.2.drew.below hbK hb1'⟩)
            ((first | (go_at_call 72; with_reducible refine (HK.out _).mono ?_; rintro e wz ⟨rfl, hbK⟩)))
          have HIz := Lib.hid (HI.out.drew.below hbK); clear HI
          have HVz := Lib.hid (HV.out.drew.below hbK); clear HV
          have hbz := bthen hb.drew hbK (Nat.le_refl _)
          clear hbK HX4 hic hfr hbc d0 d1 d2 d3 hb hsz hb1' hg1 hg2 HK
          have hbc := (bcell hbz).1
          have hsz := hbz.size
          have hl1 : (counts (acc' ++ [(m, ⟨kx, ix, bx, sx⟩)])).length < few := by rw [counts_length]; unfold few; have := hlen; omega
          have hl2 : (vals (acc' ++ [(m, ⟨kx, ix, bx, sx⟩)])).length < few := by rw [vals_length]; unfold few; have := hlen; omega
          go_wp2_with (first
            | (refine wpList_push_int rfl _ _ rfl w.heap.size (Value.slice (some ⟨g1, 0, none⟩) (acc'.length + 1) c1') (counts (acc' ++ [(m, ⟨kx, ix, bx, sx⟩)])) 1 wz.heap.size 1 rfl rfl (t := 3) (fr := (0, 0)) (heap_alloc_new wz _) (HIz.out.alloc _) hl1 (Below.size (hbz.alloc hbz.size _)) ?_; intro u1 wA hA hgA hatA; have hVA := (HVz.out.alloc _).keepI (HIz.out.alloc _) hgA; have hbA := (hbz.alloc hbz.size _).grown hgA (Below.size (hbz.alloc hbz.size _)) (own_base HIz.out); have hbcA := (bcell hbA).1; have hszA := hbA.size; have HA1 := Lib.hid hA; have HV1 := Lib.hid hVA; clear hA hVA hgA hatA)
            | (go_at_call 71; with_reducible refine (HP.out _).mono ?_; rintro e w2 ⟨rfl, hb2⟩; have hbB := bthen hbA hb2 (Nat.le_refl _); have hszB := hbB.size)
            | (refine wpList_push_val rfl _ _ rfl w.heap.size (Value.slice (some ⟨g2, 0, none⟩) (acc'.length + 1) c2') (vals (acc' ++ [(m, ⟨kx, ix, bx, sx⟩)])) ⟨ku, iu, bu, su⟩ w2.heap.size 1 rfl rfl (t := 52) (fr := (0, 0)) (heap_alloc_new w2 _) ((HV1.out.below hb2).alloc _) hl2 (Below.size (hbB.alloc hbB.size _)) ?_; intro u2 wB hB hgB hatB; have hIB := ((HA1.out.below hb2).alloc _).keepV ((HV1.out.below hb2).alloc _) hgB; have hbC := (hbB.alloc hbB.size _).grown hgB (Below.size (hbB.alloc hbB.size _)) (own_base (HV1.out.below hb2)); have HB := Lib.hid hB; have HIB := Lib.hid hIB; clear hB hIB hgB hatB))
          go_roundw
          case rel => exact ⟨k + 1, by omega, by go_num, by rw [HE.out, counts_append]; exact HIB.out, by rw [HE.out, vals_append]; exact HB.out, hbC⟩
          case measure => simp [intOf]; omega
    · have he : vs.take k = vs := List.take_of_length_le (by rw [hv.1]; omega)
      rw [he] at hI hV
      have HI := Lib.hid hI; clear hI
      have HV := Lib.hid hV; clear hV
      go_wp2
      go_ret2
      exact ⟨_, _, rfl, HI.out, HV.out, hb⟩
end Go.Proofs.Ytkkpcdpoldjmkaa.Runs
