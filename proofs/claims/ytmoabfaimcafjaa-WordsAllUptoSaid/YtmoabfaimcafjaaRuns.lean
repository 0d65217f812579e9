/-
  THE WALKS of package runs and of the document's own Cut and Join.
-/
import Derived.Test.YtmoabfaimcafjaaOwn
namespace Go.Proofs.Ytmoabfaimcafjaa.Runs
open Go.RowKit ValMath Vals

def counts (acc : List (Nat × Val)) : List Int := acc.map fun p => (p.1 : Int)
def vals (acc : List (Nat × Val)) : List Val := acc.map (·.2)

theorem counts_append (a b : List (Nat × Val)) : counts (a ++ b) = counts a ++ counts b := by simp [counts]
theorem vals_append (a b : List (Nat × Val)) : vals (a ++ b) = vals a ++ vals b := by simp [vals]
theorem counts_length (a : List (Nat × Val)) : (counts a).length = a.length := by simp [counts]
theorem vals_length (a : List (Nat × Val)) : (vals a).length = a.length := by simp [vals]

theorem rel_inc {W : World} {B g1 g2 c1 c2 j m : Nat} {acc : List (Nat × Val)} {x : Val} (hj : acc.length = j)
    (hI : OwnI W B (.slice (some ⟨g1, 0, none⟩) (j + 1) c1) (counts (acc ++ [(m, x)]))) (hV : OwnV W B (.slice (some ⟨g2, 0, none⟩) (j + 1) c2) (vals (acc ++ [(m, x)]))) :
    OwnI (W.setCell ⟨g1, j, none⟩ (.int .i64 ((m : Int) + 1))) B (.slice (some ⟨g1, 0, none⟩) (j + 1) c1) (counts (acc ++ [(m + 1, x)])) ∧
    OwnV (W.setCell ⟨g1, j, none⟩ (.int .i64 ((m : Int) + 1))) B (.slice (some ⟨g2, 0, none⟩) (j + 1) c2) (vals (acc ++ [(m + 1, x)])) := by
  have hne := own_ne hV hI (by decide)
  constructor
  · unfold OwnI at hI ⊢
    have hl1 : (counts (acc ++ [(m, x)])).length = j + 1 := by rw [counts_length]; simp [hj]
    have hl2 : (counts (acc ++ [(m + 1, x)])).length = j + 1 := by rw [counts_length]; simp [hj]
    rw [hl1] at hI
    rw [hl2]
    have h := World.ownsRow.stored hI j (.int .i64 ((m : Int) + 1))
    have e : (icells (counts (acc ++ [(m, x)]))).set j (.int .i64 ((m : Int) + 1)) = icells (counts (acc ++ [(m + 1, x)])) := by
      rw [counts_append, counts_append, icells_append, icells_append, List.set_append_right _ _ (by rw [icells_length, counts_length]; omega), icells_length, counts_length, hj]
      simp [counts, icells]
    rw [← e]; exact h.1
  · have e : vals (acc ++ [(m + 1, x)]) = vals (acc ++ [(m, x)]) := by rw [vals_append, vals_append]; rfl
    rw [e]
    refine own_set hV ?_ _
    rcases hne with h | h
    · rw [h]; simp
    · exact h

set_option maxRecDepth 20000 in
set_option maxHeartbeats 1000000 in
theorem cut_any (A : Option Addr) (n c : Nat) (vs : List Val) (w : World) (hv : VSl w A n vs) (hn : n * 40 ≤ 140737488355280) :
    Calls Try.prog 118 #[.slice A n c] w fun e w' => ∃ u1 u2, e = .returned (.tuple #[u1, u2]) ∧ OwnI w' w.heap.size u1 (counts (cut vs)) ∧ OwnV w' w.heap.size u2 (vals (cut vs)) ∧ Below w.heap.size w w' := by
  obtain ⟨i3, hi3, hz3, hs3, hb3⟩ := info_parts info_int
  obtain ⟨i52, hi52, hz52, hs52, hb52⟩ := info_parts info_val
  go_enter Try.func118, Try.ntmps118
  go_wp2
  go_loopw [4, 5, 11] (fun v4 v5 i wr => ∃ k : Nat, k ≤ n ∧ i = .int .i64 k ∧ OwnI wr w.heap.size v4 (counts (cut (vs.take k))) ∧ OwnV wr w.heap.size v5 (vals (cut (vs.take k))) ∧ Below w.heap.size w wr)
    (fun _ _ i _ => n - (intOf i).toNat)
  case atStart => exact ⟨0, Nat.zero_le _, rfl, OwnI.nil _ _, OwnV.nil _ _, Below.refl _ _⟩
  case round =>
    obtain ⟨k, hk, rfl, hI, hV, hb⟩ := hrel
    by_cases hlt : k < n
    · have hvr := hv.below hb
      obtain ⟨b1, o1, v, hv1, rfl, hb1, c0, c1, c2, c3⟩ := hvr.at_ hlt
      have hts := take_more hv1
      have hcs : cut (vs.take (k + 1)) = push (cut (vs.take k)) v := by rw [hts, cut_snoc]
      have hlen := cut_length (vs.take k)
      have hlk : (vs.take k).length ≤ k := List.length_take_le _ _
      generalize hacc : cut (vs.take k) = acc at hI hV hcs hlen
      have HCS := Lib.hid hcs; clear hcs
      have hp := plain_any v
      have hcv : (clean v).k = (clean v).k := rfl
      generalize hu : clean v = u at hp
      obtain ⟨kv, iv, bv, sv⟩ := v
      obtain ⟨ku, iu, bu, su⟩ := u
      simp only [] at c0 c1 c2 c3 hp
      have HP := Lib.hid hp; clear hp
      have HU := Lib.hid hu; clear hu hcv
      have HAcc := Lib.hid hacc; clear hacc
      have HV1 := Lib.hid hv1; clear hv1 hts
      have HVR := Lib.hid hvr; clear hvr hv
      have hcl : (counts acc).length = acc.length := by simp [counts]
      have hvl : (vals acc).length = acc.length := by simp [vals]
      have hreach : acc.length ≤ n := by omega
      rcases List.eq_nil_or_concat acc with rfl | ⟨acc', ⟨m, x⟩, rfl⟩
      · obtain ⟨A1, c1', rfl, _, _, _⟩ := hI.form hcl
        obtain ⟨A2, c2', rfl, _, _⟩ := hV.form' hvl
        clear hcl hvl
        have HI := Lib.hid hI; clear hI
        have HV := Lib.hid hV; clear hV
        go_upto_region 8 with (first
          | (go_at_call 63; with_reducible refine (HP.out _).mono ?_; rintro e w1 ⟨rfl, hb2⟩)
          | (refine wpList_store_val rfl (.tmp 7) (.tmp 16) rfl wr.heap.size ⟨ku, iu, bu, su⟩ ⟨kv, iv, bv, sv⟩ rfl rfl ((Box.new wr ⟨kv, iv, bv, sv⟩).below hb2) ?_; intro wq hbq hgq hsq))
        have hIq : OwnI wq w.heap.size (.slice A1 0 c1') (counts []) := (((HI.out.alloc _).below hb2).keepB hgq (own_lt (HI.out) (Nat.le_refl _)))
        have hVq : OwnV wq w.heap.size (.slice A2 0 c2') (vals []) := (((HV.out.alloc _).below hb2).keepB hgq (own_lt (HV.out) (Nat.le_refl _)))
        have hbw : Below w.heap.size w wq := by
          refine (bthen (hb.alloc hb.size _) hb2 (Nat.le_refl _)).grown hgq ?_ (fun j hj => ?_)
          · exact (bthen (hb.alloc hb.size _) hb2 (Nat.le_refl _)).size
          · injection hj with hj; subst hj; exact hb.size
        clear hgq hsq hb2 c0 c1 c2 c3
        have hcs2 : cut (vs.take (k + 1)) = ([] : List (Nat × Val)) ++ [(1, ⟨ku, iu, bu, su⟩)] := by
          rw [HCS.out, ← HU.out]; exact push_other (lastIs_nil _)
        have HE := Lib.hid hcs2; clear hcs2
        have HIq := Lib.hid hIq; clear hIq
        have HVq := Lib.hid hVq; clear hVq
        have HBq := Lib.hid hbq; clear hbq
        go_quiet (fail)
        have hIz := HIq.out.drewN nq
        have hVz := HVq.out.drewN nq
        have hBz := HBq.out.drewN nq
        have hbz := below_drewN hbw nq
        clear HIq HVq HBq hbw HVR HP
        generalize wq.drewN nq = wz at *
        have HIz := Lib.hid hIz; clear hIz
        have HVz := Lib.hid hVz; clear hVz
        obtain ⟨q0, q1, q2, q3⟩ := hBz.cells
        simp only [] at q0 q1 q2 q3
        have HBz := Lib.hid hBz; clear hBz
        go_upto_region 10 with fail
        have hl1 : (counts ([] : List (Nat × Val))).length < few := by rw [counts_length]; simp; unfold few; omega
        have hl2 : (vals ([] : List (Nat × Val))).length < few := by rw [vals_length]; simp; unfold few; omega
        have hwz := hbz.size
        have hn1 : some wr.heap.size ≠ ((Value.slice A1 0 c1')).ownBlock := fun e => own_lt HI.out (Nat.le_refl _) e.symm
        have hn2 : some wr.heap.size ≠ ((Value.slice A2 0 c2')).ownBlock := fun e => own_lt HV.out (Nat.le_refl _) e.symm
        have hn3 : some wz.heap.size ≠ ((Value.slice A1 0 c1')).ownBlock := fun e => own_lt HIz.out (Nat.le_refl _) e.symm
        have hn4 : some (wz.heap.size + 1) ≠ ((Value.slice A1 0 c1')).ownBlock := fun e => own_lt HIz.out (Nat.le_succ _) e.symm
        have HN := Lib.hid (And.intro hn1 (And.intro hn2 (And.intro hn3 hn4))); clear hn1 hn2 hn3 hn4
        have hz1 : ∀ (o p : Obj), wz.heap.size + 1 < ((wz.alloc o).alloc p).drew.heap.size := fun o p => by simp
        have hz2 : ∀ (o p : Obj), wz.heap.size < ((wz.alloc o).alloc p).drew.heap.size := fun o p => by simp; omega
        go_region_held3 (fun w' => w'.cell? ⟨wr.heap.size, 0, none⟩ = some (.int .i64 ku) ∧ w'.cell? ⟨wr.heap.size, 1, none⟩ = some (.int .i64 iu) ∧ w'.cell? ⟨wr.heap.size, 2, none⟩ = some (.bool bu) ∧ w'.cell? ⟨wr.heap.size, 3, none⟩ = some (.string su))
          (first
            | go_keep
            | (obtain ⟨e0, e1, e2, e3⟩ := hBB.cells; exact ⟨e0, e1, e2, e3⟩)
            | (obtain ⟨e0, e1, e2, e3⟩ := hBA.cells; exact ⟨e0, e1, e2, e3⟩))
          ((first
            | (refine step_push_int rfl (.tmp 37) (.tmp 38) rfl w.heap.size (Value.slice A1 0 c1') (counts ([] : List (Nat × Val))) 1 wz.heap.size 1 rfl rfl (t := 3) (fr := (0, 0)) (heap_alloc_new wz _) (HIz.out.alloc _).drew hl1 (Below.size ((hbz.alloc hwz _).drew)) ?_
               intro u4' wA hA hgA hatA
               have hVA := ((HVz.out.alloc _).drew).keepI ((HIz.out.alloc _).drew) hgA
               have hBA := ((HBz.out.alloc _).drew).grown hgA HN.out.1
               have hbA := ((hbz.alloc hwz _).drew).grown hgA (Below.size ((hbz.alloc hwz _).drew)) (own_base HIz.out))
            | (refine step_push_int rfl (.tmp 37) (.tmp 38) rfl w.heap.size (Value.slice A1 0 c1') (counts ([] : List (Nat × Val))) 1 wz.heap.size 1 rfl rfl (t := 3) (fr := (0, 0)) (heap_alloc2_old wz _ _) ((HIz.out.alloc _).alloc _).drew hl1 (Below.size (((hbz.alloc hwz _).alloc (hbz.alloc hwz _).size _).drew)) ?_
               intro u4' wA hA hgA hatA
               have hVA := (((HVz.out.alloc _).alloc _).drew).keepI (((HIz.out.alloc _).alloc _).drew) hgA
               have hBA := (((HBz.out.alloc _).alloc _).drew).grown hgA HN.out.1
               have hbA := (((hbz.alloc hwz _).alloc (hbz.alloc hwz _).size _).drew).grown hgA (Below.size (((hbz.alloc hwz _).alloc (hbz.alloc hwz _).size _).drew)) (own_base HIz.out))
            | (refine step_push_int rfl (.tmp 37) (.tmp 38) rfl w.heap.size (Value.slice A1 0 c1') (counts ([] : List (Nat × Val))) 1 (wz.heap.size + 1) 1 rfl rfl (t := 3) (fr := (0, 0)) (heap_alloc2_new wz _ _) ((HIz.out.alloc _).alloc _).drew hl1 (Below.size (((hbz.alloc hwz _).alloc (hbz.alloc hwz _).size _).drew)) ?_
               intro u4' wA hA hgA hatA
               have hVA := (((HVz.out.alloc _).alloc _).drew).keepI (((HIz.out.alloc _).alloc _).drew) hgA
               have hBA := (((HBz.out.alloc _).alloc _).drew).grown hgA HN.out.1
               have hbA := (((hbz.alloc hwz _).alloc (hbz.alloc hwz _).size _).drew).grown hgA (Below.size (((hbz.alloc hwz _).alloc (hbz.alloc hwz _).size _).drew)) (own_base HIz.out))
            | (refine step_push_val rfl (.tmp 40) (.tmp 42) rfl w.heap.size (Value.slice A2 0 c2') (vals ([] : List (Nat × Val))) ⟨ku, iu, bu, su⟩ wA.heap.size 1 rfl rfl (t := 38) (fr := (0, 0)) (heap_alloc_new wA _) (hVA.alloc _) hl2 (Below.size (hbA.alloc hbA.size _)) ?_
               intro u5' wB hB5 hgB hatB
               have hIB := (hA.alloc _).keepV (hVA.alloc _) hgB
               have hBB := (hBA.alloc _).grown hgB HN.out.2.1
               have hbB := (hbA.alloc hbA.size _).grown hgB (Below.size (hbA.alloc hbA.size _)) (own_base hVA))
            | (refine step_push_val rfl (.tmp 40) (.tmp 42) rfl w.heap.size (Value.slice A2 0 c2') (vals ([] : List (Nat × Val))) ⟨ku, iu, bu, su⟩ (wz.heap.size + 1) 1 rfl rfl (t := 38) (fr := (0, 0)) ((hgA.block _ (hz1 _ _) HN.out.2.2.2).trans (heap_alloc2_new wz _ _)) (hVA) hl2 (Below.size (hbA)) ?_
               intro u5' wB hB5 hgB hatB
               have hIB := (hA).keepV (hVA) hgB
               have hBB := (hBA).grown hgB HN.out.2.1
               have hbB := (hbA).grown hgB (Below.size (hbA)) (own_base hVA))
            | (refine step_push_val rfl (.tmp 40) (.tmp 42) rfl w.heap.size (Value.slice A2 0 c2') (vals ([] : List (Nat × Val))) ⟨ku, iu, bu, su⟩ wz.heap.size 1 rfl rfl (t := 38) (fr := (0, 0)) ((hgA.block _ (hz2 _ _) HN.out.2.2.1).trans (heap_alloc2_old wz _ _)) (hVA) hl2 (Below.size (hbA)) ?_
               intro u5' wB hB5 hgB hatB
               have hIB := (hA).keepV (hVA) hgB
               have hBB := (hBA).grown hgB HN.out.2.1
               have hbB := (hbA).grown hgB (Below.size (hbA)) (own_base hVA))))
        all_goals
          have HA := Lib.hid hIB; clear hIB
          have HB := Lib.hid hB5; clear hB5
          clear hgA hgB hatA hatB hBA hBB hVA hA hbA HN HIz HVz HBz hz1 hz2 q0 q1 q2 q3
          go_wp2
          go_roundw
          case rel => exact ⟨k + 1, by omega, by go_num, by rw [HE.out, counts_append]; exact HA.out, by rw [HE.out, vals_append]; exact HB.out, hbB⟩
          case measure => simp [intOf]; omega
      · rw [List.concat_eq_append] at *
        have hal : (acc' ++ [(m, x)]).length = acc'.length + 1 := by simp
        obtain ⟨A1, c1', rfl, _, _, hI1⟩ := hI.form (hcl.trans hal)
        obtain ⟨A2, c2', rfl, hV1, _⟩ := hV.form' (hvl.trans hal)
        obtain ⟨g1, rfl, hB1, hg1, _, _⟩ := hI1 (by omega)
        obtain ⟨g2, o2, rfl, hg2, _⟩ := hV1.2 (by omega)
        obtain ⟨rfl⟩ : o2 = 0 := by
          rcases hV.2 with ⟨h, _⟩ | ⟨g, c, cur, h, _⟩
          · injection h with h; cases h
          · injection h with h; injection h with h; injection h
        have hmk : m ≤ k := by
          have := (cut_counts (vs.take k) (m, x) (by rw [HAcc.out]; simp)).2
          omega
        clear hI1 hV1 hcl hvl
        have HI := Lib.hid hI; clear hI
        have HV := Lib.hid hV; clear hV
        rw [hal] at hlen hreach
        clear hal
        go_upto_region 8 with (first
          | (go_at_call 63; with_reducible refine (HP.out _).mono ?_; rintro e w1 ⟨rfl, hb2⟩)
          | (refine wpList_store_val rfl (.tmp 7) (.tmp 16) rfl wr.heap.size ⟨ku, iu, bu, su⟩ ⟨kv, iv, bv, sv⟩ rfl rfl ((Box.new wr ⟨kv, iv, bv, sv⟩).below hb2) ?_; intro wq hbq hgq hsq))
        have hIq : OwnI wq w.heap.size (.slice (some ⟨g1, 0, none⟩) (acc'.length + 1) c1') (counts (acc' ++ [(m, x)])) := (((HI.out.alloc _).below hb2).keepB hgq (own_lt (HI.out) (Nat.le_refl _)))
        have hVq : OwnV wq w.heap.size (.slice (some ⟨g2, 0, none⟩) (acc'.length + 1) c2') (vals (acc' ++ [(m, x)])) := (((HV.out.alloc _).below hb2).keepB hgq (own_lt (HV.out) (Nat.le_refl _)))
        have hbw : Below w.heap.size w wq := by
          refine (bthen (hb.alloc hb.size _) hb2 (Nat.le_refl _)).grown hgq ?_ (fun j hj => ?_)
          · exact (bthen (hb.alloc hb.size _) hb2 (Nat.le_refl _)).size
          · injection hj with hj; subst hj; exact hb.size
        obtain ⟨q0, q1, q2, q3⟩ := hbq.cells
        simp only [] at q0 q1 q2 q3
        obtain ⟨_, _, hVs, hVr, _⟩ := hVq.form' (n := acc'.length + 1) (by rw [vals_length]; simp)
        injection hVs with hVs1 _ hVs2
        subst hVs1
        obtain ⟨b2, o2, x', hx', hA2, _, d0, d1, d2, d3⟩ := hVr.at_ (k := acc'.length) (by omega)
        injection hA2 with hA2
        injection hA2 with hA2 hA3
        subst hA2 hA3
        have hxx : x' = x := by
          rw [vals_append, List.getElem?_append_right (by rw [vals_length]; omega), vals_length] at hx'
          simpa [vals] using hx'.symm
        subst hxx
        obtain ⟨_, _, hIs, _, _, hIc⟩ := hIq.form (n := acc'.length + 1) (by rw [counts_length]; simp)
        injection hIs with hIs1 _ hIs2
        subst hIs1
        subst hIs2
        obtain ⟨_, hI2, _, _, hfz, hic⟩ := hIc (by omega)
        injection hI2 with hI2
        injection hI2 with hI2
        subst hI2
        have hfz := hfz acc'.length
        have hic : wq.cell? ⟨g1, acc'.length, none⟩ = some (.int .i64 m) := by
          rw [hic acc'.length (by rw [counts_length]; simp)]
          simp [counts]
        obtain ⟨kx, ix, bx, sx⟩ := x'
        simp only [Nat.zero_add] at d0 d1 d2 d3
        have HIq := Lib.hid hIq; clear hIq
        have HVq := Lib.hid hVq; clear hVq
        have HBq := Lib.hid hbq; clear hbq
        clear hVr hx' hVs2 hIc hgq hsq hb2 c0 c1 c2 c3
        have hg := fun x y W => guard_val .eql x y #[.int .i64 kx, .int .i64 ix, .bool bx, .string sx] #[.int .i64 ku, .int .i64 iu, .bool bu, .string su] W
        by_cases he : (⟨kx, ix, bx, sx⟩ : Val) = ⟨ku, iu, bu, su⟩
        · have hq : ∀ W, (binOp .eql 38 (.agg #[.int .i64 kx, .int .i64 ix, .bool bx, .string sx]) (.agg #[.int .i64 ku, .int .i64 iu, .bool bu, .string su])).run Try.prog W = .ok (.bool true) W := fun W => by
            rw [eql_val ⟨kx, ix, bx, sx⟩ ⟨ku, iu, bu, su⟩ W, decide_eq_true he]
          have HE := Lib.hid he; clear he
          go_quiet (fail)
          go_wp2
          go_roundw
          case rel =>
            have R := rel_inc rfl (HIq.out.drewN nq) (HVq.out.drewN nq)
            have e : cut (vs.take (k + 1)) = acc' ++ [(m + 1, ⟨kx, ix, bx, sx⟩)] := by rw [HCS.out]; exact push_same (HE.out.trans HU.out.symm)
            exact ⟨k + 1, by omega, by go_num, by rw [e]; exact R.1, by rw [e]; exact R.2, (below_drewN hbw _).setCell (p := ⟨g1, acc'.length, none⟩) hB1 _⟩
          case measure => simp [intOf]; omega
        · have hq : ∀ W, (binOp .eql 38 (.agg #[.int .i64 kx, .int .i64 ix, .bool bx, .string sx]) (.agg #[.int .i64 ku, .int .i64 iu, .bool bu, .string su])).run Try.prog W = .ok (.bool false) W := fun W => by
            rw [eql_val ⟨kx, ix, bx, sx⟩ ⟨ku, iu, bu, su⟩ W, decide_eq_false he]
          have hcs2 : cut (vs.take (k + 1)) = (acc' ++ [(m, ⟨kx, ix, bx, sx⟩)]) ++ [(1, ⟨ku, iu, bu, su⟩)] := by
            rw [HCS.out, ← HU.out]; refine push_other ?_
            rw [lastIs_snoc, HU.out]; exact decide_eq_false he
          have HE := Lib.hid hcs2; clear he hcs2
          go_quiet (fail)
          have hIz := HIq.out.drewN nq
          have hVz := HVq.out.drewN nq
          have hBz := HBq.out.drewN nq
          have hbz := below_drewN hbw nq
          clear HIq HVq HBq hbw HVR HP d0 d1 d2 d3 q0 q1 q2 q3 hfz hic hq hg
          generalize wq.drewN nq = wz at *
          have HIz := Lib.hid hIz; clear hIz
          have HVz := Lib.hid hVz; clear hVz
          obtain ⟨q0, q1, q2, q3⟩ := hBz.cells
          simp only [] at q0 q1 q2 q3
          have HBz := Lib.hid hBz; clear hBz
          go_upto_region 10 with fail
          have hl1 : (counts (acc' ++ [(m, ⟨kx, ix, bx, sx⟩)])).length < few := by rw [counts_length]; simp; unfold few; omega
          have hl2 : (vals (acc' ++ [(m, ⟨kx, ix, bx, sx⟩)])).length < few := by rw [vals_length]; simp; unfold few; omega
          have hwz := hbz.size
          have hn1 : some wr.heap.size ≠ ((Value.slice (some ⟨g1, 0, none⟩) (acc'.length + 1) c1')).ownBlock := fun e => own_lt HI.out (Nat.le_refl _) e.symm
          have hn2 : some wr.heap.size ≠ ((Value.slice (some ⟨g2, 0, none⟩) (acc'.length + 1) c2')).ownBlock := fun e => own_lt HV.out (Nat.le_refl _) e.symm
          have hn3 : some wz.heap.size ≠ ((Value.slice (some ⟨g1, 0, none⟩) (acc'.length + 1) c1')).ownBlock := fun e => own_lt HIz.out (Nat.le_refl _) e.symm
          have hn4 : some (wz.heap.size + 1) ≠ ((Value.slice (some ⟨g1, 0, none⟩) (acc'.length + 1) c1')).ownBlock := fun e => own_lt HIz.out (Nat.le_succ _) e.symm
          have HN := Lib.hid (And.intro hn1 (And.intro hn2 (And.intro hn3 hn4))); clear hn1 hn2 hn3 hn4
          have hz1 : ∀ (o p : Obj), wz.heap.size + 1 < ((wz.alloc o).alloc p).drew.heap.size := fun o p => by simp
          have hz2 : ∀ (o p : Obj), wz.heap.size < ((wz.alloc o).alloc p).drew.heap.size := fun o p => by simp; omega
          go_region_held3 (fun w' => w'.cell? ⟨wr.heap.size, 0, none⟩ = some (.int .i64 ku) ∧ w'.cell? ⟨wr.heap.size, 1, none⟩ = some (.int .i64 iu) ∧ w'.cell? ⟨wr.heap.size, 2, none⟩ = some (.bool bu) ∧ w'.cell? ⟨wr.heap.size, 3, none⟩ = some (.string su))
            (first
              | go_keep
              | (obtain ⟨e0, e1, e2, e3⟩ := hBB.cells; exact ⟨e0, e1, e2, e3⟩)
              | (obtain ⟨e0, e1, e2, e3⟩ := hBA.cells; exact ⟨e0, e1, e2, e3⟩))
            ((first
              | (refine step_push_int rfl (.tmp 37) (.tmp 38) rfl w.heap.size (Value.slice (some ⟨g1, 0, none⟩) (acc'.length + 1) c1') (counts (acc' ++ [(m, ⟨kx, ix, bx, sx⟩)])) 1 wz.heap.size 1 rfl rfl (t := 3) (fr := (0, 0)) (heap_alloc_new wz _) (HIz.out.alloc _).drew hl1 (Below.size ((hbz.alloc hwz _).drew)) ?_
                 intro u4' wA hA hgA hatA
                 have hVA := ((HVz.out.alloc _).drew).keepI ((HIz.out.alloc _).drew) hgA
                 have hBA := ((HBz.out.alloc _).drew).grown hgA HN.out.1
                 have hbA := ((hbz.alloc hwz _).drew).grown hgA (Below.size ((hbz.alloc hwz _).drew)) (own_base HIz.out))
              | (refine step_push_int rfl (.tmp 37) (.tmp 38) rfl w.heap.size (Value.slice (some ⟨g1, 0, none⟩) (acc'.length + 1) c1') (counts (acc' ++ [(m, ⟨kx, ix, bx, sx⟩)])) 1 wz.heap.size 1 rfl rfl (t := 3) (fr := (0, 0)) (heap_alloc2_old wz _ _) ((HIz.out.alloc _).alloc _).drew hl1 (Below.size (((hbz.alloc hwz _).alloc (hbz.alloc hwz _).size _).drew)) ?_
                 intro u4' wA hA hgA hatA
                 have hVA := (((HVz.out.alloc _).alloc _).drew).keepI (((HIz.out.alloc _).alloc _).drew) hgA
                 have hBA := (((HBz.out.alloc _).alloc _).drew).grown hgA HN.out.1
                 have hbA := (((hbz.alloc hwz _).alloc (hbz.alloc hwz _).size _).drew).grown hgA (Below.size (((hbz.alloc hwz _).alloc (hbz.alloc hwz _).size _).drew)) (own_base HIz.out))
              | (refine step_push_int rfl (.tmp 37) (.tmp 38) rfl w.heap.size (Value.slice (some ⟨g1, 0, none⟩) (acc'.length + 1) c1') (counts (acc' ++ [(m, ⟨kx, ix, bx, sx⟩)])) 1 (wz.heap.size + 1) 1 rfl rfl (t := 3) (fr := (0, 0)) (heap_alloc2_new wz _ _) ((HIz.out.alloc _).alloc _).drew hl1 (Below.size (((hbz.alloc hwz _).alloc (hbz.alloc hwz _).size _).drew)) ?_
                 intro u4' wA hA hgA hatA
                 have hVA := (((HVz.out.alloc _).alloc _).drew).keepI (((HIz.out.alloc _).alloc _).drew) hgA
                 have hBA := (((HBz.out.alloc _).alloc _).drew).grown hgA HN.out.1
                 have hbA := (((hbz.alloc hwz _).alloc (hbz.alloc hwz _).size _).drew).grown hgA (Below.size (((hbz.alloc hwz _).alloc (hbz.alloc hwz _).size _).drew)) (own_base HIz.out))
              | (refine step_push_val rfl (.tmp 40) (.tmp 42) rfl w.heap.size (Value.slice (some ⟨g2, 0, none⟩) (acc'.length + 1) c2') (vals (acc' ++ [(m, ⟨kx, ix, bx, sx⟩)])) ⟨ku, iu, bu, su⟩ wA.heap.size 1 rfl rfl (t := 38) (fr := (0, 0)) (heap_alloc_new wA _) (hVA.alloc _) hl2 (Below.size (hbA.alloc hbA.size _)) ?_
                 intro u5' wB hB5 hgB hatB
                 have hIB := (hA.alloc _).keepV (hVA.alloc _) hgB
                 have hBB := (hBA.alloc _).grown hgB HN.out.2.1
                 have hbB := (hbA.alloc hbA.size _).grown hgB (Below.size (hbA.alloc hbA.size _)) (own_base hVA))
              | (refine step_push_val rfl (.tmp 40) (.tmp 42) rfl w.heap.size (Value.slice (some ⟨g2, 0, none⟩) (acc'.length + 1) c2') (vals (acc' ++ [(m, ⟨kx, ix, bx, sx⟩)])) ⟨ku, iu, bu, su⟩ (wz.heap.size + 1) 1 rfl rfl (t := 38) (fr := (0, 0)) ((hgA.block _ (hz1 _ _) HN.out.2.2.2).trans (heap_alloc2_new wz _ _)) (hVA) hl2 (Below.size (hbA)) ?_
                 intro u5' wB hB5 hgB hatB
                 have hIB := (hA).keepV (hVA) hgB
                 have hBB := (hBA).grown hgB HN.out.2.1
                 have hbB := (hbA).grown hgB (Below.size (hbA)) (own_base hVA))
              | (refine step_push_val rfl (.tmp 40) (.tmp 42) rfl w.heap.size (Value.slice (some ⟨g2, 0, none⟩) (acc'.length + 1) c2') (vals (acc' ++ [(m, ⟨kx, ix, bx, sx⟩)])) ⟨ku, iu, bu, su⟩ wz.heap.size 1 rfl rfl (t := 38) (fr := (0, 0)) ((hgA.block _ (hz2 _ _) HN.out.2.2.1).trans (heap_alloc2_old wz _ _)) (hVA) hl2 (Below.size (hbA)) ?_
                 intro u5' wB hB5 hgB hatB
                 have hIB := (hA).keepV (hVA) hgB
                 have hBB := (hBA).grown hgB HN.out.2.1
                 have hbB := (hbA).grown hgB (Below.size (hbA)) (own_base hVA))))
          all_goals
            have HA := Lib.hid hIB; clear hIB
            have HB := Lib.hid hB5; clear hB5
            clear hgA hgB hatA hatB hBA hBB hVA hA hbA HN HIz HVz HBz hz1 hz2 q0 q1 q2 q3
            go_wp2
            go_roundw
            case rel => exact ⟨k + 1, by omega, by go_num, by rw [HE.out, counts_append]; exact HA.out, by rw [HE.out, vals_append]; exact HB.out, hbB⟩
            case measure => simp [intOf]; omega
    · have he : vs.take k = vs := List.take_of_length_le (by rw [hv.1]; omega)
      rw [he] at hI hV
      have HI := Lib.hid hI; clear hI
      have HV := Lib.hid hV; clear hV
      go_wp2
      go_ret2
      exact ⟨_, _, rfl, HI.out, HV.out, hb⟩
end Go.Proofs.Ytmoabfaimcafjaa.Runs
